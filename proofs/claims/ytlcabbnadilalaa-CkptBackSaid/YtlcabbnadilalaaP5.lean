/-
  CkptBack returns true for any disk, number, state and loss, and they read behind the call as before. (text 6 of 6)
-/
import Derived.Test.YtlcabbnadilalaaP4
import Derived.OpenShut
import Derived.ReadAgain
import Derived.WalkKit
import Derived.ProofKit
import Derived.Test.YtlcabbnadilalaaRows
namespace Go.Ev
set_option linter.unusedVariables false
set_option linter.unusedSimpArgs false
theorem sget_put {w : Nat} {n : Int} (l : List UInt8) (h : fitsB n w = true) : sget w (leB n w ++ l) = some (n, l) := by
  rw [fitsB_iff] at h
  have e := leB_length w n
  unfold sget
  rw [if_pos (by simp; omega), List.take_left' e, List.drop_left' e, leVal_leB w n h.1 h.2]
theorem sItems_put : ∀ (l : List Item) (r : List UInt8), l.all fitI = true → sItems l.length (l.flatMap iBytes ++ r) = some (l, r)
  | [], r, _ => rfl
  | x :: l, r, h => by
    simp only [List.all_cons, Bool.and_eq_true] at h
    have hx := h.1
    simp only [fitI, Bool.and_eq_true] at hx
    simp only [List.length_cons, sItems, List.flatMap_cons, iBytes, List.append_assoc]
    rw [sget_put _ (fits1 hx.1.1)]; simp only [Option.bind_some]
    rw [sget_put _ (fits3 hx.1.2)]; simp only [Option.bind_some]
    rw [sget_put _ (fits1 hx.2)]; simp only [Option.bind_some]
    rw [sItems_put l r h.2]; rfl
def offs : Int → List Line → Prop
  | _, [] => True
  | o, x :: l => x.offset = o ∧ offs (o + 1) l
theorem sLines_put : ∀ (l : List Line) (o : Int) (r : List UInt8), l.all fitLn = true → offs o l → sLines l.length o (l.flatMap lBytes ++ r) = some (l, r)
  | [], o, r, _, _ => rfl
  | x :: l, o, r, h, ho => by
    simp only [List.all_cons, Bool.and_eq_true] at h
    have hx := h.1
    simp only [fitLn, Bool.and_eq_true] at hx
    obtain ⟨⟨⟨x1, x2⟩, x3⟩, x4⟩ := hx
    have hf : withinB (x.key * 16 + x.j) 0 255 = true := by rw [withinB_iff] at x2 x3 ⊢; omega
    simp only [List.length_cons, sLines, List.flatMap_cons, lBytes, List.append_assoc]
    rw [sget_put _ (fits3 x1)]; simp only [Option.bind_some]
    rw [sget_put _ (fits1 hf)]; simp only [Option.bind_some]
    rw [sget_put _ (fits1 x4)]; simp only [Option.bind_some]
    rw [sLines_put l (o + 1) r h.2 ho.2]
    rw [withinB_iff] at x2 x3
    have e1 : (x.key * 16 + x.j) % 16 = x.j := by omega
    have e2 : (x.key * 16 + x.j) / 16 = x.key := by omega
    simp only [Option.bind_some, e1, e2, ← ho.1]
theorem sPart_put {c : Int} {l : List Line} (r : List UInt8) (hc : 0 ≤ c ∧ c ≤ 1048575) (hl : l.length ≤ 16) (ha : l.all fitLn = true) (hf : 0 ≤ firstOff l ∧ firstOff l ≤ 4194303) (ho : offs (firstOff l) l) : sPart (partBytes c l ++ r) = some ((c, l), r) := by
  simp only [sPart, partBytes, List.append_assoc]
  rw [sget_put _ (fits3 (by rw [withinB_iff]; omega))]; simp only [Option.bind_some]
  rw [sget_put _ (fits1 (by rw [withinB_iff]; omega))]; simp only [Option.bind_some]
  rw [sget_put _ (fits3 (by rw [withinB_iff]; omega))]; simp only [Option.bind_some]
  rw [if_neg]
  · rw [Int.toNat_natCast, sLines_put l _ r ha ho]; rfl
  · rintro ⟨h1, h2⟩
    have : l = [] := List.length_eq_zero_iff.1 (by omega)
    subst this
    simp [firstOff] at h2
theorem eachB_offs {p : Int} : ∀ (l : List Line) (o : Int), (∀ x ∈ l.head?, x.offset = o) → eachB (oneLB p) twoLB none l = true → offs o l
  | [], _, _, _ => trivial
  | [x], o, h, _ => ⟨h x (by simp), trivial⟩
  | x :: y :: l, o, h, he => by
    simp only [eachB, Bool.and_eq_true] at he
    have hx := h x (by simp)
    refine ⟨hx, eachB_offs (y :: l) (o + 1) ?_ (by simp only [eachB, Bool.and_eq_true]; exact ⟨⟨he.2.1.1, trivial⟩, he.2.2⟩)⟩
    have h1 := he.1.1
    have h2 := he.2.1.2
    simp only [oneLB, Bool.and_eq_true, withinB_iff] at h1
    simp only [twoLB, Bool.and_eq_true, beq_iff_eq] at h2
    intro z hz
    simp only [List.head?_cons, Option.mem_def, Option.some.injEq] at hz
    subst hz
    rw [h2.1, wrap_id (by omega) (by omega), hx]
theorem part_offs {p c : Int} {l : List Line} (h : partOK p c l = true) : offs (firstOff l) l := by
  simp only [partOK, Bool.and_eq_true] at h
  refine eachB_offs (p := p) l _ ?_ h.2
  cases l with
  | nil => intro x hx; cases hx
  | cons y l => intro x hx; simp only [List.head?_cons, Option.mem_def, Option.some.injEq] at hx; subst hx; rfl
theorem readS_put {s : St} (h : standsOK s = true) : readS (stBytes s) = some s := by
  obtain ⟨p, it, l0, l1, l2, c0, c1, c2⟩ := s
  obtain ⟨hp, hn, hi, h0, h1, h2⟩ := stands_facts h
  have hh := h
  simp only [standsOK, Bool.and_eq_true] at hh
  have o0 := part_offs hh.1.1.2
  have o1 := part_offs hh.1.2
  have o2 := part_offs hh.2
  have e : sState (stBytes ⟨p, it, l0, l1, l2, c0, c1, c2⟩) = some (⟨p, it, l0, l1, l2, c0, c1, c2⟩, []) := by
    simp only [sState, stBytes, List.append_assoc]
    rw [sget_put _ (fits3 (by rw [withinB_iff]; omega))]; simp only [Option.bind_some]
    rw [sget_put _ (fits1 (by rw [withinB_iff]; omega))]; simp only [Option.bind_some]
    rw [Int.toNat_natCast, sItems_put it _ hi]; simp only [Option.bind_some]
    rw [sPart_put _ h0.1 h0.2.1 h0.2.2.1 h0.2.2.2 o0]; simp only [Option.bind_some]
    rw [sPart_put _ h1.1 h1.2.1 h1.2.2.1 h1.2.2.2 o1]; simp only [Option.bind_some]
    rw [← List.append_nil (partBytes c2 l2), sPart_put _ h2.1 h2.2.1 h2.2.2.1 h2.2.2.2 o2]; rfl
  rw [readS_eq, e]
  simp [h]
theorem partBytes_len (c : Int) (l : List Line) : (partBytes c l).length = 7 + 5 * l.length := by
  simp only [partBytes, List.length_append, leB_length, flatMap_len l lBytes 5 lBytes_len]
theorem stBytes_len {s : St} (h : standsOK s = true) : (stBytes s).length ≤ 385 := by
  obtain ⟨p, it, l0, l1, l2, c0, c1, c2⟩ := s
  obtain ⟨hp, hn, hi, h0, h1, h2⟩ := stands_facts h
  simp only [stBytes, List.length_append, leB_length, flatMap_len it iBytes 5 iBytes_len, partBytes_len]
  omega
def frN (b : List UInt8) : Int := ((readF b).getD (0, [])).1
def frL (b : List UInt8) : List UInt8 := ((readF b).getD (0, [])).2
theorem getP_in {b : List UInt8} {a w : Int} (h1 : 1 ≤ w) (h2 : w ≤ 6) (h3 : 0 ≤ a) (h4 : a + w ≤ b.length) : getP b a w = ((leVal ((b.drop a.toNat).take w.toNat) : Int), 0) := by simp [getP, h1, h2, h3, h4]
theorem getP_out {b : List UInt8} {a w : Int} (h1 : 1 ≤ w) (h2 : w ≤ 6) (h4 : b.length < a + w) : getP b a w = (0, 50) := by
  have : ¬ a + w ≤ (b.length : Int) := by omega
  simp [getP, h1, h2, this]
theorem okF_not {n : Int} {l : List UInt8} (h : ¬ (1 ≤ n ∧ n ≤ 1048575 ∧ l.length ≤ 600)) : okF n l = false := by
  cases e : okF n l
  · rfl
  · simp only [okF, Bool.and_eq_true, decide_eq_true_eq] at e; exact absurd ⟨e.1.1, e.1.2, e.2⟩ h
def ofF (s : Sector) : Option (List UInt8) := (readF s.b).bind fun p => if p.1 = s.n then some p.2 else none
theorem ofF_frame {n : Int} {l : List UInt8} (h : okF n l = true) : ofF ⟨n, frameB n l⟩ = some l := by
  simp [ofF, readF_frame h]
def ckAt (s : Sector) : Option St := (ofF s).bind fun l => (readS l).bind fun st => if st.place ≤ s.n then some st else none
def errC (now sure : List Sector) : Int := bif okGet now sure 32 then (bif (getS now sure 32).n == 0 then 60 else bif (ckAt (getS now sure 32)).isNone then 50 else 0) else 2
def stOf (now sure : List Sector) : Option St := bif okGet now sure 32 then (bif (getS now sure 32).n == 0 then none else ckAt (getS now sure 32)) else none
def numC (now sure : List Sector) : Int := bif (stOf now sure).isNone then 0 else (getS now sure 32).n
def okCk (n : Int) (s : St) : Bool := decide (1 ≤ n) && decide (n ≤ 1048575) && decide (s.place ≤ n) && standsOK s
def ckB (n : Int) (s : St) : List UInt8 := bif okCk n s then frameB n (stBytes s) else []
theorem okCk_F {n : Int} {s : St} (h : okCk n s = true) : okF n (stBytes s) = true := by
  simp only [okCk, Bool.and_eq_true, decide_eq_true_eq] at h
  have := stBytes_len h.2
  simp only [okF, Bool.and_eq_true, decide_eq_true_eq]; omega
theorem ckB_len {n : Int} {s : St} : (ckB n s).length ≤ 397 := by
  unfold ckB
  cases h : okCk n s
  · simp
  · simp only [okCk, Bool.and_eq_true, decide_eq_true_eq] at h
    have := stBytes_len h.2
    simp only [cond_true, frameB_len]; omega
theorem ckB_ne {n : Int} {s : St} (h : okCk n s = true) : ckB n s ≠ [] := by
  intro e
  have := congrArg List.length e
  simp [ckB, h, frameB_len] at this
theorem ckAt_ck {n : Int} {s : St} (h : okCk n s = true) : ckAt ⟨n, ckB n s⟩ = some s := by
  have hF := okCk_F h
  simp only [okCk, Bool.and_eq_true, decide_eq_true_eq] at h
  have e : okCk n s = true := by simp only [okCk, Bool.and_eq_true, decide_eq_true_eq]; exact h
  simp only [ckAt, ckB, e, cond_true, ofF_frame hF, Option.bind_some, readS_put h.2, if_pos h.1.2]
theorem getS_len (now sure : List Sector) (k : Int) : (getS now sure k).b.length ≤ 640 := by
  unfold getS
  cases h : okGet now sure k
  · simp [sec0]
  · have l := h
    simp only [okGet, Bool.and_eq_true, decide_eq_true_eq, diskOK, rowOK] at l
    have hm : k.toNat < now.length := by omega
    have e : now.getD k.toNat sec0 = now[k.toNat] := by simp [hm]
    have m := List.all_eq_true.1 l.1.1.1.2 _ (List.getElem_mem hm)
    simp only [maySec, Bool.and_eq_true, decide_eq_true_eq] at m
    rw [cond_true, e]; exact m.1.2
theorem okCk_not {n : Int} {s : St} (h : ¬ (1 ≤ n ∧ n ≤ 1048575 ∧ s.place ≤ n ∧ standsOK s = true)) : okCk n s = false := by
  cases e : okCk n s
  · rfl
  · simp only [okCk, Bool.and_eq_true, decide_eq_true_eq] at e; exact absurd ⟨e.1.1.1, e.1.1.2, e.1.2, e.2⟩ h
theorem ofF_len (s : Sector) : ((ofF s).getD []).length ≤ s.b.length := by
  unfold ofF
  cases h : readF s.b with
  | none => simp
  | some p =>
    obtain ⟨n, l⟩ := p
    have h2 := congrArg List.length (readF_ok h).2
    rw [frameB_len] at h2
    by_cases e : n = s.n
    · simp [e]; omega
    · simp [e]
open Go.Proofs
set_option maxRecDepth 100000
def frSize_s (n : Int) : Option (Bool × D RC) := some (decide (n ≤ 1000000), .int .i64 (bif decide (n < 0) || decide (600 < n) then 0 else n + 12))
def frSize_sp : List (D RC) → Option (Bool × D RC)
  | [.int .i64 n] => frSize_s n
  | _ => none
noncomputable def frSize_e (n : Int) := evF s07 uu_9 40 55 [.int .i64 n]
theorem frSize_eq (n : Int) : frSize_e n = (bif decide (n < (0 : Int)) then some (D.int .i64 (0 : Int)) else bif decide ((600 : Int) < n) then some (D.int .i64 (0 : Int)) else some (D.int .i64 (IntKind.wrap .i64 (IntKind.wrap .i64 ((8 : Int) + n) + (4 : Int))))) := by kernel_rfl
theorem frSize_ok (n : Int) (h : (decide (n ≤ 1000000)) = true) : frSize_e n = some (.int .i64 (bif decide (n < 0) || decide (600 < n) then 0 else n + 12)) := by
  rw [frSize_eq]
  have hl := of_decide_eq_true h
  by_cases h0 : n < 0
  · simp [h0]
  by_cases h6 : 600 < n
  · simp [h0, h6]
  have w1 : IntKind.i64.wrap (8 + n) = 8 + n := wrap_id (by omega) (by omega)
  have w2 : IntKind.i64.wrap (8 + n + 4) = 8 + n + 4 := wrap_id (by omega) (by omega)
  simp [h0, h6, w1, w2]
  omega
noncomputable def uv_1 := uu_9.addSpec 55 frSize_sp
theorem uv_1_laws : FLaws Try.prog s07 uv_1 := uu_9_laws.addEv s07_laws fun args d h => by
  unfold frSize_sp at h
  split at h
  · unfold frSize_s at h
    have h1 := congrArg Prod.fst (Option.some.inj h)
    obtain rfl : _ = d := congrArg Prod.snd (Option.some.inj h)
    exact ⟨by simp [D.refs], 40, frSize_ok _ h1⟩
  · cases h
def frBytes_s (n : Int) (b : List UInt8) : Option (Bool × D RC) := some (decide (b.length ≤ 1000000), .tup (.acons (.str (bif okF n b then frameB n b else [])) (.acons (.int .i64 (bif okF n b then 0 else 2)) .anil)))
def frBytes_sp : List (D RC) → Option (Bool × D RC)
  | [.int .i64 n, .str b] => frBytes_s n b
  | _ => none
noncomputable def frBytes_e (n : Int) (b : List UInt8) := evF s07 uv_1 60 39 [.int .i64 n, .str b]
theorem frBytes_eq (n : Int) (b : List UInt8) : frBytes_e n b = (bif (bif fitsB n (6 : Nat) then (0 : Int) else (2 : Int)) != (0 : Int) then some (D.tup (D.acons (D.str (Array.toList #[])) (.acons (D.int .i64 (2 : Int)) .anil))) else bif decide (n < (1 : Int)) then some (D.tup (D.acons (D.str (Array.toList #[])) (.acons (D.int .i64 (2 : Int)) .anil))) else bif decide ((1048575 : Int) < n) then some (D.tup (D.acons (D.str (Array.toList #[])) (.acons (D.int .i64 (2 : Int)) .anil))) else bif lenOK b.length then bif decide ((↑b.length : Int) ≤ (1000000 : Int)) then bif (bif decide ((↑b.length : Int) < (0 : Int)) || decide ((600 : Int) < (↑b.length : Int)) then (0 : Int) else (↑b.length : Int) + (12 : Int)) == (0 : Int) then some (D.tup (D.acons (D.str (Array.toList #[])) (.acons (D.int .i64 (2 : Int)) .anil))) else bif lenOK b.length then bif sizeOK b.length (1 : Nat) then bif sizeOK ((0 : Nat) + List.length (putL [] n (6 : Nat))) (1 : Nat) then bif Nat.beq ((0 : Nat) + List.length (putL [] n (6 : Nat))) ([] ++ putL [] n (6 : Nat)).length && sizeOK ((0 : Nat) + List.length (putL [] n (6 : Nat)) + List.length (putL [] (↑b.length : Int) (2 : Nat))) (1 : Nat) then bif Nat.beq (List.length ([] ++ putL [] n (6 : Nat)) + List.length (putL [] (↑b.length : Int) (2 : Nat))) ([] ++ putL [] n (6 : Nat) ++ putL [] (↑b.length : Int) (2 : Nat)).length && sizeOK (List.length ([] ++ putL [] n (6 : Nat)) + List.length (putL [] (↑b.length : Int) (2 : Nat)) + List.length b) (1 : Nat) then bif Nat.beq (List.length ([] ++ putL [] n (6 : Nat) ++ putL [] (↑b.length : Int) (2 : Nat)) + List.length b) ([] ++ putL [] n (6 : Nat) ++ putL [] (↑b.length : Int) (2 : Nat) ++ b).length then bif decide (List.length ([] ++ putL [] n (6 : Nat) ++ putL [] (↑b.length : Int) (2 : Nat) ++ b) ≤ (1000000 : Nat)) then some (D.tup (D.acons (D.str (sealL ([] ++ putL [] n (6 : Nat) ++ putL [] (↑b.length : Int) (2 : Nat) ++ b))) (.acons (D.int .i64 (0 : Int)) .anil))) else none else none else none else none else none else none else none else none else none) := by kernel_rfl
theorem frBytes_ok (n : Int) (b : List UInt8) (h : (decide (b.length ≤ 1000000)) = true) : frBytes_e n b = some (.tup (.acons (.str (bif okF n b then frameB n b else [])) (.acons (.int .i64 (bif okF n b then 0 else 2)) .anil))) := by
  rw [frBytes_eq]
  have hl := of_decide_eq_true h
  have lb : lenOK b.length = true := lenOK_of (by omega)
  have ld : decide ((b.length : Int) ≤ 1000000) = true := by simp; omega
  have no : okF n b = false → some (D.tup (.acons (.str []) (.acons (.int .i64 2) .anil))) = some (.tup (.acons (.str (bif okF n b then frameB n b else [])) (.acons (.int .i64 (bif okF n b then 0 else 2)) .anil)) : D RC) := fun e => by rw [e]; rfl
  refine cond_two (fun e => no (okF_not fun f => by rw [show fitsB n 6 = true by rw [fitsB_iff]; omega] at e; cases e)) fun e0 => ?_
  refine cond_two (fun e => no (okF_not fun f => by simp only [decide_eq_true_eq] at e; omega)) fun e1 => ?_
  refine cond_two (fun e => no (okF_not fun f => by simp only [decide_eq_true_eq] at e; omega)) fun e2 => ?_
  refine cond_of lb (cond_of ld ?_)
  simp only [decide_eq_false_iff_not] at e1 e2
  by_cases h6 : 600 < (b.length : Int)
  · refine cond_of ?_ (no (okF_not fun f => by omega))
    simp [h6]
  refine cond_no ?_ ?_
  · have : ¬ (b.length : Int) < 0 := by omega
    simp [this, h6]; omega
  have ok : okF n b = true := by simp only [okF, Bool.and_eq_true, decide_eq_true_eq]; omega
  have f6 : fitsB n 6 = true := by rw [fitsB_iff]; omega
  have f2 : fitsB (b.length : Int) 2 = true := by rw [fitsB_iff]; omega
  have p6 : putL [] n 6 = leB n 6 := (putL_fits f6).trans (List.nil_append _)
  have p2 : putL [] (b.length : Int) 2 = leB b.length 2 := (putL_fits f2).trans (List.nil_append _)
  simp only [p6, p2, List.nil_append, leB_length, List.length_append, Nat.zero_add]
  have hb6 : b.length ≤ 600 := by omega
  have es : ∀ k : Nat, k ≤ 700 → sizeOK k 1 = true := fun k hk => sizeT (by omega)
  have eb : ∀ n : Nat, n.beq n = true := fun n => by simp
  have ed : decide (6 + 2 + b.length ≤ 1000000) = true := by simp; omega
  simp (disch := omega) only [es, eb, lb, ed, Bool.and_self, cond_true]
  rw [ok]
  rfl
noncomputable def uv_2 := uv_1.addSpec 39 frBytes_sp
theorem uv_2_laws : FLaws Try.prog s07 uv_2 := uv_1_laws.addEv s07_laws fun args d h => by
  unfold frBytes_sp at h
  split at h
  · unfold frBytes_s at h
    have h1 := congrArg Prod.fst (Option.some.inj h)
    obtain rfl : _ = d := congrArg Prod.snd (Option.some.inj h)
    exact ⟨by simp [D.refs], 60, frBytes_ok _ _ h1⟩
  · cases h
def frRead_s (b : List UInt8) : Option (Bool × D RC) := some (decide (b.length ≤ 1000000), .tup (.acons (.int .i64 (frN b)) (.acons (.str (frL b)) (.acons (.int .i64 (bif (readF b).isNone then 50 else 0)) .anil))))
def frRead_sp : List (D RC) → Option (Bool × D RC)
  | [.str b] => frRead_s b
  | _ => none
noncomputable def frRead_e (b : List UInt8) := evF s07 uv_2 60 49 [.str b]
theorem frRead_eq (b : List UInt8) : frRead_e b = (bif sizeOK b.length (1 : Nat) then bif decide (List.length ((fun (l : List UInt8) => l) b) ≤ (1000000 : Nat)) then bif decide (List.length (Option.getD (openL ((fun (l : List UInt8) => l) b)) []) ≤ (1000000000000 : Nat)) then bif decide (List.length (Option.getD (openL ((fun (l : List UInt8) => l) b)) []) ≤ (1000000000000 : Nat)) then bif (bif Option.isNone (openL ((fun (l : List UInt8) => l) b)) then (50 : Int) else (0 : Int)) != (0 : Int) then some (D.tup (D.acons (D.int .i64 (0 : Int)) (.acons (D.str (Array.toList #[])) (.acons (D.int .i64 (50 : Int)) .anil)))) else bif Prod.snd (getP (Option.getD (openL ((fun (l : List UInt8) => l) b)) []) (6 : Int) (2 : Int)) != (0 : Int) then some (D.tup (D.acons (D.int .i64 (0 : Int)) (.acons (D.str (Array.toList #[])) (.acons (D.int .i64 (50 : Int)) .anil)))) else bif lenOK (Option.getD (openL ((fun (l : List UInt8) => l) b)) []).length then bif bif Prod.fst (getP (Option.getD (openL ((fun (l : List UInt8) => l) b)) []) (6 : Int) (2 : Int)) != IntKind.wrap .i64 (IntKind.wrap .i64 ((↑(Option.getD (openL ((fun (l : List UInt8) => l) b)) []).length : Int) - (6 : Int)) - (2 : Int)) then true else bif decide ((600 : Int) < Prod.fst (getP (Option.getD (openL ((fun (l : List UInt8) => l) b)) []) (6 : Int) (2 : Int))) then true else bif decide (Prod.fst (getP (Option.getD (openL ((fun (l : List UInt8) => l) b)) []) (0 : Int) (6 : Int)) < (1 : Int)) then true else decide ((1048575 : Int) < Prod.fst (getP (Option.getD (openL ((fun (l : List UInt8) => l) b)) []) (0 : Int) (6 : Int))) then some (D.tup (D.acons (D.int .i64 (0 : Int)) (.acons (D.str (Array.toList #[])) (.acons (D.int .i64 (50 : Int)) .anil)))) else bif lenOK (Option.getD (openL ((fun (l : List UInt8) => l) b)) []).length then bif lenOK (Option.getD (openL ((fun (l : List UInt8) => l) b)) []).length then bif decide ((0 : Int) ≤ (8 : Int) ∧ (8 : Int) ≤ (↑(Option.getD (openL ((fun (l : List UInt8) => l) b)) []).length : Int) ∧ (↑(Option.getD (openL ((fun (l : List UInt8) => l) b)) []).length : Int) ≤ (↑(Option.getD (openL ((fun (l : List UInt8) => l) b)) []).length : Int) ∧ (↑(Option.getD (openL ((fun (l : List UInt8) => l) b)) []).length : Int) = (↑(Option.getD (openL ((fun (l : List UInt8) => l) b)) []).length : Int)) then some (D.tup (D.acons (D.int .i64 (getP (Option.getD (openL ((fun (l : List UInt8) => l) b)) []) (0 : Int) (6 : Int)).1) (.acons (D.str (List.drop (8 : Nat) (List.take (↑(Option.getD (openL ((fun (l : List UInt8) => l) b)) []).length : Int).toNat (Option.getD (openL ((fun (l : List UInt8) => l) b)) [])))) (.acons (D.int .i64 (0 : Int)) .anil)))) else none else none else none else none else none else none else none else none) := by kernel_rfl
theorem frRead_ok (b : List UInt8) (h : (decide (b.length ≤ 1000000)) = true) : frRead_e b = some (.tup (.acons (.int .i64 (frN b)) (.acons (.str (frL b)) (.acons (.int .i64 (bif (readF b).isNone then 50 else 0)) .anil)))) := by
  rw [frRead_eq]
  have hl := of_decide_eq_true h
  have hs : sizeOK b.length 1 = true := sizeT (by omega)
  cases hq : openL b with
  | none =>
    have hr : readF b = none := by simp [readF, hq]
    simp [hs, hl, hq, hr, frN, frL]
  | some x =>
    have hx := openL_len hq
    have lk : lenOK x.length = true := lenOK_of (by omega)
    have d1 : x.length ≤ 1000000000000 := by omega
    have hr : readF b = if 8 ≤ x.length ∧ leVal ((x.drop 6).take 2) + 8 = x.length ∧ x.length ≤ 608 ∧ 1 ≤ leVal (x.take 6) ∧ leVal (x.take 6) ≤ 1048575 then some ((leVal (x.take 6) : Int), x.drop 8) else none := by simp only [readF, hq]
    by_cases h8 : x.length < 8
    · have g2 : getP x 6 2 = (0, 50) := getP_out (by omega) (by omega) (by omega)
      have hr' : readF b = none := by rw [hr, if_neg (by omega)]
      simp [hs, hl, hq, hr', g2, d1, frN, frL]
    · have g2 : getP x 6 2 = ((leVal ((x.drop 6).take 2) : Int), 0) := getP_in (by omega) (by omega) (by omega) (by omega)
      have g6 : getP x 0 6 = ((leVal (x.take 6) : Int), 0) := getP_in (by omega) (by omega) (by omega) (by omega)
      have w1 : IntKind.i64.wrap ((x.length : Int) - 6) = x.length - 6 := wrap_id (by omega) (by omega)
      have w2 : IntKind.i64.wrap ((x.length : Int) - 6 - 2) = x.length - 6 - 2 := wrap_id (by omega) (by omega)
      have dd : (0 : Int) ≤ 8 ∧ 8 ≤ (x.length : Int) ∧ (x.length : Int) ≤ x.length ∧ (x.length : Int) = x.length := by omega
      generalize leVal ((x.drop 6).take 2) = v2 at hr g2
      generalize leVal (x.take 6) = v6 at hr g6
      by_cases C : 8 ≤ x.length ∧ v2 + 8 = x.length ∧ x.length ≤ 608 ∧ 1 ≤ v6 ∧ v6 ≤ 1048575
      · rw [if_pos C] at hr
        have c1 : ((v2 : Int) != (x.length : Int) - 6 - 2) = false := by simp [bne]; omega
        have c2 : ¬ 600 < (v2 : Int) := by omega
        have c3 : ¬ (v6 : Int) < 1 := by omega
        have c4 : ¬ 1048575 < (v6 : Int) := by omega
        have dx : (8 : Int) ≤ x.length := by omega
        simp [hs, hl, hq, hr, g2, g6, d1, frN, frL, lk, w1, w2, c1, c2, c3, c4, dx]
      · rw [if_neg C] at hr
        have c5 : (bif ((v2 : Int) != (x.length : Int) - 6 - 2) then true else bif decide (600 < (v2 : Int)) then true else bif decide ((v6 : Int) < 1) then true else decide (1048575 < (v6 : Int))) = true := by
          cases c1 : ((v2 : Int) != (x.length : Int) - 6 - 2)
          · simp [bne] at c1
            by_cases c2 : 600 < (v2 : Int)
            · simp [c2]
            by_cases c3 : (v6 : Int) < 1
            · simp [c3]
            by_cases c4 : 1048575 < (v6 : Int)
            · simp [c4]
            · exact absurd ⟨by omega, by omega, by omega, by omega, by omega⟩ C
          · rfl
        simp only [hs, hl, hq, hr, g2, g6, d1, frN, frL, lk, w1, w2, c5, Option.getD_some, Option.getD_none, Option.isNone_some, Option.isNone_none, cond_true, cond_false, decide_true]
        rfl
noncomputable def uv_3 := uv_2.addSpec 49 frRead_sp
theorem uv_3_laws : FLaws Try.prog s07 uv_3 := uv_2_laws.addEv s07_laws fun args d h => by
  unfold frRead_sp at h
  split at h
  · unfold frRead_s at h
    have h1 := congrArg Prod.fst (Option.some.inj h)
    obtain rfl : _ = d := congrArg Prod.snd (Option.some.inj h)
    exact ⟨by simp [D.refs], 60, frRead_ok _ h1⟩
  · cases h
def frOf_s (n : Int) (b : List UInt8) : Option (Bool × D RC) := some (decide (b.length ≤ 1000000), .tup (.acons (.str ((ofF ⟨n, b⟩).getD [])) (.acons (.bool (ofF ⟨n, b⟩).isSome) .anil)))
def frOf_sp : List (D RC) → Option (Bool × D RC)
  | [.acons (.int .i64 n) (.acons (.str b) .anil)] => frOf_s n b
  | _ => none
noncomputable def frOf_e (n : Int) (b : List UInt8) := evF s07 uv_3 40 31 [.acons (.int .i64 n) (.acons (.str b) .anil)]
theorem frOf_eq (n : Int) (b : List UInt8) : frOf_e n b = (bif decide (List.length b ≤ (1000000 : Nat)) then bif (bif Option.isNone (readF b) then (50 : Int) else (0 : Int)) != (0 : Int) then some (D.tup (D.acons (D.str (Array.toList #[])) (.acons (D.bool false) .anil))) else bif frN b != n then some (D.tup (D.acons (D.str (Array.toList #[])) (.acons (D.bool false) .anil))) else some (D.tup (D.acons (D.str (frL b)) (.acons (D.bool true) .anil))) else none) := by kernel_rfl
theorem frOf_ok (n : Int) (b : List UInt8) (h : (decide (b.length ≤ 1000000)) = true) : frOf_e n b = some (.tup (.acons (.str ((ofF ⟨n, b⟩).getD [])) (.acons (.bool (ofF ⟨n, b⟩).isSome) .anil))) := by
  rw [frOf_eq]
  rw [h]
  simp only [frN, frL, ofF, cond_true]
  cases hr : readF b with
  | none => rfl
  | some p =>
    obtain ⟨m, l⟩ := p
    by_cases e : m = n
    · subst e; simp [bne]
    · have e2 : (m != n) = true := by simpa [bne] using e
      simp [e, e2]
noncomputable def uv_4 := uv_3.addSpec 31 frOf_sp
theorem uv_4_laws : FLaws Try.prog s07 uv_4 := uv_3_laws.addEv s07_laws fun args d h => by
  unfold frOf_sp at h
  split at h
  · unfold frOf_s at h
    have h1 := congrArg Prod.fst (Option.some.inj h)
    obtain rfl : _ = d := congrArg Prod.snd (Option.some.inj h)
    exact ⟨by simp [D.refs], 40, frOf_ok _ _ h1⟩
  · cases h
open Go.Proofs
def ckLoad_s (n : Int) (p : Int) (ci : Bool) (items : List Item) (k0 : Bool) (k1 : Bool) (k2 : Bool) (l0 : List Line) (l1 : List Line) (l2 : List Line) (c0 : Int) (c1 : Int) (c2 : Int) : Option (Bool × D RC) := some (decide (items.length ≤ 9223372036854775807 ∧ l0.length ≤ 9223372036854775807 ∧ l1.length ≤ 9223372036854775807 ∧ l2.length ≤ 9223372036854775807), .tup (.acons (.str (ckB n ⟨p, items, l0, l1, l2, c0, c1, c2⟩)) (.acons (.int .i64 (bif okCk n ⟨p, items, l0, l1, l2, c0, c1, c2⟩ then 0 else 2)) .anil)))
def ckLoad_sp : List (D RC) → Option (Bool × D RC)
  | [.int .i64 n, .acons (.int .i64 p) (.acons (.sl .item ci items) (.acons (.acons (.sl .line k0 l0) (.acons (.sl .line k1 l1) (.acons (.sl .line k2 l2) .anil))) (.acons (.arr .int 3 [c0, c1, c2]) .anil)))] => ckLoad_s n p ci items k0 k1 k2 l0 l1 l2 c0 c1 c2
  | _ => none
noncomputable def ckLoad_e (n : Int) (p : Int) (ci : Bool) (items : List Item) (k0 : Bool) (k1 : Bool) (k2 : Bool) (l0 : List Line) (l1 : List Line) (l2 : List Line) (c0 : Int) (c1 : Int) (c2 : Int) := evF s07 uv_4 40 20 [.int .i64 n, .acons (.int .i64 p) (.acons (.sl (C := RC) .item ci items) (.acons (.acons (.sl (C := RC) .line k0 l0) (.acons (.sl (C := RC) .line k1 l1) (.acons (.sl (C := RC) .line k2 l2) .anil))) (.acons (.arr (C := RC) .int 3 [c0, c1, c2]) .anil)))]
theorem ckLoad_eq (n : Int) (p : Int) (ci : Bool) (items : List Item) (k0 : Bool) (k1 : Bool) (k2 : Bool) (l0 : List Line) (l1 : List Line) (l2 : List Line) (c0 : Int) (c1 : Int) (c2 : Int) : ckLoad_e n p ci items k0 k1 k2 l0 l1 l2 c0 c1 c2 = (bif decide (List.length items ≤ (9223372036854775807 : Nat) ∧ List.length l0 ≤ (9223372036854775807 : Nat) ∧ List.length l1 ≤ (9223372036854775807 : Nat) ∧ List.length l2 ≤ (9223372036854775807 : Nat)) then bif decide (n < (1 : Int)) then some (D.tup (D.acons (D.str (Array.toList #[])) (.acons (D.int .i64 (2 : Int)) .anil))) else bif decide ((1048575 : Int) < n) then some (D.tup (D.acons (D.str (Array.toList #[])) (.acons (D.int .i64 (2 : Int)) .anil))) else bif bif decide (n < p) then true else (bif standsOK (St.mk p items l0 l1 l2 c0 c1 c2) then (0 : Int) else (2 : Int)) != (0 : Int) then some (D.tup (D.acons (D.str (Array.toList #[])) (.acons (D.int .i64 (2 : Int)) .anil))) else bif decide (List.length ((fun (l : List (RA RTy.u8)) => l) (bif standsOK (St.mk p items l0 l1 l2 c0 c1 c2) then stBytes (St.mk p items l0 l1 l2 c0 c1 c2) else [])) ≤ (1000000 : Nat)) then some (D.tup (D.acons (D.str (bif okF n ((fun (l : List (RA RTy.u8)) => l) (bif standsOK (St.mk p items l0 l1 l2 c0 c1 c2) then stBytes (St.mk p items l0 l1 l2 c0 c1 c2) else [])) then frameB n ((fun (l : List (RA RTy.u8)) => l) (bif standsOK (St.mk p items l0 l1 l2 c0 c1 c2) then stBytes (St.mk p items l0 l1 l2 c0 c1 c2) else [])) else [])) (.acons (D.int .i64 (bif okF n ((fun (l : List (RA RTy.u8)) => l) (bif standsOK (St.mk p items l0 l1 l2 c0 c1 c2) then stBytes (St.mk p items l0 l1 l2 c0 c1 c2) else [])) then (0 : Int) else (2 : Int))) .anil))) else none else none) := by kernel_rfl
theorem ckLoad_ok (n : Int) (p : Int) (ci : Bool) (items : List Item) (k0 : Bool) (k1 : Bool) (k2 : Bool) (l0 : List Line) (l1 : List Line) (l2 : List Line) (c0 : Int) (c1 : Int) (c2 : Int) (h : (decide (items.length ≤ 9223372036854775807 ∧ l0.length ≤ 9223372036854775807 ∧ l1.length ≤ 9223372036854775807 ∧ l2.length ≤ 9223372036854775807)) = true) : ckLoad_e n p ci items k0 k1 k2 l0 l1 l2 c0 c1 c2 = some (.tup (.acons (.str (ckB n ⟨p, items, l0, l1, l2, c0, c1, c2⟩)) (.acons (.int .i64 (bif okCk n ⟨p, items, l0, l1, l2, c0, c1, c2⟩ then 0 else 2)) .anil))) := by
  rw [ckLoad_eq]
  generalize hs : (⟨p, items, l0, l1, l2, c0, c1, c2⟩ : St) = s
  have hp : s.place = p := by rw [← hs]
  have no : okCk n s = false → some (D.tup (.acons (.str []) (.acons (.int .i64 2) .anil))) = some (.tup (.acons (.str (ckB n s)) (.acons (.int .i64 (bif okCk n s then 0 else 2)) .anil)) : D RC) := fun e => by simp only [ckB, e]; rfl
  refine cond_of h ?_
  have no2 : ∀ m : Int, okCk n s = false → some (D.tup (.acons (.str []) (.acons (.int .i64 2) .anil))) = some (.tup (.acons (.str (ckB n s)) (.acons (.int .i64 (bif okCk n s then 0 else 2)) .anil)) : D RC) := fun _ => no
  refine cond_two (fun e => no (okCk_not fun f => by simp only [decide_eq_true_eq] at e; omega)) fun e1 => ?_
  refine cond_two (fun e => no (okCk_not fun f => by simp only [decide_eq_true_eq] at e; omega)) fun e2 => ?_
  cases hst : standsOK s
  · exact cond_of (by cases decide (n < p) <;> rfl) (no (okCk_not fun f => by rw [hst] at f; cases f.2.2.2))
  by_cases hnp : n < p
  · exact cond_of (by rw [decide_eq_true hnp]; rfl) (no (okCk_not fun f => by omega))
  refine cond_no (by rw [decide_eq_false hnp]; rfl) ?_
  simp only [decide_eq_false_iff_not] at e1 e2
  have ok : okCk n s = true := by simp only [okCk, Bool.and_eq_true, decide_eq_true_eq]; exact ⟨⟨⟨by omega, by omega⟩, by omega⟩, hst⟩
  have oF := okCk_F ok
  have hl := stBytes_len hst
  simp only [cond_true]
  refine cond_of (by simp; omega) ?_
  rw [oF]
  simp only [ckB, ok, cond_true]
noncomputable def uw_1 := uv_4.addSpec 20 ckLoad_sp
theorem uw_1_laws : FLaws Try.prog s07 uw_1 := uv_4_laws.addEv s07_laws fun args d h => by
  unfold ckLoad_sp at h
  split at h
  · unfold ckLoad_s at h
    have h1 := congrArg Prod.fst (Option.some.inj h)
    obtain rfl : _ = d := congrArg Prod.snd (Option.some.inj h)
    exact ⟨by simp [D.refs], 40, ckLoad_ok _ _ _ _ _ _ _ _ _ _ _ _ _ h1⟩
  · cases h
def ckRead_s (c : Bool) (now : List Sector) (d : Bool) (sure : List Sector) : Option (Bool × D RC) := some (goodL now && goodL sure, .tup (.acons (.int .i64 (numC now sure)) (.acons (.acons (.int .i64 (stG (stOf now sure)).place) (.acons (.sl (C := RC) .item (stOf now sure).isNone (stG (stOf now sure)).items) (.acons (.acons (.sl (C := RC) .line (stOf now sure).isNone (stG (stOf now sure)).l0) (.acons (.sl (C := RC) .line (stOf now sure).isNone (stG (stOf now sure)).l1) (.acons (.sl (C := RC) .line (stOf now sure).isNone (stG (stOf now sure)).l2) .anil))) (.acons (.arr (C := RC) .int 3 [(stG (stOf now sure)).c0, (stG (stOf now sure)).c1, (stG (stOf now sure)).c2]) .anil)))) (.acons (.int .i64 (errC now sure)) .anil))))
def ckRead_sp : List (D RC) → Option (Bool × D RC)
  | [.acons (.sl .sector c now) (.acons (.sl .sector d sure) .anil)] => ckRead_s c now d sure
  | _ => none
noncomputable def ckRead_e (c : Bool) (now : List Sector) (d : Bool) (sure : List Sector) := evF s07 uw_1 40 13 [.acons (.sl (C := RC) .sector c now) (.acons (.sl (C := RC) .sector d sure) .anil)]
theorem ckRead_eq (c : Bool) (now : List Sector) (d : Bool) (sure : List Sector) : ckRead_e c now d sure = (bif goodL now && goodL sure then bif (bif okGet now sure (32 : Int) then (0 : Int) else (2 : Int)) != (0 : Int) then some (D.tup (D.acons (D.int .i64 (0 : Int)) (.acons (D.acons (D.int .i64 (0 : Int)) (.acons (D.sl RTy.item true []) (.acons (D.acons (D.sl RTy.line true []) (.acons (D.sl RTy.line true []) (.acons (D.sl RTy.line true []) .anil))) (.acons (D.arr RTy.int (3 : Nat) (List.replicate (3 : Nat) (0 : Int))) .anil)))) (.acons (D.int .i64 (bif okGet now sure (32 : Int) then (0 : Int) else (2 : Int))) .anil)))) else bif Sector.n (getS now sure (32 : Int)) == (0 : Int) then some (D.tup (D.acons (D.int .i64 (0 : Int)) (.acons (D.acons (D.int .i64 (0 : Int)) (.acons (D.sl RTy.item true []) (.acons (D.acons (D.sl RTy.line true []) (.acons (D.sl RTy.line true []) (.acons (D.sl RTy.line true []) .anil))) (.acons (D.arr RTy.int (3 : Nat) (List.replicate (3 : Nat) (0 : Int))) .anil)))) (.acons (D.int .i64 (60 : Int)) .anil)))) else bif decide (List.length (Sector.b (getS now sure (32 : Int))) ≤ (1000000 : Nat)) then bif sizeOK (Option.getD (ofF (Sector.mk (Sector.n (getS now sure (32 : Int))) (Sector.b (getS now sure (32 : Int))))) []).length (1 : Nat) then bif decide (List.length ((fun (l : List UInt8) => l) (Option.getD (ofF (Sector.mk (Sector.n (getS now sure (32 : Int))) (Sector.b (getS now sure (32 : Int))))) [])) ≤ (1000000 : Nat)) then bif !Option.isSome (ofF (Sector.mk (Sector.n (getS now sure (32 : Int))) (Sector.b (getS now sure (32 : Int))))) then some (D.tup (D.acons (D.int .i64 (0 : Int)) (.acons (D.acons (D.int .i64 (0 : Int)) (.acons (D.sl RTy.item true []) (.acons (D.acons (D.sl RTy.line true []) (.acons (D.sl RTy.line true []) (.acons (D.sl RTy.line true []) .anil))) (.acons (D.arr RTy.int (3 : Nat) (List.replicate (3 : Nat) (0 : Int))) .anil)))) (.acons (D.int .i64 (50 : Int)) .anil)))) else bif (bif Option.isNone (readS ((fun (l : List UInt8) => l) (Option.getD (ofF (Sector.mk (Sector.n (getS now sure (32 : Int))) (Sector.b (getS now sure (32 : Int))))) []))) then (50 : Int) else (0 : Int)) != (0 : Int) then some (D.tup (D.acons (D.int .i64 (0 : Int)) (.acons (D.acons (D.int .i64 (0 : Int)) (.acons (D.sl RTy.item true []) (.acons (D.acons (D.sl RTy.line true []) (.acons (D.sl RTy.line true []) (.acons (D.sl RTy.line true []) .anil))) (.acons (D.arr RTy.int (3 : Nat) (List.replicate (3 : Nat) (0 : Int))) .anil)))) (.acons (D.int .i64 (50 : Int)) .anil)))) else bif decide (Sector.n (getS now sure (32 : Int)) < St.place (stG (readS ((fun (l : List UInt8) => l) (Option.getD (ofF (Sector.mk (Sector.n (getS now sure (32 : Int))) (Sector.b (getS now sure (32 : Int))))) []))))) then some (D.tup (D.acons (D.int .i64 (0 : Int)) (.acons (D.acons (D.int .i64 (0 : Int)) (.acons (D.sl RTy.item true []) (.acons (D.acons (D.sl RTy.line true []) (.acons (D.sl RTy.line true []) (.acons (D.sl RTy.line true []) .anil))) (.acons (D.arr RTy.int (3 : Nat) (List.replicate (3 : Nat) (0 : Int))) .anil)))) (.acons (D.int .i64 (50 : Int)) .anil)))) else some (D.tup (D.acons (D.int .i64 (Sector.n (getS now sure (32 : Int)))) (.acons (D.acons (D.int .i64 (stG (readS ((fun (l : List UInt8) => l) (Option.getD (ofF (Sector.mk (Sector.n (getS now sure (32 : Int))) (Sector.b (getS now sure (32 : Int))))) [])))).place) (.acons (D.sl RTy.item (readS ((fun (l : List UInt8) => l) (Option.getD (ofF (Sector.mk (Sector.n (getS now sure (32 : Int))) (Sector.b (getS now sure (32 : Int))))) []))).isNone (stG (readS ((fun (l : List UInt8) => l) (Option.getD (ofF (Sector.mk (Sector.n (getS now sure (32 : Int))) (Sector.b (getS now sure (32 : Int))))) [])))).items) (.acons (D.acons (D.sl RTy.line (readS ((fun (l : List UInt8) => l) (Option.getD (ofF (Sector.mk (Sector.n (getS now sure (32 : Int))) (Sector.b (getS now sure (32 : Int))))) []))).isNone (stG (readS ((fun (l : List UInt8) => l) (Option.getD (ofF (Sector.mk (Sector.n (getS now sure (32 : Int))) (Sector.b (getS now sure (32 : Int))))) [])))).l0) (.acons (D.sl RTy.line (readS ((fun (l : List UInt8) => l) (Option.getD (ofF (Sector.mk (Sector.n (getS now sure (32 : Int))) (Sector.b (getS now sure (32 : Int))))) []))).isNone (stG (readS ((fun (l : List UInt8) => l) (Option.getD (ofF (Sector.mk (Sector.n (getS now sure (32 : Int))) (Sector.b (getS now sure (32 : Int))))) [])))).l1) (.acons (D.sl RTy.line (readS ((fun (l : List UInt8) => l) (Option.getD (ofF (Sector.mk (Sector.n (getS now sure (32 : Int))) (Sector.b (getS now sure (32 : Int))))) []))).isNone (stG (readS ((fun (l : List UInt8) => l) (Option.getD (ofF (Sector.mk (Sector.n (getS now sure (32 : Int))) (Sector.b (getS now sure (32 : Int))))) [])))).l2) .anil))) (.acons (D.arr RTy.int (3 : Nat) [St.c0 (stG (readS ((fun (l : List UInt8) => l) (Option.getD (ofF (Sector.mk (Sector.n (getS now sure (32 : Int))) (Sector.b (getS now sure (32 : Int))))) [])))), St.c1 (stG (readS ((fun (l : List UInt8) => l) (Option.getD (ofF (Sector.mk (Sector.n (getS now sure (32 : Int))) (Sector.b (getS now sure (32 : Int))))) [])))), St.c2 (stG (readS ((fun (l : List UInt8) => l) (Option.getD (ofF (Sector.mk (Sector.n (getS now sure (32 : Int))) (Sector.b (getS now sure (32 : Int))))) []))))]) .anil)))) (.acons (D.int .i64 (0 : Int)) .anil)))) else none else none else none else none) := by kernel_rfl
theorem ckRead_ok (c : Bool) (now : List Sector) (d : Bool) (sure : List Sector) (h : (goodL now && goodL sure) = true) : ckRead_e c now d sure = some (.tup (.acons (.int .i64 (numC now sure)) (.acons (.acons (.int .i64 (stG (stOf now sure)).place) (.acons (.sl (C := RC) .item (stOf now sure).isNone (stG (stOf now sure)).items) (.acons (.acons (.sl (C := RC) .line (stOf now sure).isNone (stG (stOf now sure)).l0) (.acons (.sl (C := RC) .line (stOf now sure).isNone (stG (stOf now sure)).l1) (.acons (.sl (C := RC) .line (stOf now sure).isNone (stG (stOf now sure)).l2) .anil))) (.acons (.arr (C := RC) .int 3 [(stG (stOf now sure)).c0, (stG (stOf now sure)).c1, (stG (stOf now sure)).c2]) .anil)))) (.acons (.int .i64 (errC now sure)) .anil)))) := by
  rw [ckRead_eq]
  refine cond_of h ?_
  have no : ∀ e : Int, stOf now sure = none → errC now sure = e → some (D.tup (.acons (.int .i64 0) (.acons (.acons (.int .i64 0) (.acons (.sl (C := RC) .item true []) (.acons (.acons (.sl (C := RC) .line true []) (.acons (.sl (C := RC) .line true []) (.acons (.sl (C := RC) .line true []) .anil))) (.acons (.arr (C := RC) .int 3 (List.replicate 3 0)) .anil)))) (.acons (.int .i64 e) .anil)))) = some (.tup (.acons (.int .i64 (numC now sure)) (.acons (.acons (.int .i64 (stG (stOf now sure)).place) (.acons (.sl (C := RC) .item (stOf now sure).isNone (stG (stOf now sure)).items) (.acons (.acons (.sl (C := RC) .line (stOf now sure).isNone (stG (stOf now sure)).l0) (.acons (.sl (C := RC) .line (stOf now sure).isNone (stG (stOf now sure)).l1) (.acons (.sl (C := RC) .line (stOf now sure).isNone (stG (stOf now sure)).l2) .anil))) (.acons (.arr (C := RC) .int 3 [(stG (stOf now sure)).c0, (stG (stOf now sure)).c1, (stG (stOf now sure)).c2]) .anil)))) (.acons (.int .i64 (errC now sure)) .anil)))) := fun e h1 h2 => by simp only [numC, h1, h2]; rfl
  cases hk : okGet now sure 32
  · exact cond_of rfl (no 2 (by simp [stOf, hk]) (by simp [errC, hk]))
  refine cond_no rfl ?_
  have hn := getS_len now sure 32
  generalize hs : getS now sure 32 = s at hn ⊢
  obtain ⟨n, b⟩ := s
  have hf := ofF_len ⟨n, b⟩
  dsimp only at hn hf ⊢
  refine cond_two (fun e => no 60 (by simp [stOf, hk, hs, e]) (by simp [errC, hk, hs, e])) fun e0 => ?_
  refine cond_of (by simp; omega) (cond_of (sizeT (by omega)) (cond_of (by simp; omega) ?_))
  cases ho : ofF ⟨n, b⟩ with
  | none => exact cond_of rfl (no 50 (by simp [stOf, hk, hs, e0, ckAt, ho]) (by simp [errC, hk, hs, e0, ckAt, ho]))
  | some l =>
    refine cond_no rfl ?_
    simp only [Option.getD_some]
    have hc : readS l = none ∨ ∃ st, readS l = some st := by cases readS l <;> simp
    rcases hc with hr | ⟨st, hr⟩
    · exact cond_of (by rw [hr]; rfl) (no 50 (by simp [stOf, hk, hs, e0, ckAt, ho, hr]) (by simp [errC, hk, hs, e0, ckAt, ho, hr]))
    · refine cond_no (by rw [hr]; rfl) ?_
      by_cases hp : st.place ≤ n
      · refine cond_no (by simp [hr, stG]; omega) ?_
        have e1 : stOf now sure = some st := by simp [stOf, hk, hs, e0, ckAt, ho, hr, hp]
        have e2 : errC now sure = 0 := by simp [errC, hk, hs, e0, ckAt, ho, hr, hp]
        have e3 : numC now sure = n := by simp [numC, e1, hs]
        simp only [e1, e2, e3, hr]
      · exact cond_of (by simp [hr, stG]; omega) (no 50 (by simp [stOf, hk, hs, e0, ckAt, ho, hr, hp]) (by simp [errC, hk, hs, e0, ckAt, ho, hr, hp]))
noncomputable def uw_2 := uw_1.addSpec 13 ckRead_sp
theorem uw_2_laws : FLaws Try.prog s07 uw_2 := uw_1_laws.addEv s07_laws fun args d h => by
  unfold ckRead_sp at h
  split at h
  · unfold ckRead_s at h
    have h1 := congrArg Prod.fst (Option.some.inj h)
    obtain rfl : _ = d := congrArg Prod.snd (Option.some.inj h)
    exact ⟨by simp [D.refs], 40, ckRead_ok _ _ _ _ h1⟩
  · cases h
def ckPut_s (c : Bool) (now : List Sector) (d : Bool) (sure : List Sector) (n : Int) (p : Int) (ci : Bool) (items : List Item) (k0 : Bool) (k1 : Bool) (k2 : Bool) (l0 : List Line) (l1 : List Line) (l2 : List Line) (c0 : Int) (c1 : Int) (c2 : Int) : Option (Bool × D RC) := some (goodL now && goodL sure && decide (items.length ≤ 9223372036854775807 ∧ l0.length ≤ 9223372036854775807 ∧ l1.length ≤ 9223372036854775807 ∧ l2.length ≤ 9223372036854775807), .tup (.acons (.acons (.sl (C := RC) .sector (!okPut now sure 32 n (ckB n ⟨p, items, l0, l1, l2, c0, c1, c2⟩)) (pNow now sure 32 n (ckB n ⟨p, items, l0, l1, l2, c0, c1, c2⟩))) (.acons (.sl (C := RC) .sector (!okPut now sure 32 n (ckB n ⟨p, items, l0, l1, l2, c0, c1, c2⟩)) (pSure now sure 32 n (ckB n ⟨p, items, l0, l1, l2, c0, c1, c2⟩))) .anil)) (.acons (.int .i64 (bif okPut now sure 32 n (ckB n ⟨p, items, l0, l1, l2, c0, c1, c2⟩) then 0 else 2)) .anil)))
def ckPut_sp : List (D RC) → Option (Bool × D RC)
  | [.acons (.sl .sector c now) (.acons (.sl .sector d sure) .anil), .int .i64 n, .acons (.int .i64 p) (.acons (.sl .item ci items) (.acons (.acons (.sl .line k0 l0) (.acons (.sl .line k1 l1) (.acons (.sl .line k2 l2) .anil))) (.acons (.arr .int 3 [c0, c1, c2]) .anil)))] => ckPut_s c now d sure n p ci items k0 k1 k2 l0 l1 l2 c0 c1 c2
  | _ => none
noncomputable def ckPut_e (c : Bool) (now : List Sector) (d : Bool) (sure : List Sector) (n : Int) (p : Int) (ci : Bool) (items : List Item) (k0 : Bool) (k1 : Bool) (k2 : Bool) (l0 : List Line) (l1 : List Line) (l2 : List Line) (c0 : Int) (c1 : Int) (c2 : Int) := evF s07 uw_2 40 12 [.acons (.sl (C := RC) .sector c now) (.acons (.sl (C := RC) .sector d sure) .anil), .int .i64 n, .acons (.int .i64 p) (.acons (.sl (C := RC) .item ci items) (.acons (.acons (.sl (C := RC) .line k0 l0) (.acons (.sl (C := RC) .line k1 l1) (.acons (.sl (C := RC) .line k2 l2) .anil))) (.acons (.arr (C := RC) .int 3 [c0, c1, c2]) .anil)))]
theorem ckPut_eq (c : Bool) (now : List Sector) (d : Bool) (sure : List Sector) (n : Int) (p : Int) (ci : Bool) (items : List Item) (k0 : Bool) (k1 : Bool) (k2 : Bool) (l0 : List Line) (l1 : List Line) (l2 : List Line) (c0 : Int) (c1 : Int) (c2 : Int) : ckPut_e c now d sure n p ci items k0 k1 k2 l0 l1 l2 c0 c1 c2 = (bif decide (List.length items ≤ (9223372036854775807 : Nat) ∧ List.length l0 ≤ (9223372036854775807 : Nat) ∧ List.length l1 ≤ (9223372036854775807 : Nat) ∧ List.length l2 ≤ (9223372036854775807 : Nat)) then bif goodL now && goodL sure then bif (bif diskOK now sure then (0 : Int) else (2 : Int)) != (0 : Int) then bif (bif diskOK now sure then (0 : Int) else (2 : Int)) != (0 : Int) then some (D.tup (D.acons (D.acons (D.sl RTy.sector true []) (.acons (D.sl RTy.sector true []) .anil)) (.acons (D.int .i64 (bif diskOK now sure then (0 : Int) else (2 : Int))) .anil))) else bif goodL now && goodL sure && lenOK (ckB n (St.mk p items l0 l1 l2 c0 c1 c2)).length then some (D.tup (D.acons (D.acons (D.sl RTy.sector (!okPut now sure (32 : Int) n (ckB n (St.mk p items l0 l1 l2 c0 c1 c2))) (pNow now sure (32 : Int) n (ckB n (St.mk p items l0 l1 l2 c0 c1 c2)))) (.acons (D.sl RTy.sector (!okPut now sure (32 : Int) n (ckB n (St.mk p items l0 l1 l2 c0 c1 c2))) (pSure now sure (32 : Int) n (ckB n (St.mk p items l0 l1 l2 c0 c1 c2)))) .anil)) (.acons (D.int .i64 (bif okPut now sure (32 : Int) n (ckB n (St.mk p items l0 l1 l2 c0 c1 c2)) then (0 : Int) else (2 : Int))) .anil))) else none else bif (bif okCk n (St.mk p items l0 l1 l2 c0 c1 c2) then (0 : Int) else (2 : Int)) != (0 : Int) then bif (bif okCk n (St.mk p items l0 l1 l2 c0 c1 c2) then (0 : Int) else (2 : Int)) != (0 : Int) then some (D.tup (D.acons (D.acons (D.sl RTy.sector true []) (.acons (D.sl RTy.sector true []) .anil)) (.acons (D.int .i64 (bif okCk n (St.mk p items l0 l1 l2 c0 c1 c2) then (0 : Int) else (2 : Int))) .anil))) else bif goodL now && goodL sure && lenOK (ckB n (St.mk p items l0 l1 l2 c0 c1 c2)).length then some (D.tup (D.acons (D.acons (D.sl RTy.sector (!okPut now sure (32 : Int) n (ckB n (St.mk p items l0 l1 l2 c0 c1 c2))) (pNow now sure (32 : Int) n (ckB n (St.mk p items l0 l1 l2 c0 c1 c2)))) (.acons (D.sl RTy.sector (!okPut now sure (32 : Int) n (ckB n (St.mk p items l0 l1 l2 c0 c1 c2))) (pSure now sure (32 : Int) n (ckB n (St.mk p items l0 l1 l2 c0 c1 c2)))) .anil)) (.acons (D.int .i64 (bif okPut now sure (32 : Int) n (ckB n (St.mk p items l0 l1 l2 c0 c1 c2)) then (0 : Int) else (2 : Int))) .anil))) else none else bif goodL now && goodL sure && lenOK (ckB n (St.mk p items l0 l1 l2 c0 c1 c2)).length then some (D.tup (D.acons (D.acons (D.sl RTy.sector (!okPut now sure (32 : Int) n (ckB n (St.mk p items l0 l1 l2 c0 c1 c2))) (pNow now sure (32 : Int) n (ckB n (St.mk p items l0 l1 l2 c0 c1 c2)))) (.acons (D.sl RTy.sector (!okPut now sure (32 : Int) n (ckB n (St.mk p items l0 l1 l2 c0 c1 c2))) (pSure now sure (32 : Int) n (ckB n (St.mk p items l0 l1 l2 c0 c1 c2)))) .anil)) (.acons (D.int .i64 (bif okPut now sure (32 : Int) n (ckB n (St.mk p items l0 l1 l2 c0 c1 c2)) then (0 : Int) else (2 : Int))) .anil))) else none else none else none) := by kernel_rfl
theorem ckPut_ok (c : Bool) (now : List Sector) (d : Bool) (sure : List Sector) (n : Int) (p : Int) (ci : Bool) (items : List Item) (k0 : Bool) (k1 : Bool) (k2 : Bool) (l0 : List Line) (l1 : List Line) (l2 : List Line) (c0 : Int) (c1 : Int) (c2 : Int) (h : (goodL now && goodL sure && decide (items.length ≤ 9223372036854775807 ∧ l0.length ≤ 9223372036854775807 ∧ l1.length ≤ 9223372036854775807 ∧ l2.length ≤ 9223372036854775807)) = true) : ckPut_e c now d sure n p ci items k0 k1 k2 l0 l1 l2 c0 c1 c2 = some (.tup (.acons (.acons (.sl (C := RC) .sector (!okPut now sure 32 n (ckB n ⟨p, items, l0, l1, l2, c0, c1, c2⟩)) (pNow now sure 32 n (ckB n ⟨p, items, l0, l1, l2, c0, c1, c2⟩))) (.acons (.sl (C := RC) .sector (!okPut now sure 32 n (ckB n ⟨p, items, l0, l1, l2, c0, c1, c2⟩)) (pSure now sure 32 n (ckB n ⟨p, items, l0, l1, l2, c0, c1, c2⟩))) .anil)) (.acons (.int .i64 (bif okPut now sure 32 n (ckB n ⟨p, items, l0, l1, l2, c0, c1, c2⟩) then 0 else 2)) .anil))) := by
  rw [ckPut_eq]
  generalize hs : (⟨p, items, l0, l1, l2, c0, c1, c2⟩ : St) = s
  rw [Bool.and_eq_true, Bool.and_eq_true] at h
  obtain ⟨⟨hg, hgs⟩, hl⟩ := h
  refine cond_of hl ?_
  have no : okPut now sure 32 n (ckB n s) = false → some (D.tup (.acons (.acons (.sl (C := RC) .sector true []) (.acons (.sl (C := RC) .sector true []) .anil)) (.acons (.int .i64 2) .anil))) = some (.tup (.acons (.acons (.sl (C := RC) .sector (!okPut now sure 32 n (ckB n s)) (pNow now sure 32 n (ckB n s))) (.acons (.sl (C := RC) .sector (!okPut now sure 32 n (ckB n s)) (pSure now sure 32 n (ckB n s))) .anil)) (.acons (.int .i64 (bif okPut now sure 32 n (ckB n s) then 0 else 2)) .anil))) := fun e => by simp only [e, pNow, pSure]; rfl
  have hlb : lenOK (ckB n s).length = true := lenOK_of (by have := @ckB_len n s; omega)
  have hall : (goodL now && goodL sure && lenOK (ckB n s).length) = true := by rw [hg, hgs, hlb]; rfl
  refine cond_of (by rw [hg, hgs]; rfl) ?_
  cases hd : diskOK now sure
  · exact cond_of rfl (cond_of rfl (no (okPut_not fun f => by rw [hd] at f; cases f.1)))
  refine cond_no rfl ?_
  cases hk : okCk n s
  · exact cond_of rfl (cond_of rfl (no (okPut_not fun f => f.2.2.2.2.1 (by simp [ckB, hk]))))
  · exact cond_no rfl (cond_of hall rfl)
noncomputable def uw_3 := uw_2.addSpec 12 ckPut_sp
theorem uw_3_laws : FLaws Try.prog s07 uw_3 := uw_2_laws.addEv s07_laws fun args d h => by
  unfold ckPut_sp at h
  split at h
  · unfold ckPut_s at h
    have h1 := congrArg Prod.fst (Option.some.inj h)
    obtain rfl : _ = d := congrArg Prod.snd (Option.some.inj h)
    exact ⟨by simp [D.refs], 40, ckPut_ok _ _ _ _ _ _ _ _ _ _ _ _ _ _ _ _ _ h1⟩
  · cases h
open Go.Proofs
def wakes07_s  : Option (Bool × D RC) := some (true, .bool true)
def wakes07_sp : List (D RC) → Option (Bool × D RC)
  | [] => wakes07_s 
  | _ => none
noncomputable def wakes07_e  := evF s07 uw_3 1000 11 []
theorem wakes07_ok  (h : (true) = true) : wakes07_e  = some (.bool true) := by
  kernel_rfl
noncomputable def ux_1 := uw_3.addSpec 11 wakes07_sp
theorem ux_1_laws : FLaws Try.prog s07 ux_1 := uw_3_laws.addEv s07_laws fun args d h => by
  unfold wakes07_sp at h
  split at h
  · unfold wakes07_s at h
    have h1 := congrArg Prod.fst (Option.some.inj h)
    obtain rfl : _ = d := congrArg Prod.snd (Option.some.inj h)
    exact ⟨by simp [D.refs], 1000, wakes07_ok  h1⟩
  · cases h
theorem rowOK_all {l : List Sector} (h : rowOK l = true) : ∀ s ∈ l, maySec s = true := by
  simp only [rowOK, Bool.and_eq_true] at h
  exact List.all_eq_true.1 h.2
theorem rowOK_of {l : List Sector} (h1 : l.length = 33) (h2 : ∀ s ∈ l, maySec s = true) : rowOK l = true := by
  simp only [rowOK, Bool.and_eq_true, decide_eq_true_eq]
  exact ⟨h1, List.all_eq_true.2 h2⟩
theorem rowOK_good {l : List Sector} (h : rowOK l = true) : goodL l = true := by
  have h1 := rowOK_len h
  rw [goodL_iff]
  refine ⟨by omega, fun s hs => lenOK_of ?_⟩
  have := rowOK_all h s hs
  simp only [maySec, Bool.and_eq_true, decide_eq_true_eq] at this
  omega
theorem diskOK_parts {now sure : List Sector} (h : diskOK now sure = true) : rowOK now = true ∧ rowOK sure = true ∧ lowAt now sure 0 = true := by
  simp only [diskOK, Bool.and_eq_true] at h; exact ⟨h.1.1, h.1.2, h.2⟩
theorem low_iff {now sure : List Sector} (hl : now.length = sure.length) : lowAt now sure 0 = true ↔ ∀ i, i < now.length → (sure.getD i sec0).n ≤ (now.getD i sec0).n := by
  unfold lowAt
  rw [List.drop_zero, List.all_eq_true]
  constructor
  · intro h i hi
    have hz : i < (now.zip sure).length := by simp; omega
    have h3 := h _ (List.getElem_mem hz)
    simp only [List.getElem_zip, decide_eq_true_eq] at h3
    have hi2 : i < sure.length := by omega
    simpa [hi, hi2] using h3
  · intro h p hp
    obtain ⟨i, hi, rfl⟩ := List.getElem_of_mem hp
    have h1 : i < now.length := by simp at hi; omega
    have h2 : i < sure.length := by omega
    have := h i h1
    simp only [List.getElem_zip, decide_eq_true_eq]
    simpa [h1, h2] using this
theorem diskOK_good {now sure : List Sector} (h : diskOK now sure = true) : goodL now = true ∧ goodL sure = true :=
  ⟨rowOK_good (diskOK_parts h).1, rowOK_good (diskOK_parts h).2.1⟩
theorem putNow_mem {now : List Sector} {k : Nat} {n : Int} {b : List UInt8} {s : Sector} (h : s ∈ putNow now k n b) : s ∈ now ∨ s = ⟨n, b⟩ := by
  unfold putNow at h
  split at h
  · exact List.mem_or_eq_of_mem_set h
  · exact .inl h
theorem putNow_at {now : List Sector} {k : Nat} {n : Int} {b : List UInt8} (hk : k < now.length) (j : Nat) : (putNow now k n b).getD j sec0 = if j = k ∧ (now.getD k sec0).n < n then ⟨n, b⟩ else now.getD j sec0 := by
  unfold putNow
  by_cases h : (now.getD k sec0).n < n
  · rw [if_pos h]
    by_cases hj : j = k
    · subst hj
      rw [if_pos ⟨rfl, h⟩]
      simp [hk]
    · rw [if_neg (fun q => hj q.1)]
      simp only [List.getD_eq_getElem?_getD]
      rw [List.getElem?_set_ne (fun q => hj q.symm)]
  · rw [if_neg h, if_neg (fun q => h q.2)]
theorem okPut_disk {now sure : List Sector} {k n : Int} {b : List UInt8} (h : okPut now sure k n b = true) : diskOK (pNow now sure k n b) (pSure now sure k n b) = true := by
  obtain ⟨hd, h0, h1, h2, h3, h4⟩ := okPut_facts h
  obtain ⟨d1, d2, d3⟩ := diskOK_parts hd
  obtain ⟨l1, l2⟩ := diskOK_len hd
  simp only [pNow, pSure, h, cond_true, diskOK, Bool.and_eq_true]
  have hk : k.toNat < now.length := by omega
  refine ⟨⟨rowOK_of (by rw [putNow_len]; exact l1) fun s hs => ?_, d2⟩, ?_⟩
  · rcases putNow_mem hs with q | rfl
    · exact rowOK_all d1 s q
    · exact h4
  · rw [low_iff (by rw [putNow_len]; omega)]
    intro i hi
    rw [putNow_len] at hi
    have := (low_iff (by omega)).1 d3 i hi
    rw [putNow_at hk]
    split
    · rename_i q
      obtain ⟨rfl, q⟩ := q
      have h5 : (sure.getD k.toNat sec0).n ≤ (now.getD k.toNat sec0).n := this
      show (sure.getD k.toNat sec0).n ≤ n
      omega
    · exact this
theorem pNow_good (now sure : List Sector) (k n : Int) (b : List UInt8) : goodL (pNow now sure k n b) = true ∧ goodL (pSure now sure k n b) = true := by
  cases h : okPut now sure k n b
  · simp only [pNow, pSure, h, cond_false]; exact ⟨rfl, rfl⟩
  · exact diskOK_good (okPut_disk h)
theorem okPut_ck {now sure : List Sector} {n : Int} {s : St} : okPut now sure 32 n (ckB n s) = (diskOK now sure && okCk n s) := by
  cases h : okPut now sure 32 n (ckB n s)
  · cases hd : diskOK now sure
    · rfl
    cases hk : okCk n s
    · rfl
    exfalso
    have h2 : okPut now sure 32 n (ckB n s) = true := by
      have hl := @ckB_len n s
      have hne := ckB_ne hk
      have hne2 : (ckB n s == []) = false := by simpa using hne
      simp only [okCk, Bool.and_eq_true, decide_eq_true_eq] at hk
      have p1 : decide (0 ≤ n) = true := by simp; omega
      have p2 : decide (n ≤ 1048575) = true := by simp; omega
      have p3 : decide ((ckB n s).length ≤ 640) = true := by simp; omega
      have p4 : decide (0 < n) = true := by simp; omega
      have p5 : decide (1 ≤ n) = true := by simp; omega
      simp only [okPut, hd, maySec, hne2, p1, p2, p3, p4, p5]; rfl
    rw [h2] at h; cases h
  · obtain ⟨h1, h2, h3, h4, h5, h6⟩ := okPut_facts h
    rw [h1]
    cases hk : okCk n s
    · exact absurd (by simp [ckB, hk]) h5
    · rfl
theorem okGet_32 (now sure : List Sector) : okGet now sure 32 = diskOK now sure := by simp [okGet]
theorem read_eq {a b c d : List Sector} (h1 : diskOK a b = true) (h2 : diskOK c d = true) (h : a.getD 32 sec0 = c.getD 32 sec0) : errC a b = errC c d ∧ stOf a b = stOf c d ∧ numC a b = numC c d := by
  have e : getS a b 32 = getS c d 32 := by simp only [getS, okGet_32, h1, h2, cond_true]; exact h
  simp only [errC, stOf, numC, okGet_32, h1, h2, e, and_self]
theorem read_ck {a b : List Sector} {n : Int} {s : St} (h1 : diskOK a b = true) (hk : okCk n s = true) (h : a.getD 32 sec0 = ⟨n, ckB n s⟩) : errC a b = 0 ∧ stOf a b = some s ∧ numC a b = n := by
  have e : getS a b 32 = ⟨n, ckB n s⟩ := by simp only [getS, okGet_32, h1, cond_true]; exact h
  have hn : (n == 0) = false := by simp only [okCk, Bool.and_eq_true, decide_eq_true_eq] at hk; simp; omega
  simp only [errC, stOf, numC, okGet_32, h1, e, ckAt_ck hk, hn, cond_true, cond_false, Option.isNone_some, and_self]
theorem read_put {now sure : List Sector} {n : Int} {s : St} (h : okPut now sure 32 n (ckB n s) = true) : (if (now.getD 32 sec0).n < n then errC (pNow now sure 32 n (ckB n s)) (pSure now sure 32 n (ckB n s)) = 0 ∧ stOf (pNow now sure 32 n (ckB n s)) (pSure now sure 32 n (ckB n s)) = some s ∧ numC (pNow now sure 32 n (ckB n s)) (pSure now sure 32 n (ckB n s)) = n else
    pNow now sure 32 n (ckB n s) = now ∧ pSure now sure 32 n (ckB n s) = sure) := by
  have hd := okPut_disk h
  have hk := h
  rw [okPut_ck, Bool.and_eq_true] at hk
  obtain ⟨l1, l2⟩ := diskOK_len hk.1
  split
  · rename_i q
    refine read_ck hd hk.2 ?_
    simp only [pNow, h, cond_true]
    rw [putNow_at (by omega)]
    exact if_pos ⟨rfl, q⟩
  · rename_i q
    simp only [pNow, pSure, h, cond_true]
    have t32 : Int.toNat 32 = 32 := rfl
    simp only [putNow, t32, if_neg q, and_self]
theorem crashF_at (lost : Int) : ∀ (k i : Nat) (n s : List Sector), i + k ≤ n.length → i + k ≤ s.length → ∀ j, (crashF lost k i n s).1.getD j sec0 = (if i ≤ j ∧ j < i + k then (if bitAt lost j = true then s.getD j sec0 else n.getD j sec0) else n.getD j sec0) ∧ (crashF lost k i n s).2.getD j sec0 = (if i ≤ j ∧ j < i + k then (if bitAt lost j = true then s.getD j sec0 else n.getD j sec0) else s.getD j sec0)
  | 0, i, n, s, _, _, j => by
    rw [if_neg (by omega), if_neg (by omega)]; exact ⟨rfl, rfl⟩
  | k + 1, i, n, s, h1, h2, j => by
    unfold crashF
    have hset : ∀ (l : List Sector) (x : Sector), i < l.length → (l.set i x).getD j sec0 = if j = i then x else l.getD j sec0 := by
      intro l x hl
      by_cases e : j = i
      · subst e; simp [hl]
      · rw [if_neg e]; simp only [List.getD_eq_getElem?_getD]; rw [List.getElem?_set_ne (fun q => e q.symm)]
    by_cases hb : bitAt lost i = true
    · rw [if_pos hb]
      obtain ⟨q1, q2⟩ := crashF_at lost k (i + 1) (n.set i (s.getD i sec0)) s (by rw [List.length_set]; omega) (by omega) j
      rw [q1, q2, hset _ _ (by omega)]
      by_cases e : j = i
      · subst e
        have f1 : ¬ (j + 1 ≤ j ∧ j < j + 1 + k) := by omega
        have f2 : j ≤ j ∧ j < j + (k + 1) := by omega
        simp only [f1, f2, hb, if_true, if_false, and_self, Bool.false_eq_true]
      · by_cases e2 : i + 1 ≤ j ∧ j < i + 1 + k
        · have f2 : i ≤ j ∧ j < i + (k + 1) := by omega
          simp only [e, e2, f2, if_true, if_false, and_self]
        · have f2 : ¬ (i ≤ j ∧ j < i + (k + 1)) := by omega
          simp only [e, e2, f2, if_true, if_false, and_self]
    · rw [if_neg hb]
      obtain ⟨q1, q2⟩ := crashF_at lost k (i + 1) n (s.set i (n.getD i sec0)) (by omega) (by rw [List.length_set]; omega) j
      rw [q1, q2, hset _ _ (by omega)]
      by_cases e : j = i
      · subst e
        have f1 : ¬ (j + 1 ≤ j ∧ j < j + 1 + k) := by omega
        have f2 : j ≤ j ∧ j < j + (k + 1) := by omega
        simp only [f1, f2, hb, if_true, if_false, and_self, Bool.false_eq_true]
      · by_cases e2 : i + 1 ≤ j ∧ j < i + 1 + k
        · have f2 : i ≤ j ∧ j < i + (k + 1) := by omega
          simp only [e, e2, f2, if_true, if_false, and_self]
        · have f2 : ¬ (i ≤ j ∧ j < i + (k + 1)) := by omega
          simp only [e, e2, f2, if_true, if_false, and_self]
theorem ext_getD {l m : List Sector} (h : l.length = m.length) (hg : ∀ j, l.getD j sec0 = m.getD j sec0) : l = m := by
  refine List.ext_getElem h fun i h1 h2 => ?_
  have := hg i
  simpa [h1, h2] using this
theorem mem_getD {l : List Sector} {s : Sector} (h : s ∈ l) : ∃ j, j < l.length ∧ s = l.getD j sec0 := by
  obtain ⟨i, hi, rfl⟩ := List.getElem_of_mem h
  exact ⟨i, hi, by simp [hi]⟩
theorem crash_ok {now sure : List Sector} (lost : Int) (h : diskOK now sure = true) : (crashF lost 33 0 now sure).1 = (crashF lost 33 0 now sure).2 ∧ diskOK (crashF lost 33 0 now sure).1 (crashF lost 33 0 now sure).2 = true ∧ ((crashF lost 33 0 now sure).1.getD 32 sec0 = now.getD 32 sec0 ∨ (crashF lost 33 0 now sure).1.getD 32 sec0 = sure.getD 32 sec0) := by
  obtain ⟨d1, d2, d3⟩ := diskOK_parts h
  obtain ⟨l1, l2⟩ := diskOK_len h
  obtain ⟨c1, c2⟩ := crashF_len lost 33 0 now sure
  have ha := crashF_at lost 33 0 now sure (by omega) (by omega)
  have he : (crashF lost 33 0 now sure).1 = (crashF lost 33 0 now sure).2 := ext_getD (by omega) fun j => by
    obtain ⟨q1, q2⟩ := ha j
    rw [q1, q2]
    by_cases e : 0 ≤ j ∧ j < 0 + 33
    · rw [if_pos e, if_pos e]
    · rw [if_neg e, if_neg e]
      have n1 : now.length ≤ j := by omega
      have n2 : sure.length ≤ j := by omega
      simp [n1, n2]
  have hr : rowOK (crashF lost 33 0 now sure).1 = true := rowOK_of (by omega) fun s hs => by
    obtain ⟨j, hj, rfl⟩ := mem_getD hs
    rw [(ha j).1, if_pos (by omega)]
    have m1 : maySec (sure.getD j sec0) = true := rowOK_all d2 _ (by have q : j < sure.length := by omega
                                                                     simp [q])
    have m2 : maySec (now.getD j sec0) = true := rowOK_all d1 _ (by have q : j < now.length := by omega
                                                                    simp [q])
    split
    · exact m1
    · exact m2
  refine ⟨he, ?_, ?_⟩
  · rw [← he]
    simp only [diskOK, hr, Bool.true_and]
    rw [low_iff rfl]
    intro i _; exact Int.le_refl _
  · rw [(ha 32).1, if_pos (by omega)]
    split
    · exact .inr rfl
    · exact .inl rfl
theorem diskOK_same {l : List Sector} (h : rowOK l = true) : diskOK l l = true := by
  simp only [diskOK, h, Bool.true_and]
  rw [low_iff rfl]
  intro i _; exact Int.le_refl _
theorem stOf_stands {now sure : List Sector} {s : St} (h : stOf now sure = some s) : standsOK s = true := by
  unfold stOf at h
  cases h1 : okGet now sure 32
  · rw [h1] at h; cases h
  rw [h1] at h
  cases h2 : ((getS now sure 32).n == 0)
  · rw [h2] at h
    simp only [cond_true, cond_false, ckAt, Option.bind_eq_some_iff] at h
    obtain ⟨_, _, _, h3, h4⟩ := h
    split at h4
    · cases h4; exact readS_stands h3
    · cases h4
  · rw [h2] at h; cases h
theorem stOf_len (now sure : List Sector) : (stG (stOf now sure)).items.length ≤ 1000 ∧ (stG (stOf now sure)).l0.length ≤ 1000 ∧ (stG (stOf now sure)).l1.length ≤ 1000 ∧ (stG (stOf now sure)).l2.length ≤ 1000 := by
  cases h : stOf now sure with
  | none => simp [stG]
  | some s =>
    obtain ⟨p, it, l0, l1, l2, c0, c1, c2⟩ := s
    obtain ⟨hp, hn, hi, ⟨_, h0, _⟩, ⟨_, h1, _⟩, ⟨_, h2, _⟩⟩ := stands_facts (stOf_stands h)
    simp only [stG, Option.getD_some]
    omega
theorem stOf_lk (now sure : List Sector) : lenOK (stG (stOf now sure)).items.length = true ∧ lenOK (stG (stOf now sure)).l0.length = true ∧ lenOK (stG (stOf now sure)).l1.length = true ∧ lenOK (stG (stOf now sure)).l2.length = true := by
  obtain ⟨h0, h1, h2, h3⟩ := stOf_len now sure
  exact ⟨lenOK_of (by omega), lenOK_of (by omega), lenOK_of (by omega), lenOK_of (by omega)⟩
theorem lens2 (a b c d : List Sector) : (lenOK (stG (stOf a b)).items.length && lenOK (stG (stOf c d)).items.length && (lenOK (stG (stOf a b)).l0.length && lenOK (stG (stOf c d)).l0.length) && (lenOK (stG (stOf a b)).l1.length && lenOK (stG (stOf c d)).l1.length) && (lenOK (stG (stOf a b)).l2.length && lenOK (stG (stOf c d)).l2.length)) = true := by
  obtain ⟨h0, h1, h2, h3⟩ := stOf_lk a b
  obtain ⟨g0, g1, g2, g3⟩ := stOf_lk c d
  rw [h0, h1, h2, h3, g0, g1, g2, g3]; rfl
theorem lens1 (a b : List Sector) {i : List Item} {x y z : List Line} (g0 : lenOK i.length = true) (g1 : lenOK x.length = true) (g2 : lenOK y.length = true) (g3 : lenOK z.length = true) : (lenOK (stG (stOf a b)).items.length && lenOK i.length && (lenOK (stG (stOf a b)).l0.length && lenOK x.length) && (lenOK (stG (stOf a b)).l1.length && lenOK y.length) && (lenOK (stG (stOf a b)).l2.length && lenOK z.length)) = true := by
  obtain ⟨h0, h1, h2, h3⟩ := stOf_lk a b
  rw [h0, h1, h2, h3, g0, g1, g2, g3]; rfl
open Go.Proofs
noncomputable def ckptBack_e (c : Bool) (now : List Sector) (d : Bool) (sure : List Sector) (n : Int) (p : Int) (ci : Bool) (items : List Item) (k0 : Bool) (k1 : Bool) (k2 : Bool) (l0 : List Line) (l1 : List Line) (l2 : List Line) (c0 : Int) (c1 : Int) (c2 : Int) (lost : Int) := evF s07 ux_1 60 3 [.acons (.sl (C := RC) .sector c now) (.acons (.sl (C := RC) .sector d sure) .anil), .int .i64 n, .acons (.int .i64 p) (.acons (.sl (C := RC) .item ci items) (.acons (.acons (.sl (C := RC) .line k0 l0) (.acons (.sl (C := RC) .line k1 l1) (.acons (.sl (C := RC) .line k2 l2) .anil))) (.acons (.arr (C := RC) .int 3 [c0, c1, c2]) .anil))), .int .u64 lost]
set_option maxHeartbeats 4000000 in
theorem ckptBack_eq (c : Bool) (now : List Sector) (d : Bool) (sure : List Sector) (n : Int) (p : Int) (ci : Bool) (items : List Item) (k0 : Bool) (k1 : Bool) (k2 : Bool) (l0 : List Line) (l1 : List Line) (l2 : List Line) (c0 : Int) (c1 : Int) (c2 : Int) (lost : Int) : ckptBack_e c now d sure n p ci items k0 k1 k2 l0 l1 l2 c0 c1 c2 lost = (bif goodL now && goodL sure then bif greatD now sure then some (D.bool true) else bif lenOK items.length then bif decide ((60 : Int) < (↑items.length : Int)) then some (D.bool true) else bif lenOK l0.length then bif decide ((40 : Int) < (↑l0.length : Int)) then some (D.bool true) else bif lenOK l1.length then bif decide ((40 : Int) < (↑l1.length : Int)) then some (D.bool true) else bif lenOK l2.length then bif decide ((40 : Int) < (↑l2.length : Int)) then some (D.bool true) else bif goodL now && goodL sure then bif (bif diskOK now sure then (0 : Int) else (2 : Int)) != (0 : Int) then some (D.bool true) else bif goodL now && goodL sure && decide (List.length items ≤ (9223372036854775807 : Nat) ∧ List.length l0 ≤ (9223372036854775807 : Nat) ∧ List.length l1 ≤ (9223372036854775807 : Nat) ∧ List.length l2 ≤ (9223372036854775807 : Nat)) then bif (bif okPut now sure (32 : Int) n (ckB n (St.mk p items l0 l1 l2 c0 c1 c2)) then (0 : Int) else (2 : Int)) != (0 : Int) then bif lenOK (pNow now sure (32 : Int) n (ckB n (St.mk p items l0 l1 l2 c0 c1 c2))).length then bif (↑(pNow now sure (32 : Int) n (ckB n (St.mk p items l0 l1 l2 c0 c1 c2))).length : Int) == (0 : Int) then some (D.bool true) else some (D.bool false) else none else bif goodL now && goodL sure then bif goodL (pNow now sure (32 : Int) n (ckB n (St.mk p items l0 l1 l2 c0 c1 c2))) && goodL (pSure now sure (32 : Int) n (ckB n (St.mk p items l0 l1 l2 c0 c1 c2))) then bif decide ((0 : Int) ≤ (32 : Int) ∧ (32 : Int) < (↑now.length : Int)) then bif decide (Sector.n (List.getD now (32 : Nat) (Sector.mk (0 : Int) [])) < n) then bif errC (pNow now sure (32 : Int) n (ckB n (St.mk p items l0 l1 l2 c0 c1 c2))) (pSure now sure (32 : Int) n (ckB n (St.mk p items l0 l1 l2 c0 c1 c2))) != (0 : Int) then some (D.bool false) else bif numC (pNow now sure (32 : Int) n (ckB n (St.mk p items l0 l1 l2 c0 c1 c2))) (pSure now sure (32 : Int) n (ckB n (St.mk p items l0 l1 l2 c0 c1 c2))) != n then some (D.bool false) else bif lenOK (stG (stOf (pNow now sure (32 : Int) n (ckB n (St.mk p items l0 l1 l2 c0 c1 c2))) (pSure now sure (32 : Int) n (ckB n (St.mk p items l0 l1 l2 c0 c1 c2))))).items.length && lenOK items.length && (lenOK (stG (stOf (pNow now sure (32 : Int) n (ckB n (St.mk p items l0 l1 l2 c0 c1 c2))) (pSure now sure (32 : Int) n (ckB n (St.mk p items l0 l1 l2 c0 c1 c2))))).l0.length && lenOK l0.length) && (lenOK (stG (stOf (pNow now sure (32 : Int) n (ckB n (St.mk p items l0 l1 l2 c0 c1 c2))) (pSure now sure (32 : Int) n (ckB n (St.mk p items l0 l1 l2 c0 c1 c2))))).l1.length && lenOK l1.length) && (lenOK (stG (stOf (pNow now sure (32 : Int) n (ckB n (St.mk p items l0 l1 l2 c0 c1 c2))) (pSure now sure (32 : Int) n (ckB n (St.mk p items l0 l1 l2 c0 c1 c2))))).l2.length && lenOK l2.length) then bif !decide (St.mk (stG (stOf (pNow now sure (32 : Int) n (ckB n (St.mk p items l0 l1 l2 c0 c1 c2))) (pSure now sure (32 : Int) n (ckB n (St.mk p items l0 l1 l2 c0 c1 c2))))).place (stG (stOf (pNow now sure (32 : Int) n (ckB n (St.mk p items l0 l1 l2 c0 c1 c2))) (pSure now sure (32 : Int) n (ckB n (St.mk p items l0 l1 l2 c0 c1 c2))))).items (stG (stOf (pNow now sure (32 : Int) n (ckB n (St.mk p items l0 l1 l2 c0 c1 c2))) (pSure now sure (32 : Int) n (ckB n (St.mk p items l0 l1 l2 c0 c1 c2))))).l0 (stG (stOf (pNow now sure (32 : Int) n (ckB n (St.mk p items l0 l1 l2 c0 c1 c2))) (pSure now sure (32 : Int) n (ckB n (St.mk p items l0 l1 l2 c0 c1 c2))))).l1 (stG (stOf (pNow now sure (32 : Int) n (ckB n (St.mk p items l0 l1 l2 c0 c1 c2))) (pSure now sure (32 : Int) n (ckB n (St.mk p items l0 l1 l2 c0 c1 c2))))).l2 (stG (stOf (pNow now sure (32 : Int) n (ckB n (St.mk p items l0 l1 l2 c0 c1 c2))) (pSure now sure (32 : Int) n (ckB n (St.mk p items l0 l1 l2 c0 c1 c2))))).c0 (stG (stOf (pNow now sure (32 : Int) n (ckB n (St.mk p items l0 l1 l2 c0 c1 c2))) (pSure now sure (32 : Int) n (ckB n (St.mk p items l0 l1 l2 c0 c1 c2))))).c1 (stG (stOf (pNow now sure (32 : Int) n (ckB n (St.mk p items l0 l1 l2 c0 c1 c2))) (pSure now sure (32 : Int) n (ckB n (St.mk p items l0 l1 l2 c0 c1 c2))))).c2 = St.mk p items l0 l1 l2 c0 c1 c2) then some (D.bool false) else bif goodL (pNow now sure (32 : Int) n (ckB n (St.mk p items l0 l1 l2 c0 c1 c2))) && goodL (pSure now sure (32 : Int) n (ckB n (St.mk p items l0 l1 l2 c0 c1 c2))) then bif (bif diskOK (pNow now sure (32 : Int) n (ckB n (St.mk p items l0 l1 l2 c0 c1 c2))) (pSure now sure (32 : Int) n (ckB n (St.mk p items l0 l1 l2 c0 c1 c2))) then (0 : Int) else (2 : Int)) != (0 : Int) then some (D.bool false) else bif goodL (bif diskOK (pNow now sure (32 : Int) n (ckB n (St.mk p items l0 l1 l2 c0 c1 c2))) (pSure now sure (32 : Int) n (ckB n (St.mk p items l0 l1 l2 c0 c1 c2))) then Prod.fst (crashF lost (33 : Nat) (0 : Nat) (pNow now sure (32 : Int) n (ckB n (St.mk p items l0 l1 l2 c0 c1 c2))) (pSure now sure (32 : Int) n (ckB n (St.mk p items l0 l1 l2 c0 c1 c2)))) else []) && goodL (bif diskOK (pNow now sure (32 : Int) n (ckB n (St.mk p items l0 l1 l2 c0 c1 c2))) (pSure now sure (32 : Int) n (ckB n (St.mk p items l0 l1 l2 c0 c1 c2))) then Prod.snd (crashF lost (33 : Nat) (0 : Nat) (pNow now sure (32 : Int) n (ckB n (St.mk p items l0 l1 l2 c0 c1 c2))) (pSure now sure (32 : Int) n (ckB n (St.mk p items l0 l1 l2 c0 c1 c2)))) else []) then bif sizeOK ((0 : Nat) + List.length sure) (24 : Nat) then bif sizeOK ((0 : Nat) + List.length sure) (24 : Nat) then bif Nat.beq ((0 : Nat) + List.length sure) (List.replicate (0 : Nat) (Sector.mk (0 : Int) []) ++ sure).length then bif Nat.beq ((0 : Nat) + List.length sure) (List.replicate (0 : Nat) (Sector.mk (0 : Int) []) ++ sure).length then bif goodL (List.replicate (0 : Nat) (Sector.mk (0 : Int) []) ++ sure) && goodL (List.replicate (0 : Nat) (Sector.mk (0 : Int) []) ++ sure) then bif errC (bif diskOK (pNow now sure (32 : Int) n (ckB n (St.mk p items l0 l1 l2 c0 c1 c2))) (pSure now sure (32 : Int) n (ckB n (St.mk p items l0 l1 l2 c0 c1 c2))) then Prod.fst (crashF lost (33 : Nat) (0 : Nat) (pNow now sure (32 : Int) n (ckB n (St.mk p items l0 l1 l2 c0 c1 c2))) (pSure now sure (32 : Int) n (ckB n (St.mk p items l0 l1 l2 c0 c1 c2)))) else []) (bif diskOK (pNow now sure (32 : Int) n (ckB n (St.mk p items l0 l1 l2 c0 c1 c2))) (pSure now sure (32 : Int) n (ckB n (St.mk p items l0 l1 l2 c0 c1 c2))) then Prod.snd (crashF lost (33 : Nat) (0 : Nat) (pNow now sure (32 : Int) n (ckB n (St.mk p items l0 l1 l2 c0 c1 c2))) (pSure now sure (32 : Int) n (ckB n (St.mk p items l0 l1 l2 c0 c1 c2)))) else []) == errC (pNow now sure (32 : Int) n (ckB n (St.mk p items l0 l1 l2 c0 c1 c2))) (pSure now sure (32 : Int) n (ckB n (St.mk p items l0 l1 l2 c0 c1 c2))) then bif numC (bif diskOK (pNow now sure (32 : Int) n (ckB n (St.mk p items l0 l1 l2 c0 c1 c2))) (pSure now sure (32 : Int) n (ckB n (St.mk p items l0 l1 l2 c0 c1 c2))) then Prod.fst (crashF lost (33 : Nat) (0 : Nat) (pNow now sure (32 : Int) n (ckB n (St.mk p items l0 l1 l2 c0 c1 c2))) (pSure now sure (32 : Int) n (ckB n (St.mk p items l0 l1 l2 c0 c1 c2)))) else []) (bif diskOK (pNow now sure (32 : Int) n (ckB n (St.mk p items l0 l1 l2 c0 c1 c2))) (pSure now sure (32 : Int) n (ckB n (St.mk p items l0 l1 l2 c0 c1 c2))) then Prod.snd (crashF lost (33 : Nat) (0 : Nat) (pNow now sure (32 : Int) n (ckB n (St.mk p items l0 l1 l2 c0 c1 c2))) (pSure now sure (32 : Int) n (ckB n (St.mk p items l0 l1 l2 c0 c1 c2)))) else []) == numC (pNow now sure (32 : Int) n (ckB n (St.mk p items l0 l1 l2 c0 c1 c2))) (pSure now sure (32 : Int) n (ckB n (St.mk p items l0 l1 l2 c0 c1 c2))) then bif lenOK (stG (stOf (bif diskOK (pNow now sure (32 : Int) n (ckB n (St.mk p items l0 l1 l2 c0 c1 c2))) (pSure now sure (32 : Int) n (ckB n (St.mk p items l0 l1 l2 c0 c1 c2))) then Prod.fst (crashF lost (33 : Nat) (0 : Nat) (pNow now sure (32 : Int) n (ckB n (St.mk p items l0 l1 l2 c0 c1 c2))) (pSure now sure (32 : Int) n (ckB n (St.mk p items l0 l1 l2 c0 c1 c2)))) else []) (bif diskOK (pNow now sure (32 : Int) n (ckB n (St.mk p items l0 l1 l2 c0 c1 c2))) (pSure now sure (32 : Int) n (ckB n (St.mk p items l0 l1 l2 c0 c1 c2))) then Prod.snd (crashF lost (33 : Nat) (0 : Nat) (pNow now sure (32 : Int) n (ckB n (St.mk p items l0 l1 l2 c0 c1 c2))) (pSure now sure (32 : Int) n (ckB n (St.mk p items l0 l1 l2 c0 c1 c2)))) else []))).items.length && lenOK (stG (stOf (pNow now sure (32 : Int) n (ckB n (St.mk p items l0 l1 l2 c0 c1 c2))) (pSure now sure (32 : Int) n (ckB n (St.mk p items l0 l1 l2 c0 c1 c2))))).items.length && (lenOK (stG (stOf (bif diskOK (pNow now sure (32 : Int) n (ckB n (St.mk p items l0 l1 l2 c0 c1 c2))) (pSure now sure (32 : Int) n (ckB n (St.mk p items l0 l1 l2 c0 c1 c2))) then Prod.fst (crashF lost (33 : Nat) (0 : Nat) (pNow now sure (32 : Int) n (ckB n (St.mk p items l0 l1 l2 c0 c1 c2))) (pSure now sure (32 : Int) n (ckB n (St.mk p items l0 l1 l2 c0 c1 c2)))) else []) (bif diskOK (pNow now sure (32 : Int) n (ckB n (St.mk p items l0 l1 l2 c0 c1 c2))) (pSure now sure (32 : Int) n (ckB n (St.mk p items l0 l1 l2 c0 c1 c2))) then Prod.snd (crashF lost (33 : Nat) (0 : Nat) (pNow now sure (32 : Int) n (ckB n (St.mk p items l0 l1 l2 c0 c1 c2))) (pSure now sure (32 : Int) n (ckB n (St.mk p items l0 l1 l2 c0 c1 c2)))) else []))).l0.length && lenOK (stG (stOf (pNow now sure (32 : Int) n (ckB n (St.mk p items l0 l1 l2 c0 c1 c2))) (pSure now sure (32 : Int) n (ckB n (St.mk p items l0 l1 l2 c0 c1 c2))))).l0.length) && (lenOK (stG (stOf (bif diskOK (pNow now sure (32 : Int) n (ckB n (St.mk p items l0 l1 l2 c0 c1 c2))) (pSure now sure (32 : Int) n (ckB n (St.mk p items l0 l1 l2 c0 c1 c2))) then Prod.fst (crashF lost (33 : Nat) (0 : Nat) (pNow now sure (32 : Int) n (ckB n (St.mk p items l0 l1 l2 c0 c1 c2))) (pSure now sure (32 : Int) n (ckB n (St.mk p items l0 l1 l2 c0 c1 c2)))) else []) (bif diskOK (pNow now sure (32 : Int) n (ckB n (St.mk p items l0 l1 l2 c0 c1 c2))) (pSure now sure (32 : Int) n (ckB n (St.mk p items l0 l1 l2 c0 c1 c2))) then Prod.snd (crashF lost (33 : Nat) (0 : Nat) (pNow now sure (32 : Int) n (ckB n (St.mk p items l0 l1 l2 c0 c1 c2))) (pSure now sure (32 : Int) n (ckB n (St.mk p items l0 l1 l2 c0 c1 c2)))) else []))).l1.length && lenOK (stG (stOf (pNow now sure (32 : Int) n (ckB n (St.mk p items l0 l1 l2 c0 c1 c2))) (pSure now sure (32 : Int) n (ckB n (St.mk p items l0 l1 l2 c0 c1 c2))))).l1.length) && (lenOK (stG (stOf (bif diskOK (pNow now sure (32 : Int) n (ckB n (St.mk p items l0 l1 l2 c0 c1 c2))) (pSure now sure (32 : Int) n (ckB n (St.mk p items l0 l1 l2 c0 c1 c2))) then Prod.fst (crashF lost (33 : Nat) (0 : Nat) (pNow now sure (32 : Int) n (ckB n (St.mk p items l0 l1 l2 c0 c1 c2))) (pSure now sure (32 : Int) n (ckB n (St.mk p items l0 l1 l2 c0 c1 c2)))) else []) (bif diskOK (pNow now sure (32 : Int) n (ckB n (St.mk p items l0 l1 l2 c0 c1 c2))) (pSure now sure (32 : Int) n (ckB n (St.mk p items l0 l1 l2 c0 c1 c2))) then Prod.snd (crashF lost (33 : Nat) (0 : Nat) (pNow now sure (32 : Int) n (ckB n (St.mk p items l0 l1 l2 c0 c1 c2))) (pSure now sure (32 : Int) n (ckB n (St.mk p items l0 l1 l2 c0 c1 c2)))) else []))).l2.length && lenOK (stG (stOf (pNow now sure (32 : Int) n (ckB n (St.mk p items l0 l1 l2 c0 c1 c2))) (pSure now sure (32 : Int) n (ckB n (St.mk p items l0 l1 l2 c0 c1 c2))))).l2.length) then bif decide (St.mk (stG (stOf (bif diskOK (pNow now sure (32 : Int) n (ckB n (St.mk p items l0 l1 l2 c0 c1 c2))) (pSure now sure (32 : Int) n (ckB n (St.mk p items l0 l1 l2 c0 c1 c2))) then Prod.fst (crashF lost (33 : Nat) (0 : Nat) (pNow now sure (32 : Int) n (ckB n (St.mk p items l0 l1 l2 c0 c1 c2))) (pSure now sure (32 : Int) n (ckB n (St.mk p items l0 l1 l2 c0 c1 c2)))) else []) (bif diskOK (pNow now sure (32 : Int) n (ckB n (St.mk p items l0 l1 l2 c0 c1 c2))) (pSure now sure (32 : Int) n (ckB n (St.mk p items l0 l1 l2 c0 c1 c2))) then Prod.snd (crashF lost (33 : Nat) (0 : Nat) (pNow now sure (32 : Int) n (ckB n (St.mk p items l0 l1 l2 c0 c1 c2))) (pSure now sure (32 : Int) n (ckB n (St.mk p items l0 l1 l2 c0 c1 c2)))) else []))).place (stG (stOf (bif diskOK (pNow now sure (32 : Int) n (ckB n (St.mk p items l0 l1 l2 c0 c1 c2))) (pSure now sure (32 : Int) n (ckB n (St.mk p items l0 l1 l2 c0 c1 c2))) then Prod.fst (crashF lost (33 : Nat) (0 : Nat) (pNow now sure (32 : Int) n (ckB n (St.mk p items l0 l1 l2 c0 c1 c2))) (pSure now sure (32 : Int) n (ckB n (St.mk p items l0 l1 l2 c0 c1 c2)))) else []) (bif diskOK (pNow now sure (32 : Int) n (ckB n (St.mk p items l0 l1 l2 c0 c1 c2))) (pSure now sure (32 : Int) n (ckB n (St.mk p items l0 l1 l2 c0 c1 c2))) then Prod.snd (crashF lost (33 : Nat) (0 : Nat) (pNow now sure (32 : Int) n (ckB n (St.mk p items l0 l1 l2 c0 c1 c2))) (pSure now sure (32 : Int) n (ckB n (St.mk p items l0 l1 l2 c0 c1 c2)))) else []))).items (stG (stOf (bif diskOK (pNow now sure (32 : Int) n (ckB n (St.mk p items l0 l1 l2 c0 c1 c2))) (pSure now sure (32 : Int) n (ckB n (St.mk p items l0 l1 l2 c0 c1 c2))) then Prod.fst (crashF lost (33 : Nat) (0 : Nat) (pNow now sure (32 : Int) n (ckB n (St.mk p items l0 l1 l2 c0 c1 c2))) (pSure now sure (32 : Int) n (ckB n (St.mk p items l0 l1 l2 c0 c1 c2)))) else []) (bif diskOK (pNow now sure (32 : Int) n (ckB n (St.mk p items l0 l1 l2 c0 c1 c2))) (pSure now sure (32 : Int) n (ckB n (St.mk p items l0 l1 l2 c0 c1 c2))) then Prod.snd (crashF lost (33 : Nat) (0 : Nat) (pNow now sure (32 : Int) n (ckB n (St.mk p items l0 l1 l2 c0 c1 c2))) (pSure now sure (32 : Int) n (ckB n (St.mk p items l0 l1 l2 c0 c1 c2)))) else []))).l0 (stG (stOf (bif diskOK (pNow now sure (32 : Int) n (ckB n (St.mk p items l0 l1 l2 c0 c1 c2))) (pSure now sure (32 : Int) n (ckB n (St.mk p items l0 l1 l2 c0 c1 c2))) then Prod.fst (crashF lost (33 : Nat) (0 : Nat) (pNow now sure (32 : Int) n (ckB n (St.mk p items l0 l1 l2 c0 c1 c2))) (pSure now sure (32 : Int) n (ckB n (St.mk p items l0 l1 l2 c0 c1 c2)))) else []) (bif diskOK (pNow now sure (32 : Int) n (ckB n (St.mk p items l0 l1 l2 c0 c1 c2))) (pSure now sure (32 : Int) n (ckB n (St.mk p items l0 l1 l2 c0 c1 c2))) then Prod.snd (crashF lost (33 : Nat) (0 : Nat) (pNow now sure (32 : Int) n (ckB n (St.mk p items l0 l1 l2 c0 c1 c2))) (pSure now sure (32 : Int) n (ckB n (St.mk p items l0 l1 l2 c0 c1 c2)))) else []))).l1 (stG (stOf (bif diskOK (pNow now sure (32 : Int) n (ckB n (St.mk p items l0 l1 l2 c0 c1 c2))) (pSure now sure (32 : Int) n (ckB n (St.mk p items l0 l1 l2 c0 c1 c2))) then Prod.fst (crashF lost (33 : Nat) (0 : Nat) (pNow now sure (32 : Int) n (ckB n (St.mk p items l0 l1 l2 c0 c1 c2))) (pSure now sure (32 : Int) n (ckB n (St.mk p items l0 l1 l2 c0 c1 c2)))) else []) (bif diskOK (pNow now sure (32 : Int) n (ckB n (St.mk p items l0 l1 l2 c0 c1 c2))) (pSure now sure (32 : Int) n (ckB n (St.mk p items l0 l1 l2 c0 c1 c2))) then Prod.snd (crashF lost (33 : Nat) (0 : Nat) (pNow now sure (32 : Int) n (ckB n (St.mk p items l0 l1 l2 c0 c1 c2))) (pSure now sure (32 : Int) n (ckB n (St.mk p items l0 l1 l2 c0 c1 c2)))) else []))).l2 (stG (stOf (bif diskOK (pNow now sure (32 : Int) n (ckB n (St.mk p items l0 l1 l2 c0 c1 c2))) (pSure now sure (32 : Int) n (ckB n (St.mk p items l0 l1 l2 c0 c1 c2))) then Prod.fst (crashF lost (33 : Nat) (0 : Nat) (pNow now sure (32 : Int) n (ckB n (St.mk p items l0 l1 l2 c0 c1 c2))) (pSure now sure (32 : Int) n (ckB n (St.mk p items l0 l1 l2 c0 c1 c2)))) else []) (bif diskOK (pNow now sure (32 : Int) n (ckB n (St.mk p items l0 l1 l2 c0 c1 c2))) (pSure now sure (32 : Int) n (ckB n (St.mk p items l0 l1 l2 c0 c1 c2))) then Prod.snd (crashF lost (33 : Nat) (0 : Nat) (pNow now sure (32 : Int) n (ckB n (St.mk p items l0 l1 l2 c0 c1 c2))) (pSure now sure (32 : Int) n (ckB n (St.mk p items l0 l1 l2 c0 c1 c2)))) else []))).c0 (stG (stOf (bif diskOK (pNow now sure (32 : Int) n (ckB n (St.mk p items l0 l1 l2 c0 c1 c2))) (pSure now sure (32 : Int) n (ckB n (St.mk p items l0 l1 l2 c0 c1 c2))) then Prod.fst (crashF lost (33 : Nat) (0 : Nat) (pNow now sure (32 : Int) n (ckB n (St.mk p items l0 l1 l2 c0 c1 c2))) (pSure now sure (32 : Int) n (ckB n (St.mk p items l0 l1 l2 c0 c1 c2)))) else []) (bif diskOK (pNow now sure (32 : Int) n (ckB n (St.mk p items l0 l1 l2 c0 c1 c2))) (pSure now sure (32 : Int) n (ckB n (St.mk p items l0 l1 l2 c0 c1 c2))) then Prod.snd (crashF lost (33 : Nat) (0 : Nat) (pNow now sure (32 : Int) n (ckB n (St.mk p items l0 l1 l2 c0 c1 c2))) (pSure now sure (32 : Int) n (ckB n (St.mk p items l0 l1 l2 c0 c1 c2)))) else []))).c1 (stG (stOf (bif diskOK (pNow now sure (32 : Int) n (ckB n (St.mk p items l0 l1 l2 c0 c1 c2))) (pSure now sure (32 : Int) n (ckB n (St.mk p items l0 l1 l2 c0 c1 c2))) then Prod.fst (crashF lost (33 : Nat) (0 : Nat) (pNow now sure (32 : Int) n (ckB n (St.mk p items l0 l1 l2 c0 c1 c2))) (pSure now sure (32 : Int) n (ckB n (St.mk p items l0 l1 l2 c0 c1 c2)))) else []) (bif diskOK (pNow now sure (32 : Int) n (ckB n (St.mk p items l0 l1 l2 c0 c1 c2))) (pSure now sure (32 : Int) n (ckB n (St.mk p items l0 l1 l2 c0 c1 c2))) then Prod.snd (crashF lost (33 : Nat) (0 : Nat) (pNow now sure (32 : Int) n (ckB n (St.mk p items l0 l1 l2 c0 c1 c2))) (pSure now sure (32 : Int) n (ckB n (St.mk p items l0 l1 l2 c0 c1 c2)))) else []))).c2 = St.mk (stG (stOf (pNow now sure (32 : Int) n (ckB n (St.mk p items l0 l1 l2 c0 c1 c2))) (pSure now sure (32 : Int) n (ckB n (St.mk p items l0 l1 l2 c0 c1 c2))))).place (stG (stOf (pNow now sure (32 : Int) n (ckB n (St.mk p items l0 l1 l2 c0 c1 c2))) (pSure now sure (32 : Int) n (ckB n (St.mk p items l0 l1 l2 c0 c1 c2))))).items (stG (stOf (pNow now sure (32 : Int) n (ckB n (St.mk p items l0 l1 l2 c0 c1 c2))) (pSure now sure (32 : Int) n (ckB n (St.mk p items l0 l1 l2 c0 c1 c2))))).l0 (stG (stOf (pNow now sure (32 : Int) n (ckB n (St.mk p items l0 l1 l2 c0 c1 c2))) (pSure now sure (32 : Int) n (ckB n (St.mk p items l0 l1 l2 c0 c1 c2))))).l1 (stG (stOf (pNow now sure (32 : Int) n (ckB n (St.mk p items l0 l1 l2 c0 c1 c2))) (pSure now sure (32 : Int) n (ckB n (St.mk p items l0 l1 l2 c0 c1 c2))))).l2 (stG (stOf (pNow now sure (32 : Int) n (ckB n (St.mk p items l0 l1 l2 c0 c1 c2))) (pSure now sure (32 : Int) n (ckB n (St.mk p items l0 l1 l2 c0 c1 c2))))).c0 (stG (stOf (pNow now sure (32 : Int) n (ckB n (St.mk p items l0 l1 l2 c0 c1 c2))) (pSure now sure (32 : Int) n (ckB n (St.mk p items l0 l1 l2 c0 c1 c2))))).c1 (stG (stOf (pNow now sure (32 : Int) n (ckB n (St.mk p items l0 l1 l2 c0 c1 c2))) (pSure now sure (32 : Int) n (ckB n (St.mk p items l0 l1 l2 c0 c1 c2))))).c2) then some (D.bool true) else bif errC (bif diskOK (pNow now sure (32 : Int) n (ckB n (St.mk p items l0 l1 l2 c0 c1 c2))) (pSure now sure (32 : Int) n (ckB n (St.mk p items l0 l1 l2 c0 c1 c2))) then Prod.fst (crashF lost (33 : Nat) (0 : Nat) (pNow now sure (32 : Int) n (ckB n (St.mk p items l0 l1 l2 c0 c1 c2))) (pSure now sure (32 : Int) n (ckB n (St.mk p items l0 l1 l2 c0 c1 c2)))) else []) (bif diskOK (pNow now sure (32 : Int) n (ckB n (St.mk p items l0 l1 l2 c0 c1 c2))) (pSure now sure (32 : Int) n (ckB n (St.mk p items l0 l1 l2 c0 c1 c2))) then Prod.snd (crashF lost (33 : Nat) (0 : Nat) (pNow now sure (32 : Int) n (ckB n (St.mk p items l0 l1 l2 c0 c1 c2))) (pSure now sure (32 : Int) n (ckB n (St.mk p items l0 l1 l2 c0 c1 c2)))) else []) == errC (List.replicate (0 : Nat) (Sector.mk (0 : Int) []) ++ sure) (List.replicate (0 : Nat) (Sector.mk (0 : Int) []) ++ sure) then bif numC (bif diskOK (pNow now sure (32 : Int) n (ckB n (St.mk p items l0 l1 l2 c0 c1 c2))) (pSure now sure (32 : Int) n (ckB n (St.mk p items l0 l1 l2 c0 c1 c2))) then Prod.fst (crashF lost (33 : Nat) (0 : Nat) (pNow now sure (32 : Int) n (ckB n (St.mk p items l0 l1 l2 c0 c1 c2))) (pSure now sure (32 : Int) n (ckB n (St.mk p items l0 l1 l2 c0 c1 c2)))) else []) (bif diskOK (pNow now sure (32 : Int) n (ckB n (St.mk p items l0 l1 l2 c0 c1 c2))) (pSure now sure (32 : Int) n (ckB n (St.mk p items l0 l1 l2 c0 c1 c2))) then Prod.snd (crashF lost (33 : Nat) (0 : Nat) (pNow now sure (32 : Int) n (ckB n (St.mk p items l0 l1 l2 c0 c1 c2))) (pSure now sure (32 : Int) n (ckB n (St.mk p items l0 l1 l2 c0 c1 c2)))) else []) == numC (List.replicate (0 : Nat) (Sector.mk (0 : Int) []) ++ sure) (List.replicate (0 : Nat) (Sector.mk (0 : Int) []) ++ sure) then bif lenOK (stG (stOf (bif diskOK (pNow now sure (32 : Int) n (ckB n (St.mk p items l0 l1 l2 c0 c1 c2))) (pSure now sure (32 : Int) n (ckB n (St.mk p items l0 l1 l2 c0 c1 c2))) then Prod.fst (crashF lost (33 : Nat) (0 : Nat) (pNow now sure (32 : Int) n (ckB n (St.mk p items l0 l1 l2 c0 c1 c2))) (pSure now sure (32 : Int) n (ckB n (St.mk p items l0 l1 l2 c0 c1 c2)))) else []) (bif diskOK (pNow now sure (32 : Int) n (ckB n (St.mk p items l0 l1 l2 c0 c1 c2))) (pSure now sure (32 : Int) n (ckB n (St.mk p items l0 l1 l2 c0 c1 c2))) then Prod.snd (crashF lost (33 : Nat) (0 : Nat) (pNow now sure (32 : Int) n (ckB n (St.mk p items l0 l1 l2 c0 c1 c2))) (pSure now sure (32 : Int) n (ckB n (St.mk p items l0 l1 l2 c0 c1 c2)))) else []))).items.length && lenOK (stG (stOf (List.replicate (0 : Nat) (Sector.mk (0 : Int) []) ++ sure) (List.replicate (0 : Nat) (Sector.mk (0 : Int) []) ++ sure))).items.length && (lenOK (stG (stOf (bif diskOK (pNow now sure (32 : Int) n (ckB n (St.mk p items l0 l1 l2 c0 c1 c2))) (pSure now sure (32 : Int) n (ckB n (St.mk p items l0 l1 l2 c0 c1 c2))) then Prod.fst (crashF lost (33 : Nat) (0 : Nat) (pNow now sure (32 : Int) n (ckB n (St.mk p items l0 l1 l2 c0 c1 c2))) (pSure now sure (32 : Int) n (ckB n (St.mk p items l0 l1 l2 c0 c1 c2)))) else []) (bif diskOK (pNow now sure (32 : Int) n (ckB n (St.mk p items l0 l1 l2 c0 c1 c2))) (pSure now sure (32 : Int) n (ckB n (St.mk p items l0 l1 l2 c0 c1 c2))) then Prod.snd (crashF lost (33 : Nat) (0 : Nat) (pNow now sure (32 : Int) n (ckB n (St.mk p items l0 l1 l2 c0 c1 c2))) (pSure now sure (32 : Int) n (ckB n (St.mk p items l0 l1 l2 c0 c1 c2)))) else []))).l0.length && lenOK (stG (stOf (List.replicate (0 : Nat) (Sector.mk (0 : Int) []) ++ sure) (List.replicate (0 : Nat) (Sector.mk (0 : Int) []) ++ sure))).l0.length) && (lenOK (stG (stOf (bif diskOK (pNow now sure (32 : Int) n (ckB n (St.mk p items l0 l1 l2 c0 c1 c2))) (pSure now sure (32 : Int) n (ckB n (St.mk p items l0 l1 l2 c0 c1 c2))) then Prod.fst (crashF lost (33 : Nat) (0 : Nat) (pNow now sure (32 : Int) n (ckB n (St.mk p items l0 l1 l2 c0 c1 c2))) (pSure now sure (32 : Int) n (ckB n (St.mk p items l0 l1 l2 c0 c1 c2)))) else []) (bif diskOK (pNow now sure (32 : Int) n (ckB n (St.mk p items l0 l1 l2 c0 c1 c2))) (pSure now sure (32 : Int) n (ckB n (St.mk p items l0 l1 l2 c0 c1 c2))) then Prod.snd (crashF lost (33 : Nat) (0 : Nat) (pNow now sure (32 : Int) n (ckB n (St.mk p items l0 l1 l2 c0 c1 c2))) (pSure now sure (32 : Int) n (ckB n (St.mk p items l0 l1 l2 c0 c1 c2)))) else []))).l1.length && lenOK (stG (stOf (List.replicate (0 : Nat) (Sector.mk (0 : Int) []) ++ sure) (List.replicate (0 : Nat) (Sector.mk (0 : Int) []) ++ sure))).l1.length) && (lenOK (stG (stOf (bif diskOK (pNow now sure (32 : Int) n (ckB n (St.mk p items l0 l1 l2 c0 c1 c2))) (pSure now sure (32 : Int) n (ckB n (St.mk p items l0 l1 l2 c0 c1 c2))) then Prod.fst (crashF lost (33 : Nat) (0 : Nat) (pNow now sure (32 : Int) n (ckB n (St.mk p items l0 l1 l2 c0 c1 c2))) (pSure now sure (32 : Int) n (ckB n (St.mk p items l0 l1 l2 c0 c1 c2)))) else []) (bif diskOK (pNow now sure (32 : Int) n (ckB n (St.mk p items l0 l1 l2 c0 c1 c2))) (pSure now sure (32 : Int) n (ckB n (St.mk p items l0 l1 l2 c0 c1 c2))) then Prod.snd (crashF lost (33 : Nat) (0 : Nat) (pNow now sure (32 : Int) n (ckB n (St.mk p items l0 l1 l2 c0 c1 c2))) (pSure now sure (32 : Int) n (ckB n (St.mk p items l0 l1 l2 c0 c1 c2)))) else []))).l2.length && lenOK (stG (stOf (List.replicate (0 : Nat) (Sector.mk (0 : Int) []) ++ sure) (List.replicate (0 : Nat) (Sector.mk (0 : Int) []) ++ sure))).l2.length) then bif decide (St.mk (stG (stOf (bif diskOK (pNow now sure (32 : Int) n (ckB n (St.mk p items l0 l1 l2 c0 c1 c2))) (pSure now sure (32 : Int) n (ckB n (St.mk p items l0 l1 l2 c0 c1 c2))) then Prod.fst (crashF lost (33 : Nat) (0 : Nat) (pNow now sure (32 : Int) n (ckB n (St.mk p items l0 l1 l2 c0 c1 c2))) (pSure now sure (32 : Int) n (ckB n (St.mk p items l0 l1 l2 c0 c1 c2)))) else []) (bif diskOK (pNow now sure (32 : Int) n (ckB n (St.mk p items l0 l1 l2 c0 c1 c2))) (pSure now sure (32 : Int) n (ckB n (St.mk p items l0 l1 l2 c0 c1 c2))) then Prod.snd (crashF lost (33 : Nat) (0 : Nat) (pNow now sure (32 : Int) n (ckB n (St.mk p items l0 l1 l2 c0 c1 c2))) (pSure now sure (32 : Int) n (ckB n (St.mk p items l0 l1 l2 c0 c1 c2)))) else []))).place (stG (stOf (bif diskOK (pNow now sure (32 : Int) n (ckB n (St.mk p items l0 l1 l2 c0 c1 c2))) (pSure now sure (32 : Int) n (ckB n (St.mk p items l0 l1 l2 c0 c1 c2))) then Prod.fst (crashF lost (33 : Nat) (0 : Nat) (pNow now sure (32 : Int) n (ckB n (St.mk p items l0 l1 l2 c0 c1 c2))) (pSure now sure (32 : Int) n (ckB n (St.mk p items l0 l1 l2 c0 c1 c2)))) else []) (bif diskOK (pNow now sure (32 : Int) n (ckB n (St.mk p items l0 l1 l2 c0 c1 c2))) (pSure now sure (32 : Int) n (ckB n (St.mk p items l0 l1 l2 c0 c1 c2))) then Prod.snd (crashF lost (33 : Nat) (0 : Nat) (pNow now sure (32 : Int) n (ckB n (St.mk p items l0 l1 l2 c0 c1 c2))) (pSure now sure (32 : Int) n (ckB n (St.mk p items l0 l1 l2 c0 c1 c2)))) else []))).items (stG (stOf (bif diskOK (pNow now sure (32 : Int) n (ckB n (St.mk p items l0 l1 l2 c0 c1 c2))) (pSure now sure (32 : Int) n (ckB n (St.mk p items l0 l1 l2 c0 c1 c2))) then Prod.fst (crashF lost (33 : Nat) (0 : Nat) (pNow now sure (32 : Int) n (ckB n (St.mk p items l0 l1 l2 c0 c1 c2))) (pSure now sure (32 : Int) n (ckB n (St.mk p items l0 l1 l2 c0 c1 c2)))) else []) (bif diskOK (pNow now sure (32 : Int) n (ckB n (St.mk p items l0 l1 l2 c0 c1 c2))) (pSure now sure (32 : Int) n (ckB n (St.mk p items l0 l1 l2 c0 c1 c2))) then Prod.snd (crashF lost (33 : Nat) (0 : Nat) (pNow now sure (32 : Int) n (ckB n (St.mk p items l0 l1 l2 c0 c1 c2))) (pSure now sure (32 : Int) n (ckB n (St.mk p items l0 l1 l2 c0 c1 c2)))) else []))).l0 (stG (stOf (bif diskOK (pNow now sure (32 : Int) n (ckB n (St.mk p items l0 l1 l2 c0 c1 c2))) (pSure now sure (32 : Int) n (ckB n (St.mk p items l0 l1 l2 c0 c1 c2))) then Prod.fst (crashF lost (33 : Nat) (0 : Nat) (pNow now sure (32 : Int) n (ckB n (St.mk p items l0 l1 l2 c0 c1 c2))) (pSure now sure (32 : Int) n (ckB n (St.mk p items l0 l1 l2 c0 c1 c2)))) else []) (bif diskOK (pNow now sure (32 : Int) n (ckB n (St.mk p items l0 l1 l2 c0 c1 c2))) (pSure now sure (32 : Int) n (ckB n (St.mk p items l0 l1 l2 c0 c1 c2))) then Prod.snd (crashF lost (33 : Nat) (0 : Nat) (pNow now sure (32 : Int) n (ckB n (St.mk p items l0 l1 l2 c0 c1 c2))) (pSure now sure (32 : Int) n (ckB n (St.mk p items l0 l1 l2 c0 c1 c2)))) else []))).l1 (stG (stOf (bif diskOK (pNow now sure (32 : Int) n (ckB n (St.mk p items l0 l1 l2 c0 c1 c2))) (pSure now sure (32 : Int) n (ckB n (St.mk p items l0 l1 l2 c0 c1 c2))) then Prod.fst (crashF lost (33 : Nat) (0 : Nat) (pNow now sure (32 : Int) n (ckB n (St.mk p items l0 l1 l2 c0 c1 c2))) (pSure now sure (32 : Int) n (ckB n (St.mk p items l0 l1 l2 c0 c1 c2)))) else []) (bif diskOK (pNow now sure (32 : Int) n (ckB n (St.mk p items l0 l1 l2 c0 c1 c2))) (pSure now sure (32 : Int) n (ckB n (St.mk p items l0 l1 l2 c0 c1 c2))) then Prod.snd (crashF lost (33 : Nat) (0 : Nat) (pNow now sure (32 : Int) n (ckB n (St.mk p items l0 l1 l2 c0 c1 c2))) (pSure now sure (32 : Int) n (ckB n (St.mk p items l0 l1 l2 c0 c1 c2)))) else []))).l2 (stG (stOf (bif diskOK (pNow now sure (32 : Int) n (ckB n (St.mk p items l0 l1 l2 c0 c1 c2))) (pSure now sure (32 : Int) n (ckB n (St.mk p items l0 l1 l2 c0 c1 c2))) then Prod.fst (crashF lost (33 : Nat) (0 : Nat) (pNow now sure (32 : Int) n (ckB n (St.mk p items l0 l1 l2 c0 c1 c2))) (pSure now sure (32 : Int) n (ckB n (St.mk p items l0 l1 l2 c0 c1 c2)))) else []) (bif diskOK (pNow now sure (32 : Int) n (ckB n (St.mk p items l0 l1 l2 c0 c1 c2))) (pSure now sure (32 : Int) n (ckB n (St.mk p items l0 l1 l2 c0 c1 c2))) then Prod.snd (crashF lost (33 : Nat) (0 : Nat) (pNow now sure (32 : Int) n (ckB n (St.mk p items l0 l1 l2 c0 c1 c2))) (pSure now sure (32 : Int) n (ckB n (St.mk p items l0 l1 l2 c0 c1 c2)))) else []))).c0 (stG (stOf (bif diskOK (pNow now sure (32 : Int) n (ckB n (St.mk p items l0 l1 l2 c0 c1 c2))) (pSure now sure (32 : Int) n (ckB n (St.mk p items l0 l1 l2 c0 c1 c2))) then Prod.fst (crashF lost (33 : Nat) (0 : Nat) (pNow now sure (32 : Int) n (ckB n (St.mk p items l0 l1 l2 c0 c1 c2))) (pSure now sure (32 : Int) n (ckB n (St.mk p items l0 l1 l2 c0 c1 c2)))) else []) (bif diskOK (pNow now sure (32 : Int) n (ckB n (St.mk p items l0 l1 l2 c0 c1 c2))) (pSure now sure (32 : Int) n (ckB n (St.mk p items l0 l1 l2 c0 c1 c2))) then Prod.snd (crashF lost (33 : Nat) (0 : Nat) (pNow now sure (32 : Int) n (ckB n (St.mk p items l0 l1 l2 c0 c1 c2))) (pSure now sure (32 : Int) n (ckB n (St.mk p items l0 l1 l2 c0 c1 c2)))) else []))).c1 (stG (stOf (bif diskOK (pNow now sure (32 : Int) n (ckB n (St.mk p items l0 l1 l2 c0 c1 c2))) (pSure now sure (32 : Int) n (ckB n (St.mk p items l0 l1 l2 c0 c1 c2))) then Prod.fst (crashF lost (33 : Nat) (0 : Nat) (pNow now sure (32 : Int) n (ckB n (St.mk p items l0 l1 l2 c0 c1 c2))) (pSure now sure (32 : Int) n (ckB n (St.mk p items l0 l1 l2 c0 c1 c2)))) else []) (bif diskOK (pNow now sure (32 : Int) n (ckB n (St.mk p items l0 l1 l2 c0 c1 c2))) (pSure now sure (32 : Int) n (ckB n (St.mk p items l0 l1 l2 c0 c1 c2))) then Prod.snd (crashF lost (33 : Nat) (0 : Nat) (pNow now sure (32 : Int) n (ckB n (St.mk p items l0 l1 l2 c0 c1 c2))) (pSure now sure (32 : Int) n (ckB n (St.mk p items l0 l1 l2 c0 c1 c2)))) else []))).c2 = St.mk (stG (stOf (List.replicate (0 : Nat) (Sector.mk (0 : Int) []) ++ sure) (List.replicate (0 : Nat) (Sector.mk (0 : Int) []) ++ sure))).place (stG (stOf (List.replicate (0 : Nat) (Sector.mk (0 : Int) []) ++ sure) (List.replicate (0 : Nat) (Sector.mk (0 : Int) []) ++ sure))).items (stG (stOf (List.replicate (0 : Nat) (Sector.mk (0 : Int) []) ++ sure) (List.replicate (0 : Nat) (Sector.mk (0 : Int) []) ++ sure))).l0 (stG (stOf (List.replicate (0 : Nat) (Sector.mk (0 : Int) []) ++ sure) (List.replicate (0 : Nat) (Sector.mk (0 : Int) []) ++ sure))).l1 (stG (stOf (List.replicate (0 : Nat) (Sector.mk (0 : Int) []) ++ sure) (List.replicate (0 : Nat) (Sector.mk (0 : Int) []) ++ sure))).l2 (stG (stOf (List.replicate (0 : Nat) (Sector.mk (0 : Int) []) ++ sure) (List.replicate (0 : Nat) (Sector.mk (0 : Int) []) ++ sure))).c0 (stG (stOf (List.replicate (0 : Nat) (Sector.mk (0 : Int) []) ++ sure) (List.replicate (0 : Nat) (Sector.mk (0 : Int) []) ++ sure))).c1 (stG (stOf (List.replicate (0 : Nat) (Sector.mk (0 : Int) []) ++ sure) (List.replicate (0 : Nat) (Sector.mk (0 : Int) []) ++ sure))).c2) then some (D.bool true) else some (D.bool false) else none else some (D.bool false) else some (D.bool false) else none else bif errC (bif diskOK (pNow now sure (32 : Int) n (ckB n (St.mk p items l0 l1 l2 c0 c1 c2))) (pSure now sure (32 : Int) n (ckB n (St.mk p items l0 l1 l2 c0 c1 c2))) then Prod.fst (crashF lost (33 : Nat) (0 : Nat) (pNow now sure (32 : Int) n (ckB n (St.mk p items l0 l1 l2 c0 c1 c2))) (pSure now sure (32 : Int) n (ckB n (St.mk p items l0 l1 l2 c0 c1 c2)))) else []) (bif diskOK (pNow now sure (32 : Int) n (ckB n (St.mk p items l0 l1 l2 c0 c1 c2))) (pSure now sure (32 : Int) n (ckB n (St.mk p items l0 l1 l2 c0 c1 c2))) then Prod.snd (crashF lost (33 : Nat) (0 : Nat) (pNow now sure (32 : Int) n (ckB n (St.mk p items l0 l1 l2 c0 c1 c2))) (pSure now sure (32 : Int) n (ckB n (St.mk p items l0 l1 l2 c0 c1 c2)))) else []) == errC (List.replicate (0 : Nat) (Sector.mk (0 : Int) []) ++ sure) (List.replicate (0 : Nat) (Sector.mk (0 : Int) []) ++ sure) then bif numC (bif diskOK (pNow now sure (32 : Int) n (ckB n (St.mk p items l0 l1 l2 c0 c1 c2))) (pSure now sure (32 : Int) n (ckB n (St.mk p items l0 l1 l2 c0 c1 c2))) then Prod.fst (crashF lost (33 : Nat) (0 : Nat) (pNow now sure (32 : Int) n (ckB n (St.mk p items l0 l1 l2 c0 c1 c2))) (pSure now sure (32 : Int) n (ckB n (St.mk p items l0 l1 l2 c0 c1 c2)))) else []) (bif diskOK (pNow now sure (32 : Int) n (ckB n (St.mk p items l0 l1 l2 c0 c1 c2))) (pSure now sure (32 : Int) n (ckB n (St.mk p items l0 l1 l2 c0 c1 c2))) then Prod.snd (crashF lost (33 : Nat) (0 : Nat) (pNow now sure (32 : Int) n (ckB n (St.mk p items l0 l1 l2 c0 c1 c2))) (pSure now sure (32 : Int) n (ckB n (St.mk p items l0 l1 l2 c0 c1 c2)))) else []) == numC (List.replicate (0 : Nat) (Sector.mk (0 : Int) []) ++ sure) (List.replicate (0 : Nat) (Sector.mk (0 : Int) []) ++ sure) then bif lenOK (stG (stOf (bif diskOK (pNow now sure (32 : Int) n (ckB n (St.mk p items l0 l1 l2 c0 c1 c2))) (pSure now sure (32 : Int) n (ckB n (St.mk p items l0 l1 l2 c0 c1 c2))) then Prod.fst (crashF lost (33 : Nat) (0 : Nat) (pNow now sure (32 : Int) n (ckB n (St.mk p items l0 l1 l2 c0 c1 c2))) (pSure now sure (32 : Int) n (ckB n (St.mk p items l0 l1 l2 c0 c1 c2)))) else []) (bif diskOK (pNow now sure (32 : Int) n (ckB n (St.mk p items l0 l1 l2 c0 c1 c2))) (pSure now sure (32 : Int) n (ckB n (St.mk p items l0 l1 l2 c0 c1 c2))) then Prod.snd (crashF lost (33 : Nat) (0 : Nat) (pNow now sure (32 : Int) n (ckB n (St.mk p items l0 l1 l2 c0 c1 c2))) (pSure now sure (32 : Int) n (ckB n (St.mk p items l0 l1 l2 c0 c1 c2)))) else []))).items.length && lenOK (stG (stOf (List.replicate (0 : Nat) (Sector.mk (0 : Int) []) ++ sure) (List.replicate (0 : Nat) (Sector.mk (0 : Int) []) ++ sure))).items.length && (lenOK (stG (stOf (bif diskOK (pNow now sure (32 : Int) n (ckB n (St.mk p items l0 l1 l2 c0 c1 c2))) (pSure now sure (32 : Int) n (ckB n (St.mk p items l0 l1 l2 c0 c1 c2))) then Prod.fst (crashF lost (33 : Nat) (0 : Nat) (pNow now sure (32 : Int) n (ckB n (St.mk p items l0 l1 l2 c0 c1 c2))) (pSure now sure (32 : Int) n (ckB n (St.mk p items l0 l1 l2 c0 c1 c2)))) else []) (bif diskOK (pNow now sure (32 : Int) n (ckB n (St.mk p items l0 l1 l2 c0 c1 c2))) (pSure now sure (32 : Int) n (ckB n (St.mk p items l0 l1 l2 c0 c1 c2))) then Prod.snd (crashF lost (33 : Nat) (0 : Nat) (pNow now sure (32 : Int) n (ckB n (St.mk p items l0 l1 l2 c0 c1 c2))) (pSure now sure (32 : Int) n (ckB n (St.mk p items l0 l1 l2 c0 c1 c2)))) else []))).l0.length && lenOK (stG (stOf (List.replicate (0 : Nat) (Sector.mk (0 : Int) []) ++ sure) (List.replicate (0 : Nat) (Sector.mk (0 : Int) []) ++ sure))).l0.length) && (lenOK (stG (stOf (bif diskOK (pNow now sure (32 : Int) n (ckB n (St.mk p items l0 l1 l2 c0 c1 c2))) (pSure now sure (32 : Int) n (ckB n (St.mk p items l0 l1 l2 c0 c1 c2))) then Prod.fst (crashF lost (33 : Nat) (0 : Nat) (pNow now sure (32 : Int) n (ckB n (St.mk p items l0 l1 l2 c0 c1 c2))) (pSure now sure (32 : Int) n (ckB n (St.mk p items l0 l1 l2 c0 c1 c2)))) else []) (bif diskOK (pNow now sure (32 : Int) n (ckB n (St.mk p items l0 l1 l2 c0 c1 c2))) (pSure now sure (32 : Int) n (ckB n (St.mk p items l0 l1 l2 c0 c1 c2))) then Prod.snd (crashF lost (33 : Nat) (0 : Nat) (pNow now sure (32 : Int) n (ckB n (St.mk p items l0 l1 l2 c0 c1 c2))) (pSure now sure (32 : Int) n (ckB n (St.mk p items l0 l1 l2 c0 c1 c2)))) else []))).l1.length && lenOK (stG (stOf (List.replicate (0 : Nat) (Sector.mk (0 : Int) []) ++ sure) (List.replicate (0 : Nat) (Sector.mk (0 : Int) []) ++ sure))).l1.length) && (lenOK (stG (stOf (bif diskOK (pNow now sure (32 : Int) n (ckB n (St.mk p items l0 l1 l2 c0 c1 c2))) (pSure now sure (32 : Int) n (ckB n (St.mk p items l0 l1 l2 c0 c1 c2))) then Prod.fst (crashF lost (33 : Nat) (0 : Nat) (pNow now sure (32 : Int) n (ckB n (St.mk p items l0 l1 l2 c0 c1 c2))) (pSure now sure (32 : Int) n (ckB n (St.mk p items l0 l1 l2 c0 c1 c2)))) else []) (bif diskOK (pNow now sure (32 : Int) n (ckB n (St.mk p items l0 l1 l2 c0 c1 c2))) (pSure now sure (32 : Int) n (ckB n (St.mk p items l0 l1 l2 c0 c1 c2))) then Prod.snd (crashF lost (33 : Nat) (0 : Nat) (pNow now sure (32 : Int) n (ckB n (St.mk p items l0 l1 l2 c0 c1 c2))) (pSure now sure (32 : Int) n (ckB n (St.mk p items l0 l1 l2 c0 c1 c2)))) else []))).l2.length && lenOK (stG (stOf (List.replicate (0 : Nat) (Sector.mk (0 : Int) []) ++ sure) (List.replicate (0 : Nat) (Sector.mk (0 : Int) []) ++ sure))).l2.length) then bif decide (St.mk (stG (stOf (bif diskOK (pNow now sure (32 : Int) n (ckB n (St.mk p items l0 l1 l2 c0 c1 c2))) (pSure now sure (32 : Int) n (ckB n (St.mk p items l0 l1 l2 c0 c1 c2))) then Prod.fst (crashF lost (33 : Nat) (0 : Nat) (pNow now sure (32 : Int) n (ckB n (St.mk p items l0 l1 l2 c0 c1 c2))) (pSure now sure (32 : Int) n (ckB n (St.mk p items l0 l1 l2 c0 c1 c2)))) else []) (bif diskOK (pNow now sure (32 : Int) n (ckB n (St.mk p items l0 l1 l2 c0 c1 c2))) (pSure now sure (32 : Int) n (ckB n (St.mk p items l0 l1 l2 c0 c1 c2))) then Prod.snd (crashF lost (33 : Nat) (0 : Nat) (pNow now sure (32 : Int) n (ckB n (St.mk p items l0 l1 l2 c0 c1 c2))) (pSure now sure (32 : Int) n (ckB n (St.mk p items l0 l1 l2 c0 c1 c2)))) else []))).place (stG (stOf (bif diskOK (pNow now sure (32 : Int) n (ckB n (St.mk p items l0 l1 l2 c0 c1 c2))) (pSure now sure (32 : Int) n (ckB n (St.mk p items l0 l1 l2 c0 c1 c2))) then Prod.fst (crashF lost (33 : Nat) (0 : Nat) (pNow now sure (32 : Int) n (ckB n (St.mk p items l0 l1 l2 c0 c1 c2))) (pSure now sure (32 : Int) n (ckB n (St.mk p items l0 l1 l2 c0 c1 c2)))) else []) (bif diskOK (pNow now sure (32 : Int) n (ckB n (St.mk p items l0 l1 l2 c0 c1 c2))) (pSure now sure (32 : Int) n (ckB n (St.mk p items l0 l1 l2 c0 c1 c2))) then Prod.snd (crashF lost (33 : Nat) (0 : Nat) (pNow now sure (32 : Int) n (ckB n (St.mk p items l0 l1 l2 c0 c1 c2))) (pSure now sure (32 : Int) n (ckB n (St.mk p items l0 l1 l2 c0 c1 c2)))) else []))).items (stG (stOf (bif diskOK (pNow now sure (32 : Int) n (ckB n (St.mk p items l0 l1 l2 c0 c1 c2))) (pSure now sure (32 : Int) n (ckB n (St.mk p items l0 l1 l2 c0 c1 c2))) then Prod.fst (crashF lost (33 : Nat) (0 : Nat) (pNow now sure (32 : Int) n (ckB n (St.mk p items l0 l1 l2 c0 c1 c2))) (pSure now sure (32 : Int) n (ckB n (St.mk p items l0 l1 l2 c0 c1 c2)))) else []) (bif diskOK (pNow now sure (32 : Int) n (ckB n (St.mk p items l0 l1 l2 c0 c1 c2))) (pSure now sure (32 : Int) n (ckB n (St.mk p items l0 l1 l2 c0 c1 c2))) then Prod.snd (crashF lost (33 : Nat) (0 : Nat) (pNow now sure (32 : Int) n (ckB n (St.mk p items l0 l1 l2 c0 c1 c2))) (pSure now sure (32 : Int) n (ckB n (St.mk p items l0 l1 l2 c0 c1 c2)))) else []))).l0 (stG (stOf (bif diskOK (pNow now sure (32 : Int) n (ckB n (St.mk p items l0 l1 l2 c0 c1 c2))) (pSure now sure (32 : Int) n (ckB n (St.mk p items l0 l1 l2 c0 c1 c2))) then Prod.fst (crashF lost (33 : Nat) (0 : Nat) (pNow now sure (32 : Int) n (ckB n (St.mk p items l0 l1 l2 c0 c1 c2))) (pSure now sure (32 : Int) n (ckB n (St.mk p items l0 l1 l2 c0 c1 c2)))) else []) (bif diskOK (pNow now sure (32 : Int) n (ckB n (St.mk p items l0 l1 l2 c0 c1 c2))) (pSure now sure (32 : Int) n (ckB n (St.mk p items l0 l1 l2 c0 c1 c2))) then Prod.snd (crashF lost (33 : Nat) (0 : Nat) (pNow now sure (32 : Int) n (ckB n (St.mk p items l0 l1 l2 c0 c1 c2))) (pSure now sure (32 : Int) n (ckB n (St.mk p items l0 l1 l2 c0 c1 c2)))) else []))).l1 (stG (stOf (bif diskOK (pNow now sure (32 : Int) n (ckB n (St.mk p items l0 l1 l2 c0 c1 c2))) (pSure now sure (32 : Int) n (ckB n (St.mk p items l0 l1 l2 c0 c1 c2))) then Prod.fst (crashF lost (33 : Nat) (0 : Nat) (pNow now sure (32 : Int) n (ckB n (St.mk p items l0 l1 l2 c0 c1 c2))) (pSure now sure (32 : Int) n (ckB n (St.mk p items l0 l1 l2 c0 c1 c2)))) else []) (bif diskOK (pNow now sure (32 : Int) n (ckB n (St.mk p items l0 l1 l2 c0 c1 c2))) (pSure now sure (32 : Int) n (ckB n (St.mk p items l0 l1 l2 c0 c1 c2))) then Prod.snd (crashF lost (33 : Nat) (0 : Nat) (pNow now sure (32 : Int) n (ckB n (St.mk p items l0 l1 l2 c0 c1 c2))) (pSure now sure (32 : Int) n (ckB n (St.mk p items l0 l1 l2 c0 c1 c2)))) else []))).l2 (stG (stOf (bif diskOK (pNow now sure (32 : Int) n (ckB n (St.mk p items l0 l1 l2 c0 c1 c2))) (pSure now sure (32 : Int) n (ckB n (St.mk p items l0 l1 l2 c0 c1 c2))) then Prod.fst (crashF lost (33 : Nat) (0 : Nat) (pNow now sure (32 : Int) n (ckB n (St.mk p items l0 l1 l2 c0 c1 c2))) (pSure now sure (32 : Int) n (ckB n (St.mk p items l0 l1 l2 c0 c1 c2)))) else []) (bif diskOK (pNow now sure (32 : Int) n (ckB n (St.mk p items l0 l1 l2 c0 c1 c2))) (pSure now sure (32 : Int) n (ckB n (St.mk p items l0 l1 l2 c0 c1 c2))) then Prod.snd (crashF lost (33 : Nat) (0 : Nat) (pNow now sure (32 : Int) n (ckB n (St.mk p items l0 l1 l2 c0 c1 c2))) (pSure now sure (32 : Int) n (ckB n (St.mk p items l0 l1 l2 c0 c1 c2)))) else []))).c0 (stG (stOf (bif diskOK (pNow now sure (32 : Int) n (ckB n (St.mk p items l0 l1 l2 c0 c1 c2))) (pSure now sure (32 : Int) n (ckB n (St.mk p items l0 l1 l2 c0 c1 c2))) then Prod.fst (crashF lost (33 : Nat) (0 : Nat) (pNow now sure (32 : Int) n (ckB n (St.mk p items l0 l1 l2 c0 c1 c2))) (pSure now sure (32 : Int) n (ckB n (St.mk p items l0 l1 l2 c0 c1 c2)))) else []) (bif diskOK (pNow now sure (32 : Int) n (ckB n (St.mk p items l0 l1 l2 c0 c1 c2))) (pSure now sure (32 : Int) n (ckB n (St.mk p items l0 l1 l2 c0 c1 c2))) then Prod.snd (crashF lost (33 : Nat) (0 : Nat) (pNow now sure (32 : Int) n (ckB n (St.mk p items l0 l1 l2 c0 c1 c2))) (pSure now sure (32 : Int) n (ckB n (St.mk p items l0 l1 l2 c0 c1 c2)))) else []))).c1 (stG (stOf (bif diskOK (pNow now sure (32 : Int) n (ckB n (St.mk p items l0 l1 l2 c0 c1 c2))) (pSure now sure (32 : Int) n (ckB n (St.mk p items l0 l1 l2 c0 c1 c2))) then Prod.fst (crashF lost (33 : Nat) (0 : Nat) (pNow now sure (32 : Int) n (ckB n (St.mk p items l0 l1 l2 c0 c1 c2))) (pSure now sure (32 : Int) n (ckB n (St.mk p items l0 l1 l2 c0 c1 c2)))) else []) (bif diskOK (pNow now sure (32 : Int) n (ckB n (St.mk p items l0 l1 l2 c0 c1 c2))) (pSure now sure (32 : Int) n (ckB n (St.mk p items l0 l1 l2 c0 c1 c2))) then Prod.snd (crashF lost (33 : Nat) (0 : Nat) (pNow now sure (32 : Int) n (ckB n (St.mk p items l0 l1 l2 c0 c1 c2))) (pSure now sure (32 : Int) n (ckB n (St.mk p items l0 l1 l2 c0 c1 c2)))) else []))).c2 = St.mk (stG (stOf (List.replicate (0 : Nat) (Sector.mk (0 : Int) []) ++ sure) (List.replicate (0 : Nat) (Sector.mk (0 : Int) []) ++ sure))).place (stG (stOf (List.replicate (0 : Nat) (Sector.mk (0 : Int) []) ++ sure) (List.replicate (0 : Nat) (Sector.mk (0 : Int) []) ++ sure))).items (stG (stOf (List.replicate (0 : Nat) (Sector.mk (0 : Int) []) ++ sure) (List.replicate (0 : Nat) (Sector.mk (0 : Int) []) ++ sure))).l0 (stG (stOf (List.replicate (0 : Nat) (Sector.mk (0 : Int) []) ++ sure) (List.replicate (0 : Nat) (Sector.mk (0 : Int) []) ++ sure))).l1 (stG (stOf (List.replicate (0 : Nat) (Sector.mk (0 : Int) []) ++ sure) (List.replicate (0 : Nat) (Sector.mk (0 : Int) []) ++ sure))).l2 (stG (stOf (List.replicate (0 : Nat) (Sector.mk (0 : Int) []) ++ sure) (List.replicate (0 : Nat) (Sector.mk (0 : Int) []) ++ sure))).c0 (stG (stOf (List.replicate (0 : Nat) (Sector.mk (0 : Int) []) ++ sure) (List.replicate (0 : Nat) (Sector.mk (0 : Int) []) ++ sure))).c1 (stG (stOf (List.replicate (0 : Nat) (Sector.mk (0 : Int) []) ++ sure) (List.replicate (0 : Nat) (Sector.mk (0 : Int) []) ++ sure))).c2) then some (D.bool true) else some (D.bool false) else none else some (D.bool false) else some (D.bool false) else bif errC (bif diskOK (pNow now sure (32 : Int) n (ckB n (St.mk p items l0 l1 l2 c0 c1 c2))) (pSure now sure (32 : Int) n (ckB n (St.mk p items l0 l1 l2 c0 c1 c2))) then Prod.fst (crashF lost (33 : Nat) (0 : Nat) (pNow now sure (32 : Int) n (ckB n (St.mk p items l0 l1 l2 c0 c1 c2))) (pSure now sure (32 : Int) n (ckB n (St.mk p items l0 l1 l2 c0 c1 c2)))) else []) (bif diskOK (pNow now sure (32 : Int) n (ckB n (St.mk p items l0 l1 l2 c0 c1 c2))) (pSure now sure (32 : Int) n (ckB n (St.mk p items l0 l1 l2 c0 c1 c2))) then Prod.snd (crashF lost (33 : Nat) (0 : Nat) (pNow now sure (32 : Int) n (ckB n (St.mk p items l0 l1 l2 c0 c1 c2))) (pSure now sure (32 : Int) n (ckB n (St.mk p items l0 l1 l2 c0 c1 c2)))) else []) == errC (List.replicate (0 : Nat) (Sector.mk (0 : Int) []) ++ sure) (List.replicate (0 : Nat) (Sector.mk (0 : Int) []) ++ sure) then bif numC (bif diskOK (pNow now sure (32 : Int) n (ckB n (St.mk p items l0 l1 l2 c0 c1 c2))) (pSure now sure (32 : Int) n (ckB n (St.mk p items l0 l1 l2 c0 c1 c2))) then Prod.fst (crashF lost (33 : Nat) (0 : Nat) (pNow now sure (32 : Int) n (ckB n (St.mk p items l0 l1 l2 c0 c1 c2))) (pSure now sure (32 : Int) n (ckB n (St.mk p items l0 l1 l2 c0 c1 c2)))) else []) (bif diskOK (pNow now sure (32 : Int) n (ckB n (St.mk p items l0 l1 l2 c0 c1 c2))) (pSure now sure (32 : Int) n (ckB n (St.mk p items l0 l1 l2 c0 c1 c2))) then Prod.snd (crashF lost (33 : Nat) (0 : Nat) (pNow now sure (32 : Int) n (ckB n (St.mk p items l0 l1 l2 c0 c1 c2))) (pSure now sure (32 : Int) n (ckB n (St.mk p items l0 l1 l2 c0 c1 c2)))) else []) == numC (List.replicate (0 : Nat) (Sector.mk (0 : Int) []) ++ sure) (List.replicate (0 : Nat) (Sector.mk (0 : Int) []) ++ sure) then bif lenOK (stG (stOf (bif diskOK (pNow now sure (32 : Int) n (ckB n (St.mk p items l0 l1 l2 c0 c1 c2))) (pSure now sure (32 : Int) n (ckB n (St.mk p items l0 l1 l2 c0 c1 c2))) then Prod.fst (crashF lost (33 : Nat) (0 : Nat) (pNow now sure (32 : Int) n (ckB n (St.mk p items l0 l1 l2 c0 c1 c2))) (pSure now sure (32 : Int) n (ckB n (St.mk p items l0 l1 l2 c0 c1 c2)))) else []) (bif diskOK (pNow now sure (32 : Int) n (ckB n (St.mk p items l0 l1 l2 c0 c1 c2))) (pSure now sure (32 : Int) n (ckB n (St.mk p items l0 l1 l2 c0 c1 c2))) then Prod.snd (crashF lost (33 : Nat) (0 : Nat) (pNow now sure (32 : Int) n (ckB n (St.mk p items l0 l1 l2 c0 c1 c2))) (pSure now sure (32 : Int) n (ckB n (St.mk p items l0 l1 l2 c0 c1 c2)))) else []))).items.length && lenOK (stG (stOf (List.replicate (0 : Nat) (Sector.mk (0 : Int) []) ++ sure) (List.replicate (0 : Nat) (Sector.mk (0 : Int) []) ++ sure))).items.length && (lenOK (stG (stOf (bif diskOK (pNow now sure (32 : Int) n (ckB n (St.mk p items l0 l1 l2 c0 c1 c2))) (pSure now sure (32 : Int) n (ckB n (St.mk p items l0 l1 l2 c0 c1 c2))) then Prod.fst (crashF lost (33 : Nat) (0 : Nat) (pNow now sure (32 : Int) n (ckB n (St.mk p items l0 l1 l2 c0 c1 c2))) (pSure now sure (32 : Int) n (ckB n (St.mk p items l0 l1 l2 c0 c1 c2)))) else []) (bif diskOK (pNow now sure (32 : Int) n (ckB n (St.mk p items l0 l1 l2 c0 c1 c2))) (pSure now sure (32 : Int) n (ckB n (St.mk p items l0 l1 l2 c0 c1 c2))) then Prod.snd (crashF lost (33 : Nat) (0 : Nat) (pNow now sure (32 : Int) n (ckB n (St.mk p items l0 l1 l2 c0 c1 c2))) (pSure now sure (32 : Int) n (ckB n (St.mk p items l0 l1 l2 c0 c1 c2)))) else []))).l0.length && lenOK (stG (stOf (List.replicate (0 : Nat) (Sector.mk (0 : Int) []) ++ sure) (List.replicate (0 : Nat) (Sector.mk (0 : Int) []) ++ sure))).l0.length) && (lenOK (stG (stOf (bif diskOK (pNow now sure (32 : Int) n (ckB n (St.mk p items l0 l1 l2 c0 c1 c2))) (pSure now sure (32 : Int) n (ckB n (St.mk p items l0 l1 l2 c0 c1 c2))) then Prod.fst (crashF lost (33 : Nat) (0 : Nat) (pNow now sure (32 : Int) n (ckB n (St.mk p items l0 l1 l2 c0 c1 c2))) (pSure now sure (32 : Int) n (ckB n (St.mk p items l0 l1 l2 c0 c1 c2)))) else []) (bif diskOK (pNow now sure (32 : Int) n (ckB n (St.mk p items l0 l1 l2 c0 c1 c2))) (pSure now sure (32 : Int) n (ckB n (St.mk p items l0 l1 l2 c0 c1 c2))) then Prod.snd (crashF lost (33 : Nat) (0 : Nat) (pNow now sure (32 : Int) n (ckB n (St.mk p items l0 l1 l2 c0 c1 c2))) (pSure now sure (32 : Int) n (ckB n (St.mk p items l0 l1 l2 c0 c1 c2)))) else []))).l1.length && lenOK (stG (stOf (List.replicate (0 : Nat) (Sector.mk (0 : Int) []) ++ sure) (List.replicate (0 : Nat) (Sector.mk (0 : Int) []) ++ sure))).l1.length) && (lenOK (stG (stOf (bif diskOK (pNow now sure (32 : Int) n (ckB n (St.mk p items l0 l1 l2 c0 c1 c2))) (pSure now sure (32 : Int) n (ckB n (St.mk p items l0 l1 l2 c0 c1 c2))) then Prod.fst (crashF lost (33 : Nat) (0 : Nat) (pNow now sure (32 : Int) n (ckB n (St.mk p items l0 l1 l2 c0 c1 c2))) (pSure now sure (32 : Int) n (ckB n (St.mk p items l0 l1 l2 c0 c1 c2)))) else []) (bif diskOK (pNow now sure (32 : Int) n (ckB n (St.mk p items l0 l1 l2 c0 c1 c2))) (pSure now sure (32 : Int) n (ckB n (St.mk p items l0 l1 l2 c0 c1 c2))) then Prod.snd (crashF lost (33 : Nat) (0 : Nat) (pNow now sure (32 : Int) n (ckB n (St.mk p items l0 l1 l2 c0 c1 c2))) (pSure now sure (32 : Int) n (ckB n (St.mk p items l0 l1 l2 c0 c1 c2)))) else []))).l2.length && lenOK (stG (stOf (List.replicate (0 : Nat) (Sector.mk (0 : Int) []) ++ sure) (List.replicate (0 : Nat) (Sector.mk (0 : Int) []) ++ sure))).l2.length) then bif decide (St.mk (stG (stOf (bif diskOK (pNow now sure (32 : Int) n (ckB n (St.mk p items l0 l1 l2 c0 c1 c2))) (pSure now sure (32 : Int) n (ckB n (St.mk p items l0 l1 l2 c0 c1 c2))) then Prod.fst (crashF lost (33 : Nat) (0 : Nat) (pNow now sure (32 : Int) n (ckB n (St.mk p items l0 l1 l2 c0 c1 c2))) (pSure now sure (32 : Int) n (ckB n (St.mk p items l0 l1 l2 c0 c1 c2)))) else []) (bif diskOK (pNow now sure (32 : Int) n (ckB n (St.mk p items l0 l1 l2 c0 c1 c2))) (pSure now sure (32 : Int) n (ckB n (St.mk p items l0 l1 l2 c0 c1 c2))) then Prod.snd (crashF lost (33 : Nat) (0 : Nat) (pNow now sure (32 : Int) n (ckB n (St.mk p items l0 l1 l2 c0 c1 c2))) (pSure now sure (32 : Int) n (ckB n (St.mk p items l0 l1 l2 c0 c1 c2)))) else []))).place (stG (stOf (bif diskOK (pNow now sure (32 : Int) n (ckB n (St.mk p items l0 l1 l2 c0 c1 c2))) (pSure now sure (32 : Int) n (ckB n (St.mk p items l0 l1 l2 c0 c1 c2))) then Prod.fst (crashF lost (33 : Nat) (0 : Nat) (pNow now sure (32 : Int) n (ckB n (St.mk p items l0 l1 l2 c0 c1 c2))) (pSure now sure (32 : Int) n (ckB n (St.mk p items l0 l1 l2 c0 c1 c2)))) else []) (bif diskOK (pNow now sure (32 : Int) n (ckB n (St.mk p items l0 l1 l2 c0 c1 c2))) (pSure now sure (32 : Int) n (ckB n (St.mk p items l0 l1 l2 c0 c1 c2))) then Prod.snd (crashF lost (33 : Nat) (0 : Nat) (pNow now sure (32 : Int) n (ckB n (St.mk p items l0 l1 l2 c0 c1 c2))) (pSure now sure (32 : Int) n (ckB n (St.mk p items l0 l1 l2 c0 c1 c2)))) else []))).items (stG (stOf (bif diskOK (pNow now sure (32 : Int) n (ckB n (St.mk p items l0 l1 l2 c0 c1 c2))) (pSure now sure (32 : Int) n (ckB n (St.mk p items l0 l1 l2 c0 c1 c2))) then Prod.fst (crashF lost (33 : Nat) (0 : Nat) (pNow now sure (32 : Int) n (ckB n (St.mk p items l0 l1 l2 c0 c1 c2))) (pSure now sure (32 : Int) n (ckB n (St.mk p items l0 l1 l2 c0 c1 c2)))) else []) (bif diskOK (pNow now sure (32 : Int) n (ckB n (St.mk p items l0 l1 l2 c0 c1 c2))) (pSure now sure (32 : Int) n (ckB n (St.mk p items l0 l1 l2 c0 c1 c2))) then Prod.snd (crashF lost (33 : Nat) (0 : Nat) (pNow now sure (32 : Int) n (ckB n (St.mk p items l0 l1 l2 c0 c1 c2))) (pSure now sure (32 : Int) n (ckB n (St.mk p items l0 l1 l2 c0 c1 c2)))) else []))).l0 (stG (stOf (bif diskOK (pNow now sure (32 : Int) n (ckB n (St.mk p items l0 l1 l2 c0 c1 c2))) (pSure now sure (32 : Int) n (ckB n (St.mk p items l0 l1 l2 c0 c1 c2))) then Prod.fst (crashF lost (33 : Nat) (0 : Nat) (pNow now sure (32 : Int) n (ckB n (St.mk p items l0 l1 l2 c0 c1 c2))) (pSure now sure (32 : Int) n (ckB n (St.mk p items l0 l1 l2 c0 c1 c2)))) else []) (bif diskOK (pNow now sure (32 : Int) n (ckB n (St.mk p items l0 l1 l2 c0 c1 c2))) (pSure now sure (32 : Int) n (ckB n (St.mk p items l0 l1 l2 c0 c1 c2))) then Prod.snd (crashF lost (33 : Nat) (0 : Nat) (pNow now sure (32 : Int) n (ckB n (St.mk p items l0 l1 l2 c0 c1 c2))) (pSure now sure (32 : Int) n (ckB n (St.mk p items l0 l1 l2 c0 c1 c2)))) else []))).l1 (stG (stOf (bif diskOK (pNow now sure (32 : Int) n (ckB n (St.mk p items l0 l1 l2 c0 c1 c2))) (pSure now sure (32 : Int) n (ckB n (St.mk p items l0 l1 l2 c0 c1 c2))) then Prod.fst (crashF lost (33 : Nat) (0 : Nat) (pNow now sure (32 : Int) n (ckB n (St.mk p items l0 l1 l2 c0 c1 c2))) (pSure now sure (32 : Int) n (ckB n (St.mk p items l0 l1 l2 c0 c1 c2)))) else []) (bif diskOK (pNow now sure (32 : Int) n (ckB n (St.mk p items l0 l1 l2 c0 c1 c2))) (pSure now sure (32 : Int) n (ckB n (St.mk p items l0 l1 l2 c0 c1 c2))) then Prod.snd (crashF lost (33 : Nat) (0 : Nat) (pNow now sure (32 : Int) n (ckB n (St.mk p items l0 l1 l2 c0 c1 c2))) (pSure now sure (32 : Int) n (ckB n (St.mk p items l0 l1 l2 c0 c1 c2)))) else []))).l2 (stG (stOf (bif diskOK (pNow now sure (32 : Int) n (ckB n (St.mk p items l0 l1 l2 c0 c1 c2))) (pSure now sure (32 : Int) n (ckB n (St.mk p items l0 l1 l2 c0 c1 c2))) then Prod.fst (crashF lost (33 : Nat) (0 : Nat) (pNow now sure (32 : Int) n (ckB n (St.mk p items l0 l1 l2 c0 c1 c2))) (pSure now sure (32 : Int) n (ckB n (St.mk p items l0 l1 l2 c0 c1 c2)))) else []) (bif diskOK (pNow now sure (32 : Int) n (ckB n (St.mk p items l0 l1 l2 c0 c1 c2))) (pSure now sure (32 : Int) n (ckB n (St.mk p items l0 l1 l2 c0 c1 c2))) then Prod.snd (crashF lost (33 : Nat) (0 : Nat) (pNow now sure (32 : Int) n (ckB n (St.mk p items l0 l1 l2 c0 c1 c2))) (pSure now sure (32 : Int) n (ckB n (St.mk p items l0 l1 l2 c0 c1 c2)))) else []))).c0 (stG (stOf (bif diskOK (pNow now sure (32 : Int) n (ckB n (St.mk p items l0 l1 l2 c0 c1 c2))) (pSure now sure (32 : Int) n (ckB n (St.mk p items l0 l1 l2 c0 c1 c2))) then Prod.fst (crashF lost (33 : Nat) (0 : Nat) (pNow now sure (32 : Int) n (ckB n (St.mk p items l0 l1 l2 c0 c1 c2))) (pSure now sure (32 : Int) n (ckB n (St.mk p items l0 l1 l2 c0 c1 c2)))) else []) (bif diskOK (pNow now sure (32 : Int) n (ckB n (St.mk p items l0 l1 l2 c0 c1 c2))) (pSure now sure (32 : Int) n (ckB n (St.mk p items l0 l1 l2 c0 c1 c2))) then Prod.snd (crashF lost (33 : Nat) (0 : Nat) (pNow now sure (32 : Int) n (ckB n (St.mk p items l0 l1 l2 c0 c1 c2))) (pSure now sure (32 : Int) n (ckB n (St.mk p items l0 l1 l2 c0 c1 c2)))) else []))).c1 (stG (stOf (bif diskOK (pNow now sure (32 : Int) n (ckB n (St.mk p items l0 l1 l2 c0 c1 c2))) (pSure now sure (32 : Int) n (ckB n (St.mk p items l0 l1 l2 c0 c1 c2))) then Prod.fst (crashF lost (33 : Nat) (0 : Nat) (pNow now sure (32 : Int) n (ckB n (St.mk p items l0 l1 l2 c0 c1 c2))) (pSure now sure (32 : Int) n (ckB n (St.mk p items l0 l1 l2 c0 c1 c2)))) else []) (bif diskOK (pNow now sure (32 : Int) n (ckB n (St.mk p items l0 l1 l2 c0 c1 c2))) (pSure now sure (32 : Int) n (ckB n (St.mk p items l0 l1 l2 c0 c1 c2))) then Prod.snd (crashF lost (33 : Nat) (0 : Nat) (pNow now sure (32 : Int) n (ckB n (St.mk p items l0 l1 l2 c0 c1 c2))) (pSure now sure (32 : Int) n (ckB n (St.mk p items l0 l1 l2 c0 c1 c2)))) else []))).c2 = St.mk (stG (stOf (List.replicate (0 : Nat) (Sector.mk (0 : Int) []) ++ sure) (List.replicate (0 : Nat) (Sector.mk (0 : Int) []) ++ sure))).place (stG (stOf (List.replicate (0 : Nat) (Sector.mk (0 : Int) []) ++ sure) (List.replicate (0 : Nat) (Sector.mk (0 : Int) []) ++ sure))).items (stG (stOf (List.replicate (0 : Nat) (Sector.mk (0 : Int) []) ++ sure) (List.replicate (0 : Nat) (Sector.mk (0 : Int) []) ++ sure))).l0 (stG (stOf (List.replicate (0 : Nat) (Sector.mk (0 : Int) []) ++ sure) (List.replicate (0 : Nat) (Sector.mk (0 : Int) []) ++ sure))).l1 (stG (stOf (List.replicate (0 : Nat) (Sector.mk (0 : Int) []) ++ sure) (List.replicate (0 : Nat) (Sector.mk (0 : Int) []) ++ sure))).l2 (stG (stOf (List.replicate (0 : Nat) (Sector.mk (0 : Int) []) ++ sure) (List.replicate (0 : Nat) (Sector.mk (0 : Int) []) ++ sure))).c0 (stG (stOf (List.replicate (0 : Nat) (Sector.mk (0 : Int) []) ++ sure) (List.replicate (0 : Nat) (Sector.mk (0 : Int) []) ++ sure))).c1 (stG (stOf (List.replicate (0 : Nat) (Sector.mk (0 : Int) []) ++ sure) (List.replicate (0 : Nat) (Sector.mk (0 : Int) []) ++ sure))).c2) then some (D.bool true) else some (D.bool false) else none else some (D.bool false) else some (D.bool false) else none else none else none else none else none else none else none else none else bif errC (pNow now sure (32 : Int) n (ckB n (St.mk p items l0 l1 l2 c0 c1 c2))) (pSure now sure (32 : Int) n (ckB n (St.mk p items l0 l1 l2 c0 c1 c2))) != errC now sure then some (D.bool false) else bif numC (pNow now sure (32 : Int) n (ckB n (St.mk p items l0 l1 l2 c0 c1 c2))) (pSure now sure (32 : Int) n (ckB n (St.mk p items l0 l1 l2 c0 c1 c2))) != numC now sure then some (D.bool false) else bif lenOK (stG (stOf now sure)).items.length && lenOK (stG (stOf (pNow now sure (32 : Int) n (ckB n (St.mk p items l0 l1 l2 c0 c1 c2))) (pSure now sure (32 : Int) n (ckB n (St.mk p items l0 l1 l2 c0 c1 c2))))).items.length && (lenOK (stG (stOf now sure)).l0.length && lenOK (stG (stOf (pNow now sure (32 : Int) n (ckB n (St.mk p items l0 l1 l2 c0 c1 c2))) (pSure now sure (32 : Int) n (ckB n (St.mk p items l0 l1 l2 c0 c1 c2))))).l0.length) && (lenOK (stG (stOf now sure)).l1.length && lenOK (stG (stOf (pNow now sure (32 : Int) n (ckB n (St.mk p items l0 l1 l2 c0 c1 c2))) (pSure now sure (32 : Int) n (ckB n (St.mk p items l0 l1 l2 c0 c1 c2))))).l1.length) && (lenOK (stG (stOf now sure)).l2.length && lenOK (stG (stOf (pNow now sure (32 : Int) n (ckB n (St.mk p items l0 l1 l2 c0 c1 c2))) (pSure now sure (32 : Int) n (ckB n (St.mk p items l0 l1 l2 c0 c1 c2))))).l2.length) then bif !decide (St.mk (stG (stOf now sure)).place (stG (stOf now sure)).items (stG (stOf now sure)).l0 (stG (stOf now sure)).l1 (stG (stOf now sure)).l2 (stG (stOf now sure)).c0 (stG (stOf now sure)).c1 (stG (stOf now sure)).c2 = St.mk (stG (stOf (pNow now sure (32 : Int) n (ckB n (St.mk p items l0 l1 l2 c0 c1 c2))) (pSure now sure (32 : Int) n (ckB n (St.mk p items l0 l1 l2 c0 c1 c2))))).place (stG (stOf (pNow now sure (32 : Int) n (ckB n (St.mk p items l0 l1 l2 c0 c1 c2))) (pSure now sure (32 : Int) n (ckB n (St.mk p items l0 l1 l2 c0 c1 c2))))).items (stG (stOf (pNow now sure (32 : Int) n (ckB n (St.mk p items l0 l1 l2 c0 c1 c2))) (pSure now sure (32 : Int) n (ckB n (St.mk p items l0 l1 l2 c0 c1 c2))))).l0 (stG (stOf (pNow now sure (32 : Int) n (ckB n (St.mk p items l0 l1 l2 c0 c1 c2))) (pSure now sure (32 : Int) n (ckB n (St.mk p items l0 l1 l2 c0 c1 c2))))).l1 (stG (stOf (pNow now sure (32 : Int) n (ckB n (St.mk p items l0 l1 l2 c0 c1 c2))) (pSure now sure (32 : Int) n (ckB n (St.mk p items l0 l1 l2 c0 c1 c2))))).l2 (stG (stOf (pNow now sure (32 : Int) n (ckB n (St.mk p items l0 l1 l2 c0 c1 c2))) (pSure now sure (32 : Int) n (ckB n (St.mk p items l0 l1 l2 c0 c1 c2))))).c0 (stG (stOf (pNow now sure (32 : Int) n (ckB n (St.mk p items l0 l1 l2 c0 c1 c2))) (pSure now sure (32 : Int) n (ckB n (St.mk p items l0 l1 l2 c0 c1 c2))))).c1 (stG (stOf (pNow now sure (32 : Int) n (ckB n (St.mk p items l0 l1 l2 c0 c1 c2))) (pSure now sure (32 : Int) n (ckB n (St.mk p items l0 l1 l2 c0 c1 c2))))).c2) then some (D.bool false) else bif goodL (pNow now sure (32 : Int) n (ckB n (St.mk p items l0 l1 l2 c0 c1 c2))) && goodL (pSure now sure (32 : Int) n (ckB n (St.mk p items l0 l1 l2 c0 c1 c2))) then bif (bif diskOK (pNow now sure (32 : Int) n (ckB n (St.mk p items l0 l1 l2 c0 c1 c2))) (pSure now sure (32 : Int) n (ckB n (St.mk p items l0 l1 l2 c0 c1 c2))) then (0 : Int) else (2 : Int)) != (0 : Int) then some (D.bool false) else bif goodL (bif diskOK (pNow now sure (32 : Int) n (ckB n (St.mk p items l0 l1 l2 c0 c1 c2))) (pSure now sure (32 : Int) n (ckB n (St.mk p items l0 l1 l2 c0 c1 c2))) then Prod.fst (crashF lost (33 : Nat) (0 : Nat) (pNow now sure (32 : Int) n (ckB n (St.mk p items l0 l1 l2 c0 c1 c2))) (pSure now sure (32 : Int) n (ckB n (St.mk p items l0 l1 l2 c0 c1 c2)))) else []) && goodL (bif diskOK (pNow now sure (32 : Int) n (ckB n (St.mk p items l0 l1 l2 c0 c1 c2))) (pSure now sure (32 : Int) n (ckB n (St.mk p items l0 l1 l2 c0 c1 c2))) then Prod.snd (crashF lost (33 : Nat) (0 : Nat) (pNow now sure (32 : Int) n (ckB n (St.mk p items l0 l1 l2 c0 c1 c2))) (pSure now sure (32 : Int) n (ckB n (St.mk p items l0 l1 l2 c0 c1 c2)))) else []) then bif sizeOK ((0 : Nat) + List.length sure) (24 : Nat) then bif sizeOK ((0 : Nat) + List.length sure) (24 : Nat) then bif Nat.beq ((0 : Nat) + List.length sure) (List.replicate (0 : Nat) (Sector.mk (0 : Int) []) ++ sure).length then bif Nat.beq ((0 : Nat) + List.length sure) (List.replicate (0 : Nat) (Sector.mk (0 : Int) []) ++ sure).length then bif goodL (List.replicate (0 : Nat) (Sector.mk (0 : Int) []) ++ sure) && goodL (List.replicate (0 : Nat) (Sector.mk (0 : Int) []) ++ sure) then bif errC (bif diskOK (pNow now sure (32 : Int) n (ckB n (St.mk p items l0 l1 l2 c0 c1 c2))) (pSure now sure (32 : Int) n (ckB n (St.mk p items l0 l1 l2 c0 c1 c2))) then Prod.fst (crashF lost (33 : Nat) (0 : Nat) (pNow now sure (32 : Int) n (ckB n (St.mk p items l0 l1 l2 c0 c1 c2))) (pSure now sure (32 : Int) n (ckB n (St.mk p items l0 l1 l2 c0 c1 c2)))) else []) (bif diskOK (pNow now sure (32 : Int) n (ckB n (St.mk p items l0 l1 l2 c0 c1 c2))) (pSure now sure (32 : Int) n (ckB n (St.mk p items l0 l1 l2 c0 c1 c2))) then Prod.snd (crashF lost (33 : Nat) (0 : Nat) (pNow now sure (32 : Int) n (ckB n (St.mk p items l0 l1 l2 c0 c1 c2))) (pSure now sure (32 : Int) n (ckB n (St.mk p items l0 l1 l2 c0 c1 c2)))) else []) == errC (pNow now sure (32 : Int) n (ckB n (St.mk p items l0 l1 l2 c0 c1 c2))) (pSure now sure (32 : Int) n (ckB n (St.mk p items l0 l1 l2 c0 c1 c2))) then bif numC (bif diskOK (pNow now sure (32 : Int) n (ckB n (St.mk p items l0 l1 l2 c0 c1 c2))) (pSure now sure (32 : Int) n (ckB n (St.mk p items l0 l1 l2 c0 c1 c2))) then Prod.fst (crashF lost (33 : Nat) (0 : Nat) (pNow now sure (32 : Int) n (ckB n (St.mk p items l0 l1 l2 c0 c1 c2))) (pSure now sure (32 : Int) n (ckB n (St.mk p items l0 l1 l2 c0 c1 c2)))) else []) (bif diskOK (pNow now sure (32 : Int) n (ckB n (St.mk p items l0 l1 l2 c0 c1 c2))) (pSure now sure (32 : Int) n (ckB n (St.mk p items l0 l1 l2 c0 c1 c2))) then Prod.snd (crashF lost (33 : Nat) (0 : Nat) (pNow now sure (32 : Int) n (ckB n (St.mk p items l0 l1 l2 c0 c1 c2))) (pSure now sure (32 : Int) n (ckB n (St.mk p items l0 l1 l2 c0 c1 c2)))) else []) == numC (pNow now sure (32 : Int) n (ckB n (St.mk p items l0 l1 l2 c0 c1 c2))) (pSure now sure (32 : Int) n (ckB n (St.mk p items l0 l1 l2 c0 c1 c2))) then bif lenOK (stG (stOf (bif diskOK (pNow now sure (32 : Int) n (ckB n (St.mk p items l0 l1 l2 c0 c1 c2))) (pSure now sure (32 : Int) n (ckB n (St.mk p items l0 l1 l2 c0 c1 c2))) then Prod.fst (crashF lost (33 : Nat) (0 : Nat) (pNow now sure (32 : Int) n (ckB n (St.mk p items l0 l1 l2 c0 c1 c2))) (pSure now sure (32 : Int) n (ckB n (St.mk p items l0 l1 l2 c0 c1 c2)))) else []) (bif diskOK (pNow now sure (32 : Int) n (ckB n (St.mk p items l0 l1 l2 c0 c1 c2))) (pSure now sure (32 : Int) n (ckB n (St.mk p items l0 l1 l2 c0 c1 c2))) then Prod.snd (crashF lost (33 : Nat) (0 : Nat) (pNow now sure (32 : Int) n (ckB n (St.mk p items l0 l1 l2 c0 c1 c2))) (pSure now sure (32 : Int) n (ckB n (St.mk p items l0 l1 l2 c0 c1 c2)))) else []))).items.length && lenOK (stG (stOf (pNow now sure (32 : Int) n (ckB n (St.mk p items l0 l1 l2 c0 c1 c2))) (pSure now sure (32 : Int) n (ckB n (St.mk p items l0 l1 l2 c0 c1 c2))))).items.length && (lenOK (stG (stOf (bif diskOK (pNow now sure (32 : Int) n (ckB n (St.mk p items l0 l1 l2 c0 c1 c2))) (pSure now sure (32 : Int) n (ckB n (St.mk p items l0 l1 l2 c0 c1 c2))) then Prod.fst (crashF lost (33 : Nat) (0 : Nat) (pNow now sure (32 : Int) n (ckB n (St.mk p items l0 l1 l2 c0 c1 c2))) (pSure now sure (32 : Int) n (ckB n (St.mk p items l0 l1 l2 c0 c1 c2)))) else []) (bif diskOK (pNow now sure (32 : Int) n (ckB n (St.mk p items l0 l1 l2 c0 c1 c2))) (pSure now sure (32 : Int) n (ckB n (St.mk p items l0 l1 l2 c0 c1 c2))) then Prod.snd (crashF lost (33 : Nat) (0 : Nat) (pNow now sure (32 : Int) n (ckB n (St.mk p items l0 l1 l2 c0 c1 c2))) (pSure now sure (32 : Int) n (ckB n (St.mk p items l0 l1 l2 c0 c1 c2)))) else []))).l0.length && lenOK (stG (stOf (pNow now sure (32 : Int) n (ckB n (St.mk p items l0 l1 l2 c0 c1 c2))) (pSure now sure (32 : Int) n (ckB n (St.mk p items l0 l1 l2 c0 c1 c2))))).l0.length) && (lenOK (stG (stOf (bif diskOK (pNow now sure (32 : Int) n (ckB n (St.mk p items l0 l1 l2 c0 c1 c2))) (pSure now sure (32 : Int) n (ckB n (St.mk p items l0 l1 l2 c0 c1 c2))) then Prod.fst (crashF lost (33 : Nat) (0 : Nat) (pNow now sure (32 : Int) n (ckB n (St.mk p items l0 l1 l2 c0 c1 c2))) (pSure now sure (32 : Int) n (ckB n (St.mk p items l0 l1 l2 c0 c1 c2)))) else []) (bif diskOK (pNow now sure (32 : Int) n (ckB n (St.mk p items l0 l1 l2 c0 c1 c2))) (pSure now sure (32 : Int) n (ckB n (St.mk p items l0 l1 l2 c0 c1 c2))) then Prod.snd (crashF lost (33 : Nat) (0 : Nat) (pNow now sure (32 : Int) n (ckB n (St.mk p items l0 l1 l2 c0 c1 c2))) (pSure now sure (32 : Int) n (ckB n (St.mk p items l0 l1 l2 c0 c1 c2)))) else []))).l1.length && lenOK (stG (stOf (pNow now sure (32 : Int) n (ckB n (St.mk p items l0 l1 l2 c0 c1 c2))) (pSure now sure (32 : Int) n (ckB n (St.mk p items l0 l1 l2 c0 c1 c2))))).l1.length) && (lenOK (stG (stOf (bif diskOK (pNow now sure (32 : Int) n (ckB n (St.mk p items l0 l1 l2 c0 c1 c2))) (pSure now sure (32 : Int) n (ckB n (St.mk p items l0 l1 l2 c0 c1 c2))) then Prod.fst (crashF lost (33 : Nat) (0 : Nat) (pNow now sure (32 : Int) n (ckB n (St.mk p items l0 l1 l2 c0 c1 c2))) (pSure now sure (32 : Int) n (ckB n (St.mk p items l0 l1 l2 c0 c1 c2)))) else []) (bif diskOK (pNow now sure (32 : Int) n (ckB n (St.mk p items l0 l1 l2 c0 c1 c2))) (pSure now sure (32 : Int) n (ckB n (St.mk p items l0 l1 l2 c0 c1 c2))) then Prod.snd (crashF lost (33 : Nat) (0 : Nat) (pNow now sure (32 : Int) n (ckB n (St.mk p items l0 l1 l2 c0 c1 c2))) (pSure now sure (32 : Int) n (ckB n (St.mk p items l0 l1 l2 c0 c1 c2)))) else []))).l2.length && lenOK (stG (stOf (pNow now sure (32 : Int) n (ckB n (St.mk p items l0 l1 l2 c0 c1 c2))) (pSure now sure (32 : Int) n (ckB n (St.mk p items l0 l1 l2 c0 c1 c2))))).l2.length) then bif decide (St.mk (stG (stOf (bif diskOK (pNow now sure (32 : Int) n (ckB n (St.mk p items l0 l1 l2 c0 c1 c2))) (pSure now sure (32 : Int) n (ckB n (St.mk p items l0 l1 l2 c0 c1 c2))) then Prod.fst (crashF lost (33 : Nat) (0 : Nat) (pNow now sure (32 : Int) n (ckB n (St.mk p items l0 l1 l2 c0 c1 c2))) (pSure now sure (32 : Int) n (ckB n (St.mk p items l0 l1 l2 c0 c1 c2)))) else []) (bif diskOK (pNow now sure (32 : Int) n (ckB n (St.mk p items l0 l1 l2 c0 c1 c2))) (pSure now sure (32 : Int) n (ckB n (St.mk p items l0 l1 l2 c0 c1 c2))) then Prod.snd (crashF lost (33 : Nat) (0 : Nat) (pNow now sure (32 : Int) n (ckB n (St.mk p items l0 l1 l2 c0 c1 c2))) (pSure now sure (32 : Int) n (ckB n (St.mk p items l0 l1 l2 c0 c1 c2)))) else []))).place (stG (stOf (bif diskOK (pNow now sure (32 : Int) n (ckB n (St.mk p items l0 l1 l2 c0 c1 c2))) (pSure now sure (32 : Int) n (ckB n (St.mk p items l0 l1 l2 c0 c1 c2))) then Prod.fst (crashF lost (33 : Nat) (0 : Nat) (pNow now sure (32 : Int) n (ckB n (St.mk p items l0 l1 l2 c0 c1 c2))) (pSure now sure (32 : Int) n (ckB n (St.mk p items l0 l1 l2 c0 c1 c2)))) else []) (bif diskOK (pNow now sure (32 : Int) n (ckB n (St.mk p items l0 l1 l2 c0 c1 c2))) (pSure now sure (32 : Int) n (ckB n (St.mk p items l0 l1 l2 c0 c1 c2))) then Prod.snd (crashF lost (33 : Nat) (0 : Nat) (pNow now sure (32 : Int) n (ckB n (St.mk p items l0 l1 l2 c0 c1 c2))) (pSure now sure (32 : Int) n (ckB n (St.mk p items l0 l1 l2 c0 c1 c2)))) else []))).items (stG (stOf (bif diskOK (pNow now sure (32 : Int) n (ckB n (St.mk p items l0 l1 l2 c0 c1 c2))) (pSure now sure (32 : Int) n (ckB n (St.mk p items l0 l1 l2 c0 c1 c2))) then Prod.fst (crashF lost (33 : Nat) (0 : Nat) (pNow now sure (32 : Int) n (ckB n (St.mk p items l0 l1 l2 c0 c1 c2))) (pSure now sure (32 : Int) n (ckB n (St.mk p items l0 l1 l2 c0 c1 c2)))) else []) (bif diskOK (pNow now sure (32 : Int) n (ckB n (St.mk p items l0 l1 l2 c0 c1 c2))) (pSure now sure (32 : Int) n (ckB n (St.mk p items l0 l1 l2 c0 c1 c2))) then Prod.snd (crashF lost (33 : Nat) (0 : Nat) (pNow now sure (32 : Int) n (ckB n (St.mk p items l0 l1 l2 c0 c1 c2))) (pSure now sure (32 : Int) n (ckB n (St.mk p items l0 l1 l2 c0 c1 c2)))) else []))).l0 (stG (stOf (bif diskOK (pNow now sure (32 : Int) n (ckB n (St.mk p items l0 l1 l2 c0 c1 c2))) (pSure now sure (32 : Int) n (ckB n (St.mk p items l0 l1 l2 c0 c1 c2))) then Prod.fst (crashF lost (33 : Nat) (0 : Nat) (pNow now sure (32 : Int) n (ckB n (St.mk p items l0 l1 l2 c0 c1 c2))) (pSure now sure (32 : Int) n (ckB n (St.mk p items l0 l1 l2 c0 c1 c2)))) else []) (bif diskOK (pNow now sure (32 : Int) n (ckB n (St.mk p items l0 l1 l2 c0 c1 c2))) (pSure now sure (32 : Int) n (ckB n (St.mk p items l0 l1 l2 c0 c1 c2))) then Prod.snd (crashF lost (33 : Nat) (0 : Nat) (pNow now sure (32 : Int) n (ckB n (St.mk p items l0 l1 l2 c0 c1 c2))) (pSure now sure (32 : Int) n (ckB n (St.mk p items l0 l1 l2 c0 c1 c2)))) else []))).l1 (stG (stOf (bif diskOK (pNow now sure (32 : Int) n (ckB n (St.mk p items l0 l1 l2 c0 c1 c2))) (pSure now sure (32 : Int) n (ckB n (St.mk p items l0 l1 l2 c0 c1 c2))) then Prod.fst (crashF lost (33 : Nat) (0 : Nat) (pNow now sure (32 : Int) n (ckB n (St.mk p items l0 l1 l2 c0 c1 c2))) (pSure now sure (32 : Int) n (ckB n (St.mk p items l0 l1 l2 c0 c1 c2)))) else []) (bif diskOK (pNow now sure (32 : Int) n (ckB n (St.mk p items l0 l1 l2 c0 c1 c2))) (pSure now sure (32 : Int) n (ckB n (St.mk p items l0 l1 l2 c0 c1 c2))) then Prod.snd (crashF lost (33 : Nat) (0 : Nat) (pNow now sure (32 : Int) n (ckB n (St.mk p items l0 l1 l2 c0 c1 c2))) (pSure now sure (32 : Int) n (ckB n (St.mk p items l0 l1 l2 c0 c1 c2)))) else []))).l2 (stG (stOf (bif diskOK (pNow now sure (32 : Int) n (ckB n (St.mk p items l0 l1 l2 c0 c1 c2))) (pSure now sure (32 : Int) n (ckB n (St.mk p items l0 l1 l2 c0 c1 c2))) then Prod.fst (crashF lost (33 : Nat) (0 : Nat) (pNow now sure (32 : Int) n (ckB n (St.mk p items l0 l1 l2 c0 c1 c2))) (pSure now sure (32 : Int) n (ckB n (St.mk p items l0 l1 l2 c0 c1 c2)))) else []) (bif diskOK (pNow now sure (32 : Int) n (ckB n (St.mk p items l0 l1 l2 c0 c1 c2))) (pSure now sure (32 : Int) n (ckB n (St.mk p items l0 l1 l2 c0 c1 c2))) then Prod.snd (crashF lost (33 : Nat) (0 : Nat) (pNow now sure (32 : Int) n (ckB n (St.mk p items l0 l1 l2 c0 c1 c2))) (pSure now sure (32 : Int) n (ckB n (St.mk p items l0 l1 l2 c0 c1 c2)))) else []))).c0 (stG (stOf (bif diskOK (pNow now sure (32 : Int) n (ckB n (St.mk p items l0 l1 l2 c0 c1 c2))) (pSure now sure (32 : Int) n (ckB n (St.mk p items l0 l1 l2 c0 c1 c2))) then Prod.fst (crashF lost (33 : Nat) (0 : Nat) (pNow now sure (32 : Int) n (ckB n (St.mk p items l0 l1 l2 c0 c1 c2))) (pSure now sure (32 : Int) n (ckB n (St.mk p items l0 l1 l2 c0 c1 c2)))) else []) (bif diskOK (pNow now sure (32 : Int) n (ckB n (St.mk p items l0 l1 l2 c0 c1 c2))) (pSure now sure (32 : Int) n (ckB n (St.mk p items l0 l1 l2 c0 c1 c2))) then Prod.snd (crashF lost (33 : Nat) (0 : Nat) (pNow now sure (32 : Int) n (ckB n (St.mk p items l0 l1 l2 c0 c1 c2))) (pSure now sure (32 : Int) n (ckB n (St.mk p items l0 l1 l2 c0 c1 c2)))) else []))).c1 (stG (stOf (bif diskOK (pNow now sure (32 : Int) n (ckB n (St.mk p items l0 l1 l2 c0 c1 c2))) (pSure now sure (32 : Int) n (ckB n (St.mk p items l0 l1 l2 c0 c1 c2))) then Prod.fst (crashF lost (33 : Nat) (0 : Nat) (pNow now sure (32 : Int) n (ckB n (St.mk p items l0 l1 l2 c0 c1 c2))) (pSure now sure (32 : Int) n (ckB n (St.mk p items l0 l1 l2 c0 c1 c2)))) else []) (bif diskOK (pNow now sure (32 : Int) n (ckB n (St.mk p items l0 l1 l2 c0 c1 c2))) (pSure now sure (32 : Int) n (ckB n (St.mk p items l0 l1 l2 c0 c1 c2))) then Prod.snd (crashF lost (33 : Nat) (0 : Nat) (pNow now sure (32 : Int) n (ckB n (St.mk p items l0 l1 l2 c0 c1 c2))) (pSure now sure (32 : Int) n (ckB n (St.mk p items l0 l1 l2 c0 c1 c2)))) else []))).c2 = St.mk (stG (stOf (pNow now sure (32 : Int) n (ckB n (St.mk p items l0 l1 l2 c0 c1 c2))) (pSure now sure (32 : Int) n (ckB n (St.mk p items l0 l1 l2 c0 c1 c2))))).place (stG (stOf (pNow now sure (32 : Int) n (ckB n (St.mk p items l0 l1 l2 c0 c1 c2))) (pSure now sure (32 : Int) n (ckB n (St.mk p items l0 l1 l2 c0 c1 c2))))).items (stG (stOf (pNow now sure (32 : Int) n (ckB n (St.mk p items l0 l1 l2 c0 c1 c2))) (pSure now sure (32 : Int) n (ckB n (St.mk p items l0 l1 l2 c0 c1 c2))))).l0 (stG (stOf (pNow now sure (32 : Int) n (ckB n (St.mk p items l0 l1 l2 c0 c1 c2))) (pSure now sure (32 : Int) n (ckB n (St.mk p items l0 l1 l2 c0 c1 c2))))).l1 (stG (stOf (pNow now sure (32 : Int) n (ckB n (St.mk p items l0 l1 l2 c0 c1 c2))) (pSure now sure (32 : Int) n (ckB n (St.mk p items l0 l1 l2 c0 c1 c2))))).l2 (stG (stOf (pNow now sure (32 : Int) n (ckB n (St.mk p items l0 l1 l2 c0 c1 c2))) (pSure now sure (32 : Int) n (ckB n (St.mk p items l0 l1 l2 c0 c1 c2))))).c0 (stG (stOf (pNow now sure (32 : Int) n (ckB n (St.mk p items l0 l1 l2 c0 c1 c2))) (pSure now sure (32 : Int) n (ckB n (St.mk p items l0 l1 l2 c0 c1 c2))))).c1 (stG (stOf (pNow now sure (32 : Int) n (ckB n (St.mk p items l0 l1 l2 c0 c1 c2))) (pSure now sure (32 : Int) n (ckB n (St.mk p items l0 l1 l2 c0 c1 c2))))).c2) then some (D.bool true) else bif errC (bif diskOK (pNow now sure (32 : Int) n (ckB n (St.mk p items l0 l1 l2 c0 c1 c2))) (pSure now sure (32 : Int) n (ckB n (St.mk p items l0 l1 l2 c0 c1 c2))) then Prod.fst (crashF lost (33 : Nat) (0 : Nat) (pNow now sure (32 : Int) n (ckB n (St.mk p items l0 l1 l2 c0 c1 c2))) (pSure now sure (32 : Int) n (ckB n (St.mk p items l0 l1 l2 c0 c1 c2)))) else []) (bif diskOK (pNow now sure (32 : Int) n (ckB n (St.mk p items l0 l1 l2 c0 c1 c2))) (pSure now sure (32 : Int) n (ckB n (St.mk p items l0 l1 l2 c0 c1 c2))) then Prod.snd (crashF lost (33 : Nat) (0 : Nat) (pNow now sure (32 : Int) n (ckB n (St.mk p items l0 l1 l2 c0 c1 c2))) (pSure now sure (32 : Int) n (ckB n (St.mk p items l0 l1 l2 c0 c1 c2)))) else []) == errC (List.replicate (0 : Nat) (Sector.mk (0 : Int) []) ++ sure) (List.replicate (0 : Nat) (Sector.mk (0 : Int) []) ++ sure) then bif numC (bif diskOK (pNow now sure (32 : Int) n (ckB n (St.mk p items l0 l1 l2 c0 c1 c2))) (pSure now sure (32 : Int) n (ckB n (St.mk p items l0 l1 l2 c0 c1 c2))) then Prod.fst (crashF lost (33 : Nat) (0 : Nat) (pNow now sure (32 : Int) n (ckB n (St.mk p items l0 l1 l2 c0 c1 c2))) (pSure now sure (32 : Int) n (ckB n (St.mk p items l0 l1 l2 c0 c1 c2)))) else []) (bif diskOK (pNow now sure (32 : Int) n (ckB n (St.mk p items l0 l1 l2 c0 c1 c2))) (pSure now sure (32 : Int) n (ckB n (St.mk p items l0 l1 l2 c0 c1 c2))) then Prod.snd (crashF lost (33 : Nat) (0 : Nat) (pNow now sure (32 : Int) n (ckB n (St.mk p items l0 l1 l2 c0 c1 c2))) (pSure now sure (32 : Int) n (ckB n (St.mk p items l0 l1 l2 c0 c1 c2)))) else []) == numC (List.replicate (0 : Nat) (Sector.mk (0 : Int) []) ++ sure) (List.replicate (0 : Nat) (Sector.mk (0 : Int) []) ++ sure) then bif lenOK (stG (stOf (bif diskOK (pNow now sure (32 : Int) n (ckB n (St.mk p items l0 l1 l2 c0 c1 c2))) (pSure now sure (32 : Int) n (ckB n (St.mk p items l0 l1 l2 c0 c1 c2))) then Prod.fst (crashF lost (33 : Nat) (0 : Nat) (pNow now sure (32 : Int) n (ckB n (St.mk p items l0 l1 l2 c0 c1 c2))) (pSure now sure (32 : Int) n (ckB n (St.mk p items l0 l1 l2 c0 c1 c2)))) else []) (bif diskOK (pNow now sure (32 : Int) n (ckB n (St.mk p items l0 l1 l2 c0 c1 c2))) (pSure now sure (32 : Int) n (ckB n (St.mk p items l0 l1 l2 c0 c1 c2))) then Prod.snd (crashF lost (33 : Nat) (0 : Nat) (pNow now sure (32 : Int) n (ckB n (St.mk p items l0 l1 l2 c0 c1 c2))) (pSure now sure (32 : Int) n (ckB n (St.mk p items l0 l1 l2 c0 c1 c2)))) else []))).items.length && lenOK (stG (stOf (List.replicate (0 : Nat) (Sector.mk (0 : Int) []) ++ sure) (List.replicate (0 : Nat) (Sector.mk (0 : Int) []) ++ sure))).items.length && (lenOK (stG (stOf (bif diskOK (pNow now sure (32 : Int) n (ckB n (St.mk p items l0 l1 l2 c0 c1 c2))) (pSure now sure (32 : Int) n (ckB n (St.mk p items l0 l1 l2 c0 c1 c2))) then Prod.fst (crashF lost (33 : Nat) (0 : Nat) (pNow now sure (32 : Int) n (ckB n (St.mk p items l0 l1 l2 c0 c1 c2))) (pSure now sure (32 : Int) n (ckB n (St.mk p items l0 l1 l2 c0 c1 c2)))) else []) (bif diskOK (pNow now sure (32 : Int) n (ckB n (St.mk p items l0 l1 l2 c0 c1 c2))) (pSure now sure (32 : Int) n (ckB n (St.mk p items l0 l1 l2 c0 c1 c2))) then Prod.snd (crashF lost (33 : Nat) (0 : Nat) (pNow now sure (32 : Int) n (ckB n (St.mk p items l0 l1 l2 c0 c1 c2))) (pSure now sure (32 : Int) n (ckB n (St.mk p items l0 l1 l2 c0 c1 c2)))) else []))).l0.length && lenOK (stG (stOf (List.replicate (0 : Nat) (Sector.mk (0 : Int) []) ++ sure) (List.replicate (0 : Nat) (Sector.mk (0 : Int) []) ++ sure))).l0.length) && (lenOK (stG (stOf (bif diskOK (pNow now sure (32 : Int) n (ckB n (St.mk p items l0 l1 l2 c0 c1 c2))) (pSure now sure (32 : Int) n (ckB n (St.mk p items l0 l1 l2 c0 c1 c2))) then Prod.fst (crashF lost (33 : Nat) (0 : Nat) (pNow now sure (32 : Int) n (ckB n (St.mk p items l0 l1 l2 c0 c1 c2))) (pSure now sure (32 : Int) n (ckB n (St.mk p items l0 l1 l2 c0 c1 c2)))) else []) (bif diskOK (pNow now sure (32 : Int) n (ckB n (St.mk p items l0 l1 l2 c0 c1 c2))) (pSure now sure (32 : Int) n (ckB n (St.mk p items l0 l1 l2 c0 c1 c2))) then Prod.snd (crashF lost (33 : Nat) (0 : Nat) (pNow now sure (32 : Int) n (ckB n (St.mk p items l0 l1 l2 c0 c1 c2))) (pSure now sure (32 : Int) n (ckB n (St.mk p items l0 l1 l2 c0 c1 c2)))) else []))).l1.length && lenOK (stG (stOf (List.replicate (0 : Nat) (Sector.mk (0 : Int) []) ++ sure) (List.replicate (0 : Nat) (Sector.mk (0 : Int) []) ++ sure))).l1.length) && (lenOK (stG (stOf (bif diskOK (pNow now sure (32 : Int) n (ckB n (St.mk p items l0 l1 l2 c0 c1 c2))) (pSure now sure (32 : Int) n (ckB n (St.mk p items l0 l1 l2 c0 c1 c2))) then Prod.fst (crashF lost (33 : Nat) (0 : Nat) (pNow now sure (32 : Int) n (ckB n (St.mk p items l0 l1 l2 c0 c1 c2))) (pSure now sure (32 : Int) n (ckB n (St.mk p items l0 l1 l2 c0 c1 c2)))) else []) (bif diskOK (pNow now sure (32 : Int) n (ckB n (St.mk p items l0 l1 l2 c0 c1 c2))) (pSure now sure (32 : Int) n (ckB n (St.mk p items l0 l1 l2 c0 c1 c2))) then Prod.snd (crashF lost (33 : Nat) (0 : Nat) (pNow now sure (32 : Int) n (ckB n (St.mk p items l0 l1 l2 c0 c1 c2))) (pSure now sure (32 : Int) n (ckB n (St.mk p items l0 l1 l2 c0 c1 c2)))) else []))).l2.length && lenOK (stG (stOf (List.replicate (0 : Nat) (Sector.mk (0 : Int) []) ++ sure) (List.replicate (0 : Nat) (Sector.mk (0 : Int) []) ++ sure))).l2.length) then bif decide (St.mk (stG (stOf (bif diskOK (pNow now sure (32 : Int) n (ckB n (St.mk p items l0 l1 l2 c0 c1 c2))) (pSure now sure (32 : Int) n (ckB n (St.mk p items l0 l1 l2 c0 c1 c2))) then Prod.fst (crashF lost (33 : Nat) (0 : Nat) (pNow now sure (32 : Int) n (ckB n (St.mk p items l0 l1 l2 c0 c1 c2))) (pSure now sure (32 : Int) n (ckB n (St.mk p items l0 l1 l2 c0 c1 c2)))) else []) (bif diskOK (pNow now sure (32 : Int) n (ckB n (St.mk p items l0 l1 l2 c0 c1 c2))) (pSure now sure (32 : Int) n (ckB n (St.mk p items l0 l1 l2 c0 c1 c2))) then Prod.snd (crashF lost (33 : Nat) (0 : Nat) (pNow now sure (32 : Int) n (ckB n (St.mk p items l0 l1 l2 c0 c1 c2))) (pSure now sure (32 : Int) n (ckB n (St.mk p items l0 l1 l2 c0 c1 c2)))) else []))).place (stG (stOf (bif diskOK (pNow now sure (32 : Int) n (ckB n (St.mk p items l0 l1 l2 c0 c1 c2))) (pSure now sure (32 : Int) n (ckB n (St.mk p items l0 l1 l2 c0 c1 c2))) then Prod.fst (crashF lost (33 : Nat) (0 : Nat) (pNow now sure (32 : Int) n (ckB n (St.mk p items l0 l1 l2 c0 c1 c2))) (pSure now sure (32 : Int) n (ckB n (St.mk p items l0 l1 l2 c0 c1 c2)))) else []) (bif diskOK (pNow now sure (32 : Int) n (ckB n (St.mk p items l0 l1 l2 c0 c1 c2))) (pSure now sure (32 : Int) n (ckB n (St.mk p items l0 l1 l2 c0 c1 c2))) then Prod.snd (crashF lost (33 : Nat) (0 : Nat) (pNow now sure (32 : Int) n (ckB n (St.mk p items l0 l1 l2 c0 c1 c2))) (pSure now sure (32 : Int) n (ckB n (St.mk p items l0 l1 l2 c0 c1 c2)))) else []))).items (stG (stOf (bif diskOK (pNow now sure (32 : Int) n (ckB n (St.mk p items l0 l1 l2 c0 c1 c2))) (pSure now sure (32 : Int) n (ckB n (St.mk p items l0 l1 l2 c0 c1 c2))) then Prod.fst (crashF lost (33 : Nat) (0 : Nat) (pNow now sure (32 : Int) n (ckB n (St.mk p items l0 l1 l2 c0 c1 c2))) (pSure now sure (32 : Int) n (ckB n (St.mk p items l0 l1 l2 c0 c1 c2)))) else []) (bif diskOK (pNow now sure (32 : Int) n (ckB n (St.mk p items l0 l1 l2 c0 c1 c2))) (pSure now sure (32 : Int) n (ckB n (St.mk p items l0 l1 l2 c0 c1 c2))) then Prod.snd (crashF lost (33 : Nat) (0 : Nat) (pNow now sure (32 : Int) n (ckB n (St.mk p items l0 l1 l2 c0 c1 c2))) (pSure now sure (32 : Int) n (ckB n (St.mk p items l0 l1 l2 c0 c1 c2)))) else []))).l0 (stG (stOf (bif diskOK (pNow now sure (32 : Int) n (ckB n (St.mk p items l0 l1 l2 c0 c1 c2))) (pSure now sure (32 : Int) n (ckB n (St.mk p items l0 l1 l2 c0 c1 c2))) then Prod.fst (crashF lost (33 : Nat) (0 : Nat) (pNow now sure (32 : Int) n (ckB n (St.mk p items l0 l1 l2 c0 c1 c2))) (pSure now sure (32 : Int) n (ckB n (St.mk p items l0 l1 l2 c0 c1 c2)))) else []) (bif diskOK (pNow now sure (32 : Int) n (ckB n (St.mk p items l0 l1 l2 c0 c1 c2))) (pSure now sure (32 : Int) n (ckB n (St.mk p items l0 l1 l2 c0 c1 c2))) then Prod.snd (crashF lost (33 : Nat) (0 : Nat) (pNow now sure (32 : Int) n (ckB n (St.mk p items l0 l1 l2 c0 c1 c2))) (pSure now sure (32 : Int) n (ckB n (St.mk p items l0 l1 l2 c0 c1 c2)))) else []))).l1 (stG (stOf (bif diskOK (pNow now sure (32 : Int) n (ckB n (St.mk p items l0 l1 l2 c0 c1 c2))) (pSure now sure (32 : Int) n (ckB n (St.mk p items l0 l1 l2 c0 c1 c2))) then Prod.fst (crashF lost (33 : Nat) (0 : Nat) (pNow now sure (32 : Int) n (ckB n (St.mk p items l0 l1 l2 c0 c1 c2))) (pSure now sure (32 : Int) n (ckB n (St.mk p items l0 l1 l2 c0 c1 c2)))) else []) (bif diskOK (pNow now sure (32 : Int) n (ckB n (St.mk p items l0 l1 l2 c0 c1 c2))) (pSure now sure (32 : Int) n (ckB n (St.mk p items l0 l1 l2 c0 c1 c2))) then Prod.snd (crashF lost (33 : Nat) (0 : Nat) (pNow now sure (32 : Int) n (ckB n (St.mk p items l0 l1 l2 c0 c1 c2))) (pSure now sure (32 : Int) n (ckB n (St.mk p items l0 l1 l2 c0 c1 c2)))) else []))).l2 (stG (stOf (bif diskOK (pNow now sure (32 : Int) n (ckB n (St.mk p items l0 l1 l2 c0 c1 c2))) (pSure now sure (32 : Int) n (ckB n (St.mk p items l0 l1 l2 c0 c1 c2))) then Prod.fst (crashF lost (33 : Nat) (0 : Nat) (pNow now sure (32 : Int) n (ckB n (St.mk p items l0 l1 l2 c0 c1 c2))) (pSure now sure (32 : Int) n (ckB n (St.mk p items l0 l1 l2 c0 c1 c2)))) else []) (bif diskOK (pNow now sure (32 : Int) n (ckB n (St.mk p items l0 l1 l2 c0 c1 c2))) (pSure now sure (32 : Int) n (ckB n (St.mk p items l0 l1 l2 c0 c1 c2))) then Prod.snd (crashF lost (33 : Nat) (0 : Nat) (pNow now sure (32 : Int) n (ckB n (St.mk p items l0 l1 l2 c0 c1 c2))) (pSure now sure (32 : Int) n (ckB n (St.mk p items l0 l1 l2 c0 c1 c2)))) else []))).c0 (stG (stOf (bif diskOK (pNow now sure (32 : Int) n (ckB n (St.mk p items l0 l1 l2 c0 c1 c2))) (pSure now sure (32 : Int) n (ckB n (St.mk p items l0 l1 l2 c0 c1 c2))) then Prod.fst (crashF lost (33 : Nat) (0 : Nat) (pNow now sure (32 : Int) n (ckB n (St.mk p items l0 l1 l2 c0 c1 c2))) (pSure now sure (32 : Int) n (ckB n (St.mk p items l0 l1 l2 c0 c1 c2)))) else []) (bif diskOK (pNow now sure (32 : Int) n (ckB n (St.mk p items l0 l1 l2 c0 c1 c2))) (pSure now sure (32 : Int) n (ckB n (St.mk p items l0 l1 l2 c0 c1 c2))) then Prod.snd (crashF lost (33 : Nat) (0 : Nat) (pNow now sure (32 : Int) n (ckB n (St.mk p items l0 l1 l2 c0 c1 c2))) (pSure now sure (32 : Int) n (ckB n (St.mk p items l0 l1 l2 c0 c1 c2)))) else []))).c1 (stG (stOf (bif diskOK (pNow now sure (32 : Int) n (ckB n (St.mk p items l0 l1 l2 c0 c1 c2))) (pSure now sure (32 : Int) n (ckB n (St.mk p items l0 l1 l2 c0 c1 c2))) then Prod.fst (crashF lost (33 : Nat) (0 : Nat) (pNow now sure (32 : Int) n (ckB n (St.mk p items l0 l1 l2 c0 c1 c2))) (pSure now sure (32 : Int) n (ckB n (St.mk p items l0 l1 l2 c0 c1 c2)))) else []) (bif diskOK (pNow now sure (32 : Int) n (ckB n (St.mk p items l0 l1 l2 c0 c1 c2))) (pSure now sure (32 : Int) n (ckB n (St.mk p items l0 l1 l2 c0 c1 c2))) then Prod.snd (crashF lost (33 : Nat) (0 : Nat) (pNow now sure (32 : Int) n (ckB n (St.mk p items l0 l1 l2 c0 c1 c2))) (pSure now sure (32 : Int) n (ckB n (St.mk p items l0 l1 l2 c0 c1 c2)))) else []))).c2 = St.mk (stG (stOf (List.replicate (0 : Nat) (Sector.mk (0 : Int) []) ++ sure) (List.replicate (0 : Nat) (Sector.mk (0 : Int) []) ++ sure))).place (stG (stOf (List.replicate (0 : Nat) (Sector.mk (0 : Int) []) ++ sure) (List.replicate (0 : Nat) (Sector.mk (0 : Int) []) ++ sure))).items (stG (stOf (List.replicate (0 : Nat) (Sector.mk (0 : Int) []) ++ sure) (List.replicate (0 : Nat) (Sector.mk (0 : Int) []) ++ sure))).l0 (stG (stOf (List.replicate (0 : Nat) (Sector.mk (0 : Int) []) ++ sure) (List.replicate (0 : Nat) (Sector.mk (0 : Int) []) ++ sure))).l1 (stG (stOf (List.replicate (0 : Nat) (Sector.mk (0 : Int) []) ++ sure) (List.replicate (0 : Nat) (Sector.mk (0 : Int) []) ++ sure))).l2 (stG (stOf (List.replicate (0 : Nat) (Sector.mk (0 : Int) []) ++ sure) (List.replicate (0 : Nat) (Sector.mk (0 : Int) []) ++ sure))).c0 (stG (stOf (List.replicate (0 : Nat) (Sector.mk (0 : Int) []) ++ sure) (List.replicate (0 : Nat) (Sector.mk (0 : Int) []) ++ sure))).c1 (stG (stOf (List.replicate (0 : Nat) (Sector.mk (0 : Int) []) ++ sure) (List.replicate (0 : Nat) (Sector.mk (0 : Int) []) ++ sure))).c2) then some (D.bool true) else some (D.bool false) else none else some (D.bool false) else some (D.bool false) else none else bif errC (bif diskOK (pNow now sure (32 : Int) n (ckB n (St.mk p items l0 l1 l2 c0 c1 c2))) (pSure now sure (32 : Int) n (ckB n (St.mk p items l0 l1 l2 c0 c1 c2))) then Prod.fst (crashF lost (33 : Nat) (0 : Nat) (pNow now sure (32 : Int) n (ckB n (St.mk p items l0 l1 l2 c0 c1 c2))) (pSure now sure (32 : Int) n (ckB n (St.mk p items l0 l1 l2 c0 c1 c2)))) else []) (bif diskOK (pNow now sure (32 : Int) n (ckB n (St.mk p items l0 l1 l2 c0 c1 c2))) (pSure now sure (32 : Int) n (ckB n (St.mk p items l0 l1 l2 c0 c1 c2))) then Prod.snd (crashF lost (33 : Nat) (0 : Nat) (pNow now sure (32 : Int) n (ckB n (St.mk p items l0 l1 l2 c0 c1 c2))) (pSure now sure (32 : Int) n (ckB n (St.mk p items l0 l1 l2 c0 c1 c2)))) else []) == errC (List.replicate (0 : Nat) (Sector.mk (0 : Int) []) ++ sure) (List.replicate (0 : Nat) (Sector.mk (0 : Int) []) ++ sure) then bif numC (bif diskOK (pNow now sure (32 : Int) n (ckB n (St.mk p items l0 l1 l2 c0 c1 c2))) (pSure now sure (32 : Int) n (ckB n (St.mk p items l0 l1 l2 c0 c1 c2))) then Prod.fst (crashF lost (33 : Nat) (0 : Nat) (pNow now sure (32 : Int) n (ckB n (St.mk p items l0 l1 l2 c0 c1 c2))) (pSure now sure (32 : Int) n (ckB n (St.mk p items l0 l1 l2 c0 c1 c2)))) else []) (bif diskOK (pNow now sure (32 : Int) n (ckB n (St.mk p items l0 l1 l2 c0 c1 c2))) (pSure now sure (32 : Int) n (ckB n (St.mk p items l0 l1 l2 c0 c1 c2))) then Prod.snd (crashF lost (33 : Nat) (0 : Nat) (pNow now sure (32 : Int) n (ckB n (St.mk p items l0 l1 l2 c0 c1 c2))) (pSure now sure (32 : Int) n (ckB n (St.mk p items l0 l1 l2 c0 c1 c2)))) else []) == numC (List.replicate (0 : Nat) (Sector.mk (0 : Int) []) ++ sure) (List.replicate (0 : Nat) (Sector.mk (0 : Int) []) ++ sure) then bif lenOK (stG (stOf (bif diskOK (pNow now sure (32 : Int) n (ckB n (St.mk p items l0 l1 l2 c0 c1 c2))) (pSure now sure (32 : Int) n (ckB n (St.mk p items l0 l1 l2 c0 c1 c2))) then Prod.fst (crashF lost (33 : Nat) (0 : Nat) (pNow now sure (32 : Int) n (ckB n (St.mk p items l0 l1 l2 c0 c1 c2))) (pSure now sure (32 : Int) n (ckB n (St.mk p items l0 l1 l2 c0 c1 c2)))) else []) (bif diskOK (pNow now sure (32 : Int) n (ckB n (St.mk p items l0 l1 l2 c0 c1 c2))) (pSure now sure (32 : Int) n (ckB n (St.mk p items l0 l1 l2 c0 c1 c2))) then Prod.snd (crashF lost (33 : Nat) (0 : Nat) (pNow now sure (32 : Int) n (ckB n (St.mk p items l0 l1 l2 c0 c1 c2))) (pSure now sure (32 : Int) n (ckB n (St.mk p items l0 l1 l2 c0 c1 c2)))) else []))).items.length && lenOK (stG (stOf (List.replicate (0 : Nat) (Sector.mk (0 : Int) []) ++ sure) (List.replicate (0 : Nat) (Sector.mk (0 : Int) []) ++ sure))).items.length && (lenOK (stG (stOf (bif diskOK (pNow now sure (32 : Int) n (ckB n (St.mk p items l0 l1 l2 c0 c1 c2))) (pSure now sure (32 : Int) n (ckB n (St.mk p items l0 l1 l2 c0 c1 c2))) then Prod.fst (crashF lost (33 : Nat) (0 : Nat) (pNow now sure (32 : Int) n (ckB n (St.mk p items l0 l1 l2 c0 c1 c2))) (pSure now sure (32 : Int) n (ckB n (St.mk p items l0 l1 l2 c0 c1 c2)))) else []) (bif diskOK (pNow now sure (32 : Int) n (ckB n (St.mk p items l0 l1 l2 c0 c1 c2))) (pSure now sure (32 : Int) n (ckB n (St.mk p items l0 l1 l2 c0 c1 c2))) then Prod.snd (crashF lost (33 : Nat) (0 : Nat) (pNow now sure (32 : Int) n (ckB n (St.mk p items l0 l1 l2 c0 c1 c2))) (pSure now sure (32 : Int) n (ckB n (St.mk p items l0 l1 l2 c0 c1 c2)))) else []))).l0.length && lenOK (stG (stOf (List.replicate (0 : Nat) (Sector.mk (0 : Int) []) ++ sure) (List.replicate (0 : Nat) (Sector.mk (0 : Int) []) ++ sure))).l0.length) && (lenOK (stG (stOf (bif diskOK (pNow now sure (32 : Int) n (ckB n (St.mk p items l0 l1 l2 c0 c1 c2))) (pSure now sure (32 : Int) n (ckB n (St.mk p items l0 l1 l2 c0 c1 c2))) then Prod.fst (crashF lost (33 : Nat) (0 : Nat) (pNow now sure (32 : Int) n (ckB n (St.mk p items l0 l1 l2 c0 c1 c2))) (pSure now sure (32 : Int) n (ckB n (St.mk p items l0 l1 l2 c0 c1 c2)))) else []) (bif diskOK (pNow now sure (32 : Int) n (ckB n (St.mk p items l0 l1 l2 c0 c1 c2))) (pSure now sure (32 : Int) n (ckB n (St.mk p items l0 l1 l2 c0 c1 c2))) then Prod.snd (crashF lost (33 : Nat) (0 : Nat) (pNow now sure (32 : Int) n (ckB n (St.mk p items l0 l1 l2 c0 c1 c2))) (pSure now sure (32 : Int) n (ckB n (St.mk p items l0 l1 l2 c0 c1 c2)))) else []))).l1.length && lenOK (stG (stOf (List.replicate (0 : Nat) (Sector.mk (0 : Int) []) ++ sure) (List.replicate (0 : Nat) (Sector.mk (0 : Int) []) ++ sure))).l1.length) && (lenOK (stG (stOf (bif diskOK (pNow now sure (32 : Int) n (ckB n (St.mk p items l0 l1 l2 c0 c1 c2))) (pSure now sure (32 : Int) n (ckB n (St.mk p items l0 l1 l2 c0 c1 c2))) then Prod.fst (crashF lost (33 : Nat) (0 : Nat) (pNow now sure (32 : Int) n (ckB n (St.mk p items l0 l1 l2 c0 c1 c2))) (pSure now sure (32 : Int) n (ckB n (St.mk p items l0 l1 l2 c0 c1 c2)))) else []) (bif diskOK (pNow now sure (32 : Int) n (ckB n (St.mk p items l0 l1 l2 c0 c1 c2))) (pSure now sure (32 : Int) n (ckB n (St.mk p items l0 l1 l2 c0 c1 c2))) then Prod.snd (crashF lost (33 : Nat) (0 : Nat) (pNow now sure (32 : Int) n (ckB n (St.mk p items l0 l1 l2 c0 c1 c2))) (pSure now sure (32 : Int) n (ckB n (St.mk p items l0 l1 l2 c0 c1 c2)))) else []))).l2.length && lenOK (stG (stOf (List.replicate (0 : Nat) (Sector.mk (0 : Int) []) ++ sure) (List.replicate (0 : Nat) (Sector.mk (0 : Int) []) ++ sure))).l2.length) then bif decide (St.mk (stG (stOf (bif diskOK (pNow now sure (32 : Int) n (ckB n (St.mk p items l0 l1 l2 c0 c1 c2))) (pSure now sure (32 : Int) n (ckB n (St.mk p items l0 l1 l2 c0 c1 c2))) then Prod.fst (crashF lost (33 : Nat) (0 : Nat) (pNow now sure (32 : Int) n (ckB n (St.mk p items l0 l1 l2 c0 c1 c2))) (pSure now sure (32 : Int) n (ckB n (St.mk p items l0 l1 l2 c0 c1 c2)))) else []) (bif diskOK (pNow now sure (32 : Int) n (ckB n (St.mk p items l0 l1 l2 c0 c1 c2))) (pSure now sure (32 : Int) n (ckB n (St.mk p items l0 l1 l2 c0 c1 c2))) then Prod.snd (crashF lost (33 : Nat) (0 : Nat) (pNow now sure (32 : Int) n (ckB n (St.mk p items l0 l1 l2 c0 c1 c2))) (pSure now sure (32 : Int) n (ckB n (St.mk p items l0 l1 l2 c0 c1 c2)))) else []))).place (stG (stOf (bif diskOK (pNow now sure (32 : Int) n (ckB n (St.mk p items l0 l1 l2 c0 c1 c2))) (pSure now sure (32 : Int) n (ckB n (St.mk p items l0 l1 l2 c0 c1 c2))) then Prod.fst (crashF lost (33 : Nat) (0 : Nat) (pNow now sure (32 : Int) n (ckB n (St.mk p items l0 l1 l2 c0 c1 c2))) (pSure now sure (32 : Int) n (ckB n (St.mk p items l0 l1 l2 c0 c1 c2)))) else []) (bif diskOK (pNow now sure (32 : Int) n (ckB n (St.mk p items l0 l1 l2 c0 c1 c2))) (pSure now sure (32 : Int) n (ckB n (St.mk p items l0 l1 l2 c0 c1 c2))) then Prod.snd (crashF lost (33 : Nat) (0 : Nat) (pNow now sure (32 : Int) n (ckB n (St.mk p items l0 l1 l2 c0 c1 c2))) (pSure now sure (32 : Int) n (ckB n (St.mk p items l0 l1 l2 c0 c1 c2)))) else []))).items (stG (stOf (bif diskOK (pNow now sure (32 : Int) n (ckB n (St.mk p items l0 l1 l2 c0 c1 c2))) (pSure now sure (32 : Int) n (ckB n (St.mk p items l0 l1 l2 c0 c1 c2))) then Prod.fst (crashF lost (33 : Nat) (0 : Nat) (pNow now sure (32 : Int) n (ckB n (St.mk p items l0 l1 l2 c0 c1 c2))) (pSure now sure (32 : Int) n (ckB n (St.mk p items l0 l1 l2 c0 c1 c2)))) else []) (bif diskOK (pNow now sure (32 : Int) n (ckB n (St.mk p items l0 l1 l2 c0 c1 c2))) (pSure now sure (32 : Int) n (ckB n (St.mk p items l0 l1 l2 c0 c1 c2))) then Prod.snd (crashF lost (33 : Nat) (0 : Nat) (pNow now sure (32 : Int) n (ckB n (St.mk p items l0 l1 l2 c0 c1 c2))) (pSure now sure (32 : Int) n (ckB n (St.mk p items l0 l1 l2 c0 c1 c2)))) else []))).l0 (stG (stOf (bif diskOK (pNow now sure (32 : Int) n (ckB n (St.mk p items l0 l1 l2 c0 c1 c2))) (pSure now sure (32 : Int) n (ckB n (St.mk p items l0 l1 l2 c0 c1 c2))) then Prod.fst (crashF lost (33 : Nat) (0 : Nat) (pNow now sure (32 : Int) n (ckB n (St.mk p items l0 l1 l2 c0 c1 c2))) (pSure now sure (32 : Int) n (ckB n (St.mk p items l0 l1 l2 c0 c1 c2)))) else []) (bif diskOK (pNow now sure (32 : Int) n (ckB n (St.mk p items l0 l1 l2 c0 c1 c2))) (pSure now sure (32 : Int) n (ckB n (St.mk p items l0 l1 l2 c0 c1 c2))) then Prod.snd (crashF lost (33 : Nat) (0 : Nat) (pNow now sure (32 : Int) n (ckB n (St.mk p items l0 l1 l2 c0 c1 c2))) (pSure now sure (32 : Int) n (ckB n (St.mk p items l0 l1 l2 c0 c1 c2)))) else []))).l1 (stG (stOf (bif diskOK (pNow now sure (32 : Int) n (ckB n (St.mk p items l0 l1 l2 c0 c1 c2))) (pSure now sure (32 : Int) n (ckB n (St.mk p items l0 l1 l2 c0 c1 c2))) then Prod.fst (crashF lost (33 : Nat) (0 : Nat) (pNow now sure (32 : Int) n (ckB n (St.mk p items l0 l1 l2 c0 c1 c2))) (pSure now sure (32 : Int) n (ckB n (St.mk p items l0 l1 l2 c0 c1 c2)))) else []) (bif diskOK (pNow now sure (32 : Int) n (ckB n (St.mk p items l0 l1 l2 c0 c1 c2))) (pSure now sure (32 : Int) n (ckB n (St.mk p items l0 l1 l2 c0 c1 c2))) then Prod.snd (crashF lost (33 : Nat) (0 : Nat) (pNow now sure (32 : Int) n (ckB n (St.mk p items l0 l1 l2 c0 c1 c2))) (pSure now sure (32 : Int) n (ckB n (St.mk p items l0 l1 l2 c0 c1 c2)))) else []))).l2 (stG (stOf (bif diskOK (pNow now sure (32 : Int) n (ckB n (St.mk p items l0 l1 l2 c0 c1 c2))) (pSure now sure (32 : Int) n (ckB n (St.mk p items l0 l1 l2 c0 c1 c2))) then Prod.fst (crashF lost (33 : Nat) (0 : Nat) (pNow now sure (32 : Int) n (ckB n (St.mk p items l0 l1 l2 c0 c1 c2))) (pSure now sure (32 : Int) n (ckB n (St.mk p items l0 l1 l2 c0 c1 c2)))) else []) (bif diskOK (pNow now sure (32 : Int) n (ckB n (St.mk p items l0 l1 l2 c0 c1 c2))) (pSure now sure (32 : Int) n (ckB n (St.mk p items l0 l1 l2 c0 c1 c2))) then Prod.snd (crashF lost (33 : Nat) (0 : Nat) (pNow now sure (32 : Int) n (ckB n (St.mk p items l0 l1 l2 c0 c1 c2))) (pSure now sure (32 : Int) n (ckB n (St.mk p items l0 l1 l2 c0 c1 c2)))) else []))).c0 (stG (stOf (bif diskOK (pNow now sure (32 : Int) n (ckB n (St.mk p items l0 l1 l2 c0 c1 c2))) (pSure now sure (32 : Int) n (ckB n (St.mk p items l0 l1 l2 c0 c1 c2))) then Prod.fst (crashF lost (33 : Nat) (0 : Nat) (pNow now sure (32 : Int) n (ckB n (St.mk p items l0 l1 l2 c0 c1 c2))) (pSure now sure (32 : Int) n (ckB n (St.mk p items l0 l1 l2 c0 c1 c2)))) else []) (bif diskOK (pNow now sure (32 : Int) n (ckB n (St.mk p items l0 l1 l2 c0 c1 c2))) (pSure now sure (32 : Int) n (ckB n (St.mk p items l0 l1 l2 c0 c1 c2))) then Prod.snd (crashF lost (33 : Nat) (0 : Nat) (pNow now sure (32 : Int) n (ckB n (St.mk p items l0 l1 l2 c0 c1 c2))) (pSure now sure (32 : Int) n (ckB n (St.mk p items l0 l1 l2 c0 c1 c2)))) else []))).c1 (stG (stOf (bif diskOK (pNow now sure (32 : Int) n (ckB n (St.mk p items l0 l1 l2 c0 c1 c2))) (pSure now sure (32 : Int) n (ckB n (St.mk p items l0 l1 l2 c0 c1 c2))) then Prod.fst (crashF lost (33 : Nat) (0 : Nat) (pNow now sure (32 : Int) n (ckB n (St.mk p items l0 l1 l2 c0 c1 c2))) (pSure now sure (32 : Int) n (ckB n (St.mk p items l0 l1 l2 c0 c1 c2)))) else []) (bif diskOK (pNow now sure (32 : Int) n (ckB n (St.mk p items l0 l1 l2 c0 c1 c2))) (pSure now sure (32 : Int) n (ckB n (St.mk p items l0 l1 l2 c0 c1 c2))) then Prod.snd (crashF lost (33 : Nat) (0 : Nat) (pNow now sure (32 : Int) n (ckB n (St.mk p items l0 l1 l2 c0 c1 c2))) (pSure now sure (32 : Int) n (ckB n (St.mk p items l0 l1 l2 c0 c1 c2)))) else []))).c2 = St.mk (stG (stOf (List.replicate (0 : Nat) (Sector.mk (0 : Int) []) ++ sure) (List.replicate (0 : Nat) (Sector.mk (0 : Int) []) ++ sure))).place (stG (stOf (List.replicate (0 : Nat) (Sector.mk (0 : Int) []) ++ sure) (List.replicate (0 : Nat) (Sector.mk (0 : Int) []) ++ sure))).items (stG (stOf (List.replicate (0 : Nat) (Sector.mk (0 : Int) []) ++ sure) (List.replicate (0 : Nat) (Sector.mk (0 : Int) []) ++ sure))).l0 (stG (stOf (List.replicate (0 : Nat) (Sector.mk (0 : Int) []) ++ sure) (List.replicate (0 : Nat) (Sector.mk (0 : Int) []) ++ sure))).l1 (stG (stOf (List.replicate (0 : Nat) (Sector.mk (0 : Int) []) ++ sure) (List.replicate (0 : Nat) (Sector.mk (0 : Int) []) ++ sure))).l2 (stG (stOf (List.replicate (0 : Nat) (Sector.mk (0 : Int) []) ++ sure) (List.replicate (0 : Nat) (Sector.mk (0 : Int) []) ++ sure))).c0 (stG (stOf (List.replicate (0 : Nat) (Sector.mk (0 : Int) []) ++ sure) (List.replicate (0 : Nat) (Sector.mk (0 : Int) []) ++ sure))).c1 (stG (stOf (List.replicate (0 : Nat) (Sector.mk (0 : Int) []) ++ sure) (List.replicate (0 : Nat) (Sector.mk (0 : Int) []) ++ sure))).c2) then some (D.bool true) else some (D.bool false) else none else some (D.bool false) else some (D.bool false) else bif errC (bif diskOK (pNow now sure (32 : Int) n (ckB n (St.mk p items l0 l1 l2 c0 c1 c2))) (pSure now sure (32 : Int) n (ckB n (St.mk p items l0 l1 l2 c0 c1 c2))) then Prod.fst (crashF lost (33 : Nat) (0 : Nat) (pNow now sure (32 : Int) n (ckB n (St.mk p items l0 l1 l2 c0 c1 c2))) (pSure now sure (32 : Int) n (ckB n (St.mk p items l0 l1 l2 c0 c1 c2)))) else []) (bif diskOK (pNow now sure (32 : Int) n (ckB n (St.mk p items l0 l1 l2 c0 c1 c2))) (pSure now sure (32 : Int) n (ckB n (St.mk p items l0 l1 l2 c0 c1 c2))) then Prod.snd (crashF lost (33 : Nat) (0 : Nat) (pNow now sure (32 : Int) n (ckB n (St.mk p items l0 l1 l2 c0 c1 c2))) (pSure now sure (32 : Int) n (ckB n (St.mk p items l0 l1 l2 c0 c1 c2)))) else []) == errC (List.replicate (0 : Nat) (Sector.mk (0 : Int) []) ++ sure) (List.replicate (0 : Nat) (Sector.mk (0 : Int) []) ++ sure) then bif numC (bif diskOK (pNow now sure (32 : Int) n (ckB n (St.mk p items l0 l1 l2 c0 c1 c2))) (pSure now sure (32 : Int) n (ckB n (St.mk p items l0 l1 l2 c0 c1 c2))) then Prod.fst (crashF lost (33 : Nat) (0 : Nat) (pNow now sure (32 : Int) n (ckB n (St.mk p items l0 l1 l2 c0 c1 c2))) (pSure now sure (32 : Int) n (ckB n (St.mk p items l0 l1 l2 c0 c1 c2)))) else []) (bif diskOK (pNow now sure (32 : Int) n (ckB n (St.mk p items l0 l1 l2 c0 c1 c2))) (pSure now sure (32 : Int) n (ckB n (St.mk p items l0 l1 l2 c0 c1 c2))) then Prod.snd (crashF lost (33 : Nat) (0 : Nat) (pNow now sure (32 : Int) n (ckB n (St.mk p items l0 l1 l2 c0 c1 c2))) (pSure now sure (32 : Int) n (ckB n (St.mk p items l0 l1 l2 c0 c1 c2)))) else []) == numC (List.replicate (0 : Nat) (Sector.mk (0 : Int) []) ++ sure) (List.replicate (0 : Nat) (Sector.mk (0 : Int) []) ++ sure) then bif lenOK (stG (stOf (bif diskOK (pNow now sure (32 : Int) n (ckB n (St.mk p items l0 l1 l2 c0 c1 c2))) (pSure now sure (32 : Int) n (ckB n (St.mk p items l0 l1 l2 c0 c1 c2))) then Prod.fst (crashF lost (33 : Nat) (0 : Nat) (pNow now sure (32 : Int) n (ckB n (St.mk p items l0 l1 l2 c0 c1 c2))) (pSure now sure (32 : Int) n (ckB n (St.mk p items l0 l1 l2 c0 c1 c2)))) else []) (bif diskOK (pNow now sure (32 : Int) n (ckB n (St.mk p items l0 l1 l2 c0 c1 c2))) (pSure now sure (32 : Int) n (ckB n (St.mk p items l0 l1 l2 c0 c1 c2))) then Prod.snd (crashF lost (33 : Nat) (0 : Nat) (pNow now sure (32 : Int) n (ckB n (St.mk p items l0 l1 l2 c0 c1 c2))) (pSure now sure (32 : Int) n (ckB n (St.mk p items l0 l1 l2 c0 c1 c2)))) else []))).items.length && lenOK (stG (stOf (List.replicate (0 : Nat) (Sector.mk (0 : Int) []) ++ sure) (List.replicate (0 : Nat) (Sector.mk (0 : Int) []) ++ sure))).items.length && (lenOK (stG (stOf (bif diskOK (pNow now sure (32 : Int) n (ckB n (St.mk p items l0 l1 l2 c0 c1 c2))) (pSure now sure (32 : Int) n (ckB n (St.mk p items l0 l1 l2 c0 c1 c2))) then Prod.fst (crashF lost (33 : Nat) (0 : Nat) (pNow now sure (32 : Int) n (ckB n (St.mk p items l0 l1 l2 c0 c1 c2))) (pSure now sure (32 : Int) n (ckB n (St.mk p items l0 l1 l2 c0 c1 c2)))) else []) (bif diskOK (pNow now sure (32 : Int) n (ckB n (St.mk p items l0 l1 l2 c0 c1 c2))) (pSure now sure (32 : Int) n (ckB n (St.mk p items l0 l1 l2 c0 c1 c2))) then Prod.snd (crashF lost (33 : Nat) (0 : Nat) (pNow now sure (32 : Int) n (ckB n (St.mk p items l0 l1 l2 c0 c1 c2))) (pSure now sure (32 : Int) n (ckB n (St.mk p items l0 l1 l2 c0 c1 c2)))) else []))).l0.length && lenOK (stG (stOf (List.replicate (0 : Nat) (Sector.mk (0 : Int) []) ++ sure) (List.replicate (0 : Nat) (Sector.mk (0 : Int) []) ++ sure))).l0.length) && (lenOK (stG (stOf (bif diskOK (pNow now sure (32 : Int) n (ckB n (St.mk p items l0 l1 l2 c0 c1 c2))) (pSure now sure (32 : Int) n (ckB n (St.mk p items l0 l1 l2 c0 c1 c2))) then Prod.fst (crashF lost (33 : Nat) (0 : Nat) (pNow now sure (32 : Int) n (ckB n (St.mk p items l0 l1 l2 c0 c1 c2))) (pSure now sure (32 : Int) n (ckB n (St.mk p items l0 l1 l2 c0 c1 c2)))) else []) (bif diskOK (pNow now sure (32 : Int) n (ckB n (St.mk p items l0 l1 l2 c0 c1 c2))) (pSure now sure (32 : Int) n (ckB n (St.mk p items l0 l1 l2 c0 c1 c2))) then Prod.snd (crashF lost (33 : Nat) (0 : Nat) (pNow now sure (32 : Int) n (ckB n (St.mk p items l0 l1 l2 c0 c1 c2))) (pSure now sure (32 : Int) n (ckB n (St.mk p items l0 l1 l2 c0 c1 c2)))) else []))).l1.length && lenOK (stG (stOf (List.replicate (0 : Nat) (Sector.mk (0 : Int) []) ++ sure) (List.replicate (0 : Nat) (Sector.mk (0 : Int) []) ++ sure))).l1.length) && (lenOK (stG (stOf (bif diskOK (pNow now sure (32 : Int) n (ckB n (St.mk p items l0 l1 l2 c0 c1 c2))) (pSure now sure (32 : Int) n (ckB n (St.mk p items l0 l1 l2 c0 c1 c2))) then Prod.fst (crashF lost (33 : Nat) (0 : Nat) (pNow now sure (32 : Int) n (ckB n (St.mk p items l0 l1 l2 c0 c1 c2))) (pSure now sure (32 : Int) n (ckB n (St.mk p items l0 l1 l2 c0 c1 c2)))) else []) (bif diskOK (pNow now sure (32 : Int) n (ckB n (St.mk p items l0 l1 l2 c0 c1 c2))) (pSure now sure (32 : Int) n (ckB n (St.mk p items l0 l1 l2 c0 c1 c2))) then Prod.snd (crashF lost (33 : Nat) (0 : Nat) (pNow now sure (32 : Int) n (ckB n (St.mk p items l0 l1 l2 c0 c1 c2))) (pSure now sure (32 : Int) n (ckB n (St.mk p items l0 l1 l2 c0 c1 c2)))) else []))).l2.length && lenOK (stG (stOf (List.replicate (0 : Nat) (Sector.mk (0 : Int) []) ++ sure) (List.replicate (0 : Nat) (Sector.mk (0 : Int) []) ++ sure))).l2.length) then bif decide (St.mk (stG (stOf (bif diskOK (pNow now sure (32 : Int) n (ckB n (St.mk p items l0 l1 l2 c0 c1 c2))) (pSure now sure (32 : Int) n (ckB n (St.mk p items l0 l1 l2 c0 c1 c2))) then Prod.fst (crashF lost (33 : Nat) (0 : Nat) (pNow now sure (32 : Int) n (ckB n (St.mk p items l0 l1 l2 c0 c1 c2))) (pSure now sure (32 : Int) n (ckB n (St.mk p items l0 l1 l2 c0 c1 c2)))) else []) (bif diskOK (pNow now sure (32 : Int) n (ckB n (St.mk p items l0 l1 l2 c0 c1 c2))) (pSure now sure (32 : Int) n (ckB n (St.mk p items l0 l1 l2 c0 c1 c2))) then Prod.snd (crashF lost (33 : Nat) (0 : Nat) (pNow now sure (32 : Int) n (ckB n (St.mk p items l0 l1 l2 c0 c1 c2))) (pSure now sure (32 : Int) n (ckB n (St.mk p items l0 l1 l2 c0 c1 c2)))) else []))).place (stG (stOf (bif diskOK (pNow now sure (32 : Int) n (ckB n (St.mk p items l0 l1 l2 c0 c1 c2))) (pSure now sure (32 : Int) n (ckB n (St.mk p items l0 l1 l2 c0 c1 c2))) then Prod.fst (crashF lost (33 : Nat) (0 : Nat) (pNow now sure (32 : Int) n (ckB n (St.mk p items l0 l1 l2 c0 c1 c2))) (pSure now sure (32 : Int) n (ckB n (St.mk p items l0 l1 l2 c0 c1 c2)))) else []) (bif diskOK (pNow now sure (32 : Int) n (ckB n (St.mk p items l0 l1 l2 c0 c1 c2))) (pSure now sure (32 : Int) n (ckB n (St.mk p items l0 l1 l2 c0 c1 c2))) then Prod.snd (crashF lost (33 : Nat) (0 : Nat) (pNow now sure (32 : Int) n (ckB n (St.mk p items l0 l1 l2 c0 c1 c2))) (pSure now sure (32 : Int) n (ckB n (St.mk p items l0 l1 l2 c0 c1 c2)))) else []))).items (stG (stOf (bif diskOK (pNow now sure (32 : Int) n (ckB n (St.mk p items l0 l1 l2 c0 c1 c2))) (pSure now sure (32 : Int) n (ckB n (St.mk p items l0 l1 l2 c0 c1 c2))) then Prod.fst (crashF lost (33 : Nat) (0 : Nat) (pNow now sure (32 : Int) n (ckB n (St.mk p items l0 l1 l2 c0 c1 c2))) (pSure now sure (32 : Int) n (ckB n (St.mk p items l0 l1 l2 c0 c1 c2)))) else []) (bif diskOK (pNow now sure (32 : Int) n (ckB n (St.mk p items l0 l1 l2 c0 c1 c2))) (pSure now sure (32 : Int) n (ckB n (St.mk p items l0 l1 l2 c0 c1 c2))) then Prod.snd (crashF lost (33 : Nat) (0 : Nat) (pNow now sure (32 : Int) n (ckB n (St.mk p items l0 l1 l2 c0 c1 c2))) (pSure now sure (32 : Int) n (ckB n (St.mk p items l0 l1 l2 c0 c1 c2)))) else []))).l0 (stG (stOf (bif diskOK (pNow now sure (32 : Int) n (ckB n (St.mk p items l0 l1 l2 c0 c1 c2))) (pSure now sure (32 : Int) n (ckB n (St.mk p items l0 l1 l2 c0 c1 c2))) then Prod.fst (crashF lost (33 : Nat) (0 : Nat) (pNow now sure (32 : Int) n (ckB n (St.mk p items l0 l1 l2 c0 c1 c2))) (pSure now sure (32 : Int) n (ckB n (St.mk p items l0 l1 l2 c0 c1 c2)))) else []) (bif diskOK (pNow now sure (32 : Int) n (ckB n (St.mk p items l0 l1 l2 c0 c1 c2))) (pSure now sure (32 : Int) n (ckB n (St.mk p items l0 l1 l2 c0 c1 c2))) then Prod.snd (crashF lost (33 : Nat) (0 : Nat) (pNow now sure (32 : Int) n (ckB n (St.mk p items l0 l1 l2 c0 c1 c2))) (pSure now sure (32 : Int) n (ckB n (St.mk p items l0 l1 l2 c0 c1 c2)))) else []))).l1 (stG (stOf (bif diskOK (pNow now sure (32 : Int) n (ckB n (St.mk p items l0 l1 l2 c0 c1 c2))) (pSure now sure (32 : Int) n (ckB n (St.mk p items l0 l1 l2 c0 c1 c2))) then Prod.fst (crashF lost (33 : Nat) (0 : Nat) (pNow now sure (32 : Int) n (ckB n (St.mk p items l0 l1 l2 c0 c1 c2))) (pSure now sure (32 : Int) n (ckB n (St.mk p items l0 l1 l2 c0 c1 c2)))) else []) (bif diskOK (pNow now sure (32 : Int) n (ckB n (St.mk p items l0 l1 l2 c0 c1 c2))) (pSure now sure (32 : Int) n (ckB n (St.mk p items l0 l1 l2 c0 c1 c2))) then Prod.snd (crashF lost (33 : Nat) (0 : Nat) (pNow now sure (32 : Int) n (ckB n (St.mk p items l0 l1 l2 c0 c1 c2))) (pSure now sure (32 : Int) n (ckB n (St.mk p items l0 l1 l2 c0 c1 c2)))) else []))).l2 (stG (stOf (bif diskOK (pNow now sure (32 : Int) n (ckB n (St.mk p items l0 l1 l2 c0 c1 c2))) (pSure now sure (32 : Int) n (ckB n (St.mk p items l0 l1 l2 c0 c1 c2))) then Prod.fst (crashF lost (33 : Nat) (0 : Nat) (pNow now sure (32 : Int) n (ckB n (St.mk p items l0 l1 l2 c0 c1 c2))) (pSure now sure (32 : Int) n (ckB n (St.mk p items l0 l1 l2 c0 c1 c2)))) else []) (bif diskOK (pNow now sure (32 : Int) n (ckB n (St.mk p items l0 l1 l2 c0 c1 c2))) (pSure now sure (32 : Int) n (ckB n (St.mk p items l0 l1 l2 c0 c1 c2))) then Prod.snd (crashF lost (33 : Nat) (0 : Nat) (pNow now sure (32 : Int) n (ckB n (St.mk p items l0 l1 l2 c0 c1 c2))) (pSure now sure (32 : Int) n (ckB n (St.mk p items l0 l1 l2 c0 c1 c2)))) else []))).c0 (stG (stOf (bif diskOK (pNow now sure (32 : Int) n (ckB n (St.mk p items l0 l1 l2 c0 c1 c2))) (pSure now sure (32 : Int) n (ckB n (St.mk p items l0 l1 l2 c0 c1 c2))) then Prod.fst (crashF lost (33 : Nat) (0 : Nat) (pNow now sure (32 : Int) n (ckB n (St.mk p items l0 l1 l2 c0 c1 c2))) (pSure now sure (32 : Int) n (ckB n (St.mk p items l0 l1 l2 c0 c1 c2)))) else []) (bif diskOK (pNow now sure (32 : Int) n (ckB n (St.mk p items l0 l1 l2 c0 c1 c2))) (pSure now sure (32 : Int) n (ckB n (St.mk p items l0 l1 l2 c0 c1 c2))) then Prod.snd (crashF lost (33 : Nat) (0 : Nat) (pNow now sure (32 : Int) n (ckB n (St.mk p items l0 l1 l2 c0 c1 c2))) (pSure now sure (32 : Int) n (ckB n (St.mk p items l0 l1 l2 c0 c1 c2)))) else []))).c1 (stG (stOf (bif diskOK (pNow now sure (32 : Int) n (ckB n (St.mk p items l0 l1 l2 c0 c1 c2))) (pSure now sure (32 : Int) n (ckB n (St.mk p items l0 l1 l2 c0 c1 c2))) then Prod.fst (crashF lost (33 : Nat) (0 : Nat) (pNow now sure (32 : Int) n (ckB n (St.mk p items l0 l1 l2 c0 c1 c2))) (pSure now sure (32 : Int) n (ckB n (St.mk p items l0 l1 l2 c0 c1 c2)))) else []) (bif diskOK (pNow now sure (32 : Int) n (ckB n (St.mk p items l0 l1 l2 c0 c1 c2))) (pSure now sure (32 : Int) n (ckB n (St.mk p items l0 l1 l2 c0 c1 c2))) then Prod.snd (crashF lost (33 : Nat) (0 : Nat) (pNow now sure (32 : Int) n (ckB n (St.mk p items l0 l1 l2 c0 c1 c2))) (pSure now sure (32 : Int) n (ckB n (St.mk p items l0 l1 l2 c0 c1 c2)))) else []))).c2 = St.mk (stG (stOf (List.replicate (0 : Nat) (Sector.mk (0 : Int) []) ++ sure) (List.replicate (0 : Nat) (Sector.mk (0 : Int) []) ++ sure))).place (stG (stOf (List.replicate (0 : Nat) (Sector.mk (0 : Int) []) ++ sure) (List.replicate (0 : Nat) (Sector.mk (0 : Int) []) ++ sure))).items (stG (stOf (List.replicate (0 : Nat) (Sector.mk (0 : Int) []) ++ sure) (List.replicate (0 : Nat) (Sector.mk (0 : Int) []) ++ sure))).l0 (stG (stOf (List.replicate (0 : Nat) (Sector.mk (0 : Int) []) ++ sure) (List.replicate (0 : Nat) (Sector.mk (0 : Int) []) ++ sure))).l1 (stG (stOf (List.replicate (0 : Nat) (Sector.mk (0 : Int) []) ++ sure) (List.replicate (0 : Nat) (Sector.mk (0 : Int) []) ++ sure))).l2 (stG (stOf (List.replicate (0 : Nat) (Sector.mk (0 : Int) []) ++ sure) (List.replicate (0 : Nat) (Sector.mk (0 : Int) []) ++ sure))).c0 (stG (stOf (List.replicate (0 : Nat) (Sector.mk (0 : Int) []) ++ sure) (List.replicate (0 : Nat) (Sector.mk (0 : Int) []) ++ sure))).c1 (stG (stOf (List.replicate (0 : Nat) (Sector.mk (0 : Int) []) ++ sure) (List.replicate (0 : Nat) (Sector.mk (0 : Int) []) ++ sure))).c2) then some (D.bool true) else some (D.bool false) else none else some (D.bool false) else some (D.bool false) else none else none else none else none else none else none else none else none else none else none else none else none else none else none else none else none else none else none) := by kernel_rfl
theorem ckptBack_ok (c : Bool) (now : List Sector) (d : Bool) (sure : List Sector) (n : Int) (p : Int) (ci : Bool) (items : List Item) (k0 : Bool) (k1 : Bool) (k2 : Bool) (l0 : List Line) (l1 : List Line) (l2 : List Line) (c0 : Int) (c1 : Int) (c2 : Int) (lost : Int) (h : (goodL now && goodL sure && (lenOK items.length && lenOK l0.length && lenOK l1.length && lenOK l2.length)) = true) : ckptBack_e c now d sure n p ci items k0 k1 k2 l0 l1 l2 c0 c1 c2 lost = some (.bool true) := by
  rw [ckptBack_eq]
  simp only [Bool.and_eq_true] at h
  obtain ⟨⟨hg, hgs⟩, ⟨⟨a1, a2⟩, a3⟩, a4⟩ := h
  have hgg : (goodL now && goodL sure) = true := by rw [hg, hgs]; rfl
  have hd0 : decide (items.length ≤ 9223372036854775807 ∧ l0.length ≤ 9223372036854775807 ∧ l1.length ≤ 9223372036854775807 ∧ l2.length ≤ 9223372036854775807) = true := decide_eq_true ⟨lenOK_le a1, lenOK_le a2, lenOK_le a3, lenOK_le a4⟩
  have hgl : (goodL now && goodL sure && decide (items.length ≤ 9223372036854775807 ∧ l0.length ≤ 9223372036854775807 ∧ l1.length ≤ 9223372036854775807 ∧ l2.length ≤ 9223372036854775807)) = true := by rw [hgg, hd0]; rfl
  generalize hs : (⟨p, items, l0, l1, l2, c0, c1, c2⟩ : St) = s
  refine cond_of hgg (cond_two (fun _ => rfl) fun _ => cond_of a1 (cond_two (fun _ => rfl) fun _ => cond_of a2 (cond_two (fun _ => rfl) fun _ => cond_of a3 (cond_two (fun _ => rfl) fun _ => cond_of a4 (cond_two (fun _ => rfl) fun _ => cond_of hgg ?_)))))
  cases hd : diskOK now sure
  · exact cond_of rfl rfl
  refine cond_no rfl (cond_of hgl ?_)
  cases hp : okPut now sure 32 n (ckB n s)
  · have e : pNow now sure 32 n (ckB n s) = [] := by simp only [pNow, hp, cond_false]
    refine cond_of rfl ?_
    rw [e]; rfl
  refine cond_no rfl (cond_of hgg ?_)
  obtain ⟨gP, gS⟩ := pNow_good now sure 32 n (ckB n s)
  have gPP : (goodL (pNow now sure 32 n (ckB n s)) && goodL (pSure now sure 32 n (ckB n s))) = true := by rw [gP, gS]; rfl
  obtain ⟨q1, q2⟩ := diskOK_len hd
  obtain ⟨q3, q4, q5⟩ := diskOK_parts hd
  have hdo := okPut_disk hp
  have hr := read_put hp
  have hsu : pSure now sure 32 n (ckB n s) = sure := by simp only [pSure, hp, cond_true]
  obtain ⟨ce, cd, c32⟩ := crash_ok lost hdo
  obtain ⟨gC, gC2⟩ := diskOK_good cd
  have gCC : (goodL (crashF lost 33 0 (pNow now sure 32 n (ckB n s)) (pSure now sure 32 n (ckB n s))).1 && goodL (crashF lost 33 0 (pNow now sure 32 n (ckB n s)) (pSure now sure 32 n (ckB n s))).2) = true := by rw [gC, gC2]; rfl
  have gSS : (goodL sure && goodL sure) = true := by rw [hgs]; rfl
  have r0 : ∀ l : List Sector, List.replicate 0 (⟨0, []⟩ : Sector) ++ l = l := fun l => rfl
  have eb : ∀ n : Nat, n.beq n = true := fun n => by simp
  have s2 : sizeOK sure.length 24 = true := by simp [sizeOK]; omega
  simp only [hdo, cond_true, r0, Nat.zero_add]
  generalize pNow now sure 32 n (ckB n s) = PN at *
  generalize pSure now sure 32 n (ckB n s) = PS at *
  generalize crashF lost 33 0 PN PS = X at *
  obtain ⟨X1, X2⟩ := X
  dsimp only at *
  refine cond_of gPP (cond_of (decide_eq_true (by omega)) (cond_two (fun hlt => ?_) fun hlt => ?_))
  · have hlt' : (now.getD 32 sec0).n < n := of_decide_eq_true hlt
    rw [if_pos hlt'] at hr
    obtain ⟨r1, r2, r3⟩ := hr
    refine cond_no (by rw [r1]; rfl) (cond_no (by rw [r3]; simp [bne]) (cond_of (lens1 _ _ a1 a2 a3 a4) (cond_no (by rw [Bool.not_eq_false', decide_eq_true_eq]; exact congrArg stG r2) ?_)))
    refine cond_of gPP (cond_no rfl (cond_of gCC (cond_of s2 (cond_of s2 (cond_of (eb _) (cond_of (eb _) (cond_of gSS ?_)))))))
    rcases c32 with q | q
    · obtain ⟨e1, e2, e3⟩ := read_eq cd hdo q
      exact cond_of (by rw [e1]; simp) (cond_of (by rw [e3]; simp) (cond_of (lens2 _ _ _ _) (cond_of (by rw [decide_eq_true_eq]; exact congrArg stG e2) rfl)))
    · rw [hsu] at q
      obtain ⟨e1, e2, e3⟩ := read_eq cd (diskOK_same q4) q
      refine cond_two (fun _ => cond_two (fun _ => cond_of (lens2 _ _ _ _) (cond_two (fun _ => rfl) fun _ => ?_)) fun _ => ?_) fun _ => ?_
      all_goals exact cond_of (by rw [e1]; simp) (cond_of (by rw [e3]; simp) (cond_of (lens2 _ _ _ _) (cond_of (by rw [decide_eq_true_eq]; exact congrArg stG e2) rfl)))
  · have hlt' : ¬ (now.getD 32 sec0).n < n := of_decide_eq_false hlt
    rw [if_neg hlt'] at hr
    obtain ⟨r1, r2⟩ := hr
    refine cond_no (by rw [r1, r2]; simp [bne]) (cond_no (by rw [r1, r2]; simp [bne]) (cond_of (lens2 _ _ _ _) (cond_no (by rw [Bool.not_eq_false', decide_eq_true_eq, r1, r2]) ?_)))
    refine cond_of gPP (cond_no rfl (cond_of gCC (cond_of s2 (cond_of s2 (cond_of (eb _) (cond_of (eb _) (cond_of gSS ?_)))))))
    rcases c32 with q | q
    · obtain ⟨e1, e2, e3⟩ := read_eq cd hdo q
      exact cond_of (by rw [e1]; simp) (cond_of (by rw [e3]; simp) (cond_of (lens2 _ _ _ _) (cond_of (by rw [decide_eq_true_eq]; exact congrArg stG e2) rfl)))
    · rw [hsu] at q
      obtain ⟨e1, e2, e3⟩ := read_eq cd (diskOK_same q4) q
      refine cond_two (fun _ => cond_two (fun _ => cond_of (lens2 _ _ _ _) (cond_two (fun _ => rfl) fun _ => ?_)) fun _ => ?_) fun _ => ?_
      all_goals exact cond_of (by rw [e1]; simp) (cond_of (by rw [e3]; simp) (cond_of (lens2 _ _ _ _) (cond_of (by rw [decide_eq_true_eq]; exact congrArg stG e2) rfl)))
open Go.ChangeShapes Go.WideShapes Go.RowKit
section
variable {C : Cdc}
def good (gA : (t : C.Ty) → C.A t → Prop) : D C → Prop
  | .int k n => k.min ≤ n ∧ n ≤ k.max
  | .str s => s.length ≤ maxLen
  | .acons d ds => good gA d ∧ good gA ds
  | .arr t n l => l.length = n ∧ ∀ x ∈ l, gA t x
  | .sl t _ l => l.length ≤ maxLen ∧ ∀ x ∈ l, gA t x
  | _ => True
def plainT (T : Tab C) : Nat → TypeId → Bool
  | 0, _ => false
  | k + 1, t => match T.ty t with
    | .bool | .int _ | .str => true
    | .struct _ fs => fs.all (plainT T k)
    | .arr _ e _ => plainT T k e
    | .sl e _ => plainT T k e
    | _ => false
structure Dec (T : Tab C) (gA : (t : C.Ty) → C.A t → Prop) : Prop where
  dec : ∀ t d, fit T d (.inl (T.ety t)) = true → d.refs = [] → good gA d → (∃ k u, T.ty u = T.ty (T.ety t) ∧ plainT T k u = true) → ∃ x, T.dec t d = some x ∧ gA t x
variable {P : Program} {T : Tab C} {gA : (t : C.Ty) → C.A t → Prop}
def X0 (W : World) : Cx := ⟨W, fun _ => none, fun _ _ => False⟩
theorem X0_free (W : World) (b o : Nat) : (X0 W).free b o := ⟨fun h => h, fun ⟨_, _, h, _⟩ => by simp [X0] at h⟩
theorem arr_R {X : Cx} (t : C.Ty) (sz : Nat) : ∀ (n : Nat) (cs : List Value), cs.length = n * sz → (∀ i, i < n → ∃ x : C.A t, R T X false (T.enc t x) ((cs.drop (i * sz)).take sz) ∧ gA t x) →
    ∃ l : List (C.A t), R T X false (.arr t n l) cs ∧ l.length = n ∧ ∀ x ∈ l, gA t x
  | 0, cs, hl, _ => by
    obtain rfl : cs = [] := by simpa using hl
    exact ⟨[], .arr0 _, rfl, by simp⟩
  | n + 1, cs, hl, h => by
    obtain ⟨x, hx, gx⟩ := h 0 (by omega)
    obtain ⟨l, hr, hn, gl⟩ := arr_R t sz n (cs.drop sz) (by rw [List.length_drop, hl, Nat.succ_mul]; omega) fun i hi => by
      obtain ⟨y, hy, gy⟩ := h (i + 1) (by omega)
      refine ⟨y, ?_, gy⟩
      rw [List.drop_drop]
      rw [show sz + i * sz = (i + 1) * sz by rw [Nat.succ_mul]; omega]
      exact hy
    refine ⟨x :: l, ?_, by simp [hn], by simpa using ⟨gx, gl⟩⟩
    have := R.arrS hx hr
    simpa using this
theorem sl_R {W : World} (t : C.Ty) (b sz : Nat) : ∀ (n off : Nat), (∀ i, i < n → ∃ (x : C.A t) (ci : List Value), R T (X0 W) false (T.enc t x) ci ∧ ci.length = sz ∧ (∀ j, j < sz → W.cell? ⟨b, off + i * sz + j, none⟩ = ci[j]?) ∧ gA t x) →
    ∃ (l : List (C.A t)) (cs : List Value), R T (X0 W) false (.arr t n l) cs ∧ l.length = n ∧ (X0 W).at b off cs ∧ ∀ x ∈ l, gA t x
  | 0, off, _ => ⟨[], [], .arr0 _, rfl, fun j v h => by simp at h, by simp⟩
  | n + 1, off, h => by
    obtain ⟨x, ci, hx, hlen, hc, gx⟩ := h 0 (by omega)
    obtain ⟨l, cs, hr, hn, hat, gl⟩ := sl_R t b sz n (off + sz) fun i hi => by
      obtain ⟨y, c2, hy, h2, h3, gy⟩ := h (i + 1) (by omega)
      refine ⟨y, c2, hy, h2, fun j hj => ?_, gy⟩
      have := h3 j hj
      rwa [show off + (i + 1) * sz + j = off + sz + i * sz + j by rw [Nat.succ_mul]; omega] at this
    refine ⟨x :: l, ci ++ cs, .arrS hx hr, by simp [hn], fun j v hj => ⟨?_, X0_free _ _ _⟩, by simpa using ⟨gx, gl⟩⟩
    by_cases hlt : j < ci.length
    · rw [List.getElem?_append_left hlt] at hj
      have := hc j (by omega)
      simp only [Nat.zero_mul, Nat.add_zero] at this
      exact this.trans hj
    · rw [List.getElem?_append_right (by omega)] at hj
      have := (hat _ _ hj).1
      rwa [show off + sz + (j - ci.length) = off + j by omega] at this
theorem st_R {X : Cx} : ∀ (fs : List TypeId) (cs : List Value), (∀ i f, fs[i]? = some f → ∃ d, R T X false d ((cs.drop (sumSz T (fs.take i))).take (T.size f)) ∧ fit T d (.inl f) = true ∧ good gA d ∧ d.refs = []) →
    ∃ d, R T X false d (cs.take (sumSz T fs)) ∧ fit T d (.inr fs) = true ∧ good gA d ∧ d.refs = [] ∧ d.isRow = true ∧ (∀ t a, T.ty t = .struct a fs → fit T d (.inl t) = true)
  | [], cs, _ => ⟨.anil, by simpa [sumSz] using R.anil, rfl, trivial, rfl, rfl, fun t a ht => by simp [fit, ht]⟩
  | f :: fs, cs, h => by
    obtain ⟨d, hd, fd, gd, rd⟩ := h 0 f rfl
    obtain ⟨ds, hr, fr, gr, rr, _, _⟩ := st_R fs (cs.drop (T.size f)) fun i g hg => by
      obtain ⟨e, he, h2⟩ := h (i + 1) g (by simpa using hg)
      refine ⟨e, ?_, h2⟩
      simpa [sumSz, List.drop_drop] using he
    refine ⟨.acons d ds, ?_, by simp [fit, fd, fr], ⟨gd, gr⟩, by simp [D.refs, rd, rr], rfl, fun t a ht => by simp [fit, ht, fd, fr]⟩
    have := R.acons hd hr
    simpa [sumSz, List.take_add] using this
theorem cellsOf_info {t : TypeId} {i : TypeInfo} (h : P.info? t = some i) : P.cellsOf t = i.size := by
  simp [Program.cellsOf, h]
theorem trod_R (K : PLaws P T) (hd : Dec T gA) {H : Type} {enc : TypeId × Value → H} {W : World} : ∀ (k : Nat) (t : TypeId), plainT T k t = true → ∀ (fuel : Nat) (cs : List Value) (x : DataW H × List MemPlace), DataW.trod enc P W 0 (fun _ => true) true fuel t cs = some x →
    ∃ d, R T (X0 W) false d cs ∧ fit T d (.inl t) = true ∧ good gA d ∧ d.refs = [] := by
  intro k
  induction k with
  | zero => intro t h; simp [plainT] at h
  | succ k ih =>
    intro t hp fuel cs x h
    unfold plainT at hp
    split at hp
    · rename_i ht
      obtain ⟨b, rfl, _⟩ := DataW.trod_bool (K.uBool t ht) h
      exact ⟨.bool b, .bool b, by simp [fit, ht], trivial, rfl⟩
    · rename_i kd ht
      obtain ⟨n, rfl, _, hw⟩ := DataW.trod_int (K.uInt t kd ht) h
      have hw' : kd.min ≤ n ∧ n ≤ kd.max := by simpa [Lit.wf] using hw
      exact ⟨.int kd n, .int hw', by simp [fit, ht], hw', rfl⟩
    · rename_i ht
      obtain ⟨s, rfl, _, hs⟩ := DataW.trod_string (K.uStr t ht) h
      exact ⟨.str s.data.toList, .str s.data.toList, by simp [fit, ht], by simpa [good] using hs, rfl⟩
    · rename_i isA fs ht
      cases isA with
      | true =>
        obtain ⟨el, hu, hfs, hpos, inf, hi1, hi2⟩ := K.uRow t fs ht
        obtain ⟨xs, m, _, _, hlen, hxs, hel⟩ := DataW.trod_array hu h
        have hget : ∀ i f, fs[i]? = some f → f = el ∧ i < fs.length := fun i f hf => by
          have := (List.getElem?_eq_some_iff.1 hf).1
          rw [hfs, List.getElem?_replicate] at hf
          simp at hf
          exact ⟨hf.2.symm, this⟩
        have hsum : ∀ i, i ≤ fs.length → sumSz T (fs.take i) = i * T.size el := by
          intro i hi
          rw [hfs, List.take_replicate, Nat.min_eq_left hi]
          clear hi
          induction i with
          | zero => simp [sumSz]
          | succ i ih => simp only [List.replicate_succ, sumSz, ih]; rw [Nat.succ_mul]; omega
        obtain ⟨d, hr, _, gd, rd, _, hfit⟩ := st_R (T := T) (X := X0 W) (gA := gA) fs cs fun i f hf => by
          obtain ⟨rfl, hi⟩ := hget i f hf
          have := hel i hi
          rw [cellsOf_info hi1, hi2] at this
          have hx : xs[i]? = some xs[i] := by simp [hxs, hi]
          rw [hx] at this
          obtain ⟨d, h1, h2, h3, h4⟩ := ih f (List.all_eq_true.1 hp _ (List.mem_of_getElem? hf)) m _ _ this
          refine ⟨d, ?_, h2, h3, h4⟩
          rw [hsum i (by omega)]; exact h1
        obtain ⟨inf, hi1, hi2⟩ := K.info t d (hfit t _ ht)
        rw [cellsOf_info hi1, hi2, K.base.szStruct t _ fs ht] at hlen
        rw [← hlen, List.take_length] at hr
        exact ⟨d, hr, hfit t _ ht, gd, rd⟩
      | false =>
        obtain ⟨fields, hu, hfs, hoff, _⟩ := K.uStruct t fs ht
        obtain ⟨xs, n, _, _, hlen, hxs, hel⟩ := DataW.trod_struct hu h
        obtain ⟨d, hr, _, gd, rd, _, hfit⟩ := st_R (T := T) (X := X0 W) (gA := gA) fs cs fun i f hf => by
          rw [← hfs, List.getElem?_map] at hf
          cases hfi : fields.toList[i]? with
          | none => simp [hfi] at hf
          | some fld =>
            simp only [hfi, Option.map_some, Option.some.injEq] at hf
            have hfa : fields[i]? = some fld := by rw [← Array.getElem?_toList]; exact hfi
            have := hel i fld hfa
            have hx : ∃ y, xs[i]? = some y := by
              have : i < fields.size := (Array.getElem?_eq_some_iff.1 hfa).1
              exact ⟨xs[i], by simp [hxs, this]⟩
            obtain ⟨y, hy⟩ := hx
            rw [hy] at this
            subst hf
            have hmem : fld.type ∈ fs := by rw [← hfs]; exact List.mem_map.2 ⟨fld, by exact List.mem_of_getElem? hfi, rfl⟩
            obtain ⟨d, h1, h2, h3, h4⟩ := ih fld.type (List.all_eq_true.1 hp _ hmem) n _ _ this
            obtain ⟨inf, hi1, hi2, _⟩ := K.uField t fs fld.type ht hmem
            refine ⟨d, ?_, h2, h3, h4⟩
            rw [hoff i fld hfa, cellsOf_info hi1, hi2] at h1
            exact h1
        obtain ⟨inf, hi1, hi2⟩ := K.info t d (hfit t _ ht)
        rw [cellsOf_info hi1, hi2, K.base.szStruct t _ fs ht] at hlen
        rw [← hlen, List.take_length] at hr
        exact ⟨d, hr, hfit t _ ht, gd, rd⟩
    · rename_i n e ct ht
      obtain ⟨hu, _⟩ := K.uArr t n e ct ht
      obtain ⟨xs, m, _, _, hlen, hxs, hel⟩ := DataW.trod_array hu h
      obtain ⟨inf, z, hi1, hi2, _⟩ := K.uElem t e ct (.inl ⟨n, ht⟩)
      obtain ⟨it, hj1, hj2⟩ := K.info t (.arr ct n []) (by simp [fit, ht])
      obtain ⟨hs1, hs2, hs3⟩ := K.base.szArr t n e ct ht
      rw [cellsOf_info hj1, hj2, hs1] at hlen
      obtain ⟨l, hr, hn, gl⟩ := arr_R (T := T) (X := X0 W) (gA := gA) ct (T.size e) n cs hlen fun i hi => by
        have := hel i hi
        rw [cellsOf_info hi1, hi2] at this
        have hx : xs[i]? = some xs[i] := by simp [hxs, hi]
        rw [hx] at this
        obtain ⟨d, h1, h2, h3, h4⟩ := ih e hp m _ _ this
        obtain ⟨x, h5, h6⟩ := hd.dec ct d (by rw [← fit_congr hs2]; exact h2) h4 h3 ⟨k, e, hs2, hp⟩
        exact ⟨x, K.base.decR _ _ _ _ _ h5 h1, h6⟩
      exact ⟨.arr ct n l, hr, by simp [fit, ht], ⟨hn, gl⟩, rfl⟩
    · rename_i e ct ht
      have hu := K.uSl t e ct ht
      obtain ⟨inf, z, hi1, hi2, _, _, hpos, _⟩ := K.uElem t e ct (.inr ht)
      obtain ⟨hs1, hs2, hs3⟩ := K.base.szSl t e ct ht
      rcases DataW.trod_slice hu h with ⟨rfl, _⟩ | ⟨a, len, cap, elems, rest, m, _, rfl, _, _, hlc, hcm, hel, he, hrest, _⟩
      · exact ⟨.sl ct false [], .sl0 _ _ _, by simp [fit, ht], by simp [good], rfl⟩
      · by_cases hc0 : cap = 0
        · subst hc0
          obtain rfl : len = 0 := by omega
          exact ⟨.sl ct false [], .sl0 _ _ _, by simp [fit, ht], by simp [good], rfl⟩
        · have hspot : a.spot = none := by
            have key : ∀ i y, i = 0 → (W.cells? 0 (a.add (i * P.cellsOf e)) (P.cellsOf e)).bind (DataW.trod enc P W 0 (fun _ => true) true m e) = some y → a.spot = none := by
              intro i y hi0 hy
              subst hi0
              rw [cellsOf_info hi1, hi2] at hy
              cases hcs : W.cells? 0 (a.add (0 * T.size e)) (T.size e) with
              | none => rw [hcs] at hy; cases hy
              | some ci =>
                obtain ⟨_, h2, h3⟩ := World.cells?_some hcs
                have h4 := h3 0 hpos
                have h5 : ci[0]? = some ci[0] := by simp
                rw [h5] at h4
                have := World.cell?_spot h4
                simpa [Addr.add] using this
            by_cases hl0 : 0 < len
            · have := he 0 hl0
              have hx : elems[0]? = some elems[0] := by simp
              exact key 0 _ rfl (this.trans hx)
            · have hr2 := hrest rfl
              have := hr2.2 0 (by omega)
              have h0 : 0 < rest.length := by omega
              have hx : rest[0]? = some rest[0] := by simp
              exact key _ _ (by omega) (this.trans hx)
          obtain ⟨b, off, sp⟩ := a
          simp only at hspot
          subst hspot
          obtain ⟨l, cs, hr, hn, hat, gl⟩ := sl_R (T := T) (W := W) (gA := gA) ct b (T.size e) len off fun i hi => by
            have := he i hi
            have hx : elems[i]? = some elems[i] := by simp [hel, hi]
            rw [hx, cellsOf_info hi1, hi2] at this
            cases hcs : W.cells? 0 ((⟨b, off, none⟩ : Addr).add (i * T.size e)) (T.size e) with
            | none => simp [hcs] at this
            | some ci =>
              simp only [hcs, Option.bind_some] at this
              obtain ⟨_, h2, h3⟩ := World.cells?_some hcs
              obtain ⟨d, k1, k2, k3, k4⟩ := ih e hp m _ _ this
              obtain ⟨x, k5, k6⟩ := hd.dec ct d (by rw [← fit_congr hs2]; exact k2) k4 k3 ⟨k, e, hs2, hp⟩
              refine ⟨x, ci, K.base.decR _ _ _ _ _ k5 k1, h2, fun j hj => ?_, k6⟩
              have := h3 j hj
              rwa [add_plain, add_plain] at this
          subst hn
          exact ⟨.sl ct false l, .sl hat hr hlc (by simp), by simp [fit, ht], ⟨by omega, gl⟩, rfl⟩
    · cases hp
theorem okWide_row (K : PLaws P T) {W : World} {r : Reach} {base : Nat} {t : TypeId} {v : Value} {d : D C} (hv : Value.okWide P W r base t v) (hp : ∃ k, plainT T k t = true) (hf : fit T d (.inl t) = true) (hr : R T (X0 W) false d v.cells.toList) (hrf : d.refs = []) : RV T (X0 W) d v := by
  obtain ⟨k, hp⟩ := hp
  cases k with
  | zero => simp [plainT] at hp
  | succ k =>
    unfold plainT at hp
    split at hp
    · rename_i ht
      obtain ⟨b, rfl⟩ := okWide_bool (K.uBool t ht) hv
      refine .inr ⟨?_, by simpa [Value.cells] using hr⟩
      cases d <;> simp [fit, ht] at hf <;> rfl
    · rename_i kd ht
      obtain ⟨b, rfl⟩ := okWide_int (K.uInt t kd ht) hv
      refine .inr ⟨?_, by simpa [Value.cells] using hr⟩
      cases d <;> simp [fit, ht] at hf <;> rfl
    · rename_i ht
      obtain ⟨b, rfl⟩ := okWide_string (K.uStr t ht) hv
      refine .inr ⟨?_, by simpa [Value.cells] using hr⟩
      cases d <;> simp [fit, ht] at hf <;> rfl
    · rename_i isA fs ht
      have : ∃ cs, v = .agg cs := by
        cases isA with
        | false =>
          obtain ⟨fields, hu, _⟩ := K.uStruct t fs ht
          obtain ⟨cs, rfl, _⟩ := okWide_struct hu hv
          exact ⟨cs, rfl⟩
        | true =>
          obtain ⟨el, hu, _⟩ := K.uRow t fs ht
          simp only [Value.okWide, hu] at hv
          obtain ⟨cs, rfl, _⟩ := hv
          exact ⟨cs, rfl⟩
      obtain ⟨cs, rfl⟩ := this
      refine .inl ⟨?_, cs.toList, by simpa [Value.cells] using hr, rfl⟩
      cases d <;> simp [fit, ht] at hf <;> rfl
    · rename_i n e ct ht
      obtain ⟨hu, _⟩ := K.uArr t n e ct ht
      have : ∃ cs, v = .agg cs := by
        simp only [Value.okWide, hu] at hv
        obtain ⟨cs, rfl, _⟩ := hv
        exact ⟨cs, rfl⟩
      obtain ⟨cs, rfl⟩ := this
      refine .inl ⟨?_, cs.toList, by simpa [Value.cells] using hr, rfl⟩
      cases d <;> simp [fit, ht] at hf <;> rfl
    · rename_i e ct ht
      obtain ⟨a, len, cap, rfl⟩ := okWide_slice (K.uSl t e ct ht) hv
      refine .inr ⟨?_, by simpa [Value.cells] using hr⟩
      cases d <;> simp [fit, ht] at hf <;> rfl
    · cases hp
inductive Fits (T : Tab C) (gA : (t : C.Ty) → C.A t → Prop) : List TypeId → List (D C) → Prop
  | nil : Fits T gA [] []
  | cons {t : TypeId} {ts : List TypeId} {d : D C} {ds : List (D C)} (hf : fit T d (.inl t) = true) (hg : good gA d) (hr : d.refs = []) (h : Fits T gA ts ds) : Fits T gA (t :: ts) (d :: ds)
theorem Fits.refs {ts : List TypeId} {ds : List (D C)} (h : Fits T gA ts ds) : ∀ a ∈ ds, D.refs a = [] := by
  induction h with
  | nil => simp
  | cons _ _ hr _ ih => simpa using ⟨hr, ih⟩
theorem trodAll_R (K : PLaws P T) (hd : Dec T gA) {H : Type} {enc : TypeId × Value → H} {W : World} {r : Reach} {base : Nat} : ∀ (ts : List TypeId) (vs : List Value) (ds : List (DataW H)) (ps : List MemPlace), (∀ t ∈ ts, ∃ k, plainT T k t = true) →
    (∀ (j : Nat) t v, ts[j]? = some t → vs[j]? = some v → Value.okWide P W r base t v) → DataW.TrodAll enc P W 0 (fun _ => true) true ts vs ds ps → ∃ al, Fits T gA ts al ∧ RVs T (X0 W) al vs
  | [], vs, ds, ps, _, _, h => by
    obtain ⟨rfl, rfl, rfl⟩ := trodAll_nil h
    exact ⟨[], .nil, .nil⟩
  | t :: ts, vs, ds, ps, hp, hv, h => by
    obtain ⟨v, vs1, d, ds1, p, q, rfl, rfl, rfl, ⟨fuel, h1⟩, h2⟩ := trodAll_cons h
    obtain ⟨al, f1, r1⟩ := trodAll_R K hd ts vs1 ds1 q (fun t ht => hp t (by simp [ht])) (fun j t v a b => hv (j + 1) t v (by simpa using a) (by simpa using b)) h2
    obtain ⟨k, hk⟩ := hp t (by simp)
    obtain ⟨a, k1, k2, k3, k4⟩ := trod_R K hd k t hk fuel _ _ h1
    exact ⟨a :: al, .cons k2 k3 k4 f1, .cons (okWide_row K (hv 0 t v rfl rfl) ⟨k, hk⟩ k2 k1 k4) r1⟩
theorem stays (hl : laidOutB P = true) {H : Type} {enc : TypeId × Value → H} {W W' : World} {sp : Nat → Bool} : ∀ (ts : List TypeId) (vs : List Value) (ds : List (DataW H)) (ps : List MemPlace), (∀ t ∈ ts, P.readableRec t = true ∧ t < P.types.size) →
    DataW.TrodAll enc P W 0 (fun _ => true) true ts vs ds ps → (∀ p ∈ ps, W.sameAt W' p) → (∀ p ∈ ps, sp p.block = true) → DataW.TrodAll enc P W' 0 sp true ts vs ds ps
  | [], vs, ds, ps, _, h, _, _ => by
    obtain ⟨rfl, rfl, rfl⟩ := trodAll_nil h
    exact trodAll_mk0
  | t :: ts, vs, ds, ps, ht, h, h3, h4 => by
    obtain ⟨v, vs1, d, ds1, p, q, rfl, rfl, rfl, h1, h2⟩ := trodAll_cons h
    exact trodAll_cons_mk (WideElems.Trod_stays hl (ht t (by simp)).1 (ht t (by simp)).2 h1 (fun x hx => h3 x (by simp [hx])) (fun x hx => h4 x (by simp [hx])))
      (stays hl ts vs1 ds1 q (fun t h => ht t (by simp [h])) h2 (fun x hx => h3 x (by simp [hx])) (fun x hx => h4 x (by simp [hx])))
theorem post_same_old {H : Type} {enc : TypeId × Value → H} {f : Func} {s : ChangeSpec} {apart fresh handsOn again : Bool} {W W' : World} {args : Array Value} {v : Value} {ds gs : List (DataW H)} {before pa pv : List MemPlace}
    (hW : DataW.Whole enc P f.params.toList s.vars apart W args.toList ds gs before)
    (hres : ∀ (b : Nat) (sp : Nat → Bool) (hd : Bool), DataW.TrodAll enc P W' b sp hd f.resultTypes.toList (v.resultList f.resultTypes.size) (s.fn H (ds ++ gs)).results [])
    (hargs : ∀ sp : Nat → Bool, (∀ p ∈ before, sp p.block = true) → DataW.TrodAll enc P W' 0 sp true f.params.toList args.toList (s.fn H (ds ++ gs)).args pa)
    (hvars : ∀ sp : Nat → Bool, (∀ p ∈ before, sp p.block = true) → DataW.TrodVars enc P W' sp s.vars (s.fn H (ds ++ gs)).vars pv)
    (hps : before = pa ++ pv) (hk : W.keptBut W' (· ∈ before)) (hfz : ∀ a : Addr, a.block < W.heap.size → W'.frozen? a = W.frozen? a)
    (hok : ∀ (j : Nat) (t : TypeId) (r : Value), f.resultTypes[j]? = some t → (v.resultList f.resultTypes.size)[j]? = some r → Value.okWide P W' .any 0 t r) :
    s.post enc P f apart fresh handsOn again W args v W' := by
  have hold : ∀ p ∈ before, (fun b => decide (b < W.heap.size)) p.block = true := fun p hp => by simpa using hW.lt p hp
  refine ⟨ds, gs, before, [], pa, pv, hW, hres _ _ _, hargs _ hold, hvars _ hold, World.keptBut_mono (fun p hp => ⟨hp, ?_⟩) hk, fun _ => ?_⟩
  · rw [hps, List.mem_append] at hp
    exact Or.inr hp
  · have hlt := hW.lt
    obtain ⟨_, _, _, _, _, hz, hn⟩ := hW
    refine ⟨hok, _, _, ([] ++ pa) ++ pv, ⟨[] ++ pa, pv, trodAll_append (hargs _ (fun _ _ => rfl)) (hres _ _ _), hvars _ (fun _ _ => rfl), rfl, ?_, ?_⟩, ?_⟩
    · intro b off hp
      have hb : MemPlace.cell b off ∈ before := by rw [hps]; simpa using hp
      rw [hfz _ (by simpa [MemPlace.block] using hlt _ hb)]
      exact hz b off hb
    · intro ha
      have := hn ha
      rw [hps] at this
      simpa using this
    · intro p hp _
      rw [hps]
      simpa using hp
theorem contract_of (K : PLaws P T) {Φ : Fns C} (F : FLaws P T Φ) (hd : Dec T gA) (hl : laidOutB P = true) {f : FuncId} {fn : Func} {s : ChangeSpec} {tb : TypeId} {m : Nat}
    (hres : fn.resultTypes = #[tb]) (hb : P.underlying tb = some .bool) (hvars : s.vars = [])
    (hts : fn.params.toList.all (fun t => plainT T m t && P.readableRec t && Nat.blt t P.types.size) = true)
    (hspec : ∀ (H : Type) (ds : List (DataW H)), ds.length = fn.params.toList.length → s.fn H ds = { results := [.lit (.bool true)], args := ds })
    (hev : ∀ ds : List (D C), Fits T gA fn.params.toList ds → ∃ n, evF T Φ n f ds = some (.bool true))
    (H : Type) (enc : TypeId × Value → H) (W : World) (base : Nat) (args : Array Value) (ds gs : List (DataW H)) (before : List MemPlace)
    (hval : ∀ (j : Nat) t v, fn.params[j]? = some t → args[j]? = some v → Value.okWide P W .any base t v)
    (hW : DataW.Whole enc P fn.params.toList s.vars false W args.toList ds gs before) :
    Calls P f args W fun e W' => ∃ v, e = .returned v ∧ s.post enc P fn false true false false W args v W' := by
  have hts' : ∀ t ∈ fn.params.toList, plainT T m t = true ∧ P.readableRec t = true ∧ t < P.types.size := by
    intro t ht
    have := List.all_eq_true.1 hts t ht
    simp only [Bool.and_eq_true] at this
    exact ⟨this.1.1, this.1.2, by simpa [Nat.blt_eq] using this.2⟩
  have hW' := hW
  obtain ⟨p, q, hA, hV, rfl, hfz, hnd⟩ := hW
  rw [hvars] at hV
  obtain ⟨rfl, rfl⟩ := trodVars_none hV
  obtain ⟨al, hf, hr⟩ := trodAll_R (gA := gA) K hd (r := .any) (base := base) _ _ _ _ (fun t ht => ⟨m, (hts' t ht).1⟩) (fun j t v a b => hval j t v (by rw [← Array.getElem?_toList]; exact a) (by rw [← Array.getElem?_toList]; exact b)) hA
  obtain ⟨n, hn⟩ := hev al hf
  have hc := (evF_calls K F hn hf.refs W (fun _ _ => False) (fun _ _ h => h.elim) (vs := args.toList) hr).2
  have ea : (⟨args.toList⟩ : Array Value) = args := by simp
  rw [ea] at hc
  refine hc.mono fun e W' hp => ?_
  obtain ⟨v, ρ, rfl, rv, a1, a2, a3, a4, a5, a6⟩ := hp
  obtain rfl := rv.bool
  have hlen : ds.length = fn.params.toList.length := by
    have : ∀ (ts : List TypeId) (vs : List Value) (ds : List (DataW H)) (ps : List MemPlace), DataW.TrodAll enc P W 0 (fun _ => true) true ts vs ds ps → ds.length = ts.length := by
      intro ts
      induction ts with
      | nil => intro vs ds ps h; obtain ⟨rfl, rfl, rfl⟩ := trodAll_nil h; rfl
      | cons t ts ih =>
        intro vs ds ps h
        obtain ⟨v, vs1, d, ds1, p, q, rfl, rfl, rfl, h1, h2⟩ := trodAll_cons h
        simp [ih _ _ _ h2]
    exact this _ _ _ _ hA
  have hs := hspec H ds hlen
  have hbel : Below W.heap.size W W' := ⟨a3, a4, a5, a1, a2⟩
  have hlt : ∀ x ∈ p, x.block < W.heap.size := fun x hx => by simpa using hW'.lt x (by simpa using hx)
  refine ⟨_, rfl, post_same_old (pa := p) (pv := []) hW' ?_ ?_ ?_ (by simp) (hbel.frame _) a6 ?_⟩
  · intro b sp hd
    simp only [List.append_nil]
    rw [hs, hres]
    exact trodAll_cons_mk (p := []) (p' := []) (shut_bool hb _) trodAll_mk0
  · intro sp hsp
    simp only [List.append_nil] at hsp ⊢
    rw [hs]
    exact stays hl _ _ _ _ (fun t ht => (hts' t ht).2) hA (fun x hx => hbel.same (hlt x hx)) hsp
  · intro sp hsp
    simp only [List.append_nil]
    rw [hs, hvars]
    rfl
  · exact ok_one hres rfl (okWide_bool_mk hb _)
end
def i64 (n : Int) : Prop := -9223372036854775808 ≤ n ∧ n ≤ 9223372036854775807
theorem i64_of {n : Int} (h : IntKind.i64.min ≤ n ∧ n ≤ IntKind.i64.max) : i64 n := by
  simpa [i64, IntKind.min, IntKind.max, IntKind.signed, IntKind.bits] using h
section
variable {C : Cdc} {T : Tab C} {d : D C} {u : TypeId}
theorem fit_int {k : IntKind} (hu : T.ty u = .int k) (hf : fit T d (.inl u) = true) : ∃ n, d = .int k n := by
  cases d <;> simp [fit, hu] at hf
  subst hf; exact ⟨_, rfl⟩
theorem fit_str (hu : T.ty u = .str) (hf : fit T d (.inl u) = true) : ∃ n, d = .str n := by
  cases d <;> simp [fit, hu] at hf
  exact ⟨_, rfl⟩
theorem fit_sl {e : TypeId} {t : C.Ty} (hu : T.ty u = .sl e t) (hf : fit T d (.inl u) = true) (hr : d.refs = []) : ∃ c l, d = .sl t c l := by
  cases d <;> simp [fit, hu] at hf
  · subst hf; exact ⟨_, _, rfl⟩
  · simp [D.refs] at hr
theorem fit_arr {e : TypeId} {t : C.Ty} {n : Nat} (hu : T.ty u = .arr n e t) (hf : fit T d (.inl u) = true) : ∃ l, d = .arr t n l := by
  cases d <;> simp [fit, hu] at hf
  obtain ⟨h1, h2⟩ := hf
  subst h1; subst h2; exact ⟨_, rfl⟩
theorem fit_st {a : Bool} {f : TypeId} {fs : List TypeId} (hu : T.ty u = .struct a (f :: fs)) (hf : fit T d (.inl u) = true) : ∃ x y, d = .acons x y ∧ fit T x (.inl f) = true ∧ fit T y (.inr fs) = true := by
  cases d <;> simp [fit, hu] at hf
  exact ⟨_, _, rfl, hf.1, hf.2⟩
theorem fit_more {f : TypeId} {fs : List TypeId} (hf : fit T d (.inr (f :: fs)) = true) : ∃ a b, d = .acons a b ∧ fit T a (.inl f) = true ∧ fit T b (.inr fs) = true := by
  cases d <;> simp [fit] at hf
  exact ⟨_, _, rfl, hf.1, hf.2⟩
theorem fit_end (hf : fit T d (.inr []) = true) : d = .anil := by
  cases d <;> simp [fit] at hf
  rfl
theorem three {α : Type} {l : List α} (h : l.length = 3) : ∃ a b c, l = [a, b, c] := by
  match l, h with
  | [a, b, c], _ => exact ⟨a, b, c, rfl⟩
end
open Go.Proofs Go.ChangeShapes Go.WideShapes Go.ChangeAt Go.RowKit
def goodSector (x : Sector) : Prop := i64 (x.n) ∧ (x.b).length ≤ maxLen
def goodItem (x : Item) : Prop := i64 (x.key) ∧ i64 (x.place) ∧ i64 (x.value)
def goodLine (x : Line) : Prop := i64 (x.offset) ∧ i64 (x.place) ∧ i64 (x.j) ∧ i64 (x.key) ∧ i64 (x.value)
def goodDisk (x : Disk) : Prop := ((x.now).length ≤ maxLen ∧ ∀ y ∈ (x.now), goodSector (y)) ∧ ((x.sure).length ≤ maxLen ∧ ∀ y ∈ (x.sure), goodSector (y))
def rGood : (t : RTy) → RA t → Prop
  | .int => fun (x : Int) => i64 (x)
  | .item => fun (x : Item) => goodItem (x)
  | .l_u8 => fun (x : List (UInt8)) => ((x).length ≤ maxLen ∧ ∀ y ∈ (x), True)
  | .line => fun (x : Line) => goodLine (x)
  | .sector => fun (x : Sector) => goodSector (x)
  | .u8 => fun (x : UInt8) => True
theorem ty42 : s07.ty 42 = .struct false [3, 9] := by kernel_rfl
theorem ty3 : s07.ty 3 = .int .i64 := by kernel_rfl
theorem ty9 : s07.ty 9 = .str := by kernel_rfl
theorem asSector {d : D RC} (hf : fit s07 d (.inl 42) = true) (hg : good rGood d) (hr : d.refs = []) : ∃ x : Sector, d = eSector x ∧ goodSector x := by
  obtain ⟨d0, r0, rfl, f0, hf⟩ := fit_st ty42 hf
  obtain ⟨d1, r1, rfl, f1, hf⟩ := fit_more hf
  obtain rfl := fit_end hf
  simp only [D.refs, List.append_eq_nil_iff] at hr
  obtain ⟨g0, g1, _⟩ := hg
  obtain ⟨q0, q1, _⟩ := hr
  obtain ⟨n0, rfl⟩ := fit_int ty3 f0
  obtain ⟨n1, rfl⟩ := fit_str ty9 f1
  exact ⟨⟨n0, n1⟩, rfl, i64_of g0, g1⟩
theorem dSector_e (x : Sector) (hx : goodSector x) : dSector (eSector x) = some x := by
  simp only [goodSector] at hx
  simp [dSector, eSector, D.asList, asArrN, hx]
theorem ty66 : s07.ty 66 = .struct false [3, 3, 3] := by kernel_rfl
theorem asItem {d : D RC} (hf : fit s07 d (.inl 66) = true) (hg : good rGood d) (hr : d.refs = []) : ∃ x : Item, d = eItem x ∧ goodItem x := by
  obtain ⟨d0, r0, rfl, f0, hf⟩ := fit_st ty66 hf
  obtain ⟨d1, r1, rfl, f1, hf⟩ := fit_more hf
  obtain ⟨d2, r2, rfl, f2, hf⟩ := fit_more hf
  obtain rfl := fit_end hf
  simp only [D.refs, List.append_eq_nil_iff] at hr
  obtain ⟨g0, g1, g2, _⟩ := hg
  obtain ⟨q0, q1, q2, _⟩ := hr
  obtain ⟨n0, rfl⟩ := fit_int ty3 f0
  obtain ⟨n1, rfl⟩ := fit_int ty3 f1
  obtain ⟨n2, rfl⟩ := fit_int ty3 f2
  exact ⟨⟨n0, n1, n2⟩, rfl, i64_of g0, i64_of g1, i64_of g2⟩
theorem dItem_e (x : Item) (hx : goodItem x) : dItem (eItem x) = some x := by
  simp only [goodItem] at hx
  simp [dItem, eItem, D.asList, asArrN, hx]
theorem ty88 : s07.ty 88 = .struct false [3, 3, 3, 3, 3] := by kernel_rfl
theorem asLine {d : D RC} (hf : fit s07 d (.inl 88) = true) (hg : good rGood d) (hr : d.refs = []) : ∃ x : Line, d = eLine x ∧ goodLine x := by
  obtain ⟨d0, r0, rfl, f0, hf⟩ := fit_st ty88 hf
  obtain ⟨d1, r1, rfl, f1, hf⟩ := fit_more hf
  obtain ⟨d2, r2, rfl, f2, hf⟩ := fit_more hf
  obtain ⟨d3, r3, rfl, f3, hf⟩ := fit_more hf
  obtain ⟨d4, r4, rfl, f4, hf⟩ := fit_more hf
  obtain rfl := fit_end hf
  simp only [D.refs, List.append_eq_nil_iff] at hr
  obtain ⟨g0, g1, g2, g3, g4, _⟩ := hg
  obtain ⟨q0, q1, q2, q3, q4, _⟩ := hr
  obtain ⟨n0, rfl⟩ := fit_int ty3 f0
  obtain ⟨n1, rfl⟩ := fit_int ty3 f1
  obtain ⟨n2, rfl⟩ := fit_int ty3 f2
  obtain ⟨n3, rfl⟩ := fit_int ty3 f3
  obtain ⟨n4, rfl⟩ := fit_int ty3 f4
  exact ⟨⟨n0, n1, n2, n3, n4⟩, rfl, i64_of g0, i64_of g1, i64_of g2, i64_of g3, i64_of g4⟩
theorem dLine_e (x : Line) (hx : goodLine x) : dLine (eLine x) = some x := by
  simp only [goodLine] at hx
  simp [dLine, eLine, D.asList, asArrN, hx]
theorem ty24 : s07.ty 24 = .struct false [22, 22] := by kernel_rfl
theorem ty22 : s07.ty 22 = .sl 42 .sector := by kernel_rfl
theorem asDisk {d : D RC} (hf : fit s07 d (.inl 24) = true) (hg : good rGood d) (hr : d.refs = []) : ∃ (x : Disk) (c0 c1 : Bool), d = eDiskC x c0 c1 ∧ goodDisk x := by
  obtain ⟨d0, r0, rfl, f0, hf⟩ := fit_st ty24 hf
  obtain ⟨d1, r1, rfl, f1, hf⟩ := fit_more hf
  obtain rfl := fit_end hf
  simp only [D.refs, List.append_eq_nil_iff] at hr
  obtain ⟨g0, g1, _⟩ := hg
  obtain ⟨q0, q1, _⟩ := hr
  obtain ⟨k0, n0, rfl⟩ := fit_sl ty22 f0 q0
  obtain ⟨k1, n1, rfl⟩ := fit_sl ty22 f1 q1
  exact ⟨⟨n0, n1⟩, k0, k1, rfl, g0, g1⟩
theorem ty30 : s07.ty 30 = .struct false [3, 25, 27, 28] := by kernel_rfl
theorem ty25 : s07.ty 25 = .sl 66 .item := by kernel_rfl
theorem ty27 : s07.ty 27 = .struct true [26, 26, 26] := by kernel_rfl
theorem ty28 : s07.ty 28 = .arr 3 3 .int := by kernel_rfl
theorem ty26 : s07.ty 26 = .sl 88 .line := by kernel_rfl
def stC (s : St) (ci k0 k1 k2 : Bool) : D RC := .acons (.int .i64 s.place) (.acons (.sl (C := RC) .item ci s.items) (.acons (.acons (.sl (C := RC) .line k0 s.l0) (.acons (.sl (C := RC) .line k1 s.l1) (.acons (.sl (C := RC) .line k2 s.l2) .anil))) (.acons (.arr (C := RC) .int 3 [s.c0, s.c1, s.c2]) .anil)))
def goodSt (s : St) : Prop := i64 s.place ∧ (s.items.length ≤ maxLen ∧ ∀ x ∈ s.items, goodItem x) ∧ (s.l0.length ≤ maxLen ∧ ∀ x ∈ s.l0, goodLine x) ∧ (s.l1.length ≤ maxLen ∧ ∀ x ∈ s.l1, goodLine x) ∧ (s.l2.length ≤ maxLen ∧ ∀ x ∈ s.l2, goodLine x) ∧ i64 s.c0 ∧ i64 s.c1 ∧ i64 s.c2
theorem asState {d : D RC} (hf : fit s07 d (.inl 30) = true) (hg : good rGood d) (hr : d.refs = []) : ∃ (x : St) (ci k0 k1 k2 : Bool), d = stC x ci k0 k1 k2 ∧ goodSt x := by
  obtain ⟨d0, r0, rfl, f0, hf⟩ := fit_st ty30 hf
  obtain ⟨d1, r1, rfl, f1, hf⟩ := fit_more hf
  obtain ⟨d2, r2, rfl, f2, hf⟩ := fit_more hf
  obtain ⟨d3, r3, rfl, f3, hf⟩ := fit_more hf
  obtain rfl := fit_end hf
  obtain ⟨e0, r0, rfl, h0, hf⟩ := fit_st ty27 f2
  obtain ⟨e1, r1, rfl, h1, hf⟩ := fit_more hf
  obtain ⟨e2, r2, rfl, h2, hf⟩ := fit_more hf
  obtain rfl := fit_end hf
  simp only [D.refs, List.append_eq_nil_iff] at hr
  obtain ⟨g0, g1, ⟨a0, a1, a2, _⟩, g3, _⟩ := hg
  obtain ⟨q0, q1, ⟨b0, b1, b2, _⟩, q3, _⟩ := hr
  obtain ⟨n, rfl⟩ := fit_int ty3 f0
  obtain ⟨ci, l, rfl⟩ := fit_sl ty25 f1 q1
  obtain ⟨k0, l0, rfl⟩ := fit_sl ty26 h0 b0
  obtain ⟨k1, l1, rfl⟩ := fit_sl ty26 h1 b1
  obtain ⟨k2, l2, rfl⟩ := fit_sl ty26 h2 b2
  obtain ⟨cs, rfl⟩ := fit_arr ty28 f3
  obtain ⟨g5, g6⟩ := g3
  obtain ⟨c0, c1, c2, rfl⟩ := three g5
  simp only [List.mem_cons, forall_eq_or_imp, List.not_mem_nil, false_implies, implies_true, and_true] at g6
  exact ⟨⟨n, l, l0, l1, l2, c0, c1, c2⟩, ci, k0, k1, k2, rfl, i64_of g0, g1, a0, a1, a2, g6.1, g6.2.1, g6.2.2⟩
theorem ty64 : s07.ty 64 = .sl 5 .u8 := by kernel_rfl
theorem ty5 : s07.ty 5 = .int .u8 := by kernel_rfl
theorem decs : Dec s07 rGood where
  dec t d hf hr hg _ := by
    cases t with
    | int =>
      obtain ⟨n, rfl⟩ := fit_int ty3 hf
      exact ⟨n, by simp [s07, mkTab, rCod, rDec, dIntK], i64_of hg⟩
    | item =>
      obtain ⟨x, rfl, hx⟩ := asItem hf hg hr
      exact ⟨x, dItem_e x hx, hx⟩
    | l_u8 =>
      obtain ⟨c, n, rfl⟩ := fit_sl ty64 hf hr
      exact ⟨n, by simp [s07, mkTab, rCod, rDec, D.asList], hg⟩
    | line =>
      obtain ⟨x, rfl, hx⟩ := asLine hf hg hr
      exact ⟨x, dLine_e x hx, hx⟩
    | sector =>
      obtain ⟨x, rfl, hx⟩ := asSector hf hg hr
      exact ⟨x, dSector_e x hx, hx⟩
    | u8 =>
      obtain ⟨n, rfl⟩ := fit_int ty5 hf
      exact ⟨_, rfl, trivial⟩
theorem own : ownKnob Try.prog.godebug = none := by kernel_rfl
theorem laidOut : laidOutB Try.prog = true := by kernel_rfl
end Go.Ev

namespace Go.Proofs.Ytlcabbnadilalaa
open Go.ChangeShapes Go.WideShapes Go.ChangeAt Go.RowKit Go.Ev
set_option linter.unusedVariables false
set_option maxRecDepth 100000
namespace ckptBack
theorem ev (ds : List (D RC)) (h : Fits s07 rGood Try.f3.params.toList ds) : ∃ n, evF s07 ux_1 n 3 ds = some (.bool true) := by
  rw [Try.params3] at h
  cases h with
  | cons hf0 hg0 hr0 h =>
  cases h with
  | cons hf1 hg1 hr1 h =>
  cases h with
  | cons hf2 hg2 hr2 h =>
  cases h with
  | cons hf3 hg3 hr3 h =>
  cases h with
  | nil =>
    obtain ⟨x, x0, x1, rfl, ox⟩ := asDisk hf0 hg0 hr0
    obtain ⟨n, rfl⟩ := fit_int (show s07.ty 3 = .int .i64 by kernel_rfl) hf1
    obtain ⟨s, ci, k0, k1, k2, rfl, os⟩ := asState hf2 hg2 hr2
    obtain ⟨lost, rfl⟩ := fit_int (show s07.ty 31 = .int .u64 by kernel_rfl) hf3
    have key := ckptBack_ok x0 x.now x1 x.sure n s.place ci s.items k0 k1 k2 s.l0 s.l1 s.l2 s.c0 s.c1 s.c2 lost ?_
    · unfold ckptBack_e at key
      refine ⟨60, ?_⟩
      simp only [stC, eDiskC]
      exact key
    have h3 := os.2.1.1
    have h4 := os.2.2.1.1
    have h5 := os.2.2.2.1.1
    have h6 := os.2.2.2.2.1.1
    have g1 : goodL x.now = true := goodL_iff.2 ⟨ox.1.1, fun y hy => lenOK_of (ox.1.2 y hy).2⟩
    have g2 : goodL x.sure = true := goodL_iff.2 ⟨ox.2.1, fun y hy => lenOK_of (ox.2.2 y hy).2⟩
    simp only [g1, g2, lenOK_of h3, lenOK_of h4, lenOK_of h5, lenOK_of h6, Bool.and_self]
theorem lifted (os : Os) (started : os.Started) (H : Type) (enc : TypeId × Value → H) :
    ReturnsInHanded {} Try.checked os 3 .any (Rows.ckptBackSpec.pre6 enc Try.prog Try.f3 Rows.ckptBackRow.domain false) (Rows.ckptBackSpec.post enc Try.prog Try.f3 false true false false) := by
  refine returnsInHanded_of_change (C := Try.checked) own started (by kernel_rfl) Try.func3
    (ChangeSpec.witness6 (enc := enc) (C := Try.checked) false ⟨#[], #[.agg #[.slice none 0 0, .slice none 0 0], .int .i64 0, .agg #[.int .i64 0, .slice none 0 0, .slice none 0 0, .slice none 0 0, .slice none 0 0, .int .i64 0, .int .i64 0, .int .i64 0], .int .u64 0], []⟩ 8 (by kernel_rfl) (by kernel_rfl) (by kernel_rfl) (by kernel_rfl)) ?_
  intro W base args ds gs before hval hW _ _
  refine contract_of (gA := rGood) (m := 8) s07_laws ux_1_laws decs laidOut (tb := 4) (by kernel_rfl) Try.underlying4 rfl (by kernel_rfl) ?_ ev H enc W base args ds gs before hval hW
  intro H ds h
  rw [Try.params3] at h
  match ds, h with
  | [d0, d1, d2, d3], _ => rfl
theorem over : Rows.ckptBackRow.holds Try.pinned (OpenSpec.ofChange Rows.ckptBackSpec) :=
  OpenClaim.holds_of_wide 3 Try.f3 rfl rfl rfl rfl rfl rfl rfl ⟨rfl, rfl, rfl, rfl, rfl⟩ rfl rfl rfl rfl rfl (by kernel_rfl) Try.func3 (by kernel_rfl)
    (of_decide_eq_true (by kernel_rfl)) (by unfold Func.isWrapper; first | (rw [if_pos (by decide +kernel)]; kernel_rfl) | (rw [if_neg (by decide +kernel)]; exact ⟨rfl, rfl⟩))
    (fun os started H enc _ => lifted os started H enc)
theorem proved : Rows.CkptBackSaid := over
end ckptBack
#print axioms ckptBack.proved
end Go.Proofs.Ytlcabbnadilalaa
