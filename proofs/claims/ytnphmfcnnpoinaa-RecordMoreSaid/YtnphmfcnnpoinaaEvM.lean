/-
  append, make, len, min, max, conversions, and what is left.
-/
import Derived.Test.YtnphmfcnnpoinaaEvL
namespace Go.Ev
set_option linter.unusedVariables false
set_option linter.unusedSimpArgs false

section
variable {C : Cdc} {P : Program} {T : Tab C} (K : PLaws P T)
open Pg (Ex)
variable {X : Cx} {h h' : Heap C} {nx nx' : Nat} {e : Pg.Lv} {lim : Lim} {tr : Tr} (g : G T X h nx lim) (hlim : nx' ≤ lim.top)

/-- where what is appended stands -/
def Src (T : Tab C) (X : Cx) (w : World) (ty : C.Ty) (xs : List (C.A ty)) (v : Value) : Prop :=
  ((∃ a, v = .slice a 0 0) ∧ xs = []) ∨ ∃ b off cp cs, v = .slice (some ⟨b, off, none⟩) xs.length cp ∧ R T X false (.arr ty xs.length xs) cs ∧ ∀ j u, cs[j]? = some u → w.cell? ⟨b, off + j, none⟩ = some u

theorem VecOK.src {ty : C.Ty} {own : Bool} {l : List (C.A ty)} {v : Value} {b lo hi : Nat} (hv : VecOK T X ty own l v b lo hi) : Src T X X.w ty l v := by
  have h0 := hv
  rcases hv with ⟨⟨a, h1, _⟩, h2, _⟩ | ⟨off, cp, h1, _⟩
  · exact .inl ⟨⟨a, h1⟩, h2⟩
  · obtain ⟨_, _, _, cs, h3, h4⟩ := h0.cells h1
    exact .inr ⟨b, off, cp, cs, h1, h3, h4⟩

theorem R.src {ty : C.Ty} {cap : Bool} {l : List (C.A ty)} {v : Value} (hv : R T X false (.sl ty cap l) [v]) : Src T X X.w ty l v := by
  cases hv with
  | sl0 => exact .inl ⟨⟨_, rfl⟩, rfl⟩
  | @sl _ _ _ b off cp cs hat hr _ _ => exact .inr ⟨b, off, cp, cs, rfl, hr, fun j u hj => (hat j u hj).1⟩

section run
variable {t tx ty0 el : TypeId} {ie : TypeInfo} {z : Value} (w : World)

/-- nothing is appended -/
theorem append_none (ht : P.underlying t = some (.slice el)) (htx : ∃ e2, P.underlying tx = some (.slice e2)) (hi : P.info? el = some ie) (ao bo : Option Addr) (n cp c : Nat) (hc : n ≤ cp) :
    (Builtin.append_ #[t, tx] ty0 #[.slice ao n cp, .slice bo 0 c]).run P w = .ok (.slice ao n cp) w := by
  obtain ⟨e2, htx⟩ := htx
  have hf : (Builtin.firstCells ie.size 0 (.slice bo 0 c)).run P w = .ok #[] w := by
    cases bo <;> simp [Builtin.firstCells, loadCells, loadCellsFrom]
  cases ao <;> simp [Builtin.append_, run_underlying ht, run_underlying htx, sizeOf, typeInfo, hi, Builtin.lenOf, hc, hf, storeCells]

theorem append_room (ht : P.underlying t = some (.slice el)) (htx : ∃ e2, P.underlying tx = some (.slice e2)) (hi : P.info? el = some ie) (g off n cp : Nat) (cur : Array Value) (eg : TypeId) (hg : w.heap[g]? = some (.cells cur eg (0, 0)))
    (a : Addr) (m c : Nat) (news : List Value) (hl : news.length = m * ie.size) (hnews : ∀ j u, news[j]? = some u → w.cell? (a.add j) = some u) (h1 : ∀ u ∈ news, u.oneCell' = true)
    (hroom : n + m ≤ cp) (hfit : off + n * ie.size + news.length ≤ cur.size) :
    (Builtin.append_ #[t, tx] ty0 #[.slice (some ⟨g, off, none⟩) n cp, .slice (some a) m c]).run P w =
      .ok (.slice (some ⟨g, off, none⟩) (n + m) cp) (w.setRow g (cur.toList.take (off + n * ie.size) ++ news ++ cur.toList.drop (off + n * ie.size + news.length)).toArray) := by
  obtain ⟨e2, htx⟩ := htx
  have hf := run_firstCells_some (P := P) w ie.size m a m c news hl hnews
  have hst := run_storeCells_at P g (off + n * ie.size) eg news 0 cur w hg (by omega) h1
  simp only [Nat.add_zero] at hst
  simp [Builtin.append_, run_underlying ht, run_underlying htx, sizeOf, typeInfo, hi, Builtin.lenOf, hroom, hf, Addr.add_lit, hst]

theorem append_grow (ht : P.underlying t = some (.slice el)) (htx : ∃ e2, P.underlying tx = some (.slice e2)) (hi : P.info? el = some ie) (hz : ie.zero = some z) (ao : Option Addr) (n cp : Nat) (olds : List Value)
    (holds : (ao = none ∧ olds = []) ∨ ∃ b, ao = some b ∧ olds.length = n * ie.size ∧ ∀ j v, olds[j]? = some v → w.cell? (b.add j) = some v)
    (a : Addr) (m c : Nat) (news : List Value) (hl : news.length = m * ie.size) (hnews : ∀ j v, news[j]? = some v → w.cell? (a.add j) = some v)
    (hg : cp < n + m) (h63 : ((n + m : Nat) : Int) ≤ 9223372036854775807) (hfit : Builtin.nextslicecap (n + m) cp * ie.bytes ≤ 281474976710656) :
    (Builtin.append_ #[t, tx] ty0 #[.slice ao n cp, .slice (some a) m c]).run P w =
      .ok (.slice (some ⟨w.heap.size, 0, none⟩) (n + m) (grownCap w (n + m) cp el))
        (w.drew.alloc (.cells (olds ++ news ++ (Builtin.zeroCells z.cells (grownCap w (n + m) cp el - (n + m))).toList).toArray el)) := by
  obtain ⟨e2, htx⟩ := htx
  have hn : ¬ (n + m ≤ cp) := by omega
  have h63' : ¬ (9223372036854775807 < ((n : Int) + (m : Int))) := by omega
  have h48' : ¬ (281474976710656 < Builtin.nextslicecap (n + m) cp * ie.bytes) := by omega
  have hf := run_firstCells_some (P := P) w.drew ie.size m a m c news hl (by simpa using hnews)
  have hfo : (Builtin.firstCells ie.size n (.slice ao n cp)).run P w.drew = .ok olds.toArray w.drew := by
    rcases holds with ⟨rfl, rfl⟩ | ⟨b, rfl, h1, h2⟩
    · simp [Builtin.firstCells]
    · exact run_firstCells_some (P := P) w.drew ie.size n b n cp olds h1 (by simpa using h2)
  simp [Builtin.append_, run_underlying ht, run_underlying htx, sizeOf, typeInfo, zeroValue, hi, hz, Builtin.lenOf, hn, h63', h48', Question.forced, hf, hfo, newRow, grownCap]
  congr 2
  apply Array.ext'
  simp
end run

include K in
theorem G.newRef {t : C.Ty} {own : Bool} {l : List (C.A t)} {v : Value} {b lo hi : Nat} (g : G T X h nx lim) (hn : nx < lim.top) (hl : hi ≤ lo)
    (hV : VecOK T X t own l v b lo hi) : ∃ X', X'.w = X.w ∧ X'.ρ nx = some (.vec v (T.ety t) b lo hi) ∧ G T X' ((nx, .vec t own l) :: h) (nx + 1) lim ∧ Step X nx lim X' := by
  let l0 : Loc := .vec v (T.ety t) b lo hi
  have hno : ∀ c o, ¬ l0.owns c o := fun c o h => by have := h.2; omega
  let X' : Cx := ⟨X.w, fun id => if id = nx then some l0 else X.ρ id, X.O⟩
  have hmine : ∀ c o, X'.mine c o → X.mine c o := by
    rintro c o ⟨id, k, h1, h2⟩
    by_cases hi : id = nx
    · simp [X', hi] at h1; subst h1; exact absurd h2 (hno c o)
    · simp [X', hi] at h1; exact ⟨id, k, h1, h2⟩
  have hs : Step X nx lim X' := by
    refine ⟨rfl, rfl, rfl, rfl, Nat.le_refl _, ?_, fun c o _ => hmine c o, fun _ _ _ _ => rfl, fun _ _ _ => rfl, fun _ => rfl⟩
    intro id ho
    have : id ≠ nx := by have := ho.1; omega
    simp [X', this, Compat.refl]
  have hc : Ch X X' nx lim nx := ⟨hs, fun id hi => by simp [X', hi], fun c d e f hb => ⟨d, hb, rfl, fun _ _ => rfl⟩⟩
  obtain ⟨o1, o2⟩ := G.others K.base g hc
  refine ⟨X', rfl, by simp [X', l0], ⟨?_, ?_, ?_, ?_, ?_, ?_, g.outs, Nat.le_succ_of_le g.low⟩, hs⟩
  · intro id t' d' hg
    rw [get_cons] at hg
    by_cases hi : id = nx
    · simp [hi] at hg
    · simp [hi] at hg; exact o1 id t' d' hi hg
  · intro id t' own' l' hg
    rw [get_cons] at hg
    by_cases hi' : id = nx
    · simp [hi'] at hg; obtain ⟨rfl, rfl, hg⟩ := hg; simp at hg; subst hg
      refine ⟨v, b, lo, hi, by simp [X', hi', l0], ?_⟩
      rcases hV with h2 | ⟨off, cp, h2, h3, h4, h5⟩
      · exact .inl h2
      · refine .inr ⟨off, cp, h2, h3, h4, ?_⟩
        rcases h5 with ⟨ht, hlo, h5 | ⟨cs, e, h5, h6, h7⟩⟩ | ⟨ht, hlo, ⟨cs, h5, h6⟩, h7⟩
        · exact .inl ⟨ht, hlo, .inl h5⟩
        · exact .inl ⟨ht, hlo, .inr ⟨cs, e, h5, h6, h7.step K.base hs (by simp [D.refs])⟩⟩
        · exact .inr ⟨ht, hlo, ⟨cs, h5.step hs, h6.step K.base hs (by simp [D.refs])⟩, h7⟩
    · simp [hi'] at hg; exact o2 id t' own' l' hi' hg
  · intro id k hr
    rw [get_cons]
    by_cases hi : id = nx
    · simp [hi]
    · simp [X', hi] at hr ⊢; exact g.dom id k hr
  · intro id o hg
    rw [get_cons] at hg
    by_cases hi : id = nx
    · simp [hi] at hg; subst hg
      exact ⟨hi ▸ g.new hn, fun r hr' => by simp [Obj.refs] at hr'⟩
    · simp [hi] at hg; exact g.nums' (by omega) id o hg
  · intro id id' k k' c o o' h1 h2 h3 h4
    by_cases hi : id = nx
    · simp [X', hi] at h1; subst h1; exact absurd h3 (hno c o)
    · by_cases hj : id' = nx
      · simp [X', hj] at h2; subst h2; exact absurd h4 (hno c o')
      · simp [X', hi] at h1; simp [X', hj] at h2; exact g.apart id id' k k' c o o' h1 h2 h3 h4
  · intro c o hm; exact g.outer c o (hmine c o hm)

theorem sizeOK_le {n b : Nat} (h : sizeOK n b = true) : n * b ≤ 1099511627776 := by simpa [sizeOK] using h

include K g
/-- a slice is grown out of elements that are read, into an object of its own -/
theorem grow_new {t tx el : TypeId} {ty : C.Ty} (ht : T.ty t = .sl el ty) (htx : ∃ e2, P.underlying tx = some (.slice e2)) (ty0 : TypeId) (own : Bool) (l xs : List (C.A ty)) (ao : Option Addr) (cp : Nat) (vx : Value)
    (hl : Src T X X.w ty l (.slice ao l.length cp)) (hx : Src T X X.w ty xs vx) (hne : xs ≠ []) (hcp : cp < l.length + xs.length) (hsz : sizeOK (l.length + xs.length) (T.bytes el) = true) (hn : nx + 1 ≤ lim.top) :
    Post P T X nx lim ((nx, .vec ty own (l ++ xs)) :: h) (nx + 1) (.vs nx (l.length + xs.length)) (Builtin.append_ #[t, tx] ty0 #[.slice ao l.length cp, vx]) := by
  obtain ⟨ie, z, h1, h2, h3, hbp, h4, h5, h6, _⟩ := K.uElem _ _ _ (.inr ht)
  have hse := (K.base.szSl _ _ _ ht).2.2
  have hsz' := sizeOK_le hsz
  rcases hx with ⟨_, hx⟩ | ⟨bx, ox, cx, news, rfl, hrx, hcx⟩
  · exact absurd hx hne
  · have hlx := (hrx.lenArr K.base).1
    have hxl : 0 < xs.length := List.length_pos_iff.2 hne
    have hole : ∃ olds, R T X false (.arr ty l.length l) olds ∧ ((ao = none ∧ olds = []) ∨ ∃ b, ao = some b ∧ olds.length = l.length * ie.size ∧ ∀ j v, olds[j]? = some v → X.w.cell? (b.add j) = some v) := by
      rcases hl with ⟨hv, rfl⟩ | ⟨b, off, cp', cs, hv, hr, hc⟩
      · refine ⟨[], .arr0 ty, ?_⟩
        cases ao with
        | none => exact .inl ⟨rfl, rfl⟩
        | some b => exact .inr ⟨b, rfl, by simp, fun j v hj => by simp at hj⟩
      · simp at hv
        refine ⟨cs, hr, .inr ⟨_, hv.1, by rw [(hr.lenArr K.base).1, h2, hse], fun j v hj => ?_⟩⟩
        rw [Addr.add_lit]; exact hc j v hj
    obtain ⟨olds, hro, holds⟩ := hole
    have hlo := (hro.lenArr K.base).1
    have hb1 : l.length + xs.length ≤ (l.length + xs.length) * T.bytes el := Nat.le_mul_of_pos_right _ hbp
    have hrun := append_grow (P := P) (t := t) (tx := tx) (ty0 := ty0) X.w (K.uSl _ _ _ ht) htx h1 h5 ao l.length cp olds holds ⟨bx, ox, none⟩ xs.length cx news (by rw [hlx, h2, hse]) (fun j v hj => by rw [Addr.add_lit]; exact hcx j v hj) hcp
      (by omega) (by rw [h3]; exact nextcap_bytes _ _ _ hcp hsz')
    have hgc := grownCap_ge X.w (l.length + xs.length) cp el
    generalize grownCap X.w (l.length + xs.length) cp el = cap at hrun hgc
    obtain ⟨g1, s1⟩ := G.world K.base g X.w.drew rfl rfl rfl rfl
    have hrn : R T X false (.arr ty (l ++ xs).length (l ++ xs)) (olds ++ news) := by
      have := hro.arrAppend hrx
      simpa using this
    have hon : (olds ++ news).length = (l ++ xs).length * T.size (T.ety ty) := by simp [hlo, hlx, Nat.add_mul]
    obtain ⟨X', hX', g2, s2, r2⟩ := G.newVec K.base g1 (by omega) (t := ty) (l := l ++ xs) (c := (olds ++ news ++ (Builtin.zeroCells z.cells (cap - (l.length + xs.length))).toList).toArray) (e := el) (cp := cap) own (by
        have e1 : (olds ++ news ++ (Builtin.zeroCells z.cells (cap - (l.length + xs.length))).toList).toArray.toList.take ((l ++ xs).length * T.size (T.ety ty)) = olds ++ news := by
          rw [List.toList_toArray, List.take_left' hon]
        rw [e1]
        exact hrn.step K.base s1 (by simp [D.refs])) (by simpa using hgc) (by
        simp only [List.size_toArray, List.length_append, Array.length_toList, size_zeroCells, h6, hlo, hlx, hse]
        rw [← Nat.add_mul, ← Nat.add_mul]
        exact Nat.le_of_eq (by congr 1; omega))
    have hlen : (l ++ xs).length = l.length + xs.length := by simp
    rw [hlen] at r2
    refine ⟨_, X', ?_, g2, s1.trans s2 (Nat.le_refl _), ⟨.mk rfl r2, ?_⟩⟩
    · rw [hrun, hX']; rfl
    · intro id hid; simp [D.refs] at hid; subst hid; exact g.new (by omega)

omit K g in
theorem G.congr {h2 : Heap C} (g : G T X h nx lim) (hh : ∀ id, h2.get id = h.get id) : G T X h2 nx lim :=
  ⟨fun id t d ho => g.var id t d (by rw [← hh]; exact ho), fun id t own l ho => g.vec id t own l (by rw [← hh]; exact ho), fun id l hr => by rw [hh]; exact g.dom id l hr, fun id o ho => g.nums id o (by rw [← hh]; exact ho), g.apart, g.outer, g.outs, g.low⟩

omit K g in
theorem splice_ext {α : Type} (l : List α) (off k : Nat) (news : List α) (h : off + k + news.length ≤ l.length) :
    ((l.take (off + k) ++ news ++ l.drop (off + k + news.length)).drop off).take (k + news.length) = (l.drop off).take k ++ news := by
  have e1 : l.take (off + k) = l.take off ++ (l.drop off).take k := by rw [List.take_add]
  have h1 : (l.take off).length = off := by simp; omega
  rw [e1, List.append_assoc, List.append_assoc, List.drop_left' h1, ← List.append_assoc, List.take_left' (by simp; omega)]

include hlim
theorem app_ok {t tx el : TypeId} {ty : C.Ty} (ht : T.ty t = .sl el ty) (htx : ∃ e2, P.underlying tx = some (.slice e2)) (ty0 : TypeId) {s d : D C} {vs vx : Value} (hs : RO T X nx lim s vs) (xs : List (C.A ty)) (hsx : Src T X X.w ty xs vx)
    (hex : Ex e (app ty (T.bytes el) s xs) h nx d h' nx' tr) : Post P T X nx lim h' nx' d (Builtin.append_ #[t, tx] ty0 #[vs, vx]) := by
  obtain ⟨ie, z, q1, q2, q3, qb, q4, q5, q6, _⟩ := K.uElem _ _ _ (.inr ht)
  have hse := (K.base.szSl _ _ _ ht).2.2
  have hu := K.uSl _ _ _ ht
  have hvx0 : xs = [] → ∃ bo c, vx = .slice bo 0 c := by
    rintro rfl
    rcases hsx with ⟨⟨a, rfl⟩, _⟩ | ⟨b, off, cp, cs, rfl, _⟩
    · exact ⟨a, 0, rfl⟩
    · exact ⟨_, _, rfl⟩
  -- a new object that only refers
  have refer : ∀ (own : Bool) (l : List (C.A ty)) (ao : Option Addr), xs = [] → R T X false (.sl ty true l) [.slice ao l.length l.length] → (own = true → l = []) → nx + 1 ≤ lim.top →
      Post P T X nx lim ((nx, .vec ty own (l ++ xs)) :: h) (nx + 1) (.vs nx (l.length + xs.length)) (Builtin.append_ #[t, tx] ty0 #[.slice ao l.length l.length, vx]) := by
    intro own l ao hx0 hR hown hn
    obtain ⟨bo, c, rfl⟩ := hvx0 hx0
    subst hx0
    have hrun := append_none (P := P) (t := t) (tx := tx) (ty0 := ty0) X.w hu htx q1 ao bo l.length l.length c (Nat.le_refl _)
    simp only [List.append_nil, List.length_nil, Nat.add_zero]
    have hV : ∃ b lo hi, hi ≤ lo ∧ VecOK T X ty own l (.slice ao l.length l.length) b lo hi := by
      generalize hv : (Value.slice ao l.length l.length) = v at hR
      cases hR with
      | sl0 _ _ a =>
        by_cases ha : ∃ b off, a = some ⟨b, off, none⟩
        · obtain ⟨b, off, rfl⟩ := ha
          cases own with
          | true => exact ⟨b, off, off, Nat.le_refl _, .inr ⟨off, 0, rfl, by simp, by simp, .inl ⟨rfl, rfl, .inl rfl⟩⟩⟩
          | false => exact ⟨b, off, off, Nat.le_refl _, .inr ⟨off, 0, rfl, by simp, by simp, .inr ⟨rfl, by simp, ⟨[], fun j v hj => by simp at hj, .arr0 _⟩, .inl rfl⟩⟩⟩
        · exact ⟨0, 0, 0, Nat.le_refl _, .inl ⟨⟨a, rfl, fun b off e => ha ⟨b, off, e⟩⟩, rfl, Nat.le_refl _⟩⟩
      | @sl _ _ _ b off cp cs hat hr _ hc =>
        have hcp := hc rfl
        subst hcp
        cases own with
        | true =>
          have := hown rfl
          subst this
          exact ⟨b, off, off, Nat.le_refl _, .inr ⟨off, 0, rfl, by simp, by simp, .inl ⟨rfl, rfl, .inl rfl⟩⟩⟩
        | false => exact ⟨b, _, _, Nat.le_refl _, .inr ⟨off, l.length, rfl, Nat.le_refl _, rfl, .inr ⟨rfl, rfl, ⟨cs, hat, hr⟩, .inl rfl⟩⟩⟩
    obtain ⟨b, lo, hi, hle, hV⟩ := hV
    obtain ⟨X', hX', hρ, g2, s2⟩ := G.newRef K g (by omega) hle hV
    refine ⟨_, X', by rw [hrun, hX'], g2, s2, ⟨.mk rfl (.vs fun v e b' lo' hi' hv => ?_), ?_⟩⟩
    · rw [hρ] at hv; simp at hv; obtain ⟨rfl, _⟩ := hv
      exact ⟨Nat.le_refl _, fun _ => rfl⟩
    · intro id hid; simp [D.refs] at hid; subst hid; exact g.new (by omega)
  unfold app at hex
  cases s with
  | nils =>
    rw [hs.1.nils]
    simp only at hex
    rcases Ex.br hex with ⟨hb, hex⟩ | ⟨_, hex⟩
    · obtain ⟨t1, hex, _⟩ := Ex.nw hex
      obtain ⟨rfl, rfl, rfl, rfl⟩ := Ex.ret hex
      by_cases hx0 : xs = []
      · have := refer true [] none hx0 (.sl0 _ _ _) (fun _ => rfl) (by omega)
        simpa using this
      · have := grow_new K g ht htx ty0 true [] xs none 0 vx (.inl ⟨⟨none, rfl⟩, rfl⟩) hsx hx0 (by have := List.length_pos_iff.2 hx0; simp; omega) (by simpa using hb) (by omega)
        simpa using this
    · exact (Ex.fail hex).elim
  | sl t' cap l =>
    simp only at hex
    by_cases hty : t' = ty
    · subst hty
      simp only [dite_true] at hex
      cases cap with
      | false => exact (Ex.fail hex).elim
      | true =>
        simp only at hex
        rcases Ex.br hex with ⟨hb, hex⟩ | ⟨_, hex⟩
        · obtain ⟨t1, hex, _⟩ := Ex.nw hex
          obtain ⟨rfl, rfl, rfl, rfl⟩ := Ex.ret hex
          have hR := hs.1.one rfl
          have hvs : ∃ ao, vs = .slice ao l.length l.length := by
            cases hR with
            | sl0 => exact ⟨_, rfl⟩
            | sl hat hr _ hc => have := hc rfl; subst this; exact ⟨_, rfl⟩
          obtain ⟨ao, rfl⟩ := hvs
          by_cases hx0 : xs = []
          · exact refer l.isEmpty l ao hx0 hR (fun hh => by simpa using hh) (by omega)
          · exact grow_new K g ht htx ty0 l.isEmpty l xs ao l.length vx hR.src hsx hx0 (by have := List.length_pos_iff.2 hx0; omega) hb (by omega)
        · exact (Ex.fail hex).elim
    · simp only [hty, dite_false] at hex; exact (Ex.fail hex).elim
  | vs id n =>
    simp only at hex
    obtain ⟨o, tr', ho, hey, _⟩ := Ex.rd hex
    clear hex
    cases o with
    | var u d0 => exact (Ex.fail hey).elim
    | vec ty' own l =>
      simp only at hey
      by_cases hty : ty' = ty
      · subst hty
        simp only [dite_true] at hey
        rcases Ex.br hey with ⟨hb, hex⟩ | ⟨_, hex⟩
        · obtain ⟨o', t2, _, hex, _⟩ := Ex.wr hex
          obtain ⟨rfl, rfl, rfl, rfl⟩ := Ex.ret hex
          simp only [Bool.and_eq_true] at hb
          have hn : n = l.length := Nat.eq_of_beq_eq_true hb.1
          subst hn
          obtain ⟨v0, b, lo, hi, h1, h2⟩ := g.vec id ty' own l ho
          have hR := hs.1.one rfl
          cases hR with
          | @vs _ _ cp a0 hh =>
            have hv0 := (hh _ _ _ _ _ h1).2 h2.len
            subst hv0
            have hsrc := h2.src
            have hcp : l.length ≤ cp := by
              rcases h2 with ⟨h3, h4, _⟩ | ⟨off, cp', h3, h4, _⟩
              · rw [h4]; simp
              · simp at h3; omega
            have hidr : ∀ r ∈ (D.vs id (l.length + xs.length) : D C).refs, old nx' lim r := by
              intro r hr; simp [D.refs] at hr; subst hr; exact hs.2 r (by simp [D.refs])
            by_cases hx0 : xs = []
            · obtain ⟨bo, c, rfl⟩ := hvx0 hx0
              subst hx0
              have hrun := append_none (P := P) (t := t) (tx := tx) (ty0 := ty0) X.w hu htx q1 a0 bo l.length cp c hcp
              refine ⟨_, X, hrun, g.congr (fun j => ?_), .refl _ _ _, ⟨hs.1, by simpa using hidr⟩⟩
              rw [get_put (g.dom id _ h1)]
              by_cases hj : j = id
              · simp [hj, ho]
              · simp [hj]
            · have hxl := List.length_pos_iff.2 hx0
              rcases Nat.lt_or_ge cp (l.length + xs.length) with hgrow | hroom
              · -- into a new block
                rcases hsx with ⟨_, hsx⟩ | ⟨bx, ox, cx, news, rfl, hrx, hcx⟩
                · exact absurd hsx hx0
                · have hlx := (hrx.lenArr K.base).1
                  have hole : ∃ olds, R T X false (.arr ty' l.length l) olds ∧ ((a0 = none ∧ olds = []) ∨ ∃ b, a0 = some b ∧ olds.length = l.length * ie.size ∧ ∀ j v, olds[j]? = some v → X.w.cell? (b.add j) = some v) := by
                    rcases hsrc with ⟨hv, rfl⟩ | ⟨b, off, cp', cs, hv, hr, hc⟩
                    · refine ⟨[], .arr0 ty', ?_⟩
                      cases a0 with
                      | none => exact .inl ⟨rfl, rfl⟩
                      | some b => exact .inr ⟨b, rfl, by simp, fun j v hj => by simp at hj⟩
                    · simp at hv
                      refine ⟨cs, hr, .inr ⟨_, hv.1, by rw [(hr.lenArr K.base).1, q2, hse], fun j v hj => ?_⟩⟩
                      rw [Addr.add_lit]; exact hc j v hj
                  obtain ⟨olds, hro, holds⟩ := hole
                  have hlo := (hro.lenArr K.base).1
                  have hsz' := sizeOK_le hb.2
                  have hb1 : l.length + xs.length ≤ (l.length + xs.length) * T.bytes el := Nat.le_mul_of_pos_right _ qb
                  have hrun := append_grow (P := P) (t := t) (tx := tx) (ty0 := ty0) X.w hu htx q1 q5 a0 l.length cp olds holds ⟨bx, ox, none⟩ xs.length cx news (by rw [hlx, q2, hse]) (fun j v hj => by rw [Addr.add_lit]; exact hcx j v hj) hgrow
                    (by omega) (by rw [q3]; exact nextcap_bytes _ _ _ hgrow hsz')
                  have hgc := grownCap_ge X.w (l.length + xs.length) cp el
                  generalize grownCap X.w (l.length + xs.length) cp el = cap at hrun hgc
                  obtain ⟨g1, s1⟩ := G.world K.base g X.w.drew rfl rfl rfl rfl
                  have hrn : R T X false (.arr ty' (l ++ xs).length (l ++ xs)) (olds ++ news) := by
                    have := hro.arrAppend hrx
                    simpa using this
                  have hon : (olds ++ news).length = (l ++ xs).length * T.size (T.ety ty') := by simp [hlo, hlx, Nat.add_mul]
                  have hlen : (l ++ xs).length = l.length + xs.length := by simp
                  have hcsz : (olds ++ news ++ (Builtin.zeroCells z.cells (cap - (l.length + xs.length))).toList).toArray.size = cap * T.size (T.ety ty') := by
                    simp only [List.size_toArray, List.length_append, Array.length_toList, size_zeroCells, q6, hlo, hlx, hse]
                    rw [← Nat.add_mul, ← Nat.add_mul]
                    congr 1; omega
                  have hmul : (l ++ xs).length * T.size (T.ety ty') ≤ cap * T.size (T.ety ty') := Nat.mul_le_mul_right _ (by omega)
                  obtain ⟨X', hX', hρ, g2, s2⟩ := G.moveVec K.base g1 (own' := own) (l' := l ++ xs) (v' := .slice (some ⟨X.w.heap.size, 0, none⟩) (l.length + xs.length) cap)
                    (c := (olds ++ news ++ (Builtin.zeroCells z.cells (cap - (l.length + xs.length))).toList).toArray) (e := el) (lo' := if own then 0 else (l ++ xs).length * T.size (T.ety ty')) (hi' := cap * T.size (T.ety ty')) ho h1
                    ⟨by simp [lenV], fun he => by simp only [lenV] at he; omega⟩ (by
                    intro X' hw hO hm hO2 hs'
                    have hr' := (hrn.step K.base s1 (by simp [D.refs])).step K.base hs' (by simp [D.refs])
                    have hblk : X'.w.heap[X.w.heap.size]? = some (.cells (olds ++ news ++ (Builtin.zeroCells z.cells (cap - (l.length + xs.length))).toList).toArray el (0, 0)) := by
                      rw [hw]; exact heap_alloc_eq X.w.drew _
                    refine .inr ⟨0, cap, by rw [hlen]; rfl, by omega, by simp, ?_⟩
                    cases own with
                    | true =>
                      refine .inl ⟨rfl, by simp, .inr ⟨_, el, hblk, by rw [hcsz]; exact Nat.le_refl _, ?_⟩⟩
                      rw [List.toList_toArray, List.drop_zero, List.take_left' hon]; exact hr'
                    | false =>
                      refine .inr ⟨rfl, by simp, ⟨_, ?_, hr'⟩, .inr ⟨_, el, hblk, by rw [hcsz]; exact Nat.le_refl _⟩⟩
                      intro j u hj
                      have hj' : j < (olds ++ news).length := (List.getElem?_eq_some_iff.1 hj).1
                      refine ⟨?_, hO2 _, hm _ (by simp only [Bool.false_eq_true, if_false]; omega)⟩
                      have hblk' : X'.w.heap[X.w.drew.heap.size]? = some (.cells (olds ++ news ++ (Builtin.zeroCells z.cells (cap - (l.length + xs.length))).toList).toArray el (0, 0)) := hblk
                      simp only [World.cell?, hblk', Nat.zero_add]
                      simp only [List.getElem?_toArray]
                      rw [List.getElem?_append_left hj', hj]; rfl)
                  refine ⟨_, X', by rw [hrun, hX'], g2, s1.trans s2 (Nat.le_refl _), ⟨.mk rfl (.vs fun v e b' lo' hi' hv => ?_), hidr⟩⟩
                  rw [hρ] at hv; simp at hv; obtain ⟨rfl, _⟩ := hv
                  exact ⟨by simp [lenV], fun _ => rfl⟩
              · -- where there is room
                rcases h2 with ⟨h3, h4, _⟩ | ⟨off, cp', h3, h4, h5, h6⟩
                · simp at h3; omega
                · simp at h3
                  obtain ⟨rfl, rfl⟩ := h3
                  rcases hsx with ⟨_, hsx⟩ | ⟨bx, ox, cx, news, rfl, hrx, hcx⟩
                  · exact absurd hsx hx0
                  · have hlx := (hrx.lenArr K.base).1
                    have hblk : ∃ c ee, X.w.heap[b]? = some (.cells c ee (0, 0)) ∧ hi ≤ c.size := by
                      rcases h6 with ⟨_, _, h6 | ⟨c, ee, h6, h7, _⟩⟩ | ⟨_, _, _, h6 | ⟨c, ee, h6, h7⟩⟩
                      · omega
                      · exact ⟨c, ee, h6, h7⟩
                      · omega
                      · exact ⟨c, ee, h6, h7⟩
                    obtain ⟨c, ee, hblk, hcs⟩ := hblk
                    have hone := hrx.ones K.base rfl (.inr ⟨_, _, _, rfl⟩)
                    have hmul : (l.length + xs.length) * T.size (T.ety ty') ≤ cp * T.size (T.ety ty') := Nat.mul_le_mul_right _ hroom
                    rw [Nat.add_mul] at hmul
                    have hrun := append_room (P := P) (t := t) (tx := tx) (ty0 := ty0) X.w hu htx q1 b off l.length cp c ee hblk ⟨bx, ox, none⟩ xs.length cx news (by rw [hlx, q2, hse]) (fun j v hj => by rw [Addr.add_lit]; exact hcx j v hj) hone hroom
                      (by rw [hlx, q2, hse]; omega)
                    rw [q2, hse] at hrun
                    have hclen : c.toList.length = c.size := by simp
                    have hfits : off + l.length * T.size (T.ety ty') + news.length ≤ c.toList.length := by omega
                    have hgt := splice_get c.toList (off + l.length * T.size (T.ety ty')) news hfits
                    have hln := splice_len c.toList (off + l.length * T.size (T.ety ty')) news hfits
                    have hext := splice_ext c.toList off (l.length * T.size (T.ety ty')) news hfits
                    have hmid : ∀ j, j < news.length → (c.toList.take (off + l.length * T.size (T.ety ty')) ++ news ++ c.toList.drop (off + l.length * T.size (T.ety ty') + news.length))[off + l.length * T.size (T.ety ty') + j]? = news[j]? := by
                      intro j hj
                      have hpl : (c.toList.take (off + l.length * T.size (T.ety ty'))).length = off + l.length * T.size (T.ety ty') := by simp; omega
                      rw [List.append_assoc, List.getElem?_append_right (by omega), hpl, Nat.add_sub_cancel_left, List.getElem?_append_left hj]
                    generalize hk : c.toList.take (off + l.length * T.size (T.ety ty')) ++ news ++ c.toList.drop (off + l.length * T.size (T.ety ty') + news.length) = k at hrun hgt hln hext hmid
                    have hlen : (l ++ xs).length = l.length + xs.length := by simp
                    have hlow : lo = off ∨ lo = off + l.length * T.size (T.ety ty') := by
                      rcases h6 with ⟨_, h6, _⟩ | ⟨_, h6, _⟩
                      · exact .inl h6
                      · exact .inr h6
                    obtain ⟨X', hX', hρ, g2, s2⟩ := G.setVec K.base g ho h1 hblk (c' := k.toArray) (l' := l ++ xs) (v' := .slice (some ⟨b, off, none⟩) (l.length + xs.length) cp)
                      (lo' := if own then lo else off + (l ++ xs).length * T.size (T.ety ty')) (by simp [hln]) (by
                      intro o ho'
                      have := hgt o (by omega)
                      simpa using this) (by
                      cases own with
                      | true => simp
                      | false => simp only [Bool.false_eq_true, if_false]; rw [hlen, Nat.add_mul]; omega) (by
                      cases own with
                      | true => simp
                      | false => simp only [Bool.false_eq_true, if_false]; rw [hlen, Nat.add_mul]; omega)
                      ⟨by simp [lenV], fun he => by simp only [lenV] at he; omega⟩ (by
                      intro X' hw hO hm hfree hs'
                      have hb2 : X'.w.heap[b]? = some (.cells k.toArray ee (0, 0)) := by rw [hw]; exact setRow_heap _ _ _ _ _ _ hblk
                      refine .inr ⟨off, cp, by rw [hlen], by omega, h5, ?_⟩
                      rcases h6 with ⟨rfl, hlo, h6 | ⟨c2, ee2, h6, h7, h8⟩⟩ | ⟨rfl, hlo, ⟨cs, h6, h7⟩, h8⟩
                      · omega
                      · rw [hblk] at h6; simp at h6; obtain ⟨rfl, rfl⟩ := h6
                        refine .inl ⟨rfl, by simpa using hlo, .inr ⟨_, ee, hb2, by simp [hln]; omega, ?_⟩⟩
                        have hr' : R T X false (.arr ty' (l ++ xs).length (l ++ xs)) ((c.toList.drop off).take (l.length * T.size (T.ety ty')) ++ news) := by
                          have := h8.arrAppend hrx
                          simpa using this
                        have e1 : (l ++ xs).length * T.size (T.ety ty') = l.length * T.size (T.ety ty') + news.length := by rw [hlen, Nat.add_mul, hlx]
                        rw [e1, List.toList_toArray, hext]
                        exact hr'.step K.base hs' (by simp [D.refs])
                      · refine .inr ⟨rfl, by simp, ⟨cs ++ news, ?_, ?_⟩, .inr ⟨_, ee, hb2, by simp [hln]; omega⟩⟩
                        · have hcsl := (h7.lenArr K.base).1
                          intro j u hj
                          rcases Nat.lt_or_ge j cs.length with hlt | hge
                          · rw [List.getElem?_append_left hlt] at hj
                            exact (h6.step hs') j u hj
                          · rw [List.getElem?_append_right hge] at hj
                            have hjn : j - cs.length < news.length := (List.getElem?_eq_some_iff.1 hj).1
                            have hpos : off + j = off + l.length * T.size (T.ety ty') + (j - cs.length) := by omega
                            refine ⟨?_, ?_, ?_⟩
                            · simp only [World.cell?, hb2]
                              have := hmid (j - cs.length) hjn
                              rw [← hpos, hj] at this
                              simpa using this
                            · rw [hO]
                              exact (g.outer b (off + j) ⟨id, _, h1, ⟨rfl, by omega, by omega⟩⟩).1
                            · refine hfree _ (by omega) ?_
                              simp only [Bool.false_eq_true, if_false]; rw [hlen, Nat.add_mul]; omega
                        · have := h7.arrAppend hrx
                          have hr' : R T X false (.arr ty' (l ++ xs).length (l ++ xs)) (cs ++ news) := by simpa using this
                          exact hr'.step K.base hs' (by simp [D.refs]))
                    refine ⟨_, X', by rw [hrun, hX'], g2, s2, ⟨.mk rfl (.vs fun v e b' lo' hi' hv => ?_), hidr⟩⟩
                    rw [hρ] at hv; simp at hv; obtain ⟨rfl, _⟩ := hv
                    exact ⟨by simp [lenV], fun _ => rfl⟩
        · exact (Ex.fail hex).elim
      · simp only [hty, dite_false] at hey; exact (Ex.fail hey).elim
  | _ => exact (Ex.fail hex).elim
end
end Go.Ev
