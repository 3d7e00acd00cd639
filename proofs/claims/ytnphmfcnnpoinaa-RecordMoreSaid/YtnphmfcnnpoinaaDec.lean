import Derived.Test.YtnphmfcnnpoinaaCod
import Derived.Test.YtnphmfcnnpoinaaBridge
namespace Go.Ev
set_option linter.unusedVariables false
set_option linter.unusedSimpArgs false
def i64 (n : Int) : Prop := -9223372036854775808 ≤ n ∧ n ≤ 9223372036854775807
theorem i64_of {n : Int} (h : IntKind.i64.min ≤ n ∧ n ≤ IntKind.i64.max) : i64 n := by
  simpa [i64, IntKind.min, IntKind.max, IntKind.signed, IntKind.bits] using h
def goodL (x : Line) : Prop := i64 x.offset ∧ i64 x.place ∧ i64 x.j ∧ i64 x.key ∧ i64 x.value
def rGood : (t : RTy) → RA t → Prop
  | .int => i64
  | .bool => fun _ => True
  | .u8 => fun _ => True
  | .write => fun (w : Write) => i64 w.key ∧ i64 w.value
  | .item => fun (w : Item) => i64 w.key ∧ i64 w.place ∧ i64 w.value
  | .line => goodL
  | .lines => fun (l : List Line) => l.length ≤ maxLen ∧ ∀ x ∈ l, goodL x
/-- the elements' types in a table -/
structure Etys (T : Tab RC) (ety : RTy → TypeId) : Prop where
  int : T.ty (ety .int) = .int .i64
  bool : T.ty (ety .bool) = .bool
  u8 : T.ty (ety .u8) = .int .u8
  write : ∃ a b, T.ty (ety .write) = .struct [a, b] ∧ T.ty a = .int .i64 ∧ T.ty b = .int .i64
  item : ∃ a b c, T.ty (ety .item) = .struct [a, b, c] ∧ T.ty a = .int .i64 ∧ T.ty b = .int .i64 ∧ T.ty c = .int .i64
  line : ∃ a b c d e, T.ty (ety .line) = .struct [a, b, c, d, e] ∧ T.ty a = .int .i64 ∧ T.ty b = .int .i64 ∧ T.ty c = .int .i64 ∧ T.ty d = .int .i64 ∧ T.ty e = .int .i64
  lines : ∃ a, T.ty (ety .lines) = .sl a .line

theorem fit_int {T : Tab RC} {d : D RC} {u : TypeId} {k : IntKind} (hu : T.ty u = .int k) (hf : fit T d (.inl u) = true) : ∃ n, d = .int k n := by
  cases d <;> simp [fit, hu] at hf
  subst hf; exact ⟨_, rfl⟩
theorem fit_bool {T : Tab RC} {d : D RC} {u : TypeId} (hu : T.ty u = .bool) (hf : fit T d (.inl u) = true) : ∃ n, d = .bool n := by
  cases d <;> simp [fit, hu] at hf
  exact ⟨_, rfl⟩
theorem fit_sl {T : Tab RC} {d : D RC} {u e : TypeId} {t : RTy} (hu : T.ty u = .sl e t) (hf : fit T d (.inl u) = true) (hr : d.refs = []) : ∃ c l, d = .sl t c l := by
  cases d <;> simp [fit, hu] at hf
  · subst hf; exact ⟨_, _, rfl⟩
  · simp [D.refs] at hr
theorem fit_arr {T : Tab RC} {d : D RC} {u e : TypeId} {t : RTy} {n : Nat} (hu : T.ty u = .arr n e t) (hf : fit T d (.inl u) = true) : ∃ l, d = .arr t n l := by
  cases d <;> simp [fit, hu] at hf
  obtain ⟨h1, h2⟩ := hf
  subst h1; subst h2; exact ⟨_, rfl⟩
theorem fit_st {T : Tab RC} {d : D RC} {u f : TypeId} {fs : List TypeId} (hu : T.ty u = .struct (f :: fs)) (hf : fit T d (.inl u) = true) : ∃ a b, d = .acons a b ∧ fit T a (.inl f) = true ∧ fit T b (.inr fs) = true := by
  cases d <;> simp [fit, hu] at hf
  exact ⟨_, _, rfl, hf.1, hf.2⟩
theorem fit_more {T : Tab RC} {d : D RC} {f : TypeId} {fs : List TypeId} (hf : fit T d (.inr (f :: fs)) = true) : ∃ a b, d = .acons a b ∧ fit T a (.inl f) = true ∧ fit T b (.inr fs) = true := by
  cases d <;> simp [fit] at hf
  exact ⟨_, _, rfl, hf.1, hf.2⟩
theorem fit_end {T : Tab RC} {d : D RC} (hf : fit T d (.inr []) = true) : d = .anil := by
  cases d <;> simp [fit] at hf
  rfl

theorem rDecs {T : Tab RC} {ety : RTy → TypeId} (h1 : T.ety = ety) (h2 : T.dec = rDec) (E : Etys T ety) : Dec T rGood where
  dec t d hf hr hg _ := by
    rw [h1] at hf
    rw [h2]
    cases t with
    | int =>
      obtain ⟨n, rfl⟩ := fit_int E.int hf
      exact ⟨n, rfl, i64_of hg⟩
    | bool =>
      obtain ⟨n, rfl⟩ := fit_bool E.bool hf
      exact ⟨n, rfl, trivial⟩
    | u8 =>
      obtain ⟨n, rfl⟩ := fit_int E.u8 hf
      exact ⟨_, rfl, trivial⟩
    | write =>
      obtain ⟨a, b, e, ha, hb⟩ := E.write
      obtain ⟨x, y, rfl, f1, f2⟩ := fit_st e hf
      obtain ⟨y, z, rfl, f3, f4⟩ := fit_more f2
      obtain rfl := fit_end f4
      obtain ⟨n, rfl⟩ := fit_int ha f1
      obtain ⟨m, rfl⟩ := fit_int hb f3
      exact ⟨⟨n, m⟩, rfl, i64_of hg.1, i64_of hg.2.1⟩
    | item =>
      obtain ⟨a, b, c, e, ha, hb, hc⟩ := E.item
      obtain ⟨x, y, rfl, f1, f2⟩ := fit_st e hf
      obtain ⟨y, z, rfl, f3, f4⟩ := fit_more f2
      obtain ⟨z, z', rfl, f5, f6⟩ := fit_more f4
      obtain rfl := fit_end f6
      obtain ⟨n, rfl⟩ := fit_int ha f1
      obtain ⟨m, rfl⟩ := fit_int hb f3
      obtain ⟨k, rfl⟩ := fit_int hc f5
      exact ⟨⟨n, m, k⟩, rfl, i64_of hg.1, i64_of hg.2.1, i64_of hg.2.2.1⟩
    | line =>
      obtain ⟨a, b, c, d, e', e, ha, hb, hc, hd, he⟩ := E.line
      obtain ⟨x, y, rfl, f1, f2⟩ := fit_st e hf
      obtain ⟨y, z, rfl, f3, f4⟩ := fit_more f2
      obtain ⟨z, z1, rfl, f5, f6⟩ := fit_more f4
      obtain ⟨z1, z2, rfl, f7, f8⟩ := fit_more f6
      obtain ⟨z2, z3, rfl, f9, f10⟩ := fit_more f8
      obtain rfl := fit_end f10
      obtain ⟨n1, rfl⟩ := fit_int ha f1
      obtain ⟨n2, rfl⟩ := fit_int hb f3
      obtain ⟨n3, rfl⟩ := fit_int hc f5
      obtain ⟨n4, rfl⟩ := fit_int hd f7
      obtain ⟨n5, rfl⟩ := fit_int he f9
      exact ⟨⟨n1, n2, n3, n4, n5⟩, rfl, i64_of hg.1, i64_of hg.2.1, i64_of hg.2.2.1, i64_of hg.2.2.2.1, i64_of hg.2.2.2.2.1⟩
    | lines =>
      obtain ⟨a, e⟩ := E.lines
      obtain ⟨c, l, rfl⟩ := fit_sl e hf hr
      exact ⟨l, by simp [rDec, D.asList], hg.1, hg.2⟩
end Go.Ev
