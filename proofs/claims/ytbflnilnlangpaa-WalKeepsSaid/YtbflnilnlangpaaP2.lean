/-
  A part of the proof of a statement of this seat: the model is run over values by content, proved sound; what the functions come to. No condition beyond the given statements. (text 3)
-/
import Derived.Test.YtbflnilnlangpaaP1
import Derived.LoopN
import Derived.Test.YtbflnilnlangpaaProg
import Derived.KernelRfl
namespace Go.Ev
set_option linter.unusedVariables false
set_option linter.unusedSimpArgs false
section
variable {C : Cdc} {P : Program} {T : Tab C} (K : PLaws P T)
open Pg (Ex)
theorem eget_cons (env : Env C) (t j : Nat) (d : D C) : eget ((j, d) :: env) t = if t = j then d else eget env t := by
  simp only [eget]
  by_cases h : t = j
  · subst h; simp
  · simp [beqF h, h]
theorem eget_put (env : Env C) (dst : Option Tmp) (d : D C) (t : Nat) : eget (put env dst d) t = if dst = some t then d else eget env t := by
  cases dst with
  | none => simp [put]
  | some j =>
    simp only [put, eget_cons]
    by_cases h : t = j
    · simp [h]
    · have : ¬ j = t := fun e => h e.symm
      simp [h, this]
theorem evOp_congr (call : FuncId → List (D C) → Pg C (D C)) (o : Oper) (r s : Operand → D C) (hh : ∀ x ∈ o.op.operands, r x = s x) : evOp T call o r = evOp T call o s := by
  obtain ⟨dst, op, ty, pos, after, guard⟩ := o
  have hl : ∀ (xs : Array Operand), (∀ x ∈ xs, r x = s x) → xs.toList.map r = xs.toList.map s := fun xs hx => List.map_congr_left fun x hm => hx x (by simpa using hm)
  have hp : ∀ (ps : Array (Nat × Operand)), (∀ x ∈ (ps.toList.map (·.2)).toArray, r x = s x) → (ps.toList.map fun p => (p.1, r p.2)) = ps.toList.map fun p => (p.1, s p.2) := fun ps hx => List.map_congr_left fun p hm => by
    rw [hx p.2 (by simp; exact ⟨p.1, by simpa using hm⟩)]
  have hopt : ∀ (q : Option Operand), (∀ x ∈ q.toArray, r x = s x) → q.map r = q.map s := fun q hx => by
    cases q with
    | none => rfl
    | some q => simp [hx q (by simp)]
  cases op <;> simp only [Op.operands] at hh <;> simp only [evOp]
  case build t ps => rw [hp ps hh]
  case buildSlice t n ps => rw [hp ps hh]
  case makeMap t q => cases q <;> rfl
  case makeFunc fn a b => rw [hl a (fun x hx => hh x (by simp [hx])), hl b (fun x hx => hh x (by simp [hx]))]
  case slice t x lo hi mx =>
    rw [hh x (by simp), hopt lo (fun y hy => hh y (by simp at hy ⊢; simp [hy])), hopt hi (fun y hy => hh y (by simp at hy ⊢; simp [hy])), hopt mx (fun y hy => hh y (by simp at hy ⊢; simp [hy]))]
  case call c =>
    obtain ⟨callee, args, argTypes⟩ := c
    have ha := hl args (fun x hx => hh x (by simp [Call.operands, hx]))
    cases callee with
    | builtin b => simp only [ha]
    | value f => simp only [ha, hh f (by simp [Call.operands])]
    | invoke q m => rfl
  all_goals simp_all
theorem pins_two {i : Nat} {k : IntKind} {n : Int} {go : Env C → Pg C (Env C)} {f1 f2 : Env C} (h1 : eget f1 i = .int k n) (h2 : eget f2 i = .int k n) {e : Pg.Lv} {h h' : Heap C} {nx nx' : Nat} {r : Env C} {tr : Tr} {w : Bool} : ∀ (l : List Int),
    Ex e (pins i k n go w f1 l) h nx r h' nx' tr → ∃ g1, (∀ t, eget g1 t = eget f1 t) ∧ Ex e (go g1) h nx r h' nx' tr ∧ ∃ g2, (∀ t, eget g2 t = eget f2 t) ∧ ∀ r3, Ex e (go g2) h nx r3 h' nx' tr → Ex e (pins i k n go w f2 l) h nx r3 h' nx' tr
  | [], hx => by
    cases w
    · exact ⟨f1, fun _ => rfl, hx, f2, fun _ => rfl, fun _ h => h⟩
    · exact (Ex.fail hx).elim
  | j :: l, hx => by
    rcases Ex.br hx with ⟨hb, hx⟩ | ⟨hb, hx⟩
    · have hj : n = j := by simpa using hb
      refine ⟨(i, .int k j) :: f1, fun t => ?_, hx, (i, .int k j) :: f2, fun t => ?_, fun r3 h3 => Pg.Ex.mk_br (.inl ⟨hb, h3⟩)⟩
      · rw [eget_cons]
        by_cases ht : t = i
        · simp [ht, h1, hj]
        · simp [ht]
      · rw [eget_cons]
        by_cases ht : t = i
        · simp [ht, h2, hj]
        · simp [ht]
    · obtain ⟨g1, a1, a2, g2, a3, a4⟩ := pins_two h1 h2 l hx
      exact ⟨g1, a1, a2, g2, a3, fun r3 h3 => Pg.Ex.mk_br (.inr ⟨hb, a4 r3 h3⟩)⟩
theorem pinC_two {o : Oper} {go : Env C → Pg C (Env C)} {f1 f2 : Env C} (hi : ∀ i m, pinOf T o = some (i, m) → eget f1 i = eget f2 i) {e : Pg.Lv} {h h' : Heap C} {nx nx' : Nat} {r : Env C} {tr : Tr}
    (hx : Ex e (pinC T o go f1) h nx r h' nx' tr) : ∃ g1, (∀ t, eget g1 t = eget f1 t) ∧ Ex e (go g1) h nx r h' nx' tr ∧ ∃ g2, (∀ t, eget g2 t = eget f2 t) ∧ ∀ r3, Ex e (go g2) h nx r3 h' nx' tr → Ex e (pinC T o go f2) h nx r3 h' nx' tr := by
  unfold pinC at hx ⊢
  cases hp : pinOf T o with
  | none => simp only [hp] at hx ⊢; exact ⟨f1, fun _ => rfl, hx, f2, fun _ => rfl, fun _ h => h⟩
  | some q =>
    obtain ⟨i, m⟩ := q
    simp only [hp] at hx ⊢
    rw [← hi i m hp]
    generalize hq : eget f1 i = d at hx
    cases d with
    | int k n =>
      exact pins_two hq (by rw [← hi i m hp, hq]) _ hx
    | _ => exact ⟨f1, fun _ => rfl, hx, f2, fun _ => rfl, fun _ h => h⟩
theorem pinOf_looks {o : Oper} {ops : Array Oper} {i m : Nat} (h : pinOf T o = some (i, m)) : i ∈ o.looksAt ops := by
  have hm : Operand.tmp i ∈ o.op.operands := by
    unfold pinOf at h
    split at h
    · rename_i ho
      rw [ho]
      split at h
      · cases h; simp [Op.operands]
      · cases h
    · rename_i ho
      rw [ho]
      split at h
      · cases h; simp [Op.operands]
      · cases h
    · cases h
  unfold Oper.looksAt
  simp only [List.mem_append, List.mem_filterMap]
  exact .inl ⟨.tmp i, by simpa using hm, rfl⟩
theorem evOpG_eq (call : FuncId → List (D C) → Pg C (D C)) (ops : Array Oper) (o : Oper) (env env2 : Env C) (hh : ∀ t ∈ o.looksAt ops, eget env t = eget env2 t) {e : Pg.Lv} {h h' : Heap C} {n n' : Nat} {env1 : Env C} {tr : Tr}
    (hx : Ex e (evOpG T call ops o env) h n env1 h' n' tr) :
    ∃ v env3, (∀ t, eget env1 t = if o.dst = some t then v else eget env t) ∧ Ex e (evOpG T call ops o env2) h n env3 h' n' tr ∧ ∀ t, eget env3 t = if o.dst = some t then v else eget env2 t := by
  have hops : ∀ (f1 f2 : Env C), (∀ t, eget f1 t = eget env t) → (∀ t, eget f2 t = eget env2 t) → ∀ x ∈ o.op.operands, evAt f1 x = evAt f2 x := by
    intro f1 f2 h1 h2 x hx
    cases x with
    | tmp t =>
      simp only [evAt, h1, h2]
      refine hh t ?_
      unfold Oper.looksAt
      simp only [List.mem_append, List.mem_filterMap]
      exact .inl ⟨.tmp t, by simpa using hx, rfl⟩
    | _ => rfl
  have hgo : ∀ (f1 f2 : Env C), (∀ t, eget f1 t = eget env t) → (∀ t, eget f2 t = eget env2 t) → Ex e (pinC T o (fun env => .bind (evOp T call o (evAt env)) fun d => .ret (put env o.dst d)) f1) h n env1 h' n' tr →
      ∃ v env3, (∀ t, eget env1 t = if o.dst = some t then v else eget env t) ∧ Ex e (pinC T o (fun env => .bind (evOp T call o (evAt env)) fun d => .ret (put env o.dst d)) f2) h n env3 h' n' tr ∧ ∀ t, eget env3 t = if o.dst = some t then v else eget env2 t := by
    intro f1 f2 h1 h2 hx
    obtain ⟨g1, a1, hx, g2, a3, a4⟩ := pinC_two (f2 := f2) (fun i m hp => by rw [h1, h2]; exact hh i (pinOf_looks hp)) hx
    have h1 : ∀ t, eget g1 t = eget env t := fun t => by rw [a1, h1]
    have h2 : ∀ t, eget g2 t = eget env2 t := fun t => by rw [a3, h2]
    clear a1 a3
    obtain ⟨d, h3, n3, t1, t2, q1, q2, rfl⟩ := Ex.bind hx
    obtain ⟨rfl, rfl, rfl, rfl⟩ := Ex.ret q2
    rw [evOp_congr call o _ _ (hops g1 g2 h1 h2)] at q1
    exact ⟨d, put g2 o.dst d, fun t => by rw [eget_put, h1], a4 _ (Pg.Ex.mk_bind q1 (Pg.Ex.mk_ret _)), fun t => by rw [eget_put, h2]⟩
  have hskip : ∀ (f1 f2 : Env C), (∀ t, eget f1 t = eget env t) → (∀ t, eget f2 t = eget env2 t) → Ex e (.ret (put f1 o.dst (.tup .anil)) : Pg C (Env C)) h n env1 h' n' tr →
      ∃ v env3, (∀ t, eget env1 t = if o.dst = some t then v else eget env t) ∧ Ex e (.ret (put f2 o.dst (.tup .anil)) : Pg C (Env C)) h n env3 h' n' tr ∧ ∀ t, eget env3 t = if o.dst = some t then v else eget env2 t := by
    intro f1 f2 h1 h2 hx
    obtain ⟨rfl, rfl, rfl, rfl⟩ := Ex.ret hx
    exact ⟨_, put f2 o.dst (.tup .anil), fun t => by rw [eget_put, h1], Pg.Ex.mk_ret _, fun t => by rw [eget_put, h2]⟩
  unfold evOpG at hx ⊢
  cases hg : o.guard with
  | none => rw [hg] at hx; exact hgo env env2 (fun _ => rfl) (fun _ => rfl) hx
  | some jw =>
    obtain ⟨j, want⟩ := jw
    rw [hg] at hx
    simp only at hx ⊢
    cases hd : (ops[j]?).bind (·.dst) with
    | none => rw [hd] at hx; exact (Ex.fail hx).elim
    | some d =>
      simp only [hd] at hx ⊢
      have hlk : eget env d = eget env2 d := hh d (by
        unfold Oper.looksAt
        rw [hg]
        simp [hd])
      rw [← hlk]
      have same : ∀ (f : Env C) (b : Bool), eget f d = .bool b → ∀ t, eget ((d, .bool b) :: f) t = eget f t := by
        intro f b hb t
        rw [eget_cons]
        by_cases ht : t = d
        · simp [ht, hb]
        · simp [ht]
      generalize hq : eget env d = q at hx
      match q, hq, hx with
      | .bool b, hq, hx =>
        simp only at hx ⊢
        have hq2 : eget env2 d = .bool b := by rw [← hlk, hq]
        rcases Ex.br hx with ⟨rfl, hx⟩ | ⟨rfl, hx⟩
        · cases want with
          | true =>
            obtain ⟨v, env3, k1, k2, k3⟩ := hgo _ _ (same env true hq) (same env2 true hq2) hx
            exact ⟨v, env3, k1, Pg.Ex.mk_br (.inl ⟨rfl, k2⟩), k3⟩
          | false =>
            obtain ⟨v, env3, k1, k2, k3⟩ := hskip _ _ (same env true hq) (same env2 true hq2) hx
            exact ⟨v, env3, k1, Pg.Ex.mk_br (.inl ⟨rfl, k2⟩), k3⟩
        · cases want with
          | true =>
            obtain ⟨v, env3, k1, k2, k3⟩ := hskip _ _ (same env false hq) (same env2 false hq2) hx
            exact ⟨v, env3, k1, Pg.Ex.mk_br (.inr ⟨rfl, k2⟩), k3⟩
          | false =>
            obtain ⟨v, env3, k1, k2, k3⟩ := hgo _ _ (same env false hq) (same env2 false hq2) hx
            exact ⟨v, env3, k1, Pg.Ex.mk_br (.inr ⟨rfl, k2⟩), k3⟩
      | .tup .anil, hq, hx => exact hskip env env2 (fun _ => rfl) (fun _ => rfl) hx
      | .tup (.bool _), _, hx | .tup (.int _ _), _, hx | .tup (.str _), _, hx | .tup (.acons _ _), _, hx | .tup (.arr _ _ _), _, hx | .tup (.tup _), _, hx | .tup .nils, _, hx | .tup (.sl _ _ _), _, hx | .tup (.vs _ _), _, hx
      | .tup (.ptr _ _), _, hx | .tup (.asl _ _ _ _ _), _, hx | .tup (.vptr _ _ _), _, hx | .tup (.cptr _), _, hx | .tup .nilp, _, hx | .tup (.fn _ _), _, hx | .tup .nilfn, _, hx | .tup .nilm, _, hx | .tup (.bm _ _ _), _, hx | .tup (.yl _ _ _ _ _ _), _, hx | .tup .top, _, hx
      | .int _ _, _, hx | .str _, _, hx | .anil, _, hx | .acons _ _, _, hx | .arr _ _ _, _, hx | .nils, _, hx | .sl _ _ _, _, hx | .vs _ _, _, hx | .asl _ _ _ _ _, _, hx | .ptr _ _, _, hx | .vptr _ _ _, _, hx | .cptr _, _, hx | .nilp, _, hx
      | .fn _ _, _, hx | .nilfn, _, hx | .nilm, _, hx | .bm _ _ _, _, hx | .yl _ _ _ _ _ _, _, hx | .top, _, hx => exact (Ex.fail hx).elim
variable {X : Cx} {h h' : Heap C} {nx nx' : Nat} {e : Pg.Lv} {lim : Lim} {tr : Tr} {env env' : Env C} {a : Act}
theorem EnvOK.put {d : D C} {v : Value} {dst : Option Tmp} (he : EnvOK T X nx lim env a.tmps) (hd : RO T X nx lim d v) (hb : ∀ t, dst = some t → t < a.tmps.size) : EnvOK T X nx lim (Ev.put env dst d) (a.put dst v).tmps := by
  intro t
  rw [eget_put]
  cases dst with
  | none => simpa [Act.put] using he t
  | some j =>
    simp only [Act.put, Option.some.injEq]
    by_cases hj : j = t
    · subst hj
      have := hb j rfl
      simp [this]; exact hd
    · simp [hj]; simpa using he t
def Kp (B : Nat → Bool) (u u' : Array Value) : Prop := ∀ t, B t = true → u'.getD t undef = u.getD t undef
theorem Kp.refl (B : Nat → Bool) (u : Array Value) : Kp B u u := fun _ _ => rfl
theorem Kp.trans {B : Nat → Bool} {u v w : Array Value} (h : Kp B u v) (k : Kp B v w) : Kp B u w := fun t ht => (k t ht).trans (h t ht)
theorem put_kp {B : Nat → Bool} (a : Act) (dst : Option Tmp) (v : Value) (hB : ∀ t, dst = some t → B t = false) : Kp B a.tmps (a.put dst v).tmps := by
  intro t ht
  cases dst with
  | none => rfl
  | some j =>
    have : j ≠ t := fun e => by have := hB j rfl; rw [e, ht] at this; cases this
    simp [Act.put, this]
theorem put_size (a : Act) (dst : Option Tmp) (v : Value) : (a.put dst v).tmps.size = a.tmps.size ∧ (a.put dst v).defers = a.defers := by
  cases dst <;> simp [Act.put]
include K
theorem evOpG_ok {ro : Option Nat} {m : Nat} {call : FuncId → List (D C) → Pg C (D C)} (hcall : CallOK P T call) (g : G T X h nx lim) (he : EnvOK T X nx lim env a.tmps) (hlim : nx' ≤ lim.top) {ops : Array Oper} {i : Nat} {o : Oper} (hi : ops[i]? = some o)
    (hb : ∀ t, o.dst = some t → t < a.tmps.size) {B : Nat → Bool} (hB : ∀ t, o.dst = some t → B t = false) (hx : Ex e (evOpG T call ops o env) h nx env' h' nx' tr) {k : Act → World → Prop} {Q : Exit → Act → World → Prop}
    (hk : ∀ a' X', G T X' h' nx' lim → Step X nx lim X' → EnvOK T X' nx' lim env' a'.tmps → a'.tmps.size = a.tmps.size → a'.defers = a.defers → Kp B a.tmps a'.tmps → k a' X'.w) : wpOpIn (roF ro) m P ops Q i k a X.w := by
  have hgo : ∀ (f : Env C), EnvOK T X nx lim f a.tmps → Region.wanted o (yielded ops a.tmps) = true → Ex e (pinC T o (fun env => .bind (evOp T call o (evAt env)) fun d => .ret (put env o.dst d)) f) h nx env' h' nx' tr → wpOpIn (roF ro) m P ops Q i k a X.w := by
    intro f hf hw hx
    obtain ⟨g1, a1, hx, _⟩ := pinC_two (f2 := f) (fun _ _ _ => rfl) hx
    have hf : EnvOK T X nx lim g1 a.tmps := fun t => by rw [a1]; exact hf t
    obtain ⟨d, h3, n3, t1, t2, q1, q2, rfl⟩ := Ex.bind hx
    obtain ⟨rfl, rfl, rfl, rfl⟩ := Ex.ret q2
    unfold wpOpIn
    simp only [hi, hw, if_true]
    refine evOp_ok K hcall g hf hlim q1 fun v X' g' s' r' => ?_
    have hle := Ex.le q1
    exact hk _ X' g' s' ((hf.step K.base s' hle).put r' hb) (put_size _ _ _).1 (put_size _ _ _).2 (put_kp _ _ _ hB)
  have hskip : ∀ (f : Env C), EnvOK T X nx lim f a.tmps → Region.wanted o (yielded ops a.tmps) = false → Ex e (.ret (put f o.dst (.tup .anil)) : Pg C (Env C)) h nx env' h' nx' tr → wpOpIn (roF ro) m P ops Q i k a X.w := by
    intro f hf hw hx
    obtain ⟨rfl, rfl, rfl, rfl⟩ := Ex.ret hx
    unfold wpOpIn
    simp only [hi, hw, Bool.false_eq_true, if_false]
    refine ⟨fun f _ => roF_fn ro f, ?_⟩
    exact hk _ X g (.refl _ _ _) (hf.put (RO.mk (.mk rfl (.tup .vnil)) rfl) hb) (put_size _ _ _).1 (put_size _ _ _).2 (put_kp _ _ _ hB)
  unfold evOpG at hx
  cases hg : o.guard with
  | none => rw [hg] at hx; exact hgo env he (by simp [Region.wanted, hg]) hx
  | some jw =>
    obtain ⟨j, want⟩ := jw
    rw [hg] at hx
    simp only at hx
    cases hd : (ops[j]?).bind (·.dst) with
    | none => rw [hd] at hx; exact (Ex.fail hx).elim
    | some d =>
      simp only [hd] at hx
      have hed := he d
      have same : ∀ (b : Bool), eget env d = .bool b → EnvOK T X nx lim ((d, .bool b) :: env) a.tmps := by
        intro b hb' t
        rw [eget_cons]
        by_cases ht : t = d
        · subst ht; simp; rw [← hb']; simpa using he t
        · simp [ht]; simpa using he t
      generalize hq : eget env d = q at hx hed
      match q, hq, hx, hed with
      | .bool b, hq, hx, hed =>
        simp only at hx
        have hv : a.tmps[d]? = some (.bool b) := by
          have := hed.1.bool
          cases hs : a.tmps[d]? with
          | none => simp [hs, undef] at this
          | some u => simp [hs] at this; rw [this]
        have hy : yielded ops a.tmps j = some b := by simp [yielded, hd, hv]
        rcases Ex.br hx with ⟨rfl, hx⟩ | ⟨rfl, hx⟩
        · cases want with
          | true => exact hgo _ (same true hq) (by simp [Region.wanted, hg, hy]) hx
          | false => exact hskip _ (same true hq) (by simp [Region.wanted, hg, hy]) hx
        · cases want with
          | true => exact hskip _ (same false hq) (by simp [Region.wanted, hg, hy]) hx
          | false => exact hgo _ (same false hq) (by simp [Region.wanted, hg, hy]) hx
      | .tup .anil, hq, hx, hed =>
        have hR := hed.1.one rfl
        have hv : a.tmps.getD d undef = .tuple #[] := by
          generalize a.tmps.getD d undef = u at hR
          cases hR with
          | tup hr => cases hr; rfl
        have hy : yielded ops a.tmps j = none := by
          simp only [yielded, hd, Option.bind_some]
          cases hs : a.tmps[d]? with
          | none => rfl
          | some u => simp [hs] at hv; rw [hv]
        exact hskip env he (by simp [Region.wanted, hg, hy]) hx
      | .tup (.bool _), _, hx, _ | .tup (.int _ _), _, hx, _ | .tup (.str _), _, hx, _ | .tup (.acons _ _), _, hx, _ | .tup (.arr _ _ _), _, hx, _ | .tup (.tup _), _, hx, _ | .tup .nils, _, hx, _ | .tup (.sl _ _ _), _, hx, _ | .tup (.vs _ _), _, hx, _
      | .tup (.ptr _ _), _, hx, _ | .tup (.asl _ _ _ _ _), _, hx, _ | .tup (.vptr _ _ _), _, hx, _ | .tup (.cptr _), _, hx, _ | .tup .nilp, _, hx, _ | .tup (.fn _ _), _, hx, _ | .tup .nilfn, _, hx, _ | .tup .nilm, _, hx, _ | .tup (.bm _ _ _), _, hx, _ | .tup (.yl _ _ _ _ _ _), _, hx, _ | .tup .top, _, hx, _
      | .int _ _, _, hx, _ | .str _, _, hx, _ | .anil, _, hx, _ | .acons _ _, _, hx, _ | .arr _ _ _, _, hx, _ | .nils, _, hx, _ | .sl _ _ _, _, hx, _ | .vs _ _, _, hx, _ | .asl _ _ _ _ _, _, hx, _ | .ptr _ _, _, hx, _ | .vptr _ _ _, _, hx, _ | .cptr _, _, hx, _ | .nilp, _, hx, _
      | .fn _ _, _, hx, _ | .nilfn, _, hx, _ | .nilm, _, hx, _ | .bm _ _ _, _, hx, _ | .yl _ _ _ _ _ _, _, hx, _ | .top, _, hx, _ => exact (Ex.fail hx).elim
theorem evOps_ok {ro : Option Nat} {m : Nat} {call : FuncId → List (D C) → Pg C (D C)} (hcall : CallOK P T call) {ops : Array Oper} {B : Nat → Bool} (hB : ∀ o ∈ ops.toList, ∀ t, o.dst = some t → B t = false) : ∀ (l : List Oper) (i : Nat), ops.toList.drop i = l → ∀ {X : Cx} {h h' : Heap C} {nx nx' : Nat} {e : Pg.Lv} {lim : Lim} {tr : Tr} {env env' : Env C} {a : Act},
    G T X h nx lim → EnvOK T X nx lim env a.tmps → nx' ≤ lim.top → (∀ o ∈ ops.toList, ∀ t, o.dst = some t → t < a.tmps.size) → Ex e (evOps T call ops l env) h nx env' h' nx' tr → ∀ {Q : Exit → Act → World → Prop},
    (∀ a' X', G T X' h' nx' lim → Step X nx lim X' → EnvOK T X' nx' lim env' a'.tmps → a'.tmps.size = a.tmps.size → a'.defers = a.defers → Kp B a.tmps a'.tmps → Q .normal a' X'.w) → wpOpsIn (roF ro) m P ops Q (List.range' i l.length) a X.w := by
  intro l
  induction l with
  | nil =>
    intro i hl X h h' nx nx' e lim tr env env' a g he hlim hb hx Q hk
    obtain ⟨rfl, rfl, rfl, rfl⟩ := Ex.ret hx
    exact hk a X g (.refl _ _ _) he rfl rfl (.refl _ _)
  | cons o l ih =>
    intro i hl X h h' nx nx' e lim tr env env' a g he hlim hb hx Q hk
    simp only [evOps] at hx
    obtain ⟨env1, h1, n1, t1, t2, q1, q2, _⟩ := Ex.bind hx
    have hle := Ex.le q2
    have hlt : i < ops.toList.length := by
      rcases Nat.lt_or_ge i ops.toList.length with h | h
      · exact h
      · rw [List.drop_eq_nil_of_le h] at hl; simp at hl
    have hlo : ops.toList[i]? = some o := by
      rw [List.drop_eq_getElem_cons hlt] at hl
      rw [List.getElem?_eq_getElem hlt, (List.cons.inj hl).1]
    have hio : ops[i]? = some o := by rw [← Array.getElem?_toList]; exact hlo
    have hl2 : ops.toList.drop (i + 1) = l := by
      rw [List.drop_eq_getElem_cons hlt] at hl
      simp at hl; exact hl.2
    rw [List.length_cons, List.range'_succ, wpOpsIn_cons]
    refine evOpG_ok K hcall g he (by omega) hio (fun t ht => hb o (List.mem_of_getElem? hlo) t ht) (fun t ht => hB o (List.mem_of_getElem? hlo) t ht) q1 fun a' X' g' s' e' hs hd hkp => ?_
    refine ih (i + 1) hl2 g' e' hlim (fun o' ho' t ht => by rw [hs]; exact hb o' ho' t ht) q2 fun a2 X2 g2 s2 e2 hs2 hd2 hkp2 => ?_
    exact hk a2 X2 g2 (s'.trans s2 (Ex.le q1)) e2 (by omega) (by rw [hd2, hd]) (hkp.trans hkp2)
end
section
variable {C : Cdc}
open Pg (Ex)
namespace Pg
theorem Ex.doms {α : Type} {p : Pg C α} : ∀ {e : Lv} {h : Heap C} {n : Nat} {a : α} {h' : Heap C} {n' : Nat} {t : Tr}, Ex e p h n a h' n' t →
    (∀ id w, (id, w) ∈ t → (h.get id).isSome = true ∨ (n ≤ id ∧ id < n')) ∧ (∀ id, h.get id = none → (h'.get id).isSome = true → n ≤ id ∧ id < n' ∧ (id, true) ∈ t) := by
  induction p with
  | ret a =>
    intro e h n a' h' n' t hx
    obtain ⟨rfl, rfl, rfl, rfl⟩ := Ex.ret hx
    exact ⟨fun id w hm => by simp at hm, fun id h1 h2 => by simp [h1] at h2⟩
  | fail => intro e h n a' h' n' t hx; exact (Ex.fail hx).elim
  | br b x y ix iy =>
    intro e h n a' h' n' t hx
    rcases Ex.br hx with ⟨hb, hx⟩ | ⟨hb, hx⟩
    · exact ix hx
    · exact iy hx
  | rd id f ih =>
    intro e h n a' h' n' t hx
    obtain ⟨o, t', ho, hy, rfl⟩ := Ex.rd hx
    obtain ⟨h1, h2⟩ := ih o hy
    refine ⟨fun i w hm => ?_, fun i h3 h4 => ?_⟩
    · simp only [List.mem_append, List.mem_singleton, Prod.mk.injEq] at hm
      rcases hm with hm | ⟨rfl, rfl⟩
      · exact h1 i w hm
      · exact .inl (by simp [ho])
    · obtain ⟨q1, q2, q3⟩ := h2 i h3 h4; exact ⟨q1, q2, by simp [q3]⟩
  | wr id o f ih =>
    intro e h n a' h' n' t hx
    obtain ⟨o', t', ho, hy, rfl⟩ := Ex.wr hx
    have hs : (h.get id).isSome = true := by simp [ho]
    obtain ⟨h1, h2⟩ := ih hy
    refine ⟨fun i w hm => ?_, fun i h3 h4 => ?_⟩
    · simp only [List.mem_append, List.mem_singleton, Prod.mk.injEq] at hm
      rcases hm with hm | ⟨rfl, rfl⟩
      · have := h1 i w hm
        rw [get_put hs] at this
        by_cases he : i = id
        · subst he; exact .inl hs
        · simpa [he] using this
      · exact .inl hs
    · have hne : i ≠ id := by rintro rfl; simp [h3] at hs
      obtain ⟨q1, q2, q3⟩ := h2 i (by rw [get_put hs]; simp [hne, h3]) h4
      exact ⟨q1, q2, by simp [q3]⟩
  | nw o f ih =>
    intro e h n a' h' n' t hx
    obtain ⟨t', hy, rfl⟩ := Ex.nw hx
    have hle := Ex.le hy
    obtain ⟨h1, h2⟩ := ih n hy
    refine ⟨fun i w hm => ?_, fun i h3 h4 => ?_⟩
    · simp only [List.mem_append, List.mem_singleton, Prod.mk.injEq] at hm
      rcases hm with hm | ⟨rfl, rfl⟩
      · have := h1 i w hm
        rw [get_cons] at this
        by_cases he : i = n
        · exact .inr (by omega)
        · simp only [he, if_false] at this
          rcases this with h | h
          · exact .inl h
          · exact .inr (by omega)
      · exact .inr (by omega)
    · by_cases he : i = n
      · subst he; exact ⟨by omega, by omega, by simp⟩
      · obtain ⟨q1, q2, q3⟩ := h2 i (by rw [get_cons]; simp [he, h3]) h4
        exact ⟨by omega, q2, by simp [q3]⟩
  | dl id f ih =>
    intro e h n a' h' n' t hx
    obtain ⟨o', t', ho, hy, rfl⟩ := Ex.dl hx
    obtain ⟨h1, h2⟩ := ih hy
    refine ⟨fun i w hm => ?_, fun i h3 h4 => ?_⟩
    · simp only [List.mem_append, List.mem_singleton, Prod.mk.injEq] at hm
      rcases hm with hm | ⟨rfl, rfl⟩
      · have := h1 i w hm
        rw [get_del] at this
        by_cases he : i = id
        · subst he; exact .inl (by simp [ho])
        · simpa [he] using this
      · exact .inl (by simp [ho])
    · obtain ⟨q1, q2, q3⟩ := h2 i (by rw [get_del]; simp [h3]) h4
      exact ⟨q1, q2, by simp [q3]⟩
  | cnt f ih => intro e h n a' h' n' t hx; exact ih _ _ (Ex.cnt hx)
  | upto m f ih =>
    intro e h n a' h' n' t hx
    obtain ⟨hm, hx⟩ := Ex.upto hx
    obtain ⟨h1, h2⟩ := ih hx
    refine ⟨fun i w hi => ?_, fun i h3 h4 => ?_⟩
    · rcases h1 i w hi with h | h
      · exact .inl h
      · exact .inr (by omega)
    · obtain ⟨q1, q2, q3⟩ := h2 i h3 h4; exact ⟨by omega, q2, q3⟩
  | gc lo keep f ih =>
    intro e h n a' h' n' t hx
    obtain ⟨hm, hx⟩ := Ex.gc hx
    obtain ⟨h1, h2⟩ := ih hx
    refine ⟨fun i w hi => ?_, fun i h3 h4 => ?_⟩
    · have := h1 i w hi
      rw [get_drop] at this
      split at this
      · exact .inr (by simpa using this)
      · exact this
    · exact h2 i (by rw [get_drop]; split <;> simp [h3]) h4
  | sub p f ip ik =>
    intro e h n a' h' n' t hx
    obtain ⟨v, h1, n1, t1, t2, hp, hy, rfl⟩ := Ex.sub hx
    have l1 := Ex.le hp
    have l2 := Ex.le hy
    obtain ⟨p1, p2⟩ := ip hp
    obtain ⟨k1, k2⟩ := ik _ _ hy
    refine ⟨fun i w hi => ?_, fun i h3 h4 => ?_⟩
    · simp only [List.mem_append] at hi
      rcases hi with hi | hi
      · rcases k1 i w hi with hq | hq
        · cases hh : h.get i with
          | some o => exact .inl rfl
          | none => have := p2 i hh hq; exact .inr (by omega)
        · exact .inr (by omega)
      · rcases p1 i w hi with h | h
        · exact .inl h
        · exact .inr (by omega)
    · by_cases hs : (h1.get i).isSome = true
      · have := p2 i h3 hs; exact ⟨by omega, by omega, by simp [this.2.2]⟩
      · have := k2 i (by simpa using hs) h4; exact ⟨by omega, by omega, by simp [this.2.2]⟩
end Pg
variable {P : Program} {T : Tab C}
def Bef (ops : Array Oper) (i j : Nat) : Prop := ((Region.before ops).getD j 0).testBit i = true
theorem before_one {A : Array Nat} {i k : Nat} (es : List Edge) : ∀ (s : Nat), (es.foldl (fun s e => if Region.binds .any e then s ||| 2 ^ e.on ||| A.getD e.on 0 else s) s).testBit i = true →
    s.testBit i = true ∨ ∃ e ∈ es, Region.binds .any e = true ∧ (e.on = i ∨ (A.getD e.on 0).testBit i = true) := by
  induction es with
  | nil => intro s h; exact .inl h
  | cons e es ih =>
    intro s h
    rw [List.foldl_cons] at h
    rcases ih _ h with h | ⟨e', h1, h2, h3⟩
    · by_cases hb : Region.binds .any e = true
      · simp only [hb, if_true, Nat.testBit_or, Bool.or_eq_true, Nat.testBit_two_pow, decide_eq_true_eq] at h
        rcases h with (h | h) | h
        · exact .inl h
        · exact .inr ⟨e, by simp, hb, .inl h⟩
        · exact .inr ⟨e, by simp, hb, .inr h⟩
      · simp only [hb] at h; exact .inl h
    · exact .inr ⟨e', by simp [h1], h2, h3⟩
theorem before_inv (ops : Array Oper) : ∀ (l pre : List Oper) (A : Array Nat), ops.toList = pre ++ l → A.size = pre.length →
    (∀ k i, (A.getD k 0).testBit i = true → ∃ o e, ops[k]? = some o ∧ e ∈ o.after ∧ Region.binds .any e = true ∧ (e.on = i ∨ (e.on < k ∧ (A.getD e.on 0).testBit i = true))) →
    ∀ k i, ((l.foldl (fun acc o => acc.push (o.after.foldl (fun s e => if Region.binds .any e then s ||| 2 ^ e.on ||| acc.getD e.on 0 else s) 0)) A).getD k 0).testBit i = true →
      ∃ o e, ops[k]? = some o ∧ e ∈ o.after ∧ Region.binds .any e = true ∧ (e.on = i ∨ (e.on < k ∧ ((l.foldl (fun acc o => acc.push (o.after.foldl (fun s e => if Region.binds .any e then s ||| 2 ^ e.on ||| acc.getD e.on 0 else s) 0)) A).getD e.on 0).testBit i = true)) := by
  intro l
  induction l with
  | nil => intro pre A h1 h2 h3; simpa using h3
  | cons o l ih =>
    intro pre A h1 h2 h3
    rw [List.foldl_cons]
    refine ih (pre ++ [o]) _ (by simp [h1]) (by simp [h2]) ?_
    intro k i hk
    have hget : ∀ j, (A.push (o.after.foldl (fun s e => if Region.binds .any e then s ||| 2 ^ e.on ||| A.getD e.on 0 else s) 0)).getD j 0 = if j = A.size then (o.after.foldl (fun s e => if Region.binds .any e then s ||| 2 ^ e.on ||| A.getD e.on 0 else s) 0) else A.getD j 0 := by
      intro j
      simp only [Array.getD_eq_getD_getElem?, Array.getElem?_push]
      split <;> simp
    have hA : ∀ j i, (A.getD j 0).testBit i = true → j < A.size := by
      intro j i h
      rcases Nat.lt_or_ge j A.size with h' | h'
      · exact h'
      · simp [Array.getD_eq_getD_getElem?, Array.getElem?_eq_none h'] at h
    rw [hget] at hk
    by_cases hks : k = A.size
    · simp only [hks, if_true] at hk
      rw [← Array.foldl_toList] at hk
      rcases before_one (k := k) o.after.toList 0 hk with h | ⟨e, q1, q2, q3⟩
      · simp at h
      · refine ⟨o, e, ?_, by simpa using q1, q2, ?_⟩
        · rw [← Array.getElem?_toList, h1, hks, h2]; simp
        · rcases q3 with q3 | q3
          · exact .inl q3
          · have := hA _ _ q3
            refine .inr ⟨by omega, ?_⟩
            rw [hget]
            have hne : ¬ e.on = A.size := by omega
            simp only [hne, if_false]; exact q3
    · simp only [hks, if_false] at hk
      obtain ⟨o', e, q1, q2, q3, q4⟩ := h3 k i hk
      refine ⟨o', e, q1, q2, q3, ?_⟩
      rcases q4 with q4 | ⟨q4, q5⟩
      · exact .inl q4
      · have := hA _ _ q5
        refine .inr ⟨q4, ?_⟩
        rw [hget]
        have hne : ¬ e.on = A.size := by omega
        simp only [hne, if_false]; exact q5
theorem Bef.edge {ops : Array Oper} {i k : Nat} (h : Bef ops i k) : ∃ o e, ops[k]? = some o ∧ e ∈ o.after ∧ Region.binds .any e = true ∧ (e.on = i ∨ (e.on < k ∧ Bef ops i e.on)) := by
  have he : Region.before ops = ops.toList.foldl (fun acc o => acc.push (o.after.foldl (fun s e => if Region.binds .any e then s ||| 2 ^ e.on ||| acc.getD e.on 0 else s) 0)) #[] := by
    unfold Region.before
    rw [← Array.foldl_toList]
  unfold Bef at h ⊢
  simp only [he] at h ⊢
  exact before_inv ops ops.toList [] #[] (by simp) (by simp) (fun k i hk => by simp at hk) k i h
theorem Bef.listed {ops : Array Oper} {L : Nat → Prop} (hcl : ∀ j o, L j → ops[j]? = some o → ∀ e ∈ o.after, Region.binds .any e = true → L e.on) :
    ∀ (k i : Nat), Bef ops i k → (∀ o, ops[k]? = some o → ∀ e ∈ o.after, Region.binds .any e = true → L e.on) → L i := by
  intro k
  induction k using Nat.strongRecOn with
  | ind k ih =>
    intro i hb hk
    obtain ⟨o, e, h1, h2, h3, h4⟩ := hb.edge
    have hl := hk o h1 e h2 h3
    rcases h4 with rfl | ⟨h4, h5⟩
    · exact hl
    · exact ih e.on h4 i h5 fun o' ho' e' he' hb' => hcl e.on o' hl ho' e' he' hb'
inductive RunL (T : Tab C) (call : FuncId → List (D C) → Pg C (D C)) (ops : Array Oper) (L base sp : Nat) (ts : Nat → Tr) : List Nat → Env C → Heap C → Env C → Heap C → Prop where
  | nil {env envF : Env C} {h hF : Heap C} : (∀ t, eget env t = eget envF t) → (∀ id, h.get id = hF.get id) → RunL T call ops L base sp ts [] env h envF hF
  | cons {env env1 envF : Env C} {h h1 hF : Heap C} {i n : Nat} {o : Oper} {l : List Nat} : ops[i]? = some o → Ex (L, base + i * sp) (evOpG T call ops o env) h (base + i * sp) env1 h1 n (ts i) → n ≤ base + (i + 1) * sp →
      RunL T call ops L base sp ts l env1 h1 envF hF → RunL T call ops L base sp ts (i :: l) env h envF hF
variable {call : FuncId → List (D C) → Pg C (D C)} {ops : Array Oper} {L base sp : Nat} {ts : Nat → Tr}
theorem RunL.ext {l : List Nat} {env envF : Env C} {h hF : Heap C} (hr : RunL T call ops L base sp ts l env h envF hF) : ∀ (env' : Env C) (h' : Heap C), (∀ t, eget env' t = eget env t) → (∀ id, h'.get id = h.get id) → RunL T call ops L base sp ts l env' h' envF hF := by
  induction hr with
  | nil h1 h2 => intro env' h' e1 e2; exact .nil (fun t => (e1 t).trans (h1 t)) fun id => (e2 id).trans (h2 id)
  | @cons env env1 envF h h1 hF i n o l ho hx hn _ ih =>
    intro env' h' e1 e2
    obtain ⟨v, env3, q1, q2, q3⟩ := evOpG_eq call ops o env env' (fun t _ => (e1 t).symm) hx
    obtain ⟨g', k1, k2, k3⟩ := Ex.local q2 (Nat.le_refl _) h' (fun id _ _ _ => e2 id) (fun id _ _ => e2 id)
    refine .cons ho k1 hn (ih env3 g' (fun t => by rw [q1, q3]; simp [e1]) fun id => ?_)
    by_cases hin : base + i * sp ≤ id ∧ id < n
    · exact k2 id hin.1 hin.2
    · have := k3 id (by simp; omega)
      by_cases hm : (id, true) ∈ ts i
      · exact this.1 hm
      · rw [(this.2 hm).1, (this.2 hm).2, e2]
def Away (a b : Tr) : Prop := ∀ id u v, (id, u) ∈ a → (id, v) ∈ b → u = false ∧ v = false
theorem apartT_spec {a b : Tr} (h : apartT a b = true) : Away a b := by
  intro id u v hu hv
  simp only [apartT, List.all_eq_true] at h
  have := h (id, u) hu (id, v) hv
  simpa using this
inductive Shp (C : Cdc) where
  | var (t : TypeId)
  | vec (t : C.Ty) (own : Bool) (n : Nat)
  | map
def shp : Obj C → Shp C
  | .var t _ => .var t
  | .vec t own l => .vec t own l.length
  | .map _ _ _ => .map
inductive ShPg {α : Type} : Pg C α → Prop where
  | ret (a : α) : ShPg (.ret a)
  | fail : ShPg .fail
  | br {b : Bool} {x y : Pg C α} : ShPg x → ShPg y → ShPg (.br b x y)
  | rd {id : Nat} {k : Obj C → Pg C α} : (∀ o, ShPg (k o)) → (∀ o o', shp o = shp o' → k o = k o') → ShPg (.rd id k)
theorem ShPg.bind {α β : Type} {p : Pg C α} {f : α → Pg C β} (hp : ShPg p) (hf : ∀ a, ShPg (f a)) : ShPg (p.bind f) := by
  induction hp with
  | ret a => exact hf a
  | fail => exact .fail
  | br _ _ ix iy => exact .br ix iy
  | rd _ hk ih => exact .rd ih fun o o' h => by rw [hk o o' h]
theorem Ex.rd_intro {α : Type} {e : Pg.Lv} {id : Nat} {o : Obj C} {f : Obj C → Pg C α} {h h' : Heap C} {n n' : Nat} {a : α} {t : Tr} (hg : h.get id = some o) (hx : Ex e (f o) h n a h' n' t) : Ex e (.rd id f) h n a h' n' (t ++ [(id, false)]) := by
  unfold Ex at hx ⊢
  simp only [Pg.run, hg]
  rw [Pg.run_eq, hx]
  rfl
theorem ShPg.ex {α : Type} {p : Pg C α} (hp : ShPg p) : ∀ {e : Pg.Lv} {h h' : Heap C} {n n' : Nat} {a : α} {t : Tr}, Ex e p h n a h' n' t →
    h' = h ∧ n' = n ∧ ∀ (g : Heap C) (m : Nat), (∀ id, (g.get id).map shp = (h.get id).map shp) → Ex e p g m a g m t := by
  induction hp with
  | ret a =>
    intro e h h' n n' a' t hx
    obtain ⟨rfl, rfl, rfl, rfl⟩ := Ex.ret hx
    exact ⟨rfl, rfl, fun g m _ => by simp [Ex, Pg.run]⟩
  | fail => intro e h h' n n' a' t hx; exact (Ex.fail hx).elim
  | @br b x y _ _ ix iy =>
    intro e h h' n n' a' t hx
    rcases Ex.br hx with ⟨rfl, hx⟩ | ⟨rfl, hx⟩
    · obtain ⟨h1, h2, h3⟩ := ix hx
      exact ⟨h1, h2, fun g m hg => by have := h3 g m hg; simpa [Ex, Pg.run] using this⟩
    · obtain ⟨h1, h2, h3⟩ := iy hx
      exact ⟨h1, h2, fun g m hg => by have := h3 g m hg; simpa [Ex, Pg.run] using this⟩
  | @rd id k _ hk ih =>
    intro e h h' n n' a' t hx
    obtain ⟨o, t', ho, hy, rfl⟩ := Ex.rd hx
    obtain ⟨h1, h2, h3⟩ := ih o hy
    refine ⟨h1, h2, fun g m hg => ?_⟩
    have hgi := hg id
    rw [ho] at hgi
    cases hq : g.get id with
    | none => rw [hq] at hgi; cases hgi
    | some o' =>
      rw [hq] at hgi
      have hs : shp o' = shp o := Option.some.inj hgi
      exact Ex.rd_intro hq (by rw [hk o' o hs]; exact h3 g m hg)
theorem shPg_fieldAddr (s : TypeId) (x : D C) (i : Nat) : ShPg (evFieldAddr T s x i) := by
  unfold evFieldAddr
  split
  · rename_i fs _
    cases Nat.blt i fs.length
    · exact .fail
    · simp only [cond_true]
      split
      · refine .rd (fun o => ?_) fun o o' h => ?_
        · unfold faVar; split
          · rename_i u _
            cases decide (tyAt T u _ = some s)
            · exact .fail
            · exact .ret _
          · exact .fail
        · cases o <;> cases o' <;> simp only [shp, Shp.var.injEq, reduceCtorEq] at h
          · subst h; rfl
          all_goals rfl
      · refine .rd (fun o => ?_) fun o o' h => ?_
        · unfold faVec; split
          · refine .br ?_ .fail
            rename_i ty _ _
            cases Nat.beq s (T.ety ty)
            · exact .fail
            · exact .ret _
          · exact .fail
        · cases o <;> cases o' <;> simp only [shp, Shp.vec.injEq, reduceCtorEq] at h
          · rfl
          · obtain ⟨rfl, rfl, hl⟩ := h
            simp only [faVec, hl]
          all_goals rfl
      · rename_i d
        cases fit T d (.inl s)
        · exact .fail
        · simp only [cond_true]
          split
          · exact .ret _
          · exact .fail
      · exact .fail
  · exact .fail
theorem shPg_indexAddr (t : TypeId) (x i : D C) : ShPg (evIndexAddr T t x i) := by
  unfold evIndexAddr
  split
  · rename_i k n
    split
    · rename_i e ty0 _
      split
      · rename_i ty _ l
        cases decide (ty = ty0)
        · exact .fail
        · exact .br (.ret _) .fail
      · refine .rd (fun o => ?_) fun o o' h => ?_
        · unfold ixVec; split
          · rename_i ty _ _
            cases decide (ty = ty0)
            · exact .fail
            · exact .br (.ret _) .fail
          · exact .fail
        · cases o <;> cases o' <;> simp only [shp, Shp.vec.injEq, reduceCtorEq] at h
          · rfl
          · obtain ⟨rfl, rfl, hl⟩ := h
            simp only [ixVec, hl]
          all_goals rfl
      · split
        · rename_i ty _
          cases decide (ty = ty0)
          · exact .fail
          · exact .br (.ret _) .fail
        · exact .fail
      · exact .fail
    · split
      · refine .br ?_ .fail
        split
        · exact .ret _
        · exact .fail
      · exact .fail
    · split
      · refine .rd (fun o => ?_) fun o o' h => ?_
        · unfold ixVar; split
          · rename_i u _
            cases decide (tyAt T u _ = some t)
            · exact .fail
            · exact .br (.ret _) .fail
          · exact .fail
        · cases o <;> cases o' <;> simp only [shp, Shp.var.injEq, reduceCtorEq] at h
          · subst h; rfl
          all_goals rfl
      · rename_i ty m' l
        cases fit T (.arr ty m' l : D C) (.inl t)
        · exact .fail
        · exact .br (.ret _) .fail
      · exact .fail
    · split
      · refine .rd (fun o => ?_) fun o o' h => ?_
        · unfold ixVar; split
          · rename_i u _
            cases decide (tyAt T u _ = some t)
            · exact .fail
            · exact .br (.ret _) .fail
          · exact .fail
        · cases o <;> cases o' <;> simp only [shp, Shp.var.injEq, reduceCtorEq] at h
          · subst h; rfl
          all_goals rfl
      · rename_i d
        cases fit T d (.inl t)
        · exact .fail
        · refine .br ?_ .fail
          split
          · exact .ret _
          · exact .fail
      · exact .fail
    · exact .fail
  · exact .fail
theorem shPg_pins {i : Nat} {k : IntKind} {n : Int} {go : Env C → Pg C (Env C)} (hg : ∀ env, ShPg (go env)) (w : Bool) (env : Env C) : ∀ l : List Int, ShPg (pins i k n go w env l)
  | [] => by cases w; exact hg env; exact .fail
  | j :: l => .br (hg _) (shPg_pins hg w env l)
theorem shPg_op (call : FuncId → List (D C) → Pg C (D C)) (ops : Array Oper) {o : Oper} (ho : addrOp o = true) (env : Env C) : ShPg (evOpG T call ops o env) := by
  have hev : ∀ ev : Operand → D C, ShPg (evOp T call o ev) := fun ev => by
    unfold addrOp at ho
    unfold evOp
    split at ho
    · rename_i q; rw [q]; exact shPg_fieldAddr _ _ _
    · rename_i q; rw [q]; exact shPg_indexAddr _ _ _
    · cases ho
  have hgo : ∀ env, ShPg (pinC T o (fun env => .bind (evOp T call o (evAt env)) fun d => .ret (put env o.dst d)) env) := fun env => by
    have h0 : ∀ env : Env C, ShPg ((evOp T call o (evAt env)).bind fun d => .ret (put env o.dst d)) := fun env => (hev _).bind fun d => .ret _
    unfold pinC
    split
    · split
      · exact shPg_pins h0 _ _ _
      · exact h0 _
    · exact h0 _
  unfold evOpG
  split
  · exact hgo env
  · rename_i j want _
    split
    · split
      · cases want
        · exact .br (.ret _) (hgo _)
        · exact .br (hgo _) (.ret _)
      · exact .ret _
      · exact .fail
    · exact .fail
theorem shp_put {h : Heap C} {id : Nat} {o o' : Obj C} (hg : h.get id = some o) (hs : shp o' = shp o) : ∀ i, ((h.put id o').get i).map shp = (h.get i).map shp := fun i => by
  rw [get_put (by rw [hg]; rfl)]
  by_cases e : i = id
  · subst e; rw [if_pos rfl, hg, Option.map_some, Option.map_some, hs]
  · rw [if_neg e]
theorem store_shape (call : FuncId → List (D C) → Pg C (D C)) (ops : Array Oper) {o : Oper} (ho : storeOp o = true) {env env' : Env C} {e : Pg.Lv} {h h' : Heap C} {n n' : Nat} {t : Tr} (hx : Ex e (evOpG T call ops o env) h n env' h' n' t) :
    ∀ id, (h'.get id).map shp = (h.get id).map shp := by
  have hev : ∀ {ev : Operand → D C} {d : D C} {h h' : Heap C} {n n' : Nat} {t : Tr}, Ex e (evOp T call o ev) h n d h' n' t → ∀ id, (h'.get id).map shp = (h.get id).map shp := by
    intro ev d h h' n n' t hx
    unfold storeOp at ho
    split at ho
    · rename_i ty a x q
      unfold evOp at hx
      rw [q] at hx
      simp only [evStore] at hx
      split at hx
      · obtain ⟨o', t', ho', hy, _⟩ := Ex.rd hx
        unfold stVar at hy
        split at hy
        · split at hy
          · rename_i u _ d' t2 _ _
            revert hy
            cases fit T (typed T ty (ev x)) (.inl ty) && fit T (typed T ty (ev x)) (.inl t2) with
            | false => intro hy; exact (Ex.fail hy).elim
            | true =>
              intro hy
              obtain ⟨o2, t2, h2, hz, _⟩ := Ex.wr hy
              obtain ⟨_, rfl, _, _⟩ := Ex.ret hz
              exact shp_put ho' rfl
          · exact (Ex.fail hy).elim
        · exact (Ex.fail hy).elim
      · obtain ⟨o', t', ho', hy, _⟩ := Ex.rd hx
        unfold stVec at hy
        split at hy
        · split at hy
          · split at hy
            · rcases Ex.br hy with ⟨_, hy⟩ | ⟨_, hy⟩
              · revert hy
                cases fit T (typed T ty (ev x)) (.inl ty) with
                | false => intro hy; exact (Ex.fail hy).elim
                | true =>
                  intro hy
                  obtain ⟨o2, t2, h2, hz, _⟩ := Ex.wr hy
                  obtain ⟨_, rfl, _, _⟩ := Ex.ret hz
                  exact shp_put ho' (by simp [shp])
              · exact (Ex.fail hy).elim
            · exact (Ex.fail hy).elim
          · exact (Ex.fail hy).elim
        · exact (Ex.fail hy).elim
      · exact (Ex.fail hx).elim
    · cases ho
  have hpin : ∀ (f : Env C), pinC T o (fun env => .bind (evOp T call o (evAt env)) fun d => .ret (put env o.dst d)) f = (evOp T call o (evAt f)).bind fun d => .ret (put f o.dst d) := fun f => by
    unfold storeOp at ho
    split at ho
    · rename_i q
      unfold pinC pinOf
      rw [q]
    · cases ho
  have hgo : ∀ {f : Env C} {h h' : Heap C} {n n' : Nat} {t : Tr}, Ex e (pinC T o (fun env => .bind (evOp T call o (evAt env)) fun d => .ret (put env o.dst d)) f) h n env' h' n' t → ∀ id, (h'.get id).map shp = (h.get id).map shp := by
    intro f h h' n n' t hx
    rw [hpin] at hx
    obtain ⟨d, h1, n1, t1, t2, q1, q2, _⟩ := Ex.bind hx
    obtain ⟨_, rfl, _, _⟩ := Ex.ret q2
    exact hev q1
  have hsk : ∀ {f : Env C} {h h' : Heap C} {n n' : Nat} {t : Tr}, Ex e (.ret f : Pg C (Env C)) h n env' h' n' t → ∀ id, (h'.get id).map shp = (h.get id).map shp := by
    intro f h h' n n' t hx
    obtain ⟨_, rfl, _, _⟩ := Ex.ret hx
    exact fun _ => rfl
  unfold evOpG at hx
  split at hx
  · exact hgo hx
  · rename_i j want _
    split at hx
    · split at hx
      · cases want
        · rcases Ex.br hx with ⟨_, hx⟩ | ⟨_, hx⟩
          · exact hsk hx
          · exact hgo hx
        · rcases Ex.br hx with ⟨_, hx⟩ | ⟨_, hx⟩
          · exact hgo hx
          · exact hsk hx
      · exact hsk hx
      · exact (Ex.fail hx).elim
    · exact (Ex.fail hx).elim
def Fresh (base sp : Nat) (l : List Nat) (h : Heap C) : Prop := ∀ i ∈ l, ∀ id, base + i * sp ≤ id → id < base + (i + 1) * sp → h.get id = none
theorem ranges {sp i k : Nat} (hne : i ≠ k) {id base : Nat} (h1 : base + i * sp ≤ id) (h2 : id < base + (i + 1) * sp) (h3 : base + k * sp ≤ id) (h4 : id < base + (k + 1) * sp) : False := by
  rcases Nat.lt_or_gt_of_ne hne with h | h
  · have : (i + 1) * sp ≤ k * sp := Nat.mul_le_mul_right _ h
    omega
  · have : (k + 1) * sp ≤ i * sp := Nat.mul_le_mul_right _ h
    omega
theorem Fresh.step {l : List Nat} {h h1 : Heap C} {i n : Nat} {p : Pg C (Env C)} {env1 : Env C} {t : Tr} (hf : Fresh base sp l h) (hx : Ex (L, base + i * sp) p h (base + i * sp) env1 h1 n t) (hn : n ≤ base + (i + 1) * sp) (hi : i ∉ l) : Fresh base sp l h1 := by
  intro k hk id h2 h3
  cases hg : h1.get id with
  | none => rfl
  | some o =>
    have := (Ex.doms hx).2 id (hf k hk id h2 h3) (by simp [hg])
    exact (ranges (i := i) (k := k) (by rintro rfl; exact hi hk) (id := id) (base := base) (sp := sp) (by omega) (by omega) h2 h3).elim
theorem RunL.swap {k i : Nat} {l : List Nat} {env envF : Env C} {h hF : Heap C} {ok oi : Oper} (hok : ops[k]? = some ok) (hoi : ops[i]? = some oi) (hne : k ≠ i) (hf : Fresh base sp [k, i] h)
    (hap : ok.apart ops oi = true) (haw : Away (ts k) (ts i)) (hr : RunL T call ops L base sp ts (k :: i :: l) env h envF hF) : RunL T call ops L base sp ts (i :: k :: l) env h envF hF := by
  obtain ⟨a1, a2, a3⟩ := Oper.apart_spec hap
  cases hr with
  | @cons _ env1 _ _ h1 _ _ nk o _ ho hk hnk hr =>
  cases hr with
  | @cons _ env2 _ _ h2 _ _ ni o' _ ho' hi hni hr =>
  obtain rfl : ok = o := by rw [hok] at ho; exact Option.some.inj ho
  obtain rfl : oi = o' := by rw [hoi] at ho'; exact Option.some.inj ho'
  have dk := Ex.doms hk
  have di := Ex.doms hi
  obtain ⟨_, _, _, lk⟩ := Ex.local hk (Nat.le_refl _) h (fun _ _ _ _ => rfl) (fun _ _ _ => rfl)
  have fk : ∀ id, base + k * sp ≤ id → id < base + (k + 1) * sp → h.get id = none := fun id => hf k (by simp) id
  have fi : ∀ id, base + i * sp ≤ id → id < base + (i + 1) * sp → h.get id = none := fun id => hf i (by simp) id
  have rk : ∀ id, base + k * sp ≤ id → id < nk → base + i * sp ≤ id → id < ni → False := fun id q1 q2 q3 q4 => ranges hne q1 (by omega) q3 (by omega)
  -- the touched numbers of k lie outside i's range
  have tk : ∀ id w, (id, w) ∈ ts k → ¬ (base + i * sp ≤ id ∧ id < base + (i + 1) * sp) := by
    intro id w hm ⟨q1, q2⟩
    rcases dk.1 id w hm with h' | h'
    · simp [fi id q1 q2] at h'
    · exact ranges hne h'.1 (by omega) q1 q2
  -- the touched numbers of i lie outside k's range
  have ti : ∀ id w, (id, w) ∈ ts i → ¬ (base + k * sp ≤ id ∧ id < base + (k + 1) * sp) := by
    intro id w hm ⟨q1, q2⟩
    rcases di.1 id w hm with h' | h'
    · have := dk.2 id (fk id q1 q2) h'
      have := haw id true w this.2.2 hm
      simp at this
    · exact ranges hne q1 q2 h'.1 (by omega)
  -- i from the start
  obtain ⟨vk, _, ek1, _, _⟩ := evOpG_eq call ops ok env env (fun _ _ => rfl) hk
  obtain ⟨vi, envA, ei1, ei2, ei3⟩ := evOpG_eq call ops oi env1 env (fun t ht => by
    rw [ek1]
    have : ok.dst ≠ some t := fun hd => a1 t hd ht
    simp [this]) hi
  obtain ⟨hA, xi, xi1, xi2⟩ := Ex.local ei2 (Nat.le_refl _) h (fun id w hm hout => by
      have hnt : (id, true) ∉ ts k := fun hq => by have := haw id true w hq hm; simp at this
      by_cases hin : base + k * sp ≤ id ∧ id < nk
      · exact (ti id w hm ⟨hin.1, by omega⟩).elim
      · exact ((lk id (by simp; omega)).2 hnt).2.symm) (fun id q1 q2 => by
      have hnt : (id, true) ∉ ts k := fun hq => tk id true hq ⟨q1, by omega⟩
      have hin : ¬ (base + k * sp ≤ id ∧ id < nk) := fun hq => rk id hq.1 hq.2 q1 q2
      exact ((lk id (by simp; omega)).2 hnt).2.symm)
  -- k behind it
  obtain ⟨vk', envB, ek1', ek2, ek3⟩ := evOpG_eq call ops ok env envA (fun t ht => by
    rw [ei3]
    have : oi.dst ≠ some t := fun hd => a3 t hd ht
    simp [this]) hk
  obtain ⟨hB, xk, xk1, xk2⟩ := Ex.local ek2 (Nat.le_refl _) hA (fun id w hm hout => by
      have hnt : (id, true) ∉ ts i := fun hq => by have := haw id w true hm hq; simp at this
      have hin : ¬ (base + i * sp ≤ id ∧ id < ni) := fun hq => tk id w hm ⟨hq.1, by omega⟩
      exact ((xi2 id (by simp; omega)).2 hnt).1) (fun id q1 q2 => by
      have hnt : (id, true) ∉ ts i := fun hq => ti id true hq ⟨q1, by omega⟩
      have hin : ¬ (base + i * sp ≤ id ∧ id < ni) := fun hq => rk id q1 q2 hq.1 hq.2
      exact ((xi2 id (by simp; omega)).2 hnt).1)
  refine .cons hoi xi hni (.cons hok xk hnk (hr.ext envB hB (fun t => ?_) fun id => ?_))
  · rw [ek3, ei3, ei1]
    by_cases hdi : oi.dst = some t
    · have hdk : ok.dst ≠ some t := fun hd => a2 t hd hdi
      simp [hdi, hdk]
    · simp only [hdi, if_false]
      by_cases hdk : ok.dst = some t
      · have e1 := ek1 t
        have e2 := ek1' t
        simp only [hdk, if_true] at e1 e2 ⊢
        rw [e2]
      · have e1 := ek1 t
        simp only [hdk, if_false] at e1 ⊢
        exact e1.symm
  · by_cases hink : base + k * sp ≤ id ∧ id < nk
    · have hini : ¬ (base + i * sp ≤ id ∧ id < ni) := fun hq => rk id hink.1 hink.2 hq.1 hq.2
      have hnt : (id, true) ∉ ts i := fun hq => ti id true hq ⟨hink.1, by omega⟩
      rw [xk1 id hink.1 hink.2, ((xi2 id (by simp; omega)).2 hnt).2]
    · have kk := xk2 id (by simp; omega)
      by_cases hini : base + i * sp ≤ id ∧ id < ni
      · have hnt : (id, true) ∉ ts k := fun hq => tk id true hq ⟨hini.1, by omega⟩
        rw [(kk.2 hnt).1, xi1 id hini.1 hini.2]
      · have ii := xi2 id (by simp; omega)
        by_cases hmk : (id, true) ∈ ts k
        · have hnt : (id, true) ∉ ts i := fun hq => by have := haw id true true hmk hq; simp at this
          rw [kk.1 hmk, (ii.2 hnt).2]
        · rw [(kk.2 hmk).1]
          by_cases hmi : (id, true) ∈ ts i
          · exact ii.1 hmi
          · rw [(ii.2 hmi).1, (ii.2 hmi).2, (kk.2 hmk).2]
theorem RunL.swap2 {k i : Nat} {l : List Nat} {env envF : Env C} {h hF : Heap C} {ok oi : Oper} (hok : ops[k]? = some ok) (hoi : ops[i]? = some oi)
    (hap : ok.apart ops oi = true) (hpr : (addrOp ok = true ∧ storeOp oi = true) ∨ (storeOp ok = true ∧ addrOp oi = true)) (hr : RunL T call ops L base sp ts (k :: i :: l) env h envF hF) : RunL T call ops L base sp ts (i :: k :: l) env h envF hF := by
  obtain ⟨a1, a2, a3⟩ := Oper.apart_spec hap
  cases hr with
  | @cons _ env1 _ _ h1 _ _ nk o _ ho hk hnk hr =>
  cases hr with
  | @cons _ env2 _ _ h2 _ _ ni o' _ ho' hi hni hr =>
  obtain rfl : ok = o := by rw [hok] at ho; exact Option.some.inj ho
  obtain rfl : oi = o' := by rw [hoi] at ho'; exact Option.some.inj ho'
  obtain ⟨vk, _, ek1, _, _⟩ := evOpG_eq call ops ok env env (fun _ _ => rfl) hk
  obtain ⟨vi, envA, ei1, ei2, ei3⟩ := evOpG_eq call ops oi env1 env (fun t ht => by
    rw [ek1]
    have : ok.dst ≠ some t := fun hd => a1 t hd ht
    simp [this]) hi
  obtain ⟨vk', envB, ek1', ek2, ek3⟩ := evOpG_eq call ops ok env envA (fun t ht => by
    rw [ei3]
    have : oi.dst ≠ some t := fun hd => a3 t hd ht
    simp [this]) hk
  have henv : ∀ t, eget envB t = eget env2 t := fun t => by
    rw [ek3, ei3, ei1]
    by_cases hdi : oi.dst = some t
    · have hdk : ok.dst ≠ some t := fun hd => a2 t hd hdi
      simp [hdi, hdk]
    · simp only [hdi, if_false]
      by_cases hdk : ok.dst = some t
      · have e1 := ek1 t
        have e2 := ek1' t
        simp only [hdk, if_true] at e1 e2 ⊢
        rw [e2]
      · have e1 := ek1 t
        simp only [hdk, if_false] at e1 ⊢
        exact e1.symm
  rcases hpr with ⟨p1, p2⟩ | ⟨p1, p2⟩
  · -- an address, then a store: the store first
    obtain ⟨rfl, rfl, _⟩ := (shPg_op call ops p1 env).ex hk
    have hs := store_shape call ops p2 ei2
    obtain ⟨_, _, q⟩ := (shPg_op call ops p1 envA).ex ek2
    have xk := q h2 (base + k * sp) hs
    exact .cons hoi ei2 hni (.cons hok xk hnk (hr.ext envB h2 henv fun _ => rfl))
  · -- a store, then an address: the address first
    have hs := store_shape call ops p1 hk
    obtain ⟨rfl, rfl, q⟩ := (shPg_op call ops p2 env).ex ei2
    have xi := q h (base + i * sp) fun id => (hs id).symm
    exact .cons hoi xi hni (.cons hok ek2 hnk (hr.ext envB _ henv fun _ => rfl))
theorem RunL.first {i : Nat} {oi : Oper} (hoi : ops[i]? = some oi) : ∀ (pre post : List Nat) {env envF : Env C} {h hF : Heap C}, (pre ++ i :: post).Nodup → Fresh base sp (pre ++ i :: post) h →
    (∀ k ∈ pre, ∀ ok, ops[k]? = some ok → ok.apart ops oi = true ∧ (Away (ts k) (ts i) ∨ okPair ops k i = true)) → RunL T call ops L base sp ts (pre ++ i :: post) env h envF hF → RunL T call ops L base sp ts (i :: (pre ++ post)) env h envF hF := by
  intro pre
  induction pre with
  | nil => intro post env envF h hF hn hf ha hr; simpa using hr
  | cons k pre ih =>
    intro post env envF h hF hn hf ha hr
    rw [List.cons_append] at hr hn hf
    cases hr with
    | @cons _ env1 _ _ h1 _ _ nk ok _ hok hk hnk hr =>
    have hkn := List.nodup_cons.1 hn
    have hr' := ih post hkn.2 ((show Fresh base sp (pre ++ i :: post) h from fun j hj => hf j (List.mem_cons_of_mem _ hj)).step hk hnk hkn.1) (fun j hj => ha j (by simp [hj])) hr
    have hki : k ≠ i := by rintro rfl; exact hkn.1 (by simp)
    obtain ⟨q1, q2⟩ := ha k (by simp) ok hok
    rcases q2 with q2 | q2
    · exact RunL.swap hok hoi hki (fun j hj => hf j (by simp at hj; rcases hj with rfl | rfl <;> simp)) q1 q2 (.cons hok hk hnk hr')
    · unfold okPair at q2
      rw [hok, hoi] at q2
      simp only [Bool.or_eq_true, Bool.and_eq_true] at q2
      exact RunL.swap2 hok hoi q1 q2 (.cons hok hk hnk hr')
end
section
variable {C : Cdc} {P : Program} {T : Tab C}
open Pg (Ex)
theorem G.relim {X : Cx} {h : Heap C} {nx nx' : Nat} {lim lim' : Lim} (g : G T X h nx lim) (hh : ∀ id, old nx lim id → old nx' lim' id) (hl : lim'.lo ≤ nx') : G T X h nx' lim' :=
  ⟨g.var, g.vec, g.map, g.dom, fun id o ho => ⟨hh id (g.nums id o ho).1, fun r hr => hh r ((g.nums id o ho).2 r hr)⟩, g.apart, g.outer, g.outs, hl, g.pre⟩
theorem EnvOK.relim {X : Cx} {env env' : Env C} {tmps : Array Value} {nx nx' : Nat} {lim lim' : Lim} (g : EnvOK T X nx lim env tmps) (hh : ∀ id, old nx lim id → old nx' lim' id) (he : ∀ t, eget env' t = eget env t) : EnvOK T X nx' lim' env' tmps :=
  fun t => by rw [he]; exact ⟨(g t).1, fun id hi => hh id ((g t).2 id hi)⟩
theorem Step.relim {X X' : Cx} {nx nx' : Nat} {lim lim' : Lim} (s : Step X nx lim X') (hh : ∀ id, old nx' lim' id → old nx lim id) : Step X nx' lim' X' :=
  ⟨s.O, s.os, s.tape, s.output, s.size, fun id ho => s.ρ id (hh id ho), s.mine, s.cell, s.block, s.frz⟩
variable {call : FuncId → List (D C) → Pg C (D C)} {ops : Array Oper} {L base sp : Nat}
theorem RunL.congr {ts ts' : Nat → Tr} {l : List Nat} {env envF : Env C} {h hF : Heap C} (hr : RunL T call ops L base sp ts l env h envF hF) : (∀ j ∈ l, ts' j = ts j) → RunL T call ops L base sp ts' l env h envF hF := by
  induction hr with
  | nil h1 h2 => intro _; exact .nil h1 h2
  | cons ho hx hn _ ih => intro hh; exact .cons ho (by rw [hh _ (by simp)]; exact hx) hn (ih fun j hj => hh j (by simp [hj]))
theorem runL_of_evOpsT : ∀ (l : List Oper) (i : Nat), ops.toList.drop i = l → ∀ {e : Pg.Lv} {env envF : Env C} {h hF : Heap C} {n nF : Nat} {tr : Tr} {acc : List (Nat × Tr)}, Ex e (evOpsT T call ops base sp i l env acc) h n envF hF nF tr →
    n ≤ base + i * sp ∧ ∃ ts accF, RunL T call ops (e.1 + 1) base sp ts (List.range' i l.length) env h envF hF ∧ nF = base + (i + l.length) * sp ∧ noClash ops accF = true ∧ (∀ p ∈ acc, p ∈ accF) ∧ ∀ j, i ≤ j → j < i + l.length → ts j = [] ∨ (j, ts j) ∈ accF := by
  intro l
  induction l with
  | nil =>
    intro i hl e env envF h hF n nF tr acc hx
    simp only [evOpsT] at hx
    obtain ⟨hm, hx⟩ := Ex.upto hx
    rcases Ex.br hx with ⟨hb, hx⟩ | ⟨hb, hx⟩
    · obtain ⟨rfl, rfl, rfl, rfl⟩ := Ex.ret hx
      exact ⟨hm, fun _ => [], acc, .nil (fun _ => rfl) (fun _ => rfl), by simp, hb, fun p hp => hp, fun j h1 h2 => by simp at h2; omega⟩
    · exact (Ex.fail hx).elim
  | cons o l ih =>
    intro i hl e env envF h hF n nF tr acc hx
    simp only [evOpsT] at hx
    obtain ⟨hm, hx⟩ := Ex.upto hx
    obtain ⟨env1, h1, n1, t1, t2, q1, q2, _⟩ := Ex.sub hx
    have hlt : i < ops.toList.length := by
      rcases Nat.lt_or_ge i ops.toList.length with h | h
      · exact h
      · rw [List.drop_eq_nil_of_le h] at hl; simp at hl
    have hlo : ops.toList[i]? = some o := by
      rw [List.drop_eq_getElem_cons hlt] at hl
      rw [List.getElem?_eq_getElem hlt, (List.cons.inj hl).1]
    have hio : ops[i]? = some o := by rw [← Array.getElem?_toList]; exact hlo
    have hl2 : ops.toList.drop (i + 1) = l := by
      rw [List.drop_eq_getElem_cons hlt] at hl
      exact (List.cons.inj hl).2
    obtain ⟨k0, ts, accF, k1, k2, k3, k4, k5⟩ := ih (i + 1) hl2 q2
    refine ⟨hm, fun j => if j = i then t1 else ts j, accF, ?_, by rw [k2, List.length_cons, Nat.add_right_comm i 1 l.length]; rfl, k3, ?_, ?_⟩
    · rw [List.length_cons, List.range'_succ]
      refine .cons hio (by simpa using q1) k0 (k1.congr fun j hj => ?_)
      have := List.mem_range'_1.1 hj
      have hne : ¬ j = i := by omega
      simp [hne]
    · intro p hp
      refine k4 p ?_
      split
      · exact hp
      · simp [hp]
    · intro j hj1 hj2
      by_cases hj : j = i
      · subst hj
        simp only [if_true]
        cases t1 with
        | nil => exact .inl rfl
        | cons x t1 => exact .inr (k4 _ (by simp))
      · simp only [hj, if_false]
        exact k5 j (by omega) (by simp at hj2; omega)
theorem noClash_spec {accF : List (Nat × Tr)} (h : noClash ops accF = true) {a b : Nat × Tr} (ha : a ∈ accF) (hb : b ∈ accF) (hlt : a.1 < b.1) (hn : ¬ Bef ops a.1 b.1) : Away a.2 b.2 ∨ okPair ops a.1 b.1 = true := by
  simp only [noClash, List.all_eq_true] at h
  have := h a ha b hb
  simp only [Bool.or_eq_true, Bool.not_eq_true'] at this
  rcases this with ((h1 | h1) | h1) | h1
  · exact .inl (apartT_spec h1)
  · have h2 : Nat.blt a.1 b.1 = true := by rw [Nat.blt_eq]; exact hlt
    rw [h2] at h1; cases h1
  · exact (hn h1).elim
  · exact .inr h1
structure DrawOK (ops : Array Oper) : Prop where
  edges : ∀ i o, ops[i]? = some o → ∀ e ∈ o.after, Region.binds .any e = true → e.on < i
  apart : ∀ i j oi oj, i < j → ops[i]? = some oi → ops[j]? = some oj → Bef ops i j ∨ oi.apart ops oj = true
def HR (base sp N : Nat) (lim : Lim) (rest : List Nat) (id : Nat) : Prop := lim.H id ∨ (base + N * sp ≤ id ∧ id < lim.top) ∨ ∃ j ∈ rest, base + j * sp ≤ id ∧ id < base + (j + 1) * sp
def limR (base sp N : Nat) (lim : Lim) (rest : List Nat) : Lim := ⟨base, base, HR base sp N lim rest, fun id h1 h2 => by omega⟩
theorem old_limR {N : Nat} {lim : Lim} {rest : List Nat} {id : Nat} : old base (limR base sp N lim rest) id ↔ ¬ HR base sp N lim rest id := by
  unfold old limR
  simp only
  constructor
  · exact fun h => h.2
  · exact fun h => ⟨by omega, h⟩
theorem getD_same {listed : Array Bool} {j : Nat} (h : j < listed.size) : listed.getD j true = listed.getD j false := by simp [Array.getD_eq_getD_getElem?, h]
variable (K : PLaws P T)
include K
theorem drawn_ok {ro : Option Nat} {m : Nat} (hcall : CallOK P T call) {B : Nat → Bool} (hB : ∀ o ∈ ops.toList, ∀ t, o.dst = some t → B t = false) (hd : DrawOK ops) {ts : Nat → Tr} {lim : Lim} {envF : Env C} {hF : Heap C} (haw : ∀ i j, i < j → j < ops.size → ¬ Bef ops i j → Away (ts i) (ts j) ∨ okPair ops i j = true) (hlo : lim.lo ≤ base) (htop : base + ops.size * sp ≤ lim.top) {Q : Exit → Act → World → Prop} :
    ∀ (fuel : Nat) (rest : List Nat) (listed : Array Bool) (env : Env C) (h : Heap C) (X : Cx) (a : Act), rest.length ≤ fuel → rest.Pairwise (· < ·) → listed.size = ops.size → (∀ j, j ∈ rest ↔ j < ops.size ∧ listed.getD j true = false) →
      (∀ j o, listed.getD j false = true → ops[j]? = some o → ∀ e ∈ o.after, Region.binds .any e = true → listed.getD e.on false = true) → RunL T call ops L base sp ts rest env h envF hF → Fresh base sp rest h →
      G T X h base (limR base sp ops.size lim rest) → EnvOK T X base (limR base sp ops.size lim rest) env a.tmps → (∀ o ∈ ops.toList, ∀ t, o.dst = some t → t < a.tmps.size) →
      (∀ a' X', G T X' hF (base + ops.size * sp) lim → Step X base lim X' → EnvOK T X' (base + ops.size * sp) lim envF a'.tmps → a'.tmps.size = a.tmps.size → a'.defers = a.defers → Kp B a.tmps a'.tmps → Q .normal a' X'.w) →
      wpAnyIn (roF ro) m P .any ops Q fuel listed a X.w := by
  intro fuel
  induction fuel with
  | zero =>
    intro rest listed env h X a hlen hsort hsz hmem hcl hr hf g he hb hk
    obtain rfl : rest = [] := List.length_eq_zero_iff.1 (by omega)
    refine ⟨?_, ?_⟩
    · cases hq : Region.ready .any ops listed with
      | nil => rfl
      | cons j _ =>
        have : j ∈ Region.ready .any ops listed := by simp [hq]
        obtain ⟨h1, o, h2, _⟩ := mem_ready.1 this
        have := (hmem j).2 ⟨(Array.getElem?_eq_some_iff.1 h2).1, h1⟩
        simp at this
    · cases hr with
      | nil e1 e2 =>
        have hold : ∀ id, old base (limR base sp ops.size lim []) id → old (base + ops.size * sp) lim id := by
          intro id ho
          rw [old_limR] at ho
          unfold HR at ho
          simp only [List.not_mem_nil, false_and, exists_false, or_false, not_or] at ho
          exact ⟨by omega, ho.1⟩
        exact hk a X ((g.congr fun id => (e2 id).symm).relim hold (by omega)) (.refl _ _ _) (he.relim hold fun t => (e1 t).symm) rfl rfl (.refl _ _)
  | succ fuel ih =>
    intro rest listed env h X a hlen hsort hsz hmem hcl hr hf g he hb hk
    refine ⟨fun hnil => ?_, fun i hi => ?_⟩
    · cases rest with
      | nil =>
        cases hr with
        | nil e1 e2 =>
          have hold : ∀ id, old base (limR base sp ops.size lim []) id → old (base + ops.size * sp) lim id := by
            intro id ho
            rw [old_limR] at ho
            unfold HR at ho
            simp only [List.not_mem_nil, false_and, exists_false, or_false, not_or] at ho
            exact ⟨by omega, ho.1⟩
          exact hk a X ((g.congr fun id => (e2 id).symm).relim hold (by omega)) (.refl _ _ _) (he.relim hold fun t => (e1 t).symm) rfl rfl (.refl _ _)
      | cons r rest =>
        exfalso
        have hr0 := (hmem r).1 (by simp)
        have : r ∈ Region.ready .any ops listed := by
          rw [mem_ready]
          refine ⟨hr0.2, ops[r]'hr0.1, by simp [hr0.1], fun e hee hbb => ?_⟩
          have hlt := hd.edges r _ (by simp [hr0.1]) e hee hbb
          cases hq : listed.getD e.on false with
          | true => rfl
          | false =>
            have hm := (hmem e.on).2 ⟨by omega, by rw [getD_same (by omega)]; exact hq⟩
            simp only [List.mem_cons] at hm
            rcases hm with hm | hm
            · omega
            · have := (List.pairwise_cons.1 hsort).1 _ hm; omega
        rw [hnil] at this
        simp at this
    · obtain ⟨hl, oi, hoi, hedges⟩ := mem_ready.1 hi
      have hiN : i < ops.size := (Array.getElem?_eq_some_iff.1 hoi).1
      have hir := (hmem i).2 ⟨hiN, hl⟩
      obtain ⟨pre, post, rfl⟩ := List.append_of_mem hir
      have hnd : (pre ++ i :: post).Nodup := hsort.imp fun {x y} (hxy : x < y) => by omega
      have hpre : ∀ k ∈ pre, k < i := fun k hk => (List.pairwise_append.1 hsort).2.2 k hk i (by simp)
      have hr' := RunL.first hoi pre post hnd hf (fun k hk ok hok => by
        have hlt := hpre k hk
        have hnb : ¬ Bef ops k i := fun hbef => by
          have hlk := Bef.listed (ops := ops) (L := fun j => listed.getD j false = true) (fun j o h1 h2 e h3 h4 => hcl j o h1 h2 e h3 h4) i k hbef (fun o ho e h1 h2 => by
            rw [hoi] at ho; obtain rfl := Option.some.inj ho; exact hedges e h1 h2)
          have hk2 := (hmem k).1 (by simp [hk])
          rw [getD_same (by omega)] at hk2
          rw [hk2.2] at hlk; cases hlk
        exact ⟨(hd.apart k i ok oi hlt hok hoi).resolve_left hnb, haw k i hlt hiN hnb⟩) hr
      cases hr' with
      | @cons _ env1 _ _ h1 _ _ n o _ ho hx hn hrun =>
      obtain rfl : oi = o := by rw [hoi] at ho; exact Option.some.inj ho
      have hni : i ∉ pre ++ post := by
        intro hm
        rw [List.nodup_append] at hnd
        simp only [List.mem_append] at hm
        rcases hm with hm | hm
        · exact hnd.2.2 i hm i (by simp) rfl
        · exact (List.nodup_cons.1 hnd.2.1).1 hm
      have hbnd : ∀ j, j < ops.size → base + (j + 1) * sp ≤ base + ops.size * sp := fun j hj => by
        have : (j + 1) * sp ≤ ops.size * sp := Nat.mul_le_mul_right _ hj
        omega
      have hrest : ∀ j, j ∈ pre ++ post → j < ops.size := fun j hj => ((hmem j).1 (by simp at hj ⊢; rcases hj with hj | hj <;> simp [hj])).1
      let limi : Lim := ⟨base + i * sp, base + (i + 1) * sp, HR base sp ops.size lim (pre ++ post), fun id q1 q2 => by
        have hb1 := hbnd i hiN
        rintro (q3 | q3 | ⟨j, q3, q4, q5⟩)
        · exact lim.ok id (by omega) (by omega) q3
        · omega
        · exact ranges (i := i) (k := j) (by rintro rfl; exact hni q3) q1 q2 q4 q5⟩
      have ho1 : ∀ id, old base (limR base sp ops.size lim (pre ++ i :: post)) id → old (base + i * sp) limi id := by
        intro id hid
        rw [old_limR] at hid
        unfold HR at hid
        simp only [not_or, not_exists, not_and] at hid
        refine ⟨?_, ?_⟩
        · have := hid.2.2 i (by simp)
          show id < base + i * sp ∨ base + (i + 1) * sp ≤ id
          omega
        · rintro (q3 | q3 | ⟨j, q3, q4, q5⟩)
          · exact hid.1 q3
          · exact hid.2.1 q3.1 q3.2
          · exact hid.2.2 j (by simp at q3 ⊢; rcases q3 with q3 | q3 <;> simp [q3]) q4 q5
      have ho2 : ∀ id, old n limi id → old base (limR base sp ops.size lim (pre ++ post)) id := fun id hid => old_limR.2 hid.2
      have ho3 : ∀ id, old base lim id → old (base + i * sp) limi id := by
        intro id hid
        have hb1 := hbnd i hiN
        have hc := hid.1
        refine ⟨?_, ?_⟩
        · show id < base + i * sp ∨ base + (i + 1) * sp ≤ id
          rcases hc with hc | hc
          · exact .inl (by omega)
          · exact .inr (by omega)
        · rintro (q3 | q3 | ⟨j, q3, q4, q5⟩)
          · exact hid.2 q3
          · rcases hc with hc | hc
            · have : base ≤ base + ops.size * sp := Nat.le_add_right _ _
              omega
            · omega
          · have := hbnd j (hrest j q3)
            rcases hc with hc | hc
            · have : base ≤ base + j * sp := Nat.le_add_right _ _
              omega
            · omega
      refine evOpG_ok K hcall (g.relim ho1 (Nat.le_refl _)) (he.relim ho1 fun _ => rfl) (lim := limi) hn hoi (fun t ht => hb oi (List.mem_of_getElem? (by rw [Array.getElem?_toList]; exact hoi)) t ht) (fun t ht => hB oi (List.mem_of_getElem? (by rw [Array.getElem?_toList]; exact hoi)) t ht) hx fun a' X' g' s' e' hs hdf hkp => ?_
      have hsl : (pre ++ post).Sublist (pre ++ i :: post) := List.Sublist.append_left (List.sublist_cons_self _ _) _
      refine ih (pre ++ post) (listed.setIfInBounds i true) env1 h1 X' a' (by simp at hlen ⊢; omega) (hsort.sublist hsl) (by simp [hsz]) (fun j => ?_) (fun j o hj hoj e h3 h4 => ?_) hrun
        ((show Fresh base sp (pre ++ post) h from fun j hj => hf j (hsl.subset hj)).step hx hn hni) (g'.relim ho2 (Nat.le_refl _)) (e'.relim ho2 fun _ => rfl) (fun o ho t ht => by rw [hs]; exact hb o ho t ht) fun a2 X2 g2 s2 e2 hs2 hd2 hkp2 => ?_
      · by_cases hji : j = i
        · subst hji
          simp only [hni, false_iff, not_and]
          intro _
          simp [hsz, hiN]
        · rw [getD_set_ne true (Ne.symm hji), ← hmem j]
          simp [hji]
      · by_cases hji : j = i
        · subst hji
          rw [hoi] at hoj; obtain rfl := Option.some.inj hoj
          exact getD_set_true (hedges e h3 h4)
        · rw [getD_set_ne false (Ne.symm hji)] at hj
          exact getD_set_true (hcl j o hj hoj e h3 h4)
      · exact hk a2 X2 g2 ((s'.relim ho3).trans s2 (Nat.le_refl _)) e2 (by omega) (by rw [hd2, hdf]) (hkp.trans hkp2)
theorem draw_ok {ro : Option Nat} {m : Nat} {X : Cx} {h h' : Heap C} {nx nx' : Nat} {e : Pg.Lv} {lim : Lim} {tr : Tr} {env env' : Env C} {a : Act} (hcall : CallOK P T call) {B : Nat → Bool} (hB : ∀ o ∈ ops.toList, ∀ t, o.dst = some t → B t = false) (hm : P.follows .mixedOrders = true) (hd : DrawOK ops) (g : G T X h nx lim) (he : EnvOK T X nx lim env a.tmps)
    (hlim : nx' ≤ lim.top) (hb : ∀ o ∈ ops.toList, ∀ t, o.dst = some t → t < a.tmps.size) (hx : Ex e (evOpsT T call ops nx sp 0 ops.toList env []) h nx env' h' nx' tr) {id : Nat} {Q : Exit → Act → World → Prop}
    (hk : ∀ a' X', G T X' h' nx' lim → Step X nx lim X' → EnvOK T X' nx' lim env' a'.tmps → a'.tmps.size = a.tmps.size → a'.defers = a.defers → Kp B a.tmps a'.tmps → Q .normal a' X'.w) : (Code.region id ops true).wpIn (roF ro) m P Q a X.w := by
  obtain ⟨_, ts, accF, k1, k2, k3, _, k5⟩ := runL_of_evOpsT ops.toList 0 rfl hx
  simp only [Nat.zero_add, Array.length_toList] at k1 k2 k5
  subst k2
  obtain ⟨gw, sw⟩ := g.world K.base { X.w with drawn := X.w.drawn + 1 } rfl rfl rfl rfl
  refine wpIn_region_any hm ?_
  have hold : ∀ i, old nx lim i → old nx (limR nx sp ops.size lim (List.range' 0 ops.size)) i := by
    intro i hi
    rw [old_limR]
    have hc := hi.1
    have h0 : nx ≤ nx + ops.size * sp := Nat.le_add_right _ _
    rintro (q3 | q3 | ⟨j, q3, q4, q5⟩)
    · exact hi.2 q3
    · omega
    · have hj := (List.mem_range'_1.1 q3).2
      have : (j + 1) * sp ≤ ops.size * sp := Nat.mul_le_mul_right _ (by omega)
      have : nx ≤ nx + j * sp := Nat.le_add_right _ _
      omega
  refine drawn_ok K hcall hB hd (ts := ts) (fun i j hij hj hn => ?_) g.low hlim ops.size (List.range' 0 ops.size) _ env h ⟨{ X.w with drawn := X.w.drawn + 1 }, X.ρ, X.O⟩ a (by simp) (List.pairwise_lt_range') (by simp) (fun j => ?_) (fun j o hj => ?_) k1 ?_
    (gw.relim hold (Nat.le_refl _)) ((he.step K.base sw (Nat.le_refl _)).relim hold fun _ => rfl) hb fun a' X' g' s' e' hs hdf hkp => ?_
  · rcases k5 i (by omega) (by omega) with h1 | h1
    · rw [h1]; refine .inl ?_; intro _ _ _ hm; simp at hm
    · rcases k5 j (by omega) hj with h2 | h2
      · rw [h2]; refine .inl ?_; intro _ _ _ _ hm; simp at hm
      · exact noClash_spec k3 h1 h2 hij hn
  · simp only [List.mem_range'_1, Nat.zero_add, Nat.zero_le, true_and]
    constructor
    · intro h; simp [Array.getD_eq_getD_getElem?, h]
    · exact fun h => h.1
  · exfalso
    by_cases hjn : j < ops.size
    · simp [Array.getD_eq_getD_getElem?, hjn] at hj
    · simp [Array.getD_eq_getD_getElem?, hjn] at hj
  · intro j hj i q1 q2
    cases hg : h.get i with
    | none => rfl
    | some o =>
      exfalso
      have := hold i (g.nums i o hg).1
      rw [old_limR] at this
      exact this (.inr (.inr ⟨j, hj, q1, q2⟩))
  · exact hk a' X' g' (sw.trans s' (Nat.le_refl _)) e' hs hdf hkp
end
section
variable {C : Cdc} {P : Program} {T : Tab C}
open Pg (Ex)
variable (K : PLaws P T)
def resM (tmps : Array Value) : ResultVar → Sem Value
  | .tmp t => pure (tmps.getD t undef)
  | .cell a t => do loadVar t (← asAddr (tmps.getD a undef))
theorem loadAt_addr {t : TypeId} {va v : Value} {w : World} (h : (Instr.loadAt t va).run P w = .ok v w) : (do loadVar t (← asAddr va) : Sem Value).run P w = .ok v w := by
  unfold Instr.loadAt Instr.sureAddr at h
  split at h
  · simpa [asAddr] using h
  · simp [stuck] at h
include K in
theorem results_ok {X : Cx} {h : Heap C} {nx : Nat} {lim : Lim} {env : Env C} {tmps : Array Value} (g : G T X h nx lim) (he : EnvOK T X nx lim env tmps) : ∀ (rs : List ResultVar) {e : Pg.Lv} {l : List (D C)} {h' : Heap C} {nx' : Nat} {tr : Tr},
    Ex e (resultD T env rs) h nx l h' nx' tr → h' = h ∧ nx' = nx ∧ ∃ vs, (rs.mapM (resM tmps)).run P X.w = .ok vs X.w ∧ RVs T X l vs ∧ ∀ d ∈ l, ∀ id ∈ D.refs d, old nx lim id := by
  intro rs
  induction rs with
  | nil =>
    intro e l h' nx' tr hx
    obtain ⟨rfl, rfl, rfl, rfl⟩ := Ex.ret hx
    exact ⟨rfl, rfl, [], by simp, .nil, by simp⟩
  | cons r rs ih =>
    intro e l h' nx' tr hx
    cases r with
    | tmp t =>
      simp only [resultD] at hx
      obtain ⟨l1, h1, n1, t1, t2, q1, hx, _⟩ := Ex.bind hx
      obtain ⟨rfl, rfl, rfl, rfl⟩ := Ex.ret hx
      obtain ⟨rfl, rfl, vs, a1, a2, a3⟩ := ih q1
      refine ⟨rfl, rfl, tmps.getD t undef :: vs, by simp only [List.mapM_cons, resM, Sem.run_bind, Sem.run_pure, Result.andThen_ok, a1], .cons (he t).1 a2, ?_⟩
      intro d hd
      simp only [List.mem_cons] at hd
      rcases hd with rfl | hd
      · exact (he t).2
      · exact a3 d hd
    | cell a t =>
      simp only [resultD] at hx
      obtain ⟨d1, h1, n1, t1, t2, q1, hy, _⟩ := Ex.bind hx
      obtain ⟨v, k1, e1, e2, k2⟩ := load_same K g (he a) q1
      subst e1; subst e2
      obtain ⟨l1, h2, n2, t3, t4, q2, hz, _⟩ := Ex.bind hy
      obtain ⟨rfl, rfl, rfl, rfl⟩ := Ex.ret hz
      obtain ⟨rfl, rfl, vs, a1, a2, a3⟩ := ih q2
      refine ⟨rfl, rfl, v :: vs, by simp only [List.mapM_cons, resM, Sem.run_bind, Sem.run_pure, Result.andThen_ok, a1]; rw [← Sem.run_bind, loadAt_addr k1]; simp [a1], .cons k2.1 a2, ?_⟩
      intro d hd
      simp only [List.mem_cons] at hd
      rcases hd with rfl | hd
      · exact k2.2
      · exact a3 d hd
end
section
variable {C : Cdc} {P : Program}
theorem R.monoE (T : Tab C) (L : Laws T) {X X' : Cx} (hX : ∀ b o v, X.w.cell? ⟨b, o, none⟩ = some v → X.free b o → X'.w.cell? ⟨b, o, none⟩ = some v ∧ X'.free b o) {m : Bool} {d : D C} {vs : List Value} (h : R T X m d vs) (hd : d.refs = [] ∧ d.noYl = true) : R T X' m d vs :=
  h.monoG T (y := false) L.encOK hX (fun h => by cases h) (by rw [hd.1]; simp) (.inr hd.2)
theorem RV.monoE (T : Tab C) (L : Laws T) {X X' : Cx} (hX : ∀ b o v, X.w.cell? ⟨b, o, none⟩ = some v → X.free b o → X'.w.cell? ⟨b, o, none⟩ = some v ∧ X'.free b o) {d : D C} {v : Value} (h : RV T X d v) (hd : d.refs = [] ∧ d.noYl = true) : RV T X' d v := by
  rcases h with ⟨h1, cs, h2, h3⟩ | ⟨h1, h2⟩
  · exact .inl ⟨h1, cs, h2.monoE T L hX hd, h3⟩
  · exact .inr ⟨h1, h2.monoE T L hX hd⟩
theorem EntsOK.move {T : Tab C} (L : Laws T) {X X' : Cx} (hX : ∀ b o v, X.w.cell? ⟨b, o, none⟩ = some v → X.free b o → X'.w.cell? ⟨b, o, none⟩ = some v ∧ X'.free b o) {ck cv : C.Ty} {l : List (C.A ck × C.A cv)} {es : List MapEntry} (h : EntsOK T X ck cv l es) : EntsOK T X' ck cv l es := by
  induction h with
  | nil => exact .nil
  | cons hk hv _ ih => exact .cons (hk.monoE T L hX (L.encOK _ _)) (hv.monoE T L hX (L.encOK _ _)) ih
variable {T : Tab C}
theorem VecOK.move (L : Laws T) {X X' : Cx} {t : C.Ty} {own : Bool} {l : List (C.A t)} {v : Value} {b lo hi : Nat} (h : VecOK T X t own l v b lo hi)
    (hX : ∀ b o v, X.w.cell? ⟨b, o, none⟩ = some v → X.free b o → X'.w.cell? ⟨b, o, none⟩ = some v ∧ X'.free b o)
    (hb : (∃ o, (Loc.vec v (T.ety t) b lo hi).owns b o) → X'.w.heap[b]? = X.w.heap[b]?) (hpos : 0 < T.size (T.ety t)) : VecOK T X' t own l v b lo hi := by
  have hR : ∀ cs, R T X false (.arr t l.length l) cs → R T X' false (.arr t l.length l) cs := fun cs hr => hr.monoE T L hX ⟨rfl, rfl⟩
  rcases h with h2 | ⟨off, cp, h2, h3, h4, h5⟩
  · exact .inl h2
  · refine .inr ⟨off, cp, h2, h3, h4, ?_⟩
    rcases h5 with ⟨ht, hlo, h5 | ⟨cs, e, h5, h6, h7⟩⟩ | ⟨ht, hlo, ⟨cs, h5, h6⟩, h7⟩
    · exact .inl ⟨ht, hlo, .inl h5⟩
    · by_cases hc : cp = 0
      · exact .inl ⟨ht, hlo, .inl hc⟩
      · have hm : T.size (T.ety t) ≤ cp * T.size (T.ety t) := Nat.le_mul_of_pos_left _ (by omega)
        have e1 := hb ⟨off, rfl, by omega, by omega⟩
        exact .inl ⟨ht, hlo, .inr ⟨cs, e, by rw [e1]; exact h5, h6, hR _ h7⟩⟩
    · refine .inr ⟨ht, hlo, ⟨cs, fun j u hj => hX _ _ _ (h5 j u hj).1 (h5 j u hj).2, hR _ h6⟩, ?_⟩
      rcases h7 with h7 | ⟨c0, e, h7, h8⟩
      · exact .inl h7
      · by_cases hc : cp = l.length
        · exact .inl hc
        · have hm : (l.length + 1) * T.size (T.ety t) ≤ cp * T.size (T.ety t) := Nat.mul_le_mul_right _ (by omega)
          have e1 := hb ⟨lo, rfl, by omega, by rw [Nat.succ_mul] at hm; omega⟩
          exact .inr ⟨c0, e, by rw [e1]; exact h7, h8⟩
theorem Laws.posE (L : Laws T) (t : C.Ty) : 0 < T.size (T.ety t) := by
  refine L.pos _ fun hn => ?_
  have := L.encFit t (T.dflt t)
  revert this
  cases T.enc t (T.dflt t) <;> simp [fit, hn]
theorem cell_congr {w w' : World} {a : Addr} (h : w'.heap[a.block]? = w.heap[a.block]?) : w'.cell? a = w.cell? a := by unfold World.cell?; rw [h]
theorem frozen_congr {w w' : World} {a : Addr} (h : w'.heap[a.block]? = w.heap[a.block]?) : w'.frozen? a = w.frozen? a := by unfold World.frozen?; rw [h]
structure Turn1 (X : Cx) (r : Nat) (w' : World) : Prop where
  size : w'.heap.size = X.w.heap.size
  block : ∀ b, b ≠ r → w'.heap[b]? = X.w.heap[b]?
  mine : ∀ o, ¬ X.mine r o
  nocell : ∀ c t f, X.w.heap[r]? ≠ some (.cells c t f)
  os : w'.os = X.w.os
  tape : w'.tape = X.w.tape
  output : w'.output = X.w.output
theorem Turn1.cell {X : Cx} {r : Nat} {w' : World} (t : Turn1 X r w') : ∀ b o v, X.w.cell? ⟨b, o, none⟩ = some v → X.free b o → (⟨w', X.ρ, X.O⟩ : Cx).w.cell? ⟨b, o, none⟩ = some v ∧ (⟨w', X.ρ, X.O⟩ : Cx).free b o := by
  intro b o v hc hf
  refine ⟨?_, hf⟩
  have hb : b ≠ r := by
    rintro rfl
    unfold World.cell? at hc
    cases hh : X.w.heap[b]? with
    | none => simp [hh] at hc
    | some ob => cases ob <;> simp [hh] at hc; exact absurd hh (t.nocell _ _ _)
  rw [show (⟨w', X.ρ, X.O⟩ : Cx).w = w' from rfl, cell_congr (t.block b hb)]; exact hc
theorem putObj_turn {X : Cx} {r : Nat} {o o' : Go.Obj} (ho : X.w.heap[r]? = some o) (hn : ∀ c t f, o ≠ .cells c t f) (hm : ∀ q, ¬ X.mine r q) : Turn1 X r (X.w.putObj r o') :=
  ⟨World.putObj_size, fun b hb => World.putObj_heap_other hb, hm, fun c t f h => by rw [ho] at h; exact hn c t f (Option.some.inj h), rfl, rfl, rfl⟩
theorem RO.turn (L : Laws T) {X : Cx} {r : Nat} {w' : World} (t : Turn1 X r w') {nx : Nat} {lim : Lim} {d : D C} {v : Value} (h : RO T X nx lim d v) (hy : d.noYl = true) : RO T ⟨w', X.ρ, X.O⟩ nx lim d v := by
  refine ⟨?_, h.2⟩
  have one : ∀ m cs, R T X m d cs → R T ⟨w', X.ρ, X.O⟩ m d cs := fun m cs hr => hr.monoG T (y := false) L.encOK t.cell (fun h => by cases h) (fun id _ => Compat.refl _) (.inr hy)
  rcases h.1 with ⟨h1, cs, h2, h3⟩ | ⟨h1, h2⟩
  · exact .inl ⟨h1, cs, one _ _ h2, h3⟩
  · exact .inr ⟨h1, one _ _ h2⟩
theorem G.turn (L : Laws T) {X : Cx} {h : Heap C} {nx : Nat} {lim : Lim} (g : G T X h nx lim) {r : Nat} {w' : World} (t : Turn1 X r w') : G T ⟨w', X.ρ, X.O⟩ h nx lim where
  var id u d hg := by
    obtain ⟨b, c, e1, e2, e3, e4⟩ := g.var id u d hg
    have hb : b ≠ r := by rintro rfl; exact t.mine 0 ⟨id, _, e1, rfl⟩
    exact ⟨b, c, e1, (t.block b hb).trans e2, e3.monoG T (y := false) L.encOK t.cell (fun h => by cases h) (fun id _ => Compat.refl _) (.inr (fit_noYl _ _ e4)), e4⟩
  vec id u own l hg := by
    obtain ⟨v, b, lo, hi, e1, e2⟩ := g.vec id u own l hg
    refine ⟨v, b, lo, hi, e1, e2.move L t.cell (fun ⟨o, ho⟩ => ?_) (L.posE u)⟩
    have hb : b ≠ r := by rintro rfl; exact t.mine o ⟨id, _, e1, ho⟩
    exact t.block b hb
  map id ck cv l hg := by
    obtain ⟨b, es, k, e1, e2, e3⟩ := g.map id ck cv l hg
    have hb : b ≠ r := by rintro rfl; exact t.mine 0 ⟨id, _, e1, rfl⟩
    exact ⟨b, es, k, e1, (t.block b hb).trans e2, e3.move L t.cell⟩
  dom := g.dom
  nums := g.nums
  apart := g.apart
  outer b o hm := by rw [t.size]; exact g.outer b o hm
  outs b o ho := by rw [t.size]; exact g.outs b o ho
  low := g.low
  pre p hp := by
    obtain ⟨⟨u, f, h1⟩, h2⟩ := g.pre p hp
    have hb : p.1 ≠ r := by
      intro e
      rw [e] at h1
      exact t.nocell _ _ _ h1
    exact ⟨⟨u, f, (t.block _ hb).trans h1⟩, h2⟩
theorem Step.turn {X0 X : Cx} {nx : Nat} {lim : Lim} (s : Step X0 nx lim X) {r : Nat} {w' : World} (t : Turn1 X r w') (hr : X0.w.heap.size ≤ r) : Step X0 nx lim ⟨w', X.ρ, X.O⟩ where
  O := s.O
  os := t.os.trans s.os
  tape := t.tape.trans s.tape
  output := t.output.trans s.output
  size := by rw [t.size]; exact s.size
  ρ := s.ρ
  mine := s.mine
  cell b o hb hm := (cell_congr (t.block b (by omega))).trans (s.cell b o hb hm)
  block b hb hm := (t.block b (by omega)).trans (s.block b hb hm)
  frz a ha := (frozen_congr (t.block a.block (by omega))).trans (s.frz a ha)
theorem Step.back {X0 X2 : Cx} {nx : Nat} {lim : Lim} {r : Nat} {w1 w3 : World} (t1 : Turn1 X0 r w1) (s : Step ⟨w1, X0.ρ, X0.O⟩ nx lim X2) (t3 : Turn1 X2 r w3) (hr : w3.heap[r]? = X0.w.heap[r]?) : Step X0 nx lim ⟨w3, X2.ρ, X2.O⟩ where
  O := s.O
  os := (t3.os.trans s.os).trans t1.os
  tape := (t3.tape.trans s.tape).trans t1.tape
  output := (t3.output.trans s.output).trans t1.output
  size := by rw [t3.size, ← t1.size]; exact s.size
  ρ := s.ρ
  mine b o hb hm := s.mine b o (by rw [← t1.size] at hb; exact hb) hm
  cell b o hb hm := by
    by_cases e : b = r
    · subst e; exact cell_congr hr
    · exact ((cell_congr (t3.block b e)).trans (s.cell b o (by rw [← t1.size] at hb; exact hb) hm)).trans (cell_congr (t1.block b e))
  block b hb hm := by
    by_cases e : b = r
    · subst e; exact hr
    · exact ((t3.block b e).trans (s.block b (by rw [← t1.size] at hb; exact hb) hm)).trans (t1.block b e)
  frz a ha := by
    by_cases e : a.block = r
    · exact frozen_congr (by rw [e]; exact hr)
    · exact ((frozen_congr (t3.block _ e)).trans (s.frz a (by rw [← t1.size] at ha; exact ha))).trans (frozen_congr (t1.block _ e))
def markOf (r : Nat) : Deferred := { target := .collected r, args := #[] }
def Marks (X X' : Cx) (ds base : List Deferred) : Prop :=
  ∃ rs : List Nat, ds = rs.map markOf ++ base ∧ rs.Nodup ∧ ∀ r ∈ rs, X.w.heap.size ≤ r ∧ X'.w.heap[r]? = some (.deferred (some [])) ∧ ∀ o, ¬ X'.mine r o
theorem Marks.of_eq {X X' : Cx} {ds base : List Deferred} (h : ds = base) : Marks X X' ds base := ⟨[], by simp [h], List.nodup_nil, fun r hr => by simp at hr⟩
theorem Marks.refl (X X' : Cx) (ds : List Deferred) : Marks X X' ds ds := .of_eq rfl
theorem Marks.trans0 {X X1 X2 : Cx} {d0 d1 d2 : List Deferred} (h : Marks X X1 d1 d0) (hsz : X.w.heap.size ≤ X1.w.heap.size) (hb : ∀ r, r < X1.w.heap.size → (∀ o, ¬ X1.mine r o) → X2.w.heap[r]? = X1.w.heap[r]? ∧ ∀ o, ¬ X2.mine r o) (k : Marks X1 X2 d2 d1) : Marks X X2 d2 d0 := by
  obtain ⟨r1, rfl, n1, h1⟩ := h
  obtain ⟨r2, rfl, n2, h2⟩ := k
  refine ⟨r2 ++ r1, by simp, ?_, ?_⟩
  · rw [List.nodup_append]
    refine ⟨n2, n1, fun a ha b hb e => ?_⟩
    subst e
    have q1 := (h2 a ha).1
    have q2 := (Array.getElem?_eq_some_iff.1 (h1 a hb).2.1).1
    omega
  · intro r hr
    rcases List.mem_append.1 hr with hr | hr
    · obtain ⟨q1, q2, q3⟩ := h2 r hr
      exact ⟨Nat.le_trans hsz q1, q2, q3⟩
    · obtain ⟨q1, q2, q3⟩ := h1 r hr
      have hl := (Array.getElem?_eq_some_iff.1 q2).1
      obtain ⟨p1, p2⟩ := hb r hl q3
      exact ⟨q1, p1.trans q2, p2⟩
theorem Marks.trans {X X1 X2 : Cx} {nx n1 : Nat} {lim lim1 : Lim} {d0 d1 d2 : List Deferred} (h : Marks X X1 d1 d0) (s : Step X nx lim X1) (s2 : Step X1 n1 lim1 X2) (k : Marks X1 X2 d2 d1) : Marks X X2 d2 d0 :=
  h.trans0 s.size (fun r hl q3 => ⟨s2.block r hl q3, fun o ho => q3 o (s2.mine r o hl ho)⟩) k
theorem Marks.sub {X X1 X2 : Cx} {d0 d1 : List Deferred} (h : Marks X X1 d1 d0) (hw : X2.w = X1.w) (hm : ∀ b o, b < X1.w.heap.size → X2.mine b o → X1.mine b o) : Marks X X2 d1 d0 := by
  obtain ⟨r1, rfl, n1, h1⟩ := h
  exact ⟨r1, rfl, n1, fun r hr => ⟨(h1 r hr).1, by rw [hw]; exact (h1 r hr).2.1, fun o ho => (h1 r hr).2.2 o (hm r o (Array.getElem?_eq_some_iff.1 (h1 r hr).2.1).1 ho)⟩⟩
theorem Kps.refl (X : Cx) : Kps X X := ⟨fun _ _ _ h1 h2 => ⟨h1, h2⟩, fun _ _ h1 h2 => ⟨h1, h2⟩⟩
theorem G.mine_kind {X : Cx} {h : Heap C} {nx : Nat} {lim : Lim} (g : G T X h nx lim) {b o : Nat} (hm : X.mine b o) : (∃ c t f, X.w.heap[b]? = some (.cells c t f)) ∨ ∃ es k, X.w.heap[b]? = some (.map es k) := by
  obtain ⟨id, l, hl, ho⟩ := hm
  have hd := g.dom id l hl
  cases hg : h.get id with
  | none => rw [hg] at hd; cases hd
  | some ob =>
    cases ob with
    | var t d =>
      obtain ⟨b', c, e1, e2, _⟩ := g.var id t d hg
      rw [hl] at e1
      obtain rfl := Option.some.inj e1
      obtain rfl : b = b' := ho
      exact .inl ⟨_, _, _, e2⟩
    | map ck cv m =>
      obtain ⟨b', es, k, e1, e2, _⟩ := g.map id ck cv m hg
      rw [hl] at e1
      obtain rfl := Option.some.inj e1
      obtain rfl : b = b' := ho
      exact .inr ⟨_, _, e2⟩
    | vec t own m =>
      obtain ⟨v, b', lo, hi, e1, e2⟩ := g.vec id t own m hg
      rw [hl] at e1
      obtain rfl := Option.some.inj e1
      obtain ⟨rfl, h1, h2⟩ : b = b' ∧ lo ≤ o ∧ o < hi := ho
      rcases e2 with ⟨_, _, h3⟩ | ⟨off, cp, _, _, h4, h5⟩
      · omega
      · rcases h5 with ⟨_, h6, h7 | ⟨c, e, h7, _⟩⟩ | ⟨_, h6, _, h7 | ⟨c, e, h7, _⟩⟩
        · rw [h7] at h4; omega
        · exact .inl ⟨_, _, _, h7⟩
        · rw [h7] at h4; omega
        · exact .inl ⟨_, _, _, h7⟩
theorem G.mine_loop {X : Cx} {h : Heap C} {nx : Nat} {lim : Lim} (g : G T X h nx lim) {b o : Nat} (hm : X.mine b o) {r : Loop} : X.w.heap[b]? ≠ some (.loop r) := by
  rcases g.mine_kind hm with ⟨_, _, _, e⟩ | ⟨_, _, e⟩ <;> rw [e] <;> intro h <;> cases h
theorem Marks.of_g {X Xa Xb X2 : Cx} {h : Heap C} {nx : Nat} {lim : Lim} (g : G T X2 h nx lim) {d d0 : List Deferred} (k : Marks Xa Xb d d0) (ha : X.w.heap.size ≤ Xa.w.heap.size) (hb : X2.w = Xb.w) : Marks X X2 d d0 := by
  obtain ⟨rs, rfl, n1, h1⟩ := k
  refine ⟨rs, rfl, n1, fun r hr => ?_⟩
  obtain ⟨q1, q2, _⟩ := h1 r hr
  rw [← hb] at q2
  refine ⟨Nat.le_trans ha q1, q2, fun o ho => ?_⟩
  rcases g.mine_kind ho with ⟨_, _, _, e⟩ | ⟨_, _, e⟩ <;> rw [e] at q2 <;> cases q2
theorem Marks.since {X X1 X2 : Cx} {nx : Nat} {lim : Lim} {d d' : List Deferred} (s : Step X nx lim X1) (k : Marks X1 X2 d' d) : Marks X X2 d' d := by
  obtain ⟨r2, rfl, n2, h2⟩ := k
  exact ⟨r2, rfl, n2, fun r hr => ⟨Nat.le_trans s.size (h2 r hr).1, (h2 r hr).2⟩⟩
theorem leaves_marks (K : PLaws P T) {fn : Func} {tmps : Array Value} {R : Ending → World → Prop} {n : Nat} {X0 : Cx} {nx0 : Nat} {h : Heap C} {nx : Nat} {lim : Lim} {env : Env C} : ∀ (rs : List Nat) (X : Cx), rs.Nodup → (∀ r ∈ rs, X0.w.heap.size ≤ r ∧ X.w.heap[r]? = some (.deferred (some [])) ∧ ∀ o, ¬ X.mine r o) →
    G T X h nx lim → Step X0 nx0 lim X → (∀ t, RO T X nx lim (eget env t) (tmps.getD t undef)) →
    (∀ X', G T X' h nx lim → Step X0 nx0 lim X' → (∀ t, RO T X' nx lim (eget env t) (tmps.getD t undef)) → ∃ v, (results fn tmps).run P X'.w = .ok v X'.w ∧ R (.returned v) X'.w) →
    LeavesInM Fence.wide n P fn tmps R (rs.map markOf) .returning X.w := by
  intro rs
  induction rs with
  | nil => intro X _ _ g s he hk; exact hk X g s he
  | cons r rs ih =>
    intro X hn hr g s he hk
    obtain ⟨q1, q2, q3⟩ := hr r (by simp)
    obtain ⟨hn1, hn2⟩ := List.nodup_cons.1 hn
    have t : Turn1 X r (X.w.putObj r (.deferred none)) := putObj_turn q2 (fun c t f h => by cases h) q3
    refine ⟨by simp, .inl ⟨r, X.w.putObj r (.deferred none), rfl, run_takeDeferred q2, ?_⟩⟩
    have hkp : Kps X ⟨X.w.putObj r (.deferred none), X.ρ, X.O⟩ := ⟨t.cell, fun l rc hl hm => ⟨(t.block l (by rintro rfl; rw [q2] at hl; cases hl)).trans hl, hm⟩⟩
    refine ih ⟨X.w.putObj r (.deferred none), X.ρ, X.O⟩ hn2 (fun r' hr' => ?_) (g.turn K.base t) (s.turn t q1) (fun u => ⟨(he u).1.mono T K.base.encOK hkp fun id _ => Compat.refl _, (he u).2⟩) hk
    obtain ⟨p1, p2, p3⟩ := hr r' (by simp [hr'])
    exact ⟨p1, (t.block r' (by rintro rfl; exact hn1 hr')).trans p2, p3⟩
end
section
variable {C : Cdc} {P : Program} {T : Tab C} {Φ : Fns C}
open Pg (Ex)
def exitX : Ev.X → Exit
  | .normal => .normal
  | .exit id => .exit id
  | .ret => .ret
def loops : Code → List Code
  | .seq a b => loops a ++ loops b
  | .cond _ a b => loops a ++ loops b
  | .block _ a => loops a
  | .loop a => a :: loops a
  | _ => []
theorem opsB_spec {nt : Nat} {ops : Array Oper} (h : opsB nt ops = true) : ∀ o ∈ ops.toList, ∀ t, o.dst = some t → t < nt := by
  intro o ho t ht
  simp only [opsB, List.all_eq_true] at h
  have := h o ho
  rw [ht] at this
  simpa [Nat.blt_eq] using this
theorem drawB_spec {ops : Array Oper} (h : drawB ops = true) : DrawOK ops := by
  simp only [drawB, List.all_eq_true, Bool.and_eq_true] at h
  have mem : ∀ i o, ops[i]? = some o → (o, i) ∈ ops.toList.zipIdx := by
    intro i o hi
    rw [List.mem_zipIdx_iff_getElem?]
    rw [Array.getElem?_toList]; exact hi
  refine ⟨fun i o hi e he hb => ?_, fun i j oi oj hij hi hj => ?_⟩
  · have := (h (o, i) (mem i o hi)).1 e (by simpa using he)
    simpa [hb, Nat.blt_eq] using this
  · have := (h (oi, i) (mem i oi hi)).2 (oj, j) (mem j oj hj)
    simp only [Bool.or_eq_true, Bool.not_eq_true'] at this
    rcases this with (h1 | h1) | h1
    · have h2 : Nat.blt i j = true := by rw [Nat.blt_eq]; exact hij
      rw [h2] at h1; cases h1
    · exact .inl h1
    · exact .inr h1
def ClearC (B : Nat → Bool) (c : Code) : Prop := ∀ t ∈ asgL c, B t = false
def CPost (T : Tab C) (B : Nat → Bool) (X : Cx) (nx : Nat) (lim : Lim) (h' : Heap C) (nx' : Nat) (env' : Env C) (a : Act) (Q : Act → World → Prop) : Prop :=
  ∀ a' X', G T X' h' nx' lim → Step X nx lim X' → EnvOK T X' nx' lim env' a'.tmps → a'.tmps.size = a.tmps.size → Marks X X' a'.defers a.defers → Kp B a.tmps a'.tmps → Q a' X'.w
def BareLaw (P : Program) (T : Tab C) (g : FuncId) (args : List (D C)) (d : D C) : Prop :=
  ∀ (w : World) (O : Nat → Nat → Prop) (vs : List Value), (∀ b o, O b o → b < w.heap.size) → (∀ p ∈ T.pre, ∃ t f, w.heap[p.1]? = some (.cells p.2 t f)) → RVs T ⟨w, fun _ => none, O⟩ args vs →
    (callFunc g ⟨vs⟩).run P w = .ok (.enter g ⟨vs⟩) w ∧ Calls P g ⟨vs⟩ w fun en w' =>
      ∃ v ρ, en = .returned v ∧ RV T ⟨w', ρ, O⟩ d v ∧ (d.refs = [] ∧ d.noYl = true) ∧ w.heap.size ≤ w'.heap.size ∧ (∀ b, b < w.heap.size → w'.heap[b]? = w.heap[b]?) ∧ w'.os = w.os ∧ w'.tape = w.tape ∧ w'.output = w.output ∧ (∀ a : Addr, a.block < w.heap.size → w'.frozen? a = w.frozen? a)
theorem BareLaw.call (K : PLaws P T) {g : FuncId} {args : List (D C)} {d : D C} (hb : BareLaw P T g args d) (hargs : ∀ a ∈ args, D.refs a = []) {X : Cx} {hp : Heap C} {nx : Nat} {lim : Lim} {vs : List Value} (g0 : G T X hp nx lim) (hvs : RVs T X args vs) :
    (callFunc g ⟨vs⟩).run P X.w = .ok (.enter g ⟨vs⟩) X.w ∧ Calls P g ⟨vs⟩ X.w (CallPost T X nx lim hp nx d) := by
  have hkeep : Kps X ⟨X.w, fun _ => none, fun b o => X.O b o ∨ X.mine b o⟩ :=
    ⟨fun b o v hc hf => ⟨hc, fun h => h.elim hf.1 hf.2, fun ⟨_, _, hq, _⟩ => by simp at hq⟩, fun l r hl _ => ⟨hl, fun o ⟨_, _, hq, _⟩ => by simp at hq⟩⟩
  have hvs0 : RVs T ⟨X.w, fun _ => none, fun b o => X.O b o ∨ X.mine b o⟩ args vs := by
    clear hb
    induction hvs with
    | nil => exact .nil
    | @cons d ds v vs hv _ ih =>
      refine .cons (hv.mono T K.base.encOK (X' := ⟨X.w, fun _ => none, fun b o => X.O b o ∨ X.mine b o⟩) hkeep fun id hi => ?_) (ih fun a ha => hargs a (by simp [ha]))
      rw [hargs d (by simp)] at hi; simp at hi
  obtain ⟨q1, q2⟩ := hb X.w (fun b o => X.O b o ∨ X.mine b o) vs (fun b o ho => ho.elim (g0.outs b o) fun hm => (g0.outer b o hm).2) (fun p hp => (g0.pre p hp).1) hvs0
  refine ⟨q1, q2.mono fun en w' hpp => ?_⟩
  obtain ⟨v, ρ, rfl, r, hd, a1, a2, a3, a4, a5, a6⟩ := hpp
  obtain ⟨g', s'⟩ := g0.grow K.base w' a1 a2 a3 a4 a5 a6
  refine ⟨v, ⟨w', X.ρ, X.O⟩, rfl, rfl, g', s', ?_, by rw [hd.1]; simp⟩
  exact RV.monoE T K.base (X := ⟨w', ρ, fun b o => X.O b o ∨ X.mine b o⟩) (X' := ⟨w', X.ρ, X.O⟩) (fun b o u hc hf => ⟨hc, fun ho => hf.1 (Or.inl ho), fun hm => hf.1 (Or.inr hm)⟩) r hd
theorem R.plain {X X' : Cx} {m : Bool} {d : D C} {vs : List Value} (h : R T X m d vs) : d.plain = true → R T X' m d vs := by
  induction h with
  | bool b => exact fun _ => .bool b
  | int h => exact fun _ => .int h
  | str s => exact fun _ => .str s
  | anil => exact fun _ => .anil
  | acons _ _ i1 i2 => intro hp; simp only [D.plain, Bool.and_eq_true] at hp; exact .acons (i1 hp.1) (i2 hp.2)
  | nils => exact fun _ => .nils
  | nilp => exact fun _ => .nilp
  | nilfn => exact fun _ => .nilfn
  | nilm => exact fun _ => .nilm
  | tup _ ih => intro hp; exact .tup (ih hp)
  | vnil => exact fun _ => .vnil
  | vrow _ hr _ i1 i2 => intro hp; simp only [D.plain, Bool.and_eq_true] at hp; exact .vrow (i1 hp.1) hr (i2 hp.2)
  | vone _ hr _ i1 i2 => intro hp; simp only [D.plain, Bool.and_eq_true] at hp; exact .vone (i1 hp.1) hr (i2 hp.2)
  | _ => intro hp; simp [D.plain] at hp
theorem RV.plain {X X' : Cx} {d : D C} {v : Value} (h : RV T X d v) (hp : d.plain = true) : RV T X' d v := by
  rcases h with ⟨h1, cs, h2, h3⟩ | ⟨h1, h2⟩
  · exact .inl ⟨h1, cs, h2.plain hp, h3⟩
  · exact .inr ⟨h1, h2.plain hp⟩
def Cx.bare (X : Cx) : Cx := ⟨X.w, fun _ => none, X.O⟩
theorem Cx.bare_keep (X : Cx) : ∀ b o v, X.w.cell? ⟨b, o, none⟩ = some v → X.free b o → X.bare.w.cell? ⟨b, o, none⟩ = some v ∧ X.bare.free b o :=
  fun b o v hc hf => ⟨hc, hf.1, fun ⟨_, _, hq, _⟩ => by simp [Cx.bare] at hq⟩
theorem lend_vs (K : PLaws P T) {X : Cx} {h h' : Heap C} {nx nx' : Nat} {e : Pg.Lv} {lim : Lim} {tr : Tr} {id n : Nat} {d' : D C} {v : Value} (g : G T X h nx lim) (hr : R T X false (.vs id n) [v])
    (hx : Ex e (lendD (.vs id n)) h nx d' h' nx' tr) : h' = h ∧ nx' = nx ∧ R T X.bare false d' [v] ∧ d'.isRow = false := by
  simp only [lendD] at hx
  obtain ⟨o, t', ho, hx, _⟩ := Ex.rd hx
  cases o with
  | var t d => exact (Ex.fail hx).elim
  | map _ _ _ => exact (Ex.fail hx).elim
  | vec ty own l =>
    rcases Ex.br hx with ⟨hb, hx⟩ | ⟨hb, hx⟩
    · obtain ⟨rfl, rfl, rfl, rfl⟩ := Ex.ret hx
      have hn : n = l.length := Nat.eq_of_beq_eq_true hb
      obtain ⟨v0, b, lo, hi, h1, h2⟩ := g.vec id ty own l ho
      have hlen := h2.len
      refine ⟨rfl, rfl, ?_, rfl⟩
      cases hr with
      | @vs _ _ cp a hh =>
        have hv := (hh _ _ _ _ _ h1).2 (by rw [hlen, hn])
        rcases h2 with ⟨⟨a0, h2, _⟩, rfl, _⟩ | ⟨off, cp', h2, h3, h4, h5⟩
        · rw [h2] at hv
          simp only [Value.slice.injEq] at hv
          obtain ⟨_, e1, e2⟩ := hv
          rw [← e1, ← e2]
          exact .sl0 ty false a
        · rw [h2] at hv
          simp only [Value.slice.injEq] at hv
          obtain ⟨rfl, rfl, rfl⟩ := hv
          have hR : ∀ cs, R T X false (.arr ty l.length l) cs → R T X.bare false (.arr ty l.length l) cs := fun cs hr => hr.monoE T K.base X.bare_keep ⟨rfl, rfl⟩
          rcases h5 with ⟨_, hlo, h5⟩ | ⟨_, hlo, ⟨cs, h5, h6⟩, _⟩
          · rcases h5 with h5 | ⟨c, ce, h5, h6, h7⟩
            · have hl0 : l = [] := List.length_eq_zero_iff.1 (by omega)
              subst hl0
              exact .sl (cs := []) (fun j u hj => by simp at hj) (.arr0 _) h3 (fun h => by cases h)
            · refine .sl (cs := (c.toList.drop off).take (l.length * T.size (T.ety ty))) (fun j u hj => ?_) (hR _ h7) h3 (fun h => by cases h)
              have hlt : j < l.length * T.size (T.ety ty) := by
                have := (List.getElem?_eq_some_iff.1 hj).1
                rw [List.length_take] at this; omega
              have hmul : l.length * T.size (T.ety ty) ≤ cp' * T.size (T.ety ty) := Nat.mul_le_mul_right _ h3
              refine ⟨?_, (g.outer b (off + j) ⟨id, _, h1, rfl, by omega, by omega⟩).1, fun ⟨_, _, hq, _⟩ => by simp [Cx.bare] at hq⟩
              rw [List.getElem?_take_of_lt hlt, List.getElem?_drop] at hj
              show X.w.cell? _ = _
              simp only [World.cell?, h5]
              rw [← hj]; simp
          · exact .sl (cs := cs) (fun j u hj => X.bare_keep _ _ _ (h5 j u hj).1 (h5 j u hj).2) (hR _ h6) h3 (fun h => by cases h)
    · exact (Ex.fail hx).elim
theorem lend_ok (K : PLaws P T) : ∀ (d : D C) {m : Bool} {vs : List Value} {X : Cx} {h h' : Heap C} {nx nx' : Nat} {e : Pg.Lv} {lim : Lim} {tr : Tr} {d' : D C}, G T X h nx lim → R T X m d vs → Ex e (lendD d) h nx d' h' nx' tr →
    h' = h ∧ nx' = nx ∧ d'.isRow = d.isRow ∧ (d'.refs = [] → d'.noYl = true → R T X.bare m d' vs) := by
  intro d
  have same : ∀ (d0 : D C), lendD d0 = .ret d0 → ∀ {m : Bool} {vs : List Value} {X : Cx} {h h' : Heap C} {nx nx' : Nat} {e : Pg.Lv} {lim : Lim} {tr : Tr} {d' : D C}, G T X h nx lim → R T X m d0 vs → Ex e (lendD d0) h nx d' h' nx' tr →
      h' = h ∧ nx' = nx ∧ d'.isRow = d0.isRow ∧ (d'.refs = [] → d'.noYl = true → R T X.bare m d' vs) := by
    intro d0 hd m vs X h h' nx nx' e lim tr d' g hr hx
    rw [hd] at hx
    obtain ⟨rfl, rfl, rfl, rfl⟩ := Ex.ret hx
    exact ⟨rfl, rfl, rfl, fun h1 h2 => hr.monoE T K.base X.bare_keep ⟨h1, h2⟩⟩
  induction d with
  | acons d ds i1 i2 =>
    intro m vs X h h' nx nx' e lim tr d' g hr hx
    simp only [lendD] at hx
    obtain ⟨d1, h1, n1, t1, t2, q1, hx, _⟩ := Ex.bind hx
    obtain ⟨d2, h2, n2, t3, t4, q2, hx, _⟩ := Ex.bind hx
    obtain ⟨rfl, rfl, rfl, rfl⟩ := Ex.ret hx
    have hsplit : ∀ (a b : D C), (D.acons a b).refs = [] → a.refs = [] ∧ b.refs = [] := fun a b h => by simpa [D.refs] using h
    cases hr with
    | acons r1 r2 =>
      obtain ⟨rfl, rfl, _, k1⟩ := i1 g r1 q1
      obtain ⟨rfl, rfl, _, k2⟩ := i2 g r2 q2
      refine ⟨rfl, rfl, rfl, fun h1 h2 => ?_⟩
      simp only [D.noYl, Bool.and_eq_true] at h2
      exact .acons (k1 (hsplit _ _ h1).1 h2.1) (k2 (hsplit _ _ h1).2 h2.2)
    | vrow r1 hrow r2 =>
      obtain ⟨rfl, rfl, e1, k1⟩ := i1 g r1 q1
      obtain ⟨rfl, rfl, _, k2⟩ := i2 g r2 q2
      refine ⟨rfl, rfl, rfl, fun h1 h2 => ?_⟩
      simp only [D.noYl, Bool.and_eq_true] at h2
      exact .vrow (k1 (hsplit _ _ h1).1 h2.1) (by rw [e1]; exact hrow) (k2 (hsplit _ _ h1).2 h2.2)
    | vone r1 hrow r2 =>
      obtain ⟨rfl, rfl, e1, k1⟩ := i1 g r1 q1
      obtain ⟨rfl, rfl, _, k2⟩ := i2 g r2 q2
      refine ⟨rfl, rfl, rfl, fun h1 h2 => ?_⟩
      simp only [D.noYl, Bool.and_eq_true] at h2
      exact .vone (k1 (hsplit _ _ h1).1 h2.1) (by rw [e1]; exact hrow) (k2 (hsplit _ _ h1).2 h2.2)
  | tup d ih =>
    intro m vs X h h' nx nx' e lim tr d' g hr hx
    simp only [lendD] at hx
    obtain ⟨d1, h1, n1, t1, t2, q1, hx, _⟩ := Ex.bind hx
    obtain ⟨rfl, rfl, rfl, rfl⟩ := Ex.ret hx
    cases hr with
    | tup r1 =>
      obtain ⟨rfl, rfl, _, k1⟩ := ih g r1 q1
      exact ⟨rfl, rfl, rfl, fun h1 h2 => .tup (k1 h1 h2)⟩
  | vs id n =>
    intro m vs X h h' nx nx' e lim tr d' g hr hx
    have hm : m = false := by cases hr; rfl
    subst hm
    have hv : ∃ v, vs = [v] := by cases hr; exact ⟨_, rfl⟩
    obtain ⟨v, rfl⟩ := hv
    obtain ⟨rfl, rfl, k1, k2⟩ := lend_vs K g hr hx
    exact ⟨rfl, rfl, by rw [k2]; rfl, fun _ _ => k1⟩
  | asl ta id p lo n =>
    intro m vs X h h' nx nx' e lim tr d' g hr hx
    have hm : m = false := by cases hr; rfl
    subst hm
    simp only [lendD] at hx
    obtain ⟨o, t', ho, hx, _⟩ := Ex.rd hx
    cases o with
    | var t d => exact (Ex.fail hx).elim
    | map _ _ _ => exact (Ex.fail hx).elim
    | vec ty own l =>
      rcases Ex.br hx with ⟨hb, hx⟩ | ⟨hb, hx⟩
      · obtain ⟨rfl, rfl, rfl, rfl⟩ := Ex.ret hx
        simp only [Bool.and_eq_true, Nat.beq_eq] at hb
        obtain ⟨hn, hlo⟩ := hb
        have hlo := Nat.le_of_ble_eq_true hlo
        obtain ⟨v0, b, lo', hi', h1, h2⟩ := g.vec id ty own l ho
        have hlen := h2.len
        refine ⟨rfl, rfl, rfl, fun _ _ => ?_⟩
        cases hr with
        | @asl _ _ _ _ cp _ ao hq hs hw =>
          obtain ⟨k1, k2⟩ := hw _ _ _ _ _ h1
          obtain ⟨a0, cp0, k3, k4, k5, k6⟩ := k2 (by rw [hlen, hn])
          subst k3 k4 k5 k6
          have hrv : R T X false (.vs id (p.getD 0 0)) [.slice a0 (p.getD 0 0) cp0] := .vs fun v e b' lo2 hi2 h5 => by
            rw [h1] at h5
            cases h5
            exact ⟨by simp [lenV], fun _ => rfl⟩
          have hex : Ex (0, 0) (lendD (.vs id (p.getD 0 0))) h' nx' (.sl ty false l) h' nx' ([] ++ [(id, false)]) := by
            simp only [lendD]
            refine Ex.rd_mk ho ?_
            simp only [hn]
            exact Ex.mk_br (.inl ⟨by simp, Ex.mk_ret _⟩)
          exact (lend_vs K g hrv hex).2.2.1.dropSl K.base lo (by omega)
      · exact (Ex.fail hx).elim
  | _ => exact same _ rfl
theorem lendL_ok (K : PLaws P T) : ∀ (args : List (D C)) {vs : List Value} {X : Cx} {h h' : Heap C} {nx nx' : Nat} {e : Pg.Lv} {lim : Lim} {tr : Tr} {args' : List (D C)}, G T X h nx lim → RVs T X args vs → Ex e (lendL args) h nx args' h' nx' tr →
    h' = h ∧ nx' = nx ∧ ((∀ a ∈ args', D.refs a = []) → (∀ a ∈ args', D.noYl a = true) → RVs T X.bare args' vs)
  | [], vs, X, h, h', nx, nx', e, lim, tr, args', g, hr, hx => by
    obtain ⟨rfl, rfl, rfl, rfl⟩ := Ex.ret hx
    cases hr
    exact ⟨rfl, rfl, fun _ _ => .nil⟩
  | d :: ds, vs, X, h, h', nx, nx', e, lim, tr, args', g, hr, hx => by
    simp only [lendL] at hx
    obtain ⟨d1, h1, n1, t1, t2, q1, hx, _⟩ := Ex.bind hx
    obtain ⟨d2, h2, n2, t3, t4, q2, hx, _⟩ := Ex.bind hx
    obtain ⟨rfl, rfl, rfl, rfl⟩ := Ex.ret hx
    cases hr with
    | @cons _ _ v vs' rv rs =>
      have key : h1 = h ∧ n1 = nx ∧ (d1.refs = [] → d1.noYl = true → RV T X.bare d1 v) := by
        rcases rv with ⟨i1, cs, r1, rfl⟩ | ⟨i1, r1⟩
        · obtain ⟨a, b, c, k⟩ := lend_ok K d g r1 q1
          exact ⟨a, b, fun u1 u2 => .inl ⟨by rw [c]; exact i1, cs, k u1 u2, rfl⟩⟩
        · obtain ⟨a, b, c, k⟩ := lend_ok K d g r1 q1
          exact ⟨a, b, fun u1 u2 => .inr ⟨by rw [c]; exact i1, k u1 u2⟩⟩
      obtain ⟨rfl, rfl, k1⟩ := key
      obtain ⟨rfl, rfl, k2⟩ := lendL_ok K ds g rs q2
      exact ⟨rfl, rfl, fun h1 h2 => .cons (k1 (h1 _ (by simp)) (h2 _ (by simp))) (k2 (fun a ha => h1 a (by simp [ha])) (fun a ha => h2 a (by simp [ha])))⟩
structure FLaws (P : Program) (T : Tab C) (Φ : Fns C) : Prop where
  fn : ∀ f fn, Φ.fn f = some fn → P.funcs[f]? = some fn ∧ (fn.name == "runtime.NumGoroutine") = false ∧ ∀ body, fn.body = some body → codeB fn.ntmps body = true
  spec : ∀ g s args d, Φ.spec g = some s → s args = some (true, d) → (∀ a ∈ args, D.refs a = []) ∧ BareLaw P T g args d
  ospec : ∀ g s, Φ.ospec g = some s → ∀ args vs X h nx lim e d h' nx' tr, G T X h nx lim → RVs T X args vs → (∀ a ∈ args, ∀ id ∈ D.refs a, old nx lim id) → nx' ≤ lim.top → Ex e (s args) h nx d h' nx' tr →
    (callFunc g ⟨vs⟩).run P X.w = .ok (.enter g ⟨vs⟩) X.w ∧ Calls P g ⟨vs⟩ X.w (CallPost T X nx lim h' nx' d)
  loop : ∀ f fn body b s, Φ.fn f = some fn → fn.body = some body → b ∈ loops body → Φ.loop f (firstRegion b) = some s → ∀ B, ClearC B b → ∀ X h nx lim e env x env' h' nx' tr a Q, G T X h nx lim → EnvOK T X nx lim env a.tmps → nx' ≤ lim.top → fn.ntmps ≤ a.tmps.size →
    Ex e (s env) h nx (x, env') h' nx' tr → CPost T B X nx lim h' nx' env' a (Q (exitX x)) → (Code.loop b).wp P Q a X.w
theorem eget_app : ∀ (env env' : Env C) (t : Nat), eget (env ++ env') t = eget env t ∨ eget (env ++ env') t = eget env' t
  | [], env', t => .inr rfl
  | (j, d) :: r, env', t => by
    rw [List.cons_append, eget_cons, eget_cons]
    split
    · exact .inl rfl
    · exact eget_app r env' t
theorem keepE_in {l : List Nat} {t : Nat} (h : l.any (Nat.beq t) = true) : ∀ env : Env C, eget (keepE l env) t = .top
  | [] => rfl
  | (j, d) :: r => by
    rw [keepE]
    cases hj : l.any (Nat.beq j) with
    | true => exact keepE_in h r
    | false =>
      simp only [cond_false]
      rw [eget_cons]
      have : t ≠ j := fun e => by rw [e, hj] at h; cases h
      simp only [this, if_false]
      exact keepE_in h r
theorem keepE_out {l : List Nat} {t : Nat} (h : l.any (Nat.beq t) = false) : ∀ env : Env C, eget (keepE l env) t = eget env t
  | [] => rfl
  | (j, d) :: r => by
    rw [keepE, eget_cons]
    cases hj : l.any (Nat.beq j) with
    | true =>
      have : t ≠ j := fun e => by rw [e, hj] at h; cases h
      simp only [this, if_false, cond_true]
      exact keepE_out h r
    | false =>
      simp only [cond_false]
      rw [eget_cons, keepE_out h r]
theorem EnvOK.cons_same {X : Cx} {nx : Nat} {lim : Lim} {env : Env C} {tmps : Array Value} {t : Nat} {d : D C} (he : EnvOK T X nx lim env tmps) (hd : eget env t = d) : EnvOK T X nx lim ((t, d) :: env) tmps := by
  intro u
  rw [eget_cons]
  by_cases hu : u = t
  · subst hu; simp only [if_true]; rw [← hd]; exact he u
  · simp only [hu, if_false]; exact he u
theorem mrgD_eq {b : Bool} : ∀ (x y d : D C), mrgD b x y = some d → d = bif b then x else y := by
  intro x
  induction x with
  | acons x xs i1 i2 =>
    intro y d h
    cases y with
    | acons y ys =>
      simp only [mrgD] at h
      cases h1 : mrgD b x y with
      | none => simp [h1] at h
      | some d1 =>
        cases h2 : mrgD b xs ys with
        | none => simp [h1, h2] at h
        | some d2 =>
          simp only [h1, h2, Option.some.injEq] at h
          rw [← h, i1 _ _ h1, i2 _ _ h2]
          cases b <;> rfl
    | _ => simp [mrgD] at h
  | sl t c l =>
    intro y d h
    cases y with
    | sl t' c' l' =>
      simp only [mrgD] at h
      split at h
      · rename_i e
        subst e
        simp only [Option.some.injEq] at h
        rw [← h]; cases b <;> rfl
      · cases h
    | _ => simp [mrgD] at h
  | arr t n l =>
    intro y d h
    cases y with
    | arr t' n' l' =>
      simp only [mrgD] at h
      split at h
      · rename_i e
        subst e
        split at h
        · rename_i e
          subst e
          simp only [Option.some.injEq] at h
          rw [← h]; cases b <;> rfl
        · cases h
      · cases h
    | _ => simp [mrgD] at h
  | tup ds i =>
    intro y d h
    cases y with
    | tup es => cases ds <;> cases es <;> simp [mrgD] at h; rw [← h]; cases b <;> rfl
    | _ => cases ds <;> simp [mrgD] at h
  | int k n =>
    intro y d h
    cases y with
    | int k' n' =>
      simp only [mrgD] at h
      split at h
      · rename_i e
        subst e
        simp only [Option.some.injEq] at h
        rw [← h]; cases b <;> rfl
      · cases h
    | _ => simp [mrgD] at h
  | _ => intro y d h; cases y <;> simp [mrgD] at h <;> rw [← h] <;> cases b <;> rfl
theorem mrgT_ok {X : Cx} {nx : Nat} {lim : Lim} {b : Bool} {x y d : D C} {v : Value} (h : mrgT b x y = some d) (hx : RO T X nx lim (bif b then x else y) v) : RO T X nx lim d v := by
  have key : d = .top ∨ mrgD b x y = some d := by
    unfold mrgT at h
    split at h
    · left; simpa using h.symm
    · left; simpa using h.symm
    · right; exact h
  rcases key with rfl | key
  · exact RO.mk (RV.top _ _ _) rfl
  · rw [mrgD_eq _ _ _ key]; exact hx
theorem mrgE_get {b : Bool} {x y env : Env C} {t : Nat} : ∀ {l : List Nat} {r : Env C}, mrgE b x y l = some r → (l.any (Nat.beq t) = true ∧ mrgT b (eget x t) (eget y t) = some (eget (r ++ env) t)) ∨ (l.any (Nat.beq t) = false ∧ eget (r ++ env) t = eget env t)
  | [], r, h => by simp [mrgE] at h; subst h; exact .inr ⟨rfl, rfl⟩
  | u :: l, r, h => by
    simp only [mrgE] at h
    cases h1 : mrgT b (eget x u) (eget y u) with
    | none => simp [h1] at h
    | some d =>
      cases h2 : mrgE b x y l with
      | none => simp [h1, h2] at h
      | some r' =>
        simp only [h1, h2, Option.some.injEq] at h
        subst h
        rw [List.cons_append, eget_cons]
        by_cases hu : t = u
        · subst hu
          left
          simp [h1]
        · have hb : Nat.beq t u = false := by cases hq : Nat.beq t u with
            | false => rfl
            | true => exact (hu (Nat.eq_of_beq_eq_true hq)).elim
          simp only [hu, if_false, List.any_cons, hb, Bool.false_or]
          exact mrgE_get h2
theorem mrgC_cases (m : Option (List Nat)) (env : Env C) (b : Bool) (p q : Pg C (Ev.X × Env C)) :
    mrgC m env b p q = .br b p q ∨ ∃ l x y r, p = .ret (.normal, x) ∧ q = .ret (.normal, y) ∧ mrgE b x y l = some r ∧ m = some l ∧ mrgC m env b p q = .ret (.normal, r ++ env) := by
  unfold mrgC
  cases m with
  | none => exact .inl rfl
  | some l =>
    simp only
    split
    · rename_i x y
      split
      · rename_i r hr
        exact .inr ⟨l, x, y, r, rfl, rfl, hr, rfl, rfl⟩
      · exact .inl rfl
    · exact .inl rfl
theorem okL {ro : Option Nat} {Φ : Fns C} {f nt : Nat} {c c1 : Code} (h : flatB c = true ∨ ro = none ∧ ∃ fn body, Φ.fn f = some fn ∧ nt = fn.ntmps ∧ fn.body = some body ∧ ∀ b ∈ loops c, b ∈ loops body) (h1 : flatB c = true → flatB c1 = true) (h2 : ∀ b ∈ loops c1, b ∈ loops c) :
    flatB c1 = true ∨ ro = none ∧ ∃ fn body, Φ.fn f = some fn ∧ nt = fn.ntmps ∧ fn.body = some body ∧ ∀ b ∈ loops c1, b ∈ loops body := by
  rcases h with h | ⟨h, fn, body, h3, h4, h5, h6⟩
  · exact .inl (h1 h)
  · exact .inr ⟨h, fn, body, h3, h4, h5, fun b hb => h6 b (h2 b hb)⟩
def CodeOK (P : Program) (T : Tab C) (Φ : Fns C) (n : Nat) : Prop := ∀ ro m f nt code, (flatB code = true ∨ ro = none ∧ ∃ fn body, Φ.fn f = some fn ∧ nt = fn.ntmps ∧ fn.body = some body ∧ ∀ b ∈ loops code, b ∈ loops body) → codeB nt code = true → ∀ B, ClearC B code →
  ∀ X h nx lim e env x env' h' nx' tr a Q, G T X h nx lim → EnvOK T X nx lim env a.tmps → nx' ≤ lim.top → nt ≤ a.tmps.size → Ex e (evC T Φ n f code env) h nx (x, env') h' nx' tr → CPost T B X nx lim h' nx' env' a (Q (exitX x)) → code.wpIn (roF ro) m P Q a X.w
def RoundsOK (P : Program) (T : Tab C) (Φ : Fns C) (n : Nat) : Prop := ∀ f fn body b, Φ.fn f = some fn → fn.body = some body → codeB fn.ntmps (.loop b) = true → (∀ b' ∈ loops (.loop b), b' ∈ loops body) → Φ.loop f (firstRegion b) = none → ∀ B, ClearC B b →
  ∀ X h nx lim e env x env' h' nx' tr a Q, G T X h nx lim → EnvOK T X nx lim env a.tmps → nx' ≤ lim.top → fn.ntmps ≤ a.tmps.size → Ex e (evC T Φ n f (.loop b) env) h nx (x, env') h' nx' tr → CPost T B X nx lim h' nx' env' a (Q (exitX x)) → Code.rounds P b Q n a X.w
variable (K : PLaws P T) (F : FLaws P T Φ)
def FunOK (P : Program) (T : Tab C) (call : FuncId → List (D C) → Pg C (D C)) : Prop :=
  ∀ f args vs X h nx lim e d h' nx' tr, G T X h nx lim → RVs T X args vs → (∀ a ∈ args, ∀ id ∈ D.refs a, old nx lim id) → nx' ≤ lim.top → Ex e (call f args) h nx d h' nx' tr →
    (callFunc f ⟨vs⟩).run P X.w = .ok (.enter f ⟨vs⟩) X.w ∧ Calls P f ⟨vs⟩ X.w (CallPost T X nx lim h' nx' d)
theorem eargs_get : ∀ (l : List (D C)) (n t : Nat), eget (eargs n l) t = if n ≤ t then l.getD (t - n) .top else .top := by
  intro l
  induction l with
  | nil => intro n t; simp [eargs, eget]
  | cons d l ih =>
    intro n t
    rw [eargs, eget_cons, ih]
    by_cases h1 : t = n
    · subst h1; simp
    · by_cases h2 : n ≤ t
      · have h3 : n + 1 ≤ t := by omega
        have h4 : t - n = (t - (n + 1)) + 1 := by omega
        simp [h1, h2, h3, h4]
      · have h3 : ¬ n + 1 ≤ t := by omega
        simp [h1, h2, h3]
theorem RVs.get {X : Cx} {ds : List (D C)} {vs : List Value} (h : RVs T X ds vs) : ∀ t, RV T X (ds.getD t .top) (vs.getD t undef) := by
  induction h with
  | nil => intro t; simp; exact RV.top _ _ _
  | cons h _ ih => intro t; cases t with
    | zero => simpa using h
    | succ t => simpa using ih t
theorem RVs.mono' {X X' : Cx} {nx : Nat} {lim : Lim} (L : Laws T) (s : Step X nx lim X') {ds : List (D C)} {vs : List Value} (h : RVs T X ds vs) : (∀ d ∈ ds, ∀ id ∈ D.refs d, old nx lim id) → RVs T X' ds vs := by
  induction h with
  | nil => intro _; exact .nil
  | cons h _ ih =>
    intro ho
    exact .cons (RO.step L s (nx' := nx) ⟨h, ho _ (by simp)⟩ (Nat.le_refl _)).1 (ih fun d hd => ho d (by simp [hd]))
def oneD : List (D C) → D C
  | [] => .tup .anil
  | [d] => d
  | d :: e :: l => .tup (D.ofList (d :: e :: l))
theorem outD_eq (f : FuncId) (n0 : Nat) (env : Env C) (rs : List ResultVar) : outD T Φ f n0 env rs =
    .bind (resultD T env rs) fun l => bif Φ.keeps f then .ret (oneD l) else .bind (frz (oneD l)) fun d => .gc n0 d.refs (.ret d) := by
  unfold outD
  congr 1
  funext l
  match l with
  | [] => rfl
  | [_] => rfl
  | _ :: _ :: _ => rfl
theorem oneD_ok {X : Cx} {nx : Nat} {lim : Lim} : ∀ {l : List (D C)} {us : List Value}, RVs T X l us → (∀ d ∈ l, ∀ id ∈ D.refs d, old nx lim id) → RO T X nx lim (oneD l) (if h : us.toArray.size = 1 then us.toArray[0] else .tuple us.toArray)
  | [], [], _, _ => RO.mk (.mk rfl (.tup .vnil)) rfl
  | [d1], [u1], .cons r2 _, r3 => ⟨r2, r3 d1 (by simp)⟩
  | d1 :: d2 :: l, u1 :: u2 :: us, r2, r3 => by
    refine ⟨.mk rfl ?_, fun id hid => ?_⟩
    · have hne : ¬ (u1 :: u2 :: us).toArray.size = 1 := by simp
      simp only [hne, dif_neg, not_false_eq_true]
      exact .tup r2.row
    · obtain ⟨q, hq, hi⟩ := refs_ofList _ id (by simpa [D.refs, oneD] using hid); exact r3 q hq id hi
include K F
theorem enter_of_code {n : Nat} (hc : CodeOK P T Φ n) : FunOK P T (enterD T Φ (evC T Φ n)) := by
  intro g args vs X h nx lim e d h' nx' tr gg hargs hrefs hlim hx
  unfold enterD at hx
  cases hf : Φ.fn g with
  | none => simp only [hf] at hx; exact (Ex.fail hx).elim
  | some fn =>
    simp only [hf] at hx
    cases hb : fn.body with
    | none => simp only [hb] at hx; exact (Ex.fail hx).elim
    | some body =>
      simp only [hb] at hx
      have hx := Ex.cnt hx
      obtain ⟨⟨x, env1⟩, h1, n1, t1, t2, q1, q2, _⟩ := Ex.bind hx
      obtain ⟨f1, f2, f3⟩ := F.fn g fn hf
      have hle1 := Ex.le q1
      refine ⟨?_, ?_⟩
      · simp only [callFunc, Sem.run_bind]
        show ((match P.funcs[g]? with | none => _ | some fn => _ : Sem Next)).run P X.w = _
        rw [f1]
        simp [f2, hb]
      · refine (callsIn_wide (n := 0)).1 (callsIn_of_wp_marks f1 hb trivial (hc none 0 g fn.ntmps body (.inr ⟨rfl, fn, body, hf, rfl, hb, fun b hb => hb⟩) (f3 body hb) (fun _ => false) (fun _ _ => rfl) X h nx lim e (eargs 0 args) x env1 h1 n1 t1 _ _ gg ?_ ?_ ?_ q1 ?_))
        · intro t
          rw [eargs_get]
          simp only [Nat.zero_le, if_true, Nat.sub_zero]
          refine ⟨?_, ?_⟩
          · have := hargs.get t
            by_cases ht : t < vs.length
            · have e1 : ((⟨vs⟩ : Array Value) ++ Array.replicate (fn.ntmps - (⟨vs⟩ : Array Value).size) undef).getD t undef = vs.getD t undef := by
                simp [Array.getD_eq_getD_getElem?, Array.getElem?_append, ht]
              rw [e1]; exact this
            · have : args.getD t .top = .top := by
                have := hargs.length
                simp [List.getD_eq_getElem?_getD]
                rw [List.getElem?_eq_none (by omega)]; rfl
              rw [this]; exact RV.top _ _ _
          · by_cases ht : t < args.length
            · have : args.getD t .top ∈ args := by
                simp [List.getD_eq_getElem?_getD, ht]
              exact hrefs _ this
            · have : args.getD t .top = .top := by
                simp [List.getD_eq_getElem?_getD]
                rw [List.getElem?_eq_none (by omega)]; rfl
              rw [this]; simp [D.refs]
        · have := Ex.le q2
          omega
        · simp; omega
        · intro a' XX gg0 ss0 ee0 _ hdef _
          obtain ⟨rs, hrs, hnd, hmk⟩ := hdef
          rw [List.append_nil] at hrs
          have hall : ∀ X0, G T X0 h1 n1 lim → Step X nx lim X0 → EnvOK T X0 n1 lim env1 a'.tmps → Ex e (.bind (restP T env1 (Φ.rest g)) fun _ => outD T Φ g nx env1 fn.results.toList) h1 n1 d h' nx' t2 → ∃ v, (results fn a'.tmps).run P X0.w = .ok v X0.w ∧ CallPost T X nx lim h' nx' d (.returned v) X0.w := ?hall
          case hall =>
            intro X0 g0 s0 e0
            intro q2
            obtain ⟨d9, h9, n9, t9, t8, q9, q2, _⟩ := Ex.bind q2
            obtain ⟨X1, w1, g1, s9, hn9⟩ := restP_ok K _ g0 q9
            have hn9 := hn9.symm
            subst hn9
            have s1 := s0.trans s9 hle1
            have e1 := e0.step K.base s9 (Nat.le_refl _)
            rw [← w1]
            clear q9 g0 s0 e0
            generalize h9 = h1 at g1 q2
            generalize t8 = t2 at q2
            have hout : Ex e (outD T Φ g nx env1 fn.results.toList) h1 n1 d h' nx' t2 → ∃ v, (results fn a'.tmps).run P X1.w = .ok v X1.w ∧ CallPost T X nx lim h' nx' d (.returned v) X1.w := by
              intro q2
              rw [outD_eq] at q2
              obtain ⟨l, h2, n2, t3, t4, q3, q4, _⟩ := Ex.bind q2
              obtain ⟨e2, e3, us, r1, r2, r3⟩ := results_ok K g1 e1 fn.results.toList q3
              have e2 := e2.symm
              have e3 := e3.symm
              subst e2
              subst e3
              have hrun : (results fn a'.tmps).run P X1.w = .ok (if h : us.toArray.size = 1 then us.toArray[0] else .tuple us.toArray) X1.w := by
                have hm : fn.results.mapM (resM a'.tmps) = List.toArray <$> fn.results.toList.mapM (resM a'.tmps) := by rw [Array.mapM_eq_mapM_toList]
                have e0 : results fn a'.tmps = (do let vs ← fn.results.mapM (resM a'.tmps); pure (if h : vs.size = 1 then vs[0] else .tuple vs)) := by
                  unfold results
                  congr 1
                rw [e0, hm]
                simp only [map_eq_pure_bind, bind_assoc, Sem.run_bind, r1, Result.andThen_ok, Sem.run_pure, pure_bind]
              have hdl : RO T X1 n1 lim (oneD l) (if h : us.toArray.size = 1 then us.toArray[0] else .tuple us.toArray) := oneD_ok r2 r3
              generalize hvv : (if h : us.toArray.size = 1 then us.toArray[0] else Value.tuple us.toArray) = vv at hrun hdl
              cases hk : Φ.keeps g with
              | true =>
                simp only [hk, cond_true] at q4
                obtain ⟨c1, c2, c3, _⟩ := Ex.ret q4
                rw [c1, c2, c3]
                exact ⟨_, hrun, _, X1, rfl, rfl, g1, s1, hdl⟩
              | false =>
                simp only [hk, cond_false] at q4
                obtain ⟨d2, h3, n3, t5, t6, q5, q6, _⟩ := Ex.bind q4
                obtain ⟨_, q7⟩ := Ex.gc q6
                obtain ⟨c1, c2, c3, _⟩ := Ex.ret q7
                rw [c1, c2, c3]
                have hfz : ∃ X2, X2.w = X1.w ∧ G T X2 h3 n1 lim ∧ Step X1 n1 lim X2 ∧ RV T X2 d2 vv ∧ n3 = n1 ∧ ∀ id ∈ d2.refs, old n1 lim id := by
                  rcases hdl.1 with ⟨hrow, cs, hr, hv⟩ | ⟨hrow, hr⟩
                  · obtain ⟨X2, a1, a2, a3, a4, a5, a6, a7⟩ := frz_ok K _ g1 hr hdl.2 q5
                    exact ⟨X2, a1, a2, a3, .inl ⟨a7.trans hrow, cs, a4, hv⟩, a5, a6⟩
                  · obtain ⟨X2, a1, a2, a3, a4, a5, a6, a7⟩ := frz_ok K _ g1 hr hdl.2 q5
                    exact ⟨X2, a1, a2, a3, .inr ⟨a7.trans hrow, a4⟩, a5, a6⟩
                obtain ⟨X2, a1, a2, a3, a4, a5, a6⟩ := hfz
                rw [a5]
                obtain ⟨X3, b1, b2, b3, _⟩ := a2.drop K.base (h' := Heap.drop nx n1 d2.refs h3) (fun i => by rw [get_drop]; split <;> simp)
                exact ⟨_, hrun, _, X3, rfl, by rw [b1, a1], b2, (s1.trans a3 hle1).trans b3 hle1, RO.step K.base b3 ⟨a4, a6⟩ (Nat.le_refl _)⟩
            exact hout q2
          have fin : Ex e (.bind (restP T env1 (Φ.rest g)) fun _ => outD T Φ g nx env1 fn.results.toList) h1 n1 d h' nx' t2 → LeavesInM Fence.wide 0 P fn a'.tmps (CallPost T X nx lim h' nx' d) a'.defers .returning XX.w := fun q2 => by
            rw [hrs]
            exact leaves_marks K rs XX hnd hmk gg0 ss0 ee0 fun X' g' s' e' => hall X' g' s' e' q2
          cases x with
          | normal => exact fin q2
          | ret => exact fin q2
          | exit id => exact (Ex.fail q2).elim
omit K F in
theorem CallPost.since {X X' : Cx} {nx nx' : Nat} {lim : Lim} {h' : Heap C} {d : D C} {en : Ending} {w' : World} (s : Step X nx lim X') (h : CallPost T X' nx lim h' nx' d en w') : CallPost T X nx lim h' nx' d en w' := by
  obtain ⟨v, Y, h1, h2, h3, h4, h5⟩ := h
  exact ⟨v, Y, h1, h2, h3, s.trans h4 (Nat.le_refl _), h5⟩
omit K F in
theorem eget_zip_not (E : Env C) : ∀ (ps : List Nat) (xs : List (D C)) (t : Nat), t ∉ ps → eget (zipE ps xs ++ E) t = eget E t
  | [], _, _, _ => rfl
  | _ :: _, [], _, _ => rfl
  | p :: ps, x :: xs, t, h => by
    simp only [List.mem_cons, not_or] at h
    rw [zipE, List.cons_append, eget_cons, if_neg h.1]
    exact eget_zip_not E ps xs t h.2
omit K F in
theorem eget_mid (E : Env C) (t0 : Nat) (x0 : D C) (t : Nat) (h : t ≠ t0) : ∀ A : Env C, eget (A ++ (t0, x0) :: E) t = eget (A ++ E) t
  | [] => by rw [List.nil_append, List.nil_append, eget_cons, if_neg h]
  | (j, d) :: A => by rw [List.cons_append, List.cons_append, eget_cons, eget_cons, eget_mid E t0 x0 t h A]
omit K F in
theorem okPs_ne {nt t : Nat} {ps : List Nat} (h : ps.any (Nat.beq t) = false) : t ∉ ps := fun hm => by
  have : ps.any (Nat.beq t) = true := List.any_eq_true.2 ⟨t, hm, by simp⟩
  rw [this] at h; cases h
omit K F in
theorem zip_env {X : Cx} {nx : Nat} {lim : Lim} {nt : Nat} : ∀ (ps : List Nat) (xs : List (D C)) (vs : List Value) (E : Env C) (tm : Array Value), okPs nt ps = true → nt ≤ tm.size → ps.length = xs.length → RVs T X xs vs → (∀ a ∈ xs, ∀ id ∈ D.refs a, old nx lim id) →
    (∀ t, RO T X nx lim (eget E t) (tm.getD t undef)) → ∀ t, RO T X nx lim (eget (zipE ps xs ++ E) t) (((ps.zip vs).foldl (fun (tmps : Array Value) (p : Nat × Value) => tmps.setIfInBounds p.1 p.2) tm).getD t undef) := by
  intro ps
  induction ps with
  | nil => intro xs vs E tm _ _ _ _ _ hE t; simpa [zipE] using hE t
  | cons p ps ih =>
    intro xs vs E tm hok hsz hlen hr hx hE t
    cases hr with
    | nil => simp at hlen
    | @cons x xs v vs hv hr =>
      simp only [okPs, Bool.and_eq_true, Nat.blt_eq, Bool.not_eq_true'] at hok
      obtain ⟨h1, h2, h3⟩ := hok
      have hp := okPs_ne (nt := nt) h2
      have := ih xs vs ((p, x) :: E) (tm.setIfInBounds p v) h3 (by simpa using hsz) (by simpa using hlen) hr (fun a ha => hx a (by simp [ha])) (fun u => by
        rw [eget_cons]
        by_cases hu : u = p
        · subst hu
          simp only [if_true]
          have e : (tm.setIfInBounds u v).getD u undef = v := by
            have : u < tm.size := by omega
            simp [Array.getD_eq_getD_getElem?, this]
          rw [e]
          exact ⟨hv, hx x (by simp)⟩
        · simp only [hu, if_false]
          have e : (tm.setIfInBounds p v).getD u undef = tm.getD u undef := by
            simp [Array.getD_eq_getD_getElem?, Array.getElem?_setIfInBounds_ne (Ne.symm hu)]
          rw [e]; exact hE u) t
      rw [List.zip_cons_cons, List.foldl_cons, zipE, List.cons_append, eget_cons]
      by_cases ht : t = p
      · subst ht
        rw [eget_zip_not _ _ _ _ hp, eget_cons, if_pos rfl] at this
        rw [if_pos rfl]; exact this
      · rw [if_neg ht]
        rw [eget_mid E p x t ht] at this
        exact this
omit K F in
theorem zip_slots {X : Cx} {nx : Nat} {lim : Lim} {tm : Array Value} : ∀ (slots : List Nat) (ds : List (D C)), RVs T X ds (slots.map fun t => tm.getD t undef) → (∀ a ∈ ds, ∀ id ∈ D.refs a, old nx lim id) → ∀ t, RO T X nx lim (eget (zipE slots ds) t) (tm.getD t undef)
  | [], ds, h, _, t => RO.mk (RV.top _ _ _) rfl
  | s :: slots, [], h, _, t => RO.mk (RV.top _ _ _) rfl
  | s :: slots, d :: ds, h, hr, t => by
    cases h with
    | cons hv h =>
      rw [zipE, eget_cons]
      by_cases e : t = s
      · subst e; rw [if_pos rfl]; exact ⟨hv, hr d (by simp)⟩
      · rw [if_neg e]; exact zip_slots slots ds h (fun a ha => hr a (by simp [ha])) t
omit K F in
theorem all_noYl : ∀ {env : Env C}, (env.all fun p => p.2.noYl) = true → ∀ t, (eget env t).noYl = true
  | [], _, _ => rfl
  | (j, d) :: r, h, t => by
    simp only [List.all_cons, Bool.and_eq_true] at h
    rw [eget_cons]
    split
    · exact h.1
    · exact all_noYl h.2 t
omit K F in
theorem foldl_set_size : ∀ (l : List (Nat × Value)) (tm : Array Value), (l.foldl (fun (tmps : Array Value) (p : Nat × Value) => tmps.setIfInBounds p.1 p.2) tm).size = tm.size
  | [], _ => rfl
  | p :: l, tm => by rw [List.foldl_cons, foldl_set_size l]; simp
omit F in
theorem yield_of_code {n : Nat} (hc : CodeOK P T Φ n) : YieldOK P T (callD T Φ (evC T Φ n)) := by
  intro nt slots ps asn body caps xs l vs X h nx lim e d h' nx' tr g hR hcr hxs hxr hlim hx
  unfold callD at hx
  have hyb : Nat.beq ylBase ylBase = true := by simp
  simp only [hyb, cond_true, yieldD] at hx
  cases hc1 : (caps.noYl && xs.all D.noYl) && ((Nat.beq xs.length ps.length && okPs nt ps) && (okC nt asn && okC nt body)) with
  | false => rw [hc1] at hx; exact (Ex.fail hx).elim
  | true =>
    rw [hc1] at hx
    simp only [cond_true] at hx
    simp only [Bool.and_eq_true, okC] at hc1
    obtain ⟨⟨hn1, hn2⟩, ⟨hlen, hps⟩, ⟨ha1, ha2⟩, ⟨hb1, hb2⟩⟩ := hc1
    have hlen := Nat.eq_of_beq_eq_true hlen
    cases hR with
    | @yl _ _ _ _ _ _ _ rec hw hm hs hcp =>
      obtain ⟨hs1, hs2, hs3, hs4, hs5, hs6⟩ := hs
      subst hs4
      subst hs5
      have hlv : (⟨vs⟩ : Array Value).size = rec.params.size := by
        have h1 := hxs.length
        have h2 : ps.length = rec.params.size := by rw [← hs3]; simp
        simp; omega
      have hy := run_yield (P := P) (args := ⟨vs⟩) hw hlv
      refine ⟨_, _, _, _, hy, fun m => roundIn_of_wpIn trivial ?_⟩
      obtain ⟨⟨x1, env1⟩, h1, n1, t1, t2, q1, q2, _⟩ := Ex.bind hx
      have hle1 := Ex.le q1
      have hle2 := Ex.le q2
      cases x1 with
      | exit id => exact (Ex.fail q2).elim
      | ret => exact (Ex.fail q2).elim
      | normal =>
        simp only at q2
        cases hev : env1.all (fun p => p.2.noYl) with
        | false => rw [hev] at q2; exact (Ex.fail q2).elim
        | true =>
          rw [hev] at q2
          simp only [cond_true] at q2
          obtain ⟨⟨x2, env2⟩, h2, n2, t3, t4, q3, q4, _⟩ := Ex.bind q2
          cases x2 with
          | exit id => exact (Ex.fail q4).elim
          | ret => exact (Ex.fail q4).elim
          | normal =>
            obtain ⟨rfl, rfl, rfl, rfl⟩ := Ex.ret q4
            have efold : ((rec.params.zip ⟨vs⟩).foldl (fun (tmps : Array Value) (x : Nat × Value) => match x with | (t, a) => tmps.setIfInBounds t a) rec.tmps) = (ps.zip vs).foldl (fun (tmps : Array Value) (p : Nat × Value) => tmps.setIfInBounds p.1 p.2) rec.tmps := by
              rw [← Array.foldl_toList, Array.toList_zip, hs3]
            rw [efold]
            refine hc (some l) m 0 nt rec.assign (.inl ha2) ha1 (fun _ => false) (fun _ _ => rfl) X h nx lim e _ .normal env1 h1 n1 t1 _ _ g ?_ (by omega) ?_ q1 ?_
            · exact zip_env ps xs vs _ rec.tmps hps hs6 hlen.symm hxs hxr (zip_slots slots caps.toList (hcp.toList T rfl) (fun a ha id hid => hcr id (refs_toList caps a ha id hid)))
            · show nt ≤ ((ps.zip vs).foldl _ rec.tmps).size
              rw [foldl_set_size]; exact hs6
            · intro a1 X1 g1 s1 e1 z1 _ _
              obtain ⟨hw1, hm1⟩ := s1.keeps.loop l rec hw hm
              have tn1 : Turn1 X1 l (X1.w.putObj l (.loop { rec with state := .busy })) := putObj_turn hw1 (fun c t f h => by cases h) hm1
              refine ⟨_, run_beginRound hw1 hs1, ?_⟩
              refine hc (some l) m 0 nt rec.body (.inl hb2) hb1 (fun _ => false) (fun _ _ => rfl) ⟨X1.w.putObj l (.loop { rec with state := .busy }), X1.ρ, X1.O⟩ h1 n1 lim e env1 .normal env2 h' nx' t3 a1 _ (g1.turn K.base tn1) (fun t => (e1 t).turn K.base tn1 (all_noYl hev t)) hlim ?_ q3 ?_
              · have : ((ps.zip vs).foldl (fun (tmps : Array Value) (p : Nat × Value) => tmps.setIfInBounds p.1 p.2) rec.tmps).size = rec.tmps.size := foldl_set_size _ _
                rw [z1, this]; exact hs6
              · intro a2 X2 g2 s2 e2 _ _ _
                have hl1 : l < X1.w.heap.size := (Array.getElem?_eq_some_iff.1 hw1).1
                obtain ⟨hw2, hm2⟩ := s2.keeps.loop l { rec with state := .busy } (World.putObj_heap_same hl1) hm1
                have tn3 : Turn1 X2 l (X2.w.putObj l (.loop { { rec with state := .busy } with state := if (none : Option Code).isNone then .ready else .done, pending := none })) := putObj_turn hw2 (fun c t f h => by cases h) hm2
                refine ⟨_, _, run_endRound none hw2, ?_⟩
                refine ⟨_, ⟨_, X2.ρ, X2.O⟩, rfl, rfl, g2.turn K.base tn3, s1.trans (Step.back tn1 s2 tn3 ?_) hle1, RO.mk (.mk rfl (.bool true)) rfl⟩
                refine (World.putObj_heap_same (Array.getElem?_eq_some_iff.1 hw2).1).trans ?_
                rw [hw1]
                have : ({ { rec with state := .busy } with state := if (none : Option Code).isNone then LoopState.ready else .done, pending := none } : Loop) = rec := by
                  cases rec; simp only at hs1 hs2; subst hs1; subst hs2; rfl
                rw [this]
theorem call_of_code {n : Nat} (hc : CodeOK P T Φ n) : CallOK P T (callD T Φ (evC T Φ n)) := by
  refine ⟨yield_of_code K hc, ?_⟩
  intro g hgy args vs X h nx lim e d h' nx' tr gg hargs hrefs hlim hx
  unfold callD at hx
  have hyb : Nat.beq g ylBase = false := by
    cases h : Nat.beq g ylBase with
    | false => rfl
    | true => exact absurd (Nat.eq_of_beq_eq_true h) hgy
  simp only [hyb, cond_false] at hx
  cases hos : Φ.ospec g with
  | some s =>
    simp only [hos] at hx
    obtain ⟨u, h1, n1, t1, t2, q1, q2, _⟩ := Ex.bind hx
    obtain ⟨X1, w1, g1, s1, hn1⟩ := restP_ok K _ gg q1
    subst hn1
    have := F.ospec g s hos args vs X1 h1 n1 lim e d h' nx' t2 g1 (hargs.mono' K.base s1 hrefs) hrefs hlim q2
    rw [w1] at this
    exact ⟨this.1, this.2.mono fun en w2 hp => CallPost.since s1 hp⟩
  | none =>
  simp only [hos] at hx
  cases hs : Φ.spec g with
  | some s =>
    simp only [hs] at hx
    cases hle : Φ.lend g with
    | true =>
      simp only [hle, cond_true] at hx
      obtain ⟨args', h1, n1, t1, t2, q1, hx2, _⟩ := Ex.bind hx
      clear hx
      obtain ⟨rfl, rfl, kk⟩ := lendL_ok K args gg hargs q1
      cases hsa : s args' with
      | none => rw [hsa] at hx2; exact (Ex.fail hx2).elim
      | some bd =>
        obtain ⟨b, d0⟩ := bd
        rw [hsa] at hx2
        simp only at hx2
        cases hpl : d0.plain && args'.all D.noYl with
        | false => rw [hpl] at hx2; exact (Ex.fail hx2).elim
        | true =>
          rw [hpl] at hx2
          simp only [Bool.and_eq_true] at hpl
          rcases Ex.br hx2 with ⟨rfl, hx2⟩ | ⟨rfl, hx2⟩
          · obtain ⟨rfl, rfl, rfl, _⟩ := Ex.ret hx2
            obtain ⟨hrf, hB⟩ := F.spec g s args' _ hs hsa
            obtain ⟨c1, c2⟩ := hB X.w X.O vs gg.outs (fun p hp => (gg.pre p hp).1) (kk hrf fun a ha => List.all_eq_true.1 hpl.2 a ha)
            refine ⟨c1, c2.mono fun en w' hpp => ?_⟩
            obtain ⟨v, ρ, rfl, r, hd, a1, a2, a3, a4, a5, a6⟩ := hpp
            obtain ⟨g', s'⟩ := gg.grow K.base w' a1 a2 a3 a4 a5 a6
            exact ⟨v, ⟨w', X.ρ, X.O⟩, rfl, rfl, g', s', r.plain hpl.1, by rw [hd.1]; simp⟩
          · exact (Ex.fail hx2).elim
    | false =>
    simp only [hle, cond_false] at hx
    obtain ⟨args', h1, n1, t1, t2, q1, hx2, _⟩ := Ex.bind hx
    clear hx
    obtain ⟨X', w', g', s', r', hn, hrf⟩ := frzL_ok K args gg hargs hrefs q1
    subst hn
    cases hsa : s args' with
    | none => rw [hsa] at hx2; exact (Ex.fail hx2).elim
    | some bd =>
      obtain ⟨b, d0⟩ := bd
      rw [hsa] at hx2
      have hx2 : b = true ∧ ∃ t3, Ex e (.ret d0) h1 n1 d h' nx' t3 := by
        cases ht : Φ.total g with
        | false =>
          simp only [ht, cond_false] at hx2
          rcases Ex.br hx2 with ⟨rfl, hx2⟩ | ⟨rfl, hx2⟩
          · exact ⟨rfl, _, hx2⟩
          · exact (Ex.fail hx2).elim
        | true =>
          simp only [ht, cond_true] at hx2
          cases b with
          | true => exact ⟨rfl, _, hx2⟩
          | false => exact (Ex.fail hx2).elim
      obtain ⟨rfl, t3, hx2⟩ := hx2
      obtain ⟨rfl, rfl, rfl, _⟩ := Ex.ret hx2
      obtain ⟨hrf0, hB⟩ := F.spec g s args' _ hs hsa
      have := hB.call K hrf0 g' r'
      rw [w'] at this
      exact ⟨this.1, this.2.mono fun en w1 hp => CallPost.since s' hp⟩
  | none =>
    simp only [hs] at hx
    exact enter_of_code K F hc g args vs X h nx lim e d h' nx' tr gg hargs hrefs hlim hx
theorem code_ok : ∀ n, CodeOK P T Φ n ∧ RoundsOK P T Φ n := by
  intro n
  induction n with
  | zero =>
    refine ⟨?_, ?_⟩
    · intro ro m f nt code _ _ B _ X h nx lim e env x env' h' nx' tr a Q _ _ _ _ hx; exact (Ex.fail hx).elim
    · intro f fn body b _ _ _ _ _ B _ X h nx lim e env x env' h' nx' tr a Q _ _ _ _ hx; exact (Ex.fail hx).elim
  | succ n ih =>
    obtain ⟨ihC, ihR⟩ := ih
    have hcall := call_of_code K F ihC
    have hR : RoundsOK P T Φ (n + 1) := by
      intro f fn body b hf hb hcb hl hnone B hB X h nx lim e env x env' h' nx' tr a Q g he hlim hsz hx hk
      simp only [evC, loopC, hnone] at hx
      obtain ⟨⟨x1, env1⟩, h1, n1, t1, t2, q1, q2, _⟩ := Ex.bind hx
      have hle := Ex.le q2
      have hle1 := Ex.le q1
      rw [rounds_succ]
      refine (wpIn_wide (n := 0)).1 (ihC none 0 f fn.ntmps b (.inr ⟨rfl, fn, body, hf, rfl, hb, fun b' hb' => hl b' (by simp [loops, hb'])⟩) (by simpa [codeB] using hcb) B hB X h nx lim e env x1 env1 h1 n1 t1 a _ g he (by omega) hsz q1 ?_)
      intro a1 X1 g1 s1 e1 hs1 hd1 kp1
      cases x1 with
      | normal =>
        simp only [thenC] at q2
        exact ihR f fn body b hf hb hcb hl hnone B hB X1 h1 n1 lim e env1 x env' h' nx' t2 a1 Q g1 e1 hlim (by omega) q2 fun a2 X2 g2 s2 e2 hs2 hd2 kp2 => hk a2 X2 g2 (s1.trans s2 hle1) e2 (by omega) (hd1.trans s1 s2 hd2) (kp1.trans kp2)
      | exit id =>
        obtain ⟨hxx, rfl, rfl, rfl⟩ := Ex.ret q2
        obtain ⟨rfl, rfl⟩ := Prod.mk.inj hxx
        exact hk a1 X1 g1 s1 e1 hs1 hd1 kp1
      | ret =>
        obtain ⟨hxx, rfl, rfl, rfl⟩ := Ex.ret q2
        obtain ⟨rfl, rfl⟩ := Prod.mk.inj hxx
        exact hk a1 X1 g1 s1 e1 hs1 hd1 kp1
    refine ⟨?_, hR⟩
    intro ro m f nt code hfl hcb B hB X h nx lim e env x env' h' nx' tr a Q g he hlim hsz hx hk
    have done : ∀ x0, Ex e (.ret (x0, env) : Pg C (Ev.X × Env C)) h nx (x, env') h' nx' tr → Q (exitX x0) a X.w := by
      intro x0 hx
      obtain ⟨hxx, rfl, rfl, rfl⟩ := Ex.ret hx
      obtain ⟨rfl, rfl⟩ := Prod.mk.inj hxx
      exact hk a X g (.refl _ _ _) he rfl (.refl _ _ _) (.refl _ _)
    cases code with
    | skip => exact wpIn_skip (done _ hx)
    | label l => exact wpIn_label (done _ hx)
    | ret => exact wpIn_ret (done _ hx)
    | exit id => exact wpIn_exit (done _ hx)
    | region id ops draw =>
      simp only [evC] at hx
      simp only [codeB, Bool.and_eq_true] at hcb
      have hdst : ∀ o ∈ ops.toList, ∀ t, o.dst = some t → t < a.tmps.size := fun o ho t ht => Nat.lt_of_lt_of_le (opsB_spec hcb.1 o ho t ht) hsz
      have hBo : ∀ o ∈ ops.toList, ∀ t, o.dst = some t → B t = false := fun o ho t ht => hB t (by simp only [asgL, List.mem_filterMap]; exact ⟨o, ho, ht⟩)
      cases draw with
      | true =>
        simp only [cond_true] at hx
        obtain ⟨_, h0, n0, t8, t9, q0, hx, _⟩ := Ex.bind hx
        obtain ⟨X0, w0, g0, s0, hn0⟩ := restP_ok K _ g q0
        have hn0 := hn0.symm
        subst hn0
        simp only [drawC] at hx
        have hx := Ex.cnt hx
        obtain ⟨env1, h1, n1, t1, t2, q1, q2, _⟩ := Ex.bind hx
        obtain ⟨hxx, rfl, rfl, rfl⟩ := Ex.ret q2
        obtain ⟨rfl, rfl⟩ := Prod.mk.inj hxx
        have hle := Ex.le q1
        rw [← w0]
        exact draw_ok K hcall hBo K.order (drawB_spec (by simpa using hcb.2)) g0 (he.step K.base s0 (Nat.le_refl _)) hlim hdst q1 fun a' X' g' s' e' hs' hd' kp' => hk a' X' g' (s0.trans s' (Nat.le_refl _)) e' hs' (.of_eq hd') kp'
      | false =>
        simp only [cond_false, regC] at hx
        obtain ⟨env1, h1, n1, t1, t2, q1, q2, _⟩ := Ex.bind hx
        obtain ⟨hxx, rfl, rfl, rfl⟩ := Ex.ret q2
        obtain ⟨rfl, rfl⟩ := Prod.mk.inj hxx
        refine wpIn_region ?_
        rw [List.range_eq_range']
        have := evOps_ok (ro := ro) (m := m) K hcall hBo ops.toList 0 rfl g he hlim hdst q1 (Q := Q) (fun a' X' g' s' e' hs' hd' kp' => hk a' X' g' s' e' hs' (.of_eq hd') kp')
        simpa using this
    | seq c1 c2 =>
      simp only [evC] at hx
      simp only [codeB, Bool.and_eq_true] at hcb
      obtain ⟨⟨x1, env1⟩, h1, n1, t1, t2, q1, q2, _⟩ := Ex.bind hx
      have hle := Ex.le q2
      have hle1 := Ex.le q1
      refine wpIn_seq (ihC ro m f nt c1 (okL hfl (fun h => by simp only [flatB, Bool.and_eq_true] at h; exact h.1) (fun b hb => by simp [loops, hb])) hcb.1 B (fun t ht => hB t (by simp [asgL, ht])) X h nx lim e env x1 env1 h1 n1 t1 a _ g he (by omega) hsz q1 ?_)
      intro a1 X1 g1 s1 e1 hs1 hd1 kp1
      cases x1 with
      | normal =>
        simp only [thenC] at q2
        exact ihC ro m f nt c2 (okL hfl (fun h => by simp only [flatB, Bool.and_eq_true] at h; exact h.2) (fun b hb => by simp [loops, hb])) hcb.2 B (fun t ht => hB t (by simp [asgL, ht])) X1 h1 n1 lim e env1 x env' h' nx' t2 a1 Q g1 e1 hlim (by omega) q2 fun a2 X2 g2 s2 e2 hs2 hd2 kp2 => hk a2 X2 g2 (s1.trans s2 hle1) e2 (by omega) (hd1.trans s1 s2 hd2) (kp1.trans kp2)
      | exit id =>
        obtain ⟨hxx, rfl, rfl, rfl⟩ := Ex.ret q2
        obtain ⟨rfl, rfl⟩ := Prod.mk.inj hxx
        exact hk a1 X1 g1 s1 e1 hs1 hd1 kp1
      | ret =>
        obtain ⟨hxx, rfl, rfl, rfl⟩ := Ex.ret q2
        obtain ⟨rfl, rfl⟩ := Prod.mk.inj hxx
        exact hk a1 X1 g1 s1 e1 hs1 hd1 kp1
    | cond c c1 c2 =>
      simp only [evC, condC] at hx
      simp only [codeB, Bool.and_eq_true] at hcb
      have side0 : ∀ (b : Bool) (env0 : Env C) (x0 : Ev.X) (env1 : Env C) (tr1 : Tr) (B' : Nat → Bool), (∀ t ∈ asgL c1 ++ asgL c2, B' t = false) → EnvOK T X nx lim env0 a.tmps → a.eval c = .bool b → Ex e (evC T Φ n f (if b then c1 else c2) env0) h nx (x0, env1) h' nx' tr1 →
          CPost T B' X nx lim h' nx' env1 a (Q (exitX x0)) → (Code.cond c c1 c2).wpIn (roF ro) m P Q a X.w := by
        intro b env0 x0 env1 tr1 B' hB' he0 hc0 hx0 hk0
        refine wpIn_cond hc0 (ihC ro m f nt _ ?_ ?_ B' (fun t ht => hB' t (by cases b <;> simp at ht ⊢ <;> simp [ht])) X h nx lim e env0 x0 env1 h' nx' tr1 a Q g he0 hlim hsz hx0 hk0)
        · exact okL hfl (fun h => by simp only [flatB, Bool.and_eq_true] at h; cases b <;> simp [h.1, h.2]) (fun b' hb' => by cases b <;> simp [loops] at hb' ⊢ <;> simp [hb'])
        · cases b <;> simp [hcb.1, hcb.2]
      have side : ∀ (b : Bool) (env0 : Env C), EnvOK T X nx lim env0 a.tmps → a.eval c = .bool b → Ex e (evC T Φ n f (if b then c1 else c2) env0) h nx (x, env') h' nx' tr → (Code.cond c c1 c2).wpIn (roF ro) m P Q a X.w := by
        intro b env0 he0 hc0 hx0
        refine wpIn_cond hc0 (ihC ro m f nt _ ?_ ?_ B (fun t ht => hB t (by cases b <;> simp [asgL] at ht ⊢ <;> simp [ht])) X h nx lim e env0 x env' h' nx' tr a Q g he0 hlim hsz hx0 hk)
        · exact okL hfl (fun h => by simp only [flatB, Bool.and_eq_true] at h; cases b <;> simp [h.1, h.2]) (fun b' hb' => by cases b <;> simp [loops] at hb' ⊢ <;> simp [hb'])
        · cases b <;> simp [hcb.1, hcb.2]
      cases c with
      | tmp t =>
        simp only at hx
        have het := he t
        generalize hq : eget env t = q at hx het
        cases q with
        | bool b =>
          simp only at hx
          have hv : a.eval (.tmp t) = .bool b := het.1.bool
          rcases mrgC_cases (bif pureC Φ c1 && pureC Φ c2 then some (asgL c1 ++ asgL c2) else none) env b (evC T Φ n f c1 ((t, .bool true) :: env)) (evC T Φ n f c2 ((t, .bool false) :: env)) with hm | ⟨l, x1, y1, r, hp1, hp2, hr, hml, hm⟩
          · rw [hm] at hx
            rcases Ex.br hx with ⟨rfl, hx⟩ | ⟨rfl, hx⟩
            · exact side true _ (he.cons_same hq) hv hx
            · exact side false _ (he.cons_same hq) hv hx
          · rw [hm] at hx
            obtain ⟨hxx, rfl, rfl, rfl⟩ := Ex.ret hx
            obtain ⟨rfl, rfl⟩ := Prod.mk.inj hxx
            have hl2 : l = asgL c1 ++ asgL c2 := by
              cases hpp : pureC Φ c1 && pureC Φ c2 with
              | false => simp [hpp] at hml
              | true => simpa [hpp] using hml.symm
            have hex : Ex e (evC T Φ n f (if b then c1 else c2) ((t, .bool b) :: env)) h' nx' (.normal, bif b then x1 else y1) h' nx' [] := by
              cases b with
              | true => simp only [if_true, hp1]; simp [Ex, Pg.run]
              | false => simp only [Bool.false_eq_true, if_false, hp2]; simp [Ex, Pg.run]
            refine side0 b ((t, .bool b) :: env) .normal (bif b then x1 else y1) [] (fun u => B u || !(l.any (Nat.beq u))) (fun u hu => ?_) (he.cons_same hq) hv hex ?_
            · have h1 : l.any (Nat.beq u) = true := List.any_eq_true.2 ⟨u, by rw [hl2]; exact hu, by simp⟩
              have h2 : B u = false := hB u (by simpa [asgL] using hu)
              simp only [h1, h2]; rfl
            · intro a1 X1 g1 s1 e1 hs1 hd1 kp1
              refine hk a1 X1 g1 s1 (fun u => ?_) hs1 hd1 (fun u hu => kp1 u (by simp [hu]))
              rcases mrgE_get (t := u) (env := env) hr with ⟨h1, h2⟩ | ⟨h1, h2⟩
              · refine mrgT_ok h2 ?_
                have := e1 u
                cases b <;> simpa using this
              · rw [h2, kp1 u (by simp only [h1]; simp)]
                exact (he u).step K.base s1 (Nat.le_refl _)
        | _ => exact (Ex.fail hx).elim
      | const v =>
        cases v with
        | bool b =>
          simp only at hx
          rcases Ex.br hx with ⟨rfl, hx⟩ | ⟨rfl, hx⟩
          · exact side true _ he rfl hx
          · exact side false _ he rfl hx
        | _ => exact (Ex.fail hx).elim
      | global q => exact (Ex.fail hx).elim
      | func q => exact (Ex.fail hx).elim
    | block id c =>
      simp only [evC] at hx
      obtain ⟨⟨x1, env1⟩, h1, n1, t1, t2, q1, q2, _⟩ := Ex.bind hx
      have hle := Ex.le q2
      refine wpIn_block (ihC ro m f nt c (okL hfl (fun h => by simpa [flatB] using h) (fun b hb => by simpa [loops] using hb)) (by simpa [codeB] using hcb) B (fun t ht => hB t (by simpa [asgL] using ht)) X h nx lim e env x1 env1 h1 n1 t1 a _ g he (by omega) hsz q1 ?_)
      intro a1 X1 g1 s1 e1 hs1 hd1 kp1
      cases x1 with
      | normal =>
        obtain ⟨hxx, rfl, rfl, rfl⟩ := Ex.ret q2
        obtain ⟨rfl, rfl⟩ := Prod.mk.inj hxx
        exact hk a1 X1 g1 s1 e1 hs1 hd1 kp1
      | exit i =>
        simp only [inBlockC] at q2
        show (if i = id then Q .normal a1 X1.w else Q (.exit i) a1 X1.w)
        cases hi : Nat.beq i id with
        | true =>
          simp only [hi, cond_true] at q2
          obtain ⟨hxx, rfl, rfl, rfl⟩ := Ex.ret q2
          obtain ⟨rfl, rfl⟩ := Prod.mk.inj hxx
          have : i = id := Nat.eq_of_beq_eq_true hi
          simp only [this, if_true]
          exact hk a1 X1 g1 s1 e1 hs1 hd1 kp1
        | false =>
          simp only [hi, cond_false] at q2
          obtain ⟨hxx, rfl, rfl, rfl⟩ := Ex.ret q2
          obtain ⟨rfl, rfl⟩ := Prod.mk.inj hxx
          have : i ≠ id := Nat.ne_of_beq_eq_false hi
          simp only [this, if_false]
          exact hk a1 X1 g1 s1 e1 hs1 hd1 kp1
      | ret =>
        obtain ⟨hxx, rfl, rfl, rfl⟩ := Ex.ret q2
        obtain ⟨rfl, rfl⟩ := Prod.mk.inj hxx
        exact hk a1 X1 g1 s1 e1 hs1 hd1 kp1
    | loop c =>
      obtain ⟨rfl, fn, body, hf, rfl, hb, hl⟩ := hfl.resolve_left (by simp [flatB])
      refine wpIn_wide.2 ?_
      cases hs : Φ.loop f (firstRegion c) with
      | none => exact wp_loop_rounds (n + 1) (hR f fn body c hf hb hcb hl hs B (fun t ht => hB t (by simpa [asgL] using ht)) X h nx lim e env x env' h' nx' tr a Q g he hlim hsz hx hk)
      | some s =>
        simp only [evC, loopC, hs] at hx
        obtain ⟨⟨x1, env1⟩, h1, n1, t1, t2, q1, q2, _⟩ := Ex.bind hx
        obtain ⟨hxx, rfl, rfl, _⟩ := Ex.ret q2
        obtain ⟨rfl, rfl⟩ := Prod.mk.inj hxx
        have hle1 := Ex.le q1
        refine F.loop f fn body c s hf hb (hl c (by simp [loops])) hs (fun t => B t || !((asgL c).any (Nat.beq t))) (fun t ht => ?_) X h nx lim e env x env1 h' nx' t1 a Q g he hlim hsz q1 ?_
        · have h1 : (asgL c).any (Nat.beq t) = true := List.any_eq_true.2 ⟨t, ht, by simp⟩
          have h2 : B t = false := hB t (by simpa [asgL] using ht)
          simp only [h1, h2]; rfl
        · intro a1 X1 g1 s1 e1 hs1 hd1 kp1
          refine hk a1 X1 g1 s1 (fun t => ?_) hs1 hd1 (fun t ht => kp1 t (by simp [ht]))
          rcases eget_app env1 (keepE (asgL c) env) t with h1 | h1
          · rw [h1]; exact e1 t
          · rw [h1]
            cases hq : (asgL c).any (Nat.beq t) with
            | true => rw [keepE_in hq]; exact RO.mk (RV.top _ _ _) rfl
            | false =>
              rw [keepE_out hq, kp1 t (by simp only [hq]; simp)]
              exact (he t).step K.base s1 hle1
    | rangeFunc gq ps asn body' =>
      obtain ⟨rfl, fn, body, hf, rfl, hb, hl⟩ := hfl.resolve_left (by simp [flatB])
      simp only [evC, rangeC, hf] at hx
      have hgo := opd_ok he gq
      generalize hq : evAt env gq = q at hx hgo
      cases q with
      | fn fid caps =>
        simp only at hx
        cases hyb : Nat.beq fid ylBase with
        | true => rw [hyb] at hx; exact (Ex.fail hx).elim
        | false =>
          rw [hyb] at hx
          have hfy : fid ≠ ylBase := fun e => by rw [e] at hyb; simp at hyb
          simp only [cond_false] at hx
          obtain ⟨d0, h1, n1, t1, t2, q1, q2, _⟩ := Ex.bind hx
          obtain ⟨hxx, rfl, rfl, rfl⟩ := Ex.ret q2
          obtain ⟨rfl, rfl⟩ := Prod.mk.inj hxx
          have hR := hgo.1.one rfl
          generalize hv : a.eval gq = vf at hR hgo
          cases hR with
          | @fn _ _ cvs hcv =>
            refine wpIn_rangeFunc ?_
            intro fnid _
            rw [roF_round]
            obtain ⟨rc, hrc⟩ : ∃ rc : Loop, rc = { state := .ready, pending := none, fn := fnid, tmps := a.tmps, params := ps, assign := asn, body := body', defers := X.w.heap.size } := ⟨_, rfl⟩
            obtain ⟨W1, hW1⟩ : ∃ W1, (X.w.alloc (.deferred (some []))).alloc (.loop rc) = W1 := ⟨_, rfl⟩
            have hL1 : W1.heap[X.w.heap.size + 1]? = some (.loop rc) := by
              rw [← hW1]; have := World.alloc_heap_new (X.w.alloc (.deferred (some []))) (.loop rc); rwa [World.size_alloc] at this
            have hK1 : W1.heap[X.w.heap.size]? = some (.deferred (some [])) := by
              rw [← hW1]; exact (RowKit.Below.heap_alloc _ _ _ (by simp)).trans (World.alloc_heap_new X.w _)
            have hz1 : W1.heap.size = X.w.heap.size + 2 := by rw [← hW1]; simp
            have hold : ∀ k, k < X.w.heap.size → W1.heap[k]? = X.w.heap[k]? := fun k hk => by
              rw [← hW1]; exact (RowKit.Below.heap_alloc _ _ k (by simp; omega)).trans (RowKit.Below.heap_alloc _ _ k hk)
            obtain ⟨g1, s1⟩ := g.grow K.base W1 (by omega) hold (by rw [← hW1]; rfl) (by rw [← hW1]; rfl) (by rw [← hW1]; rfl) (fun q hq => frozen_congr (hold _ hq))
            have hm1 : ∀ k, X.w.heap.size ≤ k → ∀ o, ¬ (⟨W1, X.ρ, X.O⟩ : Cx).mine k o := fun k hk o ho => by
              have := (g.outer k o ho).2
              omega
            have hys : R T ⟨W1, X.ρ, X.O⟩ false (.yl fn.ntmps (slotsE (usedC asn ++ usedC body') env') ps.toList asn body' (D.ofList ((slotsE (usedC asn ++ usedC body') env').map (eget env')))) [.func (.yield (X.w.heap.size + 1)) #[] #[]] := by
              refine .yl (rec := rc) hL1 (hm1 _ (by omega)) (by rw [hrc]; exact ⟨rfl, rfl, rfl, rfl, rfl, hsz⟩) ?_
              rw [hrc]
              have : ∀ sl : List Nat, RVs T ⟨W1, X.ρ, X.O⟩ (sl.map (eget env')) (sl.map fun t => a.tmps.getD t undef) := by
                intro sl
                induction sl with
                | nil => exact .nil
                | cons t sl ih => exact .cons ((he t).step K.base s1 (Nat.le_refl _)).1 ih
              exact (this _).row T
            have hargs : RVs T ⟨W1, X.ρ, X.O⟩ (.yl fn.ntmps (slotsE (usedC asn ++ usedC body') env') ps.toList asn body' (D.ofList ((slotsE (usedC asn ++ usedC body') env').map (eget env'))) :: caps.toList) (.func (.yield (X.w.heap.size + 1)) #[] #[] :: cvs) :=
              .cons (.inr ⟨rfl, hys⟩) ((hcv.toList T rfl).mono' K.base s1 (fun q hq id hid => hgo.2 id (by simpa [D.refs] using refs_toList caps q hq id hid)))
            have hrefs : ∀ q ∈ (.yl fn.ntmps (slotsE (usedC asn ++ usedC body') env') ps.toList asn body' (D.ofList ((slotsE (usedC asn ++ usedC body') env').map (eget env'))) :: caps.toList : List (D C)), ∀ id ∈ D.refs q, old nx lim id := by
              intro q hq id hid
              rcases List.mem_cons.1 hq with rfl | hq
              · obtain ⟨q2, hq2, hi⟩ := refs_ofList _ id (by simpa [D.refs] using hid)
                obtain ⟨t, _, rfl⟩ := List.mem_map.1 hq2
                exact (he t).2 id hi
              · exact hgo.2 id (by simpa [D.refs] using refs_toList caps q hq id hid)
            obtain ⟨c1, c2⟩ := hcall.2 fid hfy _ _ ⟨W1, X.ρ, X.O⟩ h nx lim e d0 h' nx' t1 g1 hargs hrefs hlim q1
            refine ⟨X.w.heap.size + 1, [markOf X.w.heap.size], W1, { target := .fn (.func fid) ⟨cvs⟩, args := #[.func (.yield (X.w.heap.size + 1)) #[] #[]] }, W1, fid, ⟨.func (.yield (X.w.heap.size + 1)) #[] #[] :: cvs⟩, W1, ?_, ?_, ?_, ?_, roF_ge, ?_⟩
            · rw [← hW1, hrc]; exact run_enterLoop_outer _ _ _ _ _
            · simp only [resolve, hv]
              simp [go_sem]
            · intro f' _; exact roF_fn none f'
            · have e2 : (#[.func (.yield (X.w.heap.size + 1)) #[] #[]] : Array Value) ++ ⟨cvs⟩ = ⟨.func (.yield (X.w.heap.size + 1)) #[] #[] :: cvs⟩ := by apply Array.ext'; simp
              simp only [invoke, e2]
              exact c1
            · refine calls_ro (c2.mono fun en w2 hp => ?_)
              obtain ⟨v, X2, rfl, rfl, g2, s2, r2⟩ := hp
              obtain ⟨hw2, hm2⟩ := s2.keeps.loop _ _ hL1 (hm1 _ (by omega))
              have tn : Turn1 X2 (X.w.heap.size + 1) (X2.w.putObj (X.w.heap.size + 1) (.loop { rc with state := .exhausted })) := putObj_turn hw2 (fun c t f h => by cases h) hm2
              have hend := run_endLoop (P := P) hw2 (by rw [hrc]; simp)
              obtain ⟨W4, hW4⟩ : ∃ W4, X2.w.putObj (X.w.heap.size + 1) (.loop { rc with state := .exhausted }) = W4 := ⟨_, rfl⟩
              rw [hW4] at hend tn
              rw [show rc.pending = none by rw [hrc]] at hend
              refine ⟨none, W4, hend, ?_⟩
              have s3 := (s1.trans s2 (Nat.le_refl _)).turn tn (by omega)
              refine hk { a with defers := markOf X.w.heap.size :: a.defers } ⟨W4, X2.ρ, X2.O⟩ (g2.turn K.base tn) s3 (EnvOK.step K.base s3 he (Ex.le q1)) rfl ⟨[X.w.heap.size], rfl, by simp, fun r hr => ?_⟩ (.refl _ _)
              obtain rfl : r = X.w.heap.size := by simpa using hr
              refine ⟨Nat.le_refl _, ?_, fun o ho => hm1 _ (Nat.le_refl _) o (s2.mine _ o (by show X.w.heap.size < W1.heap.size; omega) ho)⟩
              exact ((tn.block _ (by omega)).trans (s2.block _ (by show X.w.heap.size < W1.heap.size; omega) (hm1 _ (Nat.le_refl _)))).trans hK1
      | _ => exact (Ex.fail hx).elim
    | _ => exact (Ex.fail hx).elim
theorem enter_ok (n : Nat) : FunOK P T (enterD T Φ (evC T Φ n)) := enter_of_code K F (code_ok K F n).1
end
section
variable {C : Cdc} {P : Program} {T : Tab C} {Φ : Fns C}
open Pg (Ex)
theorem evF_ex {n : Nat} {f : FuncId} {args : List (D C)} {d : D C} (h : evF T Φ n f args = some d) : ∃ h' nx' tr, Ex (0, 0) (enterD T Φ (evC T Φ n) f args) [] 0 d h' nx' tr ∧ d.refs = [] ∧ d.noYl = true := by
  unfold evF at h
  obtain ⟨a, h', n', t, h1, h2⟩ := Pg.run_some h
  cases hb : a.refs.isEmpty && a.noYl with
  | false => simp [hb] at h2
  | true =>
    simp only [hb, cond_true, Option.some.injEq] at h2
    subst h2
    rw [Bool.and_eq_true] at hb
    exact ⟨h', n', t, h1, List.isEmpty_iff.1 hb.1, hb.2⟩
def lim0 (n : Nat) : Lim := ⟨0, n, fun _ => False, fun _ _ _ h => h⟩
theorem G.start (w : World) (O : Nat → Nat → Prop) (hO : ∀ b o, O b o → b < w.heap.size) (hp : ∀ p ∈ T.pre, ∃ t f, w.heap[p.1]? = some (.cells p.2 t f)) (n : Nat) : G T ⟨w, fun _ => none, O⟩ [] 0 (lim0 n) where
  var id t d h := by simp [Heap.get] at h
  vec id t own l h := by simp [Heap.get] at h
  map id ck cv l h := by simp [Heap.get] at h
  dom id l h := by simp at h
  nums id o h := by simp [Heap.get] at h
  apart id id' l l' b o o' h := by simp at h
  outer b o h := by obtain ⟨_, _, h, _⟩ := h; simp at h
  outs := hO
  low := Nat.le_refl _
  pre p h := ⟨hp p h, fun o ⟨_, _, hq, _⟩ => by simp at hq⟩
variable (K : PLaws P T) (F : FLaws P T Φ)
include K F
theorem evF_calls {n : Nat} {f : FuncId} {args : List (D C)} {d : D C} (h : evF T Φ n f args = some d) (hargs : ∀ a ∈ args, D.refs a = []) (w : World) (O : Nat → Nat → Prop) (hO : ∀ b o, O b o → b < w.heap.size) (hp : ∀ p ∈ T.pre, ∃ t f, w.heap[p.1]? = some (.cells p.2 t f)) {vs : List Value}
    (hvs : RVs T ⟨w, fun _ => none, O⟩ args vs) : (callFunc f ⟨vs⟩).run P w = .ok (.enter f ⟨vs⟩) w ∧ Calls P f ⟨vs⟩ w fun en w' =>
      ∃ v ρ, en = .returned v ∧ RV T ⟨w', ρ, O⟩ d v ∧ w.heap.size ≤ w'.heap.size ∧ (∀ b, b < w.heap.size → w'.heap[b]? = w.heap[b]?) ∧ w'.os = w.os ∧ w'.tape = w.tape ∧ w'.output = w.output ∧ (∀ a : Addr, a.block < w.heap.size → w'.frozen? a = w.frozen? a) := by
  obtain ⟨h', nx', tr, hx, hd, _⟩ := evF_ex h
  have g := G.start (T := T) w O hO hp nx'
  obtain ⟨q1, q2⟩ := enter_ok K F n f args vs _ _ _ _ _ _ _ _ _ g hvs (fun a ha id hid => by rw [hargs a ha] at hid; simp at hid) (Nat.le_refl _) hx
  refine ⟨q1, q2.mono fun en w' hp => ?_⟩
  obtain ⟨v, X', rfl, rfl, g', s', r'⟩ := hp
  have hO' : X'.O = O := s'.O
  refine ⟨v, X'.ρ, rfl, ?_, s'.size, fun b hb => s'.block b hb (fun o hm => by obtain ⟨_, _, hq, _⟩ := hm; simp at hq), s'.os, s'.tape, s'.output, s'.frz⟩
  rw [← hO']
  exact r'.1
theorem evF_bare {n : Nat} {f : FuncId} {args : List (D C)} {d : D C} (h : evF T Φ n f args = some d) (hargs : ∀ a ∈ args, D.refs a = []) : BareLaw P T f args d := by
  intro w O vs hO hp hvs
  have hd : d.refs = [] ∧ d.noYl = true := by obtain ⟨_, _, _, _, hd⟩ := evF_ex h; exact hd
  obtain ⟨q1, q2⟩ := evF_calls K F h hargs w O hO hp hvs
  refine ⟨q1, q2.mono fun en w' hpp => ?_⟩
  obtain ⟨v, ρ, rfl, r, a1, a2, a3, a4, a5, a6⟩ := hpp
  exact ⟨v, ρ, rfl, r, hd, a1, a2, a3, a4, a5, a6⟩
end
inductive Tree (α : Type) where
  | nil
  | node (k : Nat) (a : α) (l r : Tree α)
namespace Tree
variable {α : Type}
def get (u : Nat) : Tree α → Option α
  | .nil => none
  | .node k a l r => bif Nat.blt u k then l.get u else bif Nat.blt k u then r.get u else some a
def all (p : Nat → α → Bool) : Tree α → Bool
  | .nil => true
  | .node k a l r => p k a && l.all p && r.all p
theorem get_all {p : Nat → α → Bool} {u : Nat} {a : α} : ∀ {t : Tree α}, t.all p = true → t.get u = some a → p u a = true
  | .nil, _, h => by simp [get] at h
  | .node k b l r, h, hg => by
    simp only [all, Bool.and_eq_true] at h
    simp only [get] at hg
    cases h1 : Nat.blt u k with
    | true => rw [h1] at hg; exact get_all h.1.2 hg
    | false =>
      rw [h1] at hg
      cases h2 : Nat.blt k u with
      | true => rw [h2] at hg; exact get_all h.2 hg
      | false =>
        rw [h2] at hg
        simp only [cond_false, Option.some.injEq] at hg
        have e1 : ¬ u < k := by rw [← Nat.blt_eq, h1]; simp
        have e2 : ¬ k < u := by rw [← Nat.blt_eq, h2]; simp
        obtain rfl : u = k := by omega
        rw [← hg]; exact h.1.1
end Tree
section
variable {C : Cdc}
structure Row (C : Cdc) where
  g : GT C
  size : Nat
  bytes : Nat
  zero : Option (D C)
structure Cod (C : Cdc) where
  enc : (t : C.Ty) → C.A t → D C
  dec : (t : C.Ty) → D C → Option (C.A t)
  dflt : (t : C.Ty) → C.A t
  ety : C.Ty → TypeId
  eqb : (t : C.Ty) → C.A t → C.A t → Option Bool
  u8s : (t : C.Ty) → Option (List (C.A t) → List UInt8)
  ofU8s : (t : C.Ty) → Option (List UInt8 → List (C.A t))
def mkTab (cd : Cod C) (t : Tree (Row C)) (pre : List (Nat × Array Value) := []) (settle : TypeId → Bool := fun _ => true) : Tab C where
  ty u := match t.get u with | some r => r.g | none => .none
  size u := match t.get u with | some r => r.size | none => 0
  bytes u := match t.get u with | some r => r.bytes | none => 0
  enc := cd.enc
  dec := cd.dec
  dflt := cd.dflt
  ety := cd.ety
  eqb := cd.eqb
  zero u := match t.get u with | some r => r.zero | none => none
  u8s := cd.u8s
  ofU8s := cd.ofU8s
  pre := pre
  settle := settle
def gtB : GT C → GT C → Bool
  | .bool, .bool | .str, .str | .fn, .fn => true
  | .int k, .int k' => decide (k = k')
  | .struct a fs, .struct a' fs' => a == a' && fs == fs'
  | .arr n e t, .arr n' e' t' => Nat.beq n n' && Nat.beq e e' && decide (t = t')
  | .sl e t, .sl e' t' => Nat.beq e e' && decide (t = t')
  | .ptr e, .ptr e' => Nat.beq e e'
  | .dsl e, .dsl e' => Nat.beq e e'
  | .map k v ck cv, .map k' v' ck' cv' => Nat.beq k k' && Nat.beq v v' && decide (ck = ck') && decide (cv = cv')
  | _, _ => false
theorem gtB_eq {a b : GT C} (h : gtB a b = true) : a = b := by
  cases a <;> cases b <;> simp_all [gtB]
variable (P : Program) (T : Tab C)
def zRl {t : C.Ty} (f : D C → List Value → Option (List Value)) : List (C.A t) → List Value → Option (List Value)
  | [], cs => some cs
  | x :: l, cs => match f (T.enc t x) cs with
    | some r => zRl f l r
    | none => none
def zR : Nat → D C → List Value → Option (List Value)
  | 0, _, _ => none
  | n + 1, d, cs => match d, cs with
    | .bool b, .bool b' :: r => bif b == b' then some r else none
    | .int k m, .int k' m' :: r => bif decide (k = k') && m == m' && decide (k.min ≤ m) && decide (m ≤ k.max) then some r else none
    | .str s, .string s' :: r => bif s == s'.data.toList then some r else none
    | .anil, cs => some cs
    | .acons d ds, cs => match zR n d cs with
      | some r => zR n ds r
      | none => none
    | .arr t m l, cs => bif Nat.beq m l.length then zRl T (zR n) l cs else none
    | .nils, .slice none 0 0 :: r => some r
    | .sl _ _ [], .slice none 0 0 :: r => some r
    | .nilp, .pointer none :: r => some r
    | .nilfn, .nilFunc :: r => some r
    | .nilm, .map none :: r => some r
    | _, _ => none
variable {P T}
theorem zRl_ok {X : Cx} {t : C.Ty} {f : D C → List Value → Option (List Value)} (hf : ∀ d cs r, f d cs = some r → ∃ c1, cs = c1 ++ r ∧ R T X false d c1) : ∀ (l : List (C.A t)) (cs r : List Value), zRl T f l cs = some r → ∃ c1, cs = c1 ++ r ∧ R T X false (.arr t l.length l) c1
  | [], cs, r, h => by simp [zRl] at h; exact ⟨[], by simp [h], .arr0 _⟩
  | x :: l, cs, r, h => by
    simp only [zRl] at h
    cases hq : f (T.enc t x) cs with
    | none => simp [hq] at h
    | some r1 =>
      simp only [hq] at h
      obtain ⟨c1, e1, k1⟩ := hf _ _ _ hq
      obtain ⟨c2, e2, k2⟩ := zRl_ok hf l r1 r h
      exact ⟨c1 ++ c2, by rw [e1, e2, List.append_assoc], .arrS k1 k2⟩
theorem zR_ok {X : Cx} : ∀ (n : Nat) (d : D C) (cs r : List Value), zR T n d cs = some r → ∃ c1, cs = c1 ++ r ∧ R T X false d c1 := by
  intro n
  induction n with
  | zero => intro d cs r h; simp [zR] at h
  | succ n ih =>
    intro d cs r h
    unfold zR at h
    split at h
    · rename_i b b' q
      cases hb : (b == b') with
      | false => simp [hb] at h
      | true => simp [hb] at h; subst h; have := eq_of_beq hb; subst this; exact ⟨[.bool b], rfl, .bool b⟩
    · rename_i k m k' m' q
      cases hb : (decide (k = k') && m == m' && decide (k.min ≤ m) && decide (m ≤ k.max)) with
      | false => simp [hb] at h
      | true =>
        simp only [hb, cond_true, Option.some.injEq] at h
        subst h
        simp only [Bool.and_eq_true, decide_eq_true_eq, beq_iff_eq] at hb
        obtain ⟨⟨⟨rfl, rfl⟩, h1⟩, h2⟩ := hb
        exact ⟨[.int k m], rfl, .int ⟨h1, h2⟩⟩
    · rename_i s s' q
      cases hb : (s == s'.data.toList) with
      | false => simp [hb] at h
      | true =>
        simp only [hb, cond_true, Option.some.injEq] at h
        subst h
        have := eq_of_beq hb
        subst this
        exact ⟨[.string s'], rfl, .str _⟩
    · simp at h; exact ⟨[], by simp [h], .anil⟩
    · rename_i d ds
      cases hq : zR T n d cs with
      | none => simp [hq] at h
      | some r1 =>
        simp only [hq] at h
        obtain ⟨c1, e1, k1⟩ := ih _ _ _ hq
        obtain ⟨c2, e2, k2⟩ := ih _ _ _ h
        exact ⟨c1 ++ c2, by rw [e1, e2, List.append_assoc], .acons k1 k2⟩
    · rename_i t m l
      cases hb : Nat.beq m l.length with
      | false => simp [hb] at h
      | true =>
        simp only [hb, cond_true] at h
        have := Nat.eq_of_beq_eq_true hb
        subst this
        exact zRl_ok ih l _ _ h
    · simp at h; subst h; exact ⟨[.slice none 0 0], rfl, .nils⟩
    · simp at h; subst h; exact ⟨[.slice none 0 0], rfl, .sl0 _ _ _⟩
    · simp at h; subst h; exact ⟨[.pointer none], rfl, .nilp⟩
    · simp at h; subst h; exact ⟨[.nilFunc], rfl, .nilfn⟩
    · simp at h; subst h; exact ⟨[.map none], rfl, .nilm⟩
    · simp at h
variable (P T)
def zB (d : D C) (cs : List Value) : Bool := match zR T 50 d cs with
  | some [] => true
  | _ => false
variable {P T}
theorem zB_ok {d : D C} {cs : List Value} (h : zB T d cs = true) (X : Cx) : R T X false d cs := by
  unfold zB at h
  split at h
  · rename_i hq
    obtain ⟨c1, e1, k1⟩ := zR_ok (X := X) _ _ _ _ hq
    simp at e1; rw [e1]; exact k1
  · cases h
variable (P T)
def elemB (e : TypeId) (t : C.Ty) : Bool :=
  gtB (T.ty e) (T.ty (T.ety t)) && Nat.beq (T.size e) (T.size (T.ety t)) && match P.info? e with
  | some i => Nat.beq i.size (T.size e) && Nat.beq i.bytes (T.bytes e) && Nat.blt 0 (T.bytes e) && Nat.blt 0 (T.size e) && match i.zero with
    | some z => Nat.beq z.cells.size (T.size e) && zB T (T.enc t (T.dflt t)) z.cells.toList
    | none => false
  | none => false
def offsB : List Field → Nat → Bool
  | [], _ => true
  | f :: fs, n => Nat.beq f.offset n && offsB fs (n + T.size f.type)
def oneB (e : TypeId) : Bool := (match T.ty e with | .struct _ _ => false | .arr _ _ _ => false | .none => false | _ => true) && match P.info? e with
  | some i => Nat.beq i.size 1 && (match i.zero with | some z => Nat.beq z.cells.size 1 | none => false)
  | none => false
def mapB (k v : TypeId) (ck cv : C.Ty) : Bool := gtB (T.ty k) (T.ty (T.ety ck)) && gtB (T.ty v) (T.ty (T.ety cv)) && (match T.ty k with | .int _ => true | .str => true | .bool => true | _ => false) && match P.info? v with
  | some i => (match i.zero with | some (.agg cs) => (T.enc cv (T.dflt cv)).isRow && zB T (T.enc cv (T.dflt cv)) cs.toList | some z => !(T.enc cv (T.dflt cv)).isRow && zB T (T.enc cv (T.dflt cv)) [z] | none => false)
  | none => false
def shapeB (u : TypeId) (g : GT C) (size : Nat) : Bool := match g, P.underlying u with
  | .bool, some .bool => Nat.beq size 1
  | .int k, some (.int k') => decide (k = k') && Nat.beq size 1
  | .str, some .string => Nat.beq size 1
  | .struct false fs, some (.struct fields) => (fields.toList.map (·.type) == fs) && Nat.beq size (sumSz T fs) && offsB T fields.toList 0 && !P.stoodInHeld u && !P.eqGuardType P.depth u && fields.toList.all (fun f => f.name != "_") &&
      fs.all (fun f => match P.info? f with | some i => Nat.beq i.size (T.size f) && Nat.blt 0 (T.size f) | none => false)
  | .struct true fs, some (.array n e) => Nat.beq fs.length n && (fs == List.replicate fs.length e) && Nat.blt 0 fs.length && Nat.beq size (sumSz T fs) && (match P.info? e with | some i => Nat.beq i.size (T.size e) | none => false)
  | .arr n e t, some (.array n' e') => Nat.beq n n' && Nat.beq e e' && !P.eqGuardType P.depth u && Nat.beq size (n * T.size e) && elemB P T e t
  | .sl e t, some (.slice e') => Nat.beq e e' && Nat.beq size 1 && elemB P T e t
  | .ptr e, some (.pointer e') => Nat.beq e e' && Nat.beq size 1
  | .fn, some (.func _ _ _) => Nat.beq size 1
  | .dsl e, some (.slice e') => Nat.beq e e' && Nat.beq size 1 && oneB P T e
  | .map k v ck cv, some (.map k' v') => Nat.beq k k' && Nat.beq v v' && Nat.beq size 1 && mapB P T k v ck cv
  | _, _ => false
def rowB (u : TypeId) (r : Row C) : Bool :=
  Nat.blt 0 r.size && (match P.info? u with
    | some i => Nat.beq i.size r.size && (match r.zero with
      | none => true
      | some z => match i.zero with
        | some v => z.refs.isEmpty && zB T z v.cells.toList
        | none => false)
    | none => false) && shapeB P T u r.g r.size
variable {P T}
theorem offsB_spec : ∀ (fs : List Field) (n : Nat), offsB T fs n = true → ∀ (i : Nat) (f : Field), fs[i]? = some f → f.offset = n + sumSz T ((fs.map (·.type)).take i)
  | [], n, h, i, f, hf => by simp at hf
  | g :: fs, n, h, i, f, hf => by
    simp only [offsB, Bool.and_eq_true] at h
    cases i with
    | zero => simp at hf; subst hf; simp [sumSz, Nat.eq_of_beq_eq_true h.1]
    | succ i =>
      have := offsB_spec fs _ h.2 i f (by simpa using hf)
      rw [this]; simp [sumSz]; omega
theorem elemB_spec {e : TypeId} {t : C.Ty} (h : elemB P T e t = true) : (T.ty e = T.ty (T.ety t) ∧ T.size e = T.size (T.ety t)) ∧ ∃ i z, P.info? e = some i ∧ i.size = T.size e ∧ i.bytes = T.bytes e ∧ 0 < T.bytes e ∧ 0 < T.size e ∧ i.zero = some z ∧ z.cells.size = T.size e ∧
    ∀ X, R T X false (T.enc t (T.dflt t)) z.cells.toList := by
  simp only [elemB, Bool.and_eq_true] at h
  obtain ⟨⟨h1, h2⟩, h3⟩ := h
  refine ⟨⟨gtB_eq h1, Nat.eq_of_beq_eq_true h2⟩, ?_⟩
  cases hi : P.info? e with
  | none => simp [hi] at h3
  | some i =>
    simp only [hi, Bool.and_eq_true] at h3
    obtain ⟨⟨⟨⟨a1, a2⟩, a3⟩, a4⟩, a5⟩ := h3
    cases hz : i.zero with
    | none => simp [hz] at a5
    | some z =>
      simp only [hz, Bool.and_eq_true] at a5
      exact ⟨i, z, rfl, Nat.eq_of_beq_eq_true a1, Nat.eq_of_beq_eq_true a2, by simpa [Nat.blt_eq] using a3, by simpa [Nat.blt_eq] using a4, hz, Nat.eq_of_beq_eq_true a5.1, zB_ok a5.2⟩
theorem oneB_spec {e : TypeId} (h : oneB P T e = true) : (∀ d, fit T d (.inl e) = true → d.isRow = false) ∧ ∃ i z, P.info? e = some i ∧ i.size = 1 ∧ i.zero = some z ∧ z.cells.size = 1 := by
  simp only [oneB, Bool.and_eq_true] at h
  obtain ⟨h1, h2⟩ := h
  refine ⟨fun d hf => ?_, ?_⟩
  · cases hd : T.ty e <;> simp [hd] at h1 <;> cases d <;> simp_all [fit, D.isRow]
  · cases hi : P.info? e with
    | none => simp [hi] at h2
    | some i =>
      simp only [hi, Bool.and_eq_true] at h2
      cases hz : i.zero with
      | none => simp [hz] at h2
      | some z => simp only [hz] at h2; exact ⟨i, z, rfl, Nat.eq_of_beq_eq_true h2.1, hz, Nat.eq_of_beq_eq_true h2.2⟩
theorem mapB_spec {k v : TypeId} {ck cv : C.Ty} (h : mapB P T k v ck cv = true) : T.ty k = T.ty (T.ety ck) ∧ T.ty v = T.ty (T.ety cv) ∧ ((∃ ik, T.ty k = .int ik) ∨ T.ty k = .str ∨ T.ty k = .bool) ∧
    ∃ i z, P.info? v = some i ∧ i.zero = some z ∧ ∀ X, RV T X (T.enc cv (T.dflt cv)) z := by
  simp only [mapB, Bool.and_eq_true] at h
  obtain ⟨⟨⟨h1, h2⟩, h3⟩, h4⟩ := h
  refine ⟨gtB_eq h1, gtB_eq h2, ?_, ?_⟩
  · cases hd : T.ty k <;> simp [hd] at h3 ⊢
  · cases hi : P.info? v with
    | none => simp [hi] at h4
    | some i =>
      simp only [hi] at h4
      cases hz : i.zero with
      | none => simp [hz] at h4
      | some z =>
        refine ⟨i, z, rfl, hz, fun X => ?_⟩
        cases z with
        | agg cs =>
          simp only [hz, Bool.and_eq_true] at h4
          exact .inl ⟨h4.1, cs.toList, zB_ok h4.2 X, by simp⟩
        | _ =>
          simp only [hz, Bool.and_eq_true, Bool.not_eq_true'] at h4
          exact .inr ⟨h4.1, zB_ok h4.2 X⟩
theorem sBoolB {sz : Nat} {u : TypeId} (this : shapeB P T u (.bool) sz = true) : P.underlying u = some .bool ∧ sz = 1 := by
  unfold shapeB at this
  split at this <;> simp_all
theorem sIntB {sz : Nat} {u : TypeId} {k : IntKind} (this : shapeB P T u (.int k) sz = true) : P.underlying u = some (.int k) ∧ sz = 1 := by
  unfold shapeB at this
  split at this <;> simp_all
theorem sStrB {sz : Nat} {u : TypeId} (this : shapeB P T u (.str) sz = true) : P.underlying u = some .string ∧ sz = 1 := by
  unfold shapeB at this
  split at this <;> simp_all
theorem sPtrB {sz : Nat} {u : TypeId} {e : TypeId} (this : shapeB P T u (.ptr e) sz = true) : P.underlying u = some (.pointer e) ∧ sz = 1 := by
  unfold shapeB at this
  split at this <;> simp_all
theorem sFnB {sz : Nat} {u : TypeId} (this : shapeB P T u (.fn) sz = true) : (∃ a b c, P.underlying u = some (.func a b c)) ∧ sz = 1 := by
  unfold shapeB at this
  split at this <;> simp_all
theorem sDslB {sz : Nat} {u : TypeId} {e : TypeId} (this : shapeB P T u (.dsl e) sz = true) : P.underlying u = some (.slice e) ∧ sz = 1 ∧ oneB P T e = true := by
  unfold shapeB at this
  split at this <;> simp_all
  obtain ⟨⟨e1, _⟩, h⟩ := this
  rw [← e1]; exact h
theorem sMapB {sz : Nat} {u : TypeId} {k : TypeId} {v : TypeId} {ck : C.Ty} {cv : C.Ty} (this : shapeB P T u (.map k v ck cv) sz = true) : P.underlying u = some (.map k v) ∧ sz = 1 ∧ mapB P T k v ck cv = true := by
  unfold shapeB at this
  split at this <;> simp_all
  obtain ⟨⟨⟨e1, e2⟩, _⟩, h⟩ := this
  rw [← e1, ← e2]; exact h
theorem sArrB {sz : Nat} {u : TypeId} {n : Nat} {e : TypeId} {t : C.Ty} (this : shapeB P T u (.arr n e t) sz = true) : P.underlying u = some (.array n e) ∧ P.eqGuardType P.depth u = false ∧ sz = n * T.size e ∧ elemB P T e t = true := by
  unfold shapeB at this
  split at this <;> simp_all
  obtain ⟨⟨⟨⟨_, e1⟩, _⟩, _⟩, h⟩ := this
  rw [← e1]; exact h
theorem sSlB {sz : Nat} {u : TypeId} {e : TypeId} {t : C.Ty} (this : shapeB P T u (.sl e t) sz = true) : P.underlying u = some (.slice e) ∧ sz = 1 ∧ elemB P T e t = true := by
  unfold shapeB at this
  split at this <;> simp_all
  obtain ⟨⟨e1, _⟩, h⟩ := this
  rw [← e1]; exact h
theorem sStB {sz : Nat} {u : TypeId} {fs : List TypeId} (this : shapeB P T u (.struct false fs) sz = true) : ∃ fields : Array Field, P.underlying u = some (.struct fields) ∧ fields.toList.map (·.type) = fs ∧ sz = sumSz T fs ∧ offsB T fields.toList 0 = true ∧ P.stoodInHeld u = false ∧ P.eqGuardType P.depth u = false ∧
      (∀ f ∈ fields.toList, f.name ≠ "_") ∧ ∀ f ∈ fs, ∃ i, P.info? f = some i ∧ i.size = T.size f ∧ 0 < T.size f := by
  unfold shapeB at this
  split at this
  case h_4 fs' fields e1 e2 =>
    simp only [GT.struct.injEq, true_and] at e1
    subst e1
    simp only [Bool.and_eq_true, Bool.not_eq_true', List.all_eq_true] at this
    obtain ⟨⟨⟨⟨⟨⟨a1, a2⟩, a3⟩, a4⟩, a5⟩, a6⟩, a7⟩ := this
    refine ⟨fields, e2, eq_of_beq a1, Nat.eq_of_beq_eq_true a2, a3, a4, a5, fun f hf => by simpa using a6 f hf, fun f hf => ?_⟩
    have := a7 f hf
    cases hi : P.info? f with
    | none => simp [hi] at this
    | some i => simp only [hi, Bool.and_eq_true] at this; exact ⟨i, rfl, Nat.eq_of_beq_eq_true this.1, by simpa [Nat.blt_eq] using this.2⟩
  all_goals simp_all
theorem sRowB {sz : Nat} {u : TypeId} {fs : List TypeId} (this : shapeB P T u (.struct true fs) sz = true) : sz = sumSz T fs ∧ ∃ e, P.underlying u = some (.array fs.length e) ∧ fs = List.replicate fs.length e ∧ 0 < fs.length ∧ ∃ i, P.info? e = some i ∧ i.size = T.size e := by
  unfold shapeB at this
  split at this
  case h_5 fs' n e e1 e2 =>
    simp only [GT.struct.injEq, true_and] at e1
    subst e1
    simp only [Bool.and_eq_true] at this
    obtain ⟨⟨⟨⟨a1, a2⟩, a3⟩, a4⟩, a5⟩ := this
    have a1 := Nat.eq_of_beq_eq_true a1
    refine ⟨Nat.eq_of_beq_eq_true a4, e, by rw [e2, a1], eq_of_beq a2, by simpa [Nat.blt_eq] using a3, ?_⟩
    cases hi : P.info? e with
    | none => simp [hi] at a5
    | some i => simp only [hi] at a5; exact ⟨i, rfl, Nat.eq_of_beq_eq_true a5⟩
  all_goals simp_all
structure CLaws (T : Tab C) : Prop where
  encRefs : ∀ t x, (T.enc t x).refs = []
  encFit : ∀ t x, fit T (T.enc t x) (.inl (T.ety t)) = true
  decR : ∀ X t d x cs, T.dec t d = some x → R T X false d cs → R T X false (T.enc t x) cs
  eqb : ∀ t a b r, T.eqb t a b = some r → eqS (T.enc t a) (T.enc t b) = some r
  u8s : ∀ t f l, T.u8s t = some f → bytesOf T l = some (f l)
  ofU8s : ∀ t g l, T.ofU8s t = some g → (g l).map (T.enc t) = l.map fun b => .int .u8 (b.toNat : Int)
theorem mkLaws {cd : Cod C} {t : Tree (Row C)} {pre : List (Nat × Array Value)} {settle : TypeId → Bool} (h : t.all (rowB P (mkTab cd t pre settle)) = true) (hc : CLaws (mkTab cd t pre settle)) (ho : P.follows .mixedOrders = true) : PLaws P (mkTab cd t pre settle) := by
  have row : ∀ u, (mkTab cd t pre settle).ty u ≠ .none → ∃ r, t.get u = some r ∧ rowB P (mkTab cd t pre settle) u r = true ∧ (mkTab cd t pre settle).ty u = r.g ∧ (mkTab cd t pre settle).size u = r.size ∧ (mkTab cd t pre settle).zero u = r.zero := by
    intro u hu
    cases hg : t.get u with
    | none => exact (hu (by simp [mkTab, hg])).elim
    | some r => exact ⟨r, rfl, Tree.get_all h hg, by simp [mkTab, hg], by simp [mkTab, hg], by simp [mkTab, hg]⟩
  have shape : ∀ u, (mkTab cd t pre settle).ty u ≠ .none → shapeB P (mkTab cd t pre settle) u ((mkTab cd t pre settle).ty u) ((mkTab cd t pre settle).size u) = true ∧ 0 < (mkTab cd t pre settle).size u ∧ ∃ i, P.info? u = some i ∧ i.size = (mkTab cd t pre settle).size u := by
    intro u hu
    obtain ⟨r, _, h1, h2, h3, _⟩ := row u hu
    simp only [rowB, Bool.and_eq_true] at h1
    obtain ⟨⟨a1, a2⟩, a3⟩ := h1
    refine ⟨by rw [h2, h3]; exact a3, by rw [h3]; simpa [Nat.blt_eq] using a1, ?_⟩
    cases hi : P.info? u with
    | none => simp [hi] at a2
    | some i => simp only [hi, Bool.and_eq_true] at a2; exact ⟨i, rfl, by rw [h3]; exact Nat.eq_of_beq_eq_true a2.1⟩
  generalize hT : mkTab cd t pre settle = T at *
  have sh : ∀ u g, T.ty u = g → g ≠ .none → shapeB P T u g (T.size u) = true := fun u g hg hn => by have := (shape u (by rw [hg]; exact hn)).1; rw [hg] at this; exact this
  have sBool : ∀ u, T.ty u = .bool → P.underlying u = some .bool ∧ T.size u = 1 := fun u hu => sBoolB (sh u _ hu (by simp))
  have sInt : ∀ u k, T.ty u = .int k → P.underlying u = some (.int k) ∧ T.size u = 1 := fun u k hu => sIntB (sh u _ hu (by simp))
  have sStr : ∀ u, T.ty u = .str → P.underlying u = some .string ∧ T.size u = 1 := fun u hu => sStrB (sh u _ hu (by simp))
  have sPtr : ∀ u e, T.ty u = .ptr e → P.underlying u = some (.pointer e) ∧ T.size u = 1 := fun u k hu => sPtrB (sh u _ hu (by simp))
  have sFn : ∀ u, T.ty u = .fn → (∃ a b c, P.underlying u = some (.func a b c)) ∧ T.size u = 1 := fun u hu => sFnB (sh u _ hu (by simp))
  have sDsl : ∀ u e, T.ty u = .dsl e → P.underlying u = some (.slice e) ∧ T.size u = 1 ∧ oneB P T e = true := fun u e hu => sDslB (sh u _ hu (by simp))
  have sMap : ∀ u k v ck cv, T.ty u = .map k v ck cv → P.underlying u = some (.map k v) ∧ T.size u = 1 ∧ mapB P T k v ck cv = true := fun u k v ck cv hu => sMapB (sh u _ hu (by simp))
  have sArr : ∀ u n e t, T.ty u = .arr n e t → P.underlying u = some (.array n e) ∧ P.eqGuardType P.depth u = false ∧ T.size u = n * T.size e ∧ elemB P T e t = true := fun u n e t hu => sArrB (sh u _ hu (by simp))
  have sSl : ∀ u e t, T.ty u = .sl e t → P.underlying u = some (.slice e) ∧ T.size u = 1 ∧ elemB P T e t = true := fun u e t hu => sSlB (sh u _ hu (by simp))
  have sSt : ∀ u fs, T.ty u = .struct false fs → ∃ fields : Array Field, P.underlying u = some (.struct fields) ∧ fields.toList.map (·.type) = fs ∧ T.size u = sumSz T fs ∧ offsB T fields.toList 0 = true ∧ P.stoodInHeld u = false ∧ P.eqGuardType P.depth u = false ∧
      (∀ f ∈ fields.toList, f.name ≠ "_") ∧ ∀ f ∈ fs, ∃ i, P.info? f = some i ∧ i.size = T.size f ∧ 0 < T.size f := fun u fs hu => sStB (sh u _ hu (by simp))
  have sRow : ∀ u fs, T.ty u = .struct true fs → T.size u = sumSz T fs ∧ ∃ e, P.underlying u = some (.array fs.length e) ∧ fs = List.replicate fs.length e ∧ 0 < fs.length ∧ ∃ i, P.info? e = some i ∧ i.size = T.size e := fun u fs hu => sRowB (sh u _ hu (by simp))
  refine ⟨⟨hc.encRefs, hc.encFit, hc.decR, hc.u8s, hc.ofU8s, ?_, ?_, ?_, fun u hu => (sBool u hu).2, fun u k hu => (sInt u k hu).2, fun u hu => (sStr u hu).2, fun u e hu => (sPtr u e hu).2, fun u hu => (sFn u hu).2, fun u e hu => (sDsl u e hu).2.1, fun u k v ck cv hu => (sMap u k v ck cv hu).2.1, fun u hu => (shape u (fun h => hu h)).2.1⟩,
    fun u hu => (sBool u hu).1, fun u k hu => (sInt u k hu).1, fun u hu => (sStr u hu).1, ?_, ?_, fun u fs hu => (sRow u fs hu).2, ?_, fun u e t hu => (sSl u e t hu).1, ?_, fun u e hu => ⟨(sDsl u e hu).1, oneB_spec (sDsl u e hu).2.2⟩, fun u k v ck cv hu => ⟨(sMap u k v ck cv hu).1, mapB_spec (sMap u k v ck cv hu).2.2⟩, fun u e hu => (sPtr u e hu).1, fun u hu => (sFn u hu).1, ?_, ?_, hc.eqb, ho⟩
  · intro u a fs hu
    cases a with
    | false => obtain ⟨_, _, _, h3, _⟩ := sSt u fs hu; exact h3
    | true => exact (sRow u fs hu).1
  · intro u n e t hu; obtain ⟨_, _, h3, h4⟩ := sArr u n e t hu; exact ⟨h3, (elemB_spec h4).1⟩
  · intro u e t hu; obtain ⟨_, h3, h4⟩ := sSl u e t hu; exact ⟨h3, (elemB_spec h4).1⟩
  · intro u fs hu
    obtain ⟨fields, h1, h2, _, h4, h5, h6, h7, _⟩ := sSt u fs hu
    refine ⟨fields, h1, h2, fun i f hf => ?_, h5, h6, h7⟩
    have := offsB_spec fields.toList 0 h4 i f (by rw [Array.getElem?_toList]; exact hf)
    rw [this, h2]; simp
  · intro u fs f hu hf; obtain ⟨_, _, _, _, _, _, _, _, h8⟩ := sSt u fs hu; exact h8 f hf
  · intro u n e t hu; obtain ⟨h1, h2, _⟩ := sArr u n e t hu; exact ⟨h1, h2⟩
  · rintro u e t (⟨n, hu⟩ | hu)
    · exact (elemB_spec (sArr u n e t hu).2.2.2).2
    · exact (elemB_spec (sSl u e t hu).2.2).2
  · intro u d hf
    refine (shape u (fun hn => ?_)).2.2
    cases d <;> simp [fit, hn] at hf
  · intro u z hz
    subst hT
    cases hg : t.get u with
    | none => simp [mkTab, hg] at hz
    | some r =>
      have hr := Tree.get_all h hg
      have hz' : r.zero = some z := by simpa [mkTab, hg] using hz
      simp only [rowB, Bool.and_eq_true] at hr
      obtain ⟨⟨a1, a2⟩, a3⟩ := hr
      cases hi : P.info? u with
      | none => simp [hi] at a2
      | some i =>
        simp only [hi, Bool.and_eq_true, hz'] at a2
        cases hv : i.zero with
        | none => simp [hv] at a2
        | some v =>
          simp only [hv, Bool.and_eq_true] at a2
          exact ⟨i, v, rfl, hv, List.isEmpty_iff.1 a2.2.1, zB_ok a2.2.2⟩
end
structure Write where
  key : Int
  value : Int
  deriving DecidableEq
structure Item where
  key : Int
  place : Int
  value : Int
  deriving DecidableEq
structure Line where
  offset : Int
  place : Int
  j : Int
  key : Int
  value : Int
  deriving DecidableEq
structure Rec where
  place : Int
  yes : Bool
  writes : List Write
  deriving DecidableEq
structure St where
  place : Int
  items : List Item
  l0 : List Line
  l1 : List Line
  l2 : List Line
  c0 : Int
  c1 : Int
  c2 : Int
  deriving DecidableEq
structure Sector where
  n : Int
  b : List UInt8
  deriving DecidableEq
structure Frame where
  prog : Int
  at' : Int
  r : List Int
  deriving DecidableEq
structure Action where
  kind : Int
  a : Int
  b : Int
  v : Int
  gen : Int
  text : List UInt8
  args : List Int
  deriving DecidableEq
structure Event where
  client : Int
  act : Action
  got : Int
  deriving DecidableEq
structure Gone where
  handle : Int
  node : Bool
  epoch : Int
  deriving DecidableEq
structure Try where
  place : Int
  start : Int
  writes : List Write
  deriving DecidableEq
structure Task where
  client : Int
  stack : List Frame
  got : List Int
  over : Bool
  deriving DecidableEq
structure Txn where
  id : Int
  start : Int
  writes : List Write
  deriving DecidableEq
section
variable {C : Cdc} {T : Tab C} {X : Cx}
def dU8 : D C → Option UInt8
  | .int .u8 n => some (UInt8.ofNat n.toNat)
  | _ => none
def asArrN (t : C.Ty) (n : Nat) : D C → Option (List (C.A t))
  | .arr t' m l => if h : t' = t then (if m = n then some (h ▸ l) else none) else none
  | _ => none
theorem dU8_R {d : D C} {x : UInt8} {cs : List Value} (hd : dU8 d = some x) (hr : R T X false d cs) : R T X false (.int .u8 (UInt8.toNat x)) cs := by
  unfold dU8 at hd; split at hd
  · rename_i n
    cases hd
    cases hr with
    | int h =>
      have h1 : (0 : Int) ≤ n := h.1
      have h2 : n ≤ 255 := h.2
      have : ((UInt8.ofNat n.toNat).toNat : Int) = n := by
        rw [UInt8.toNat_ofNat']
        have : n.toNat % 2 ^ 8 = n.toNat := Nat.mod_eq_of_lt (by omega)
        rw [this]; omega
      simp only [this]
      exact .int h
  · cases hd
theorem asList_R {t : C.Ty} {d : D C} {x : List (C.A t)} {cs : List Value} (hd : D.asList t d = some x) (hr : R T X false d cs) : R T X false (.sl t false x) cs := by
  unfold D.asList at hd
  split at hd
  · cases hd
    cases hr; exact .sl0 _ _ _
  · rename_i t' cp l
    split at hd
    · rename_i he
      cases he
      cases hd
      cases hr with
      | sl0 => exact .sl0 _ _ _
      | sl a1 a2 a3 a4 => exact .sl a1 a2 a3 (by simp)
    · cases hd
  · cases hd
theorem acons_map {d ds d' ds' : D C} {cs : List Value} (hr : R T X false (.acons d ds) cs) (h1 : ∀ c, R T X false d c → R T X false d' c) (h2 : ∀ c, R T X false ds c → R T X false ds' c) : R T X false (.acons d' ds') cs := by
  cases hr with
  | acons a b => exact .acons (h1 _ a) (h2 _ b)
end
structure ActS where
  do_ : Int
  yes : Bool
  w : List (Write)
  lost : Int
  n : Int
structure Disk where
  now : List (Sector)
  sure : List (Sector)
inductive RTy | actS | l_u8 | recd | sector | u8 | write
  deriving DecidableEq
@[reducible] def RA : RTy → Type
  | .actS => ActS
  | .l_u8 => List (UInt8)
  | .recd => Rec
  | .sector => Sector
  | .u8 => UInt8
  | .write => Write
@[reducible] def RC : Cdc := ⟨RTy, inferInstance, RA⟩
def eSector (x : Sector) : D RC := .acons (.int .i64 (Sector.n x)) (.acons (.str (Sector.b x)) (.anil))
def dSector : D RC → Option Sector
  | .acons (.int .i64 a0) (.acons (.str a1) (.anil)) => some ⟨a0, a1⟩
  | _ => none
theorem dSector_R {T : Tab RC} {X : Cx} {d : D RC} {x : Sector} {cs : List Value} (hd : dSector d = some x) (hr : R T X false d cs) : R T X false (eSector x) cs := by
  unfold dSector at hd
  split at hd
  · skip
    cases hd
    exact acons_map hr (fun _ h => h) (fun _ hr => acons_map hr (fun _ h => h) (fun _ hr => hr))
  · cases hd
def eWrite (x : Write) : D RC := .acons (.int .i64 (Write.key x)) (.acons (.int .i64 (Write.value x)) (.anil))
def dWrite : D RC → Option Write
  | .acons (.int .i64 a0) (.acons (.int .i64 a1) (.anil)) => some ⟨a0, a1⟩
  | _ => none
theorem dWrite_R {T : Tab RC} {X : Cx} {d : D RC} {x : Write} {cs : List Value} (hd : dWrite d = some x) (hr : R T X false d cs) : R T X false (eWrite x) cs := by
  unfold dWrite at hd
  split at hd
  · skip
    cases hd
    exact acons_map hr (fun _ h => h) (fun _ hr => acons_map hr (fun _ h => h) (fun _ hr => hr))
  · cases hd
def eRecC (x : Rec) (c0 : Bool) : D RC := .acons (.int .i64 (Rec.place x)) (.acons (.bool (Rec.yes x)) (.acons (.sl (C := RC) .write c0 (Rec.writes x)) (.anil)))
def eRec (x : Rec) : D RC := .acons (.int .i64 (Rec.place x)) (.acons (.bool (Rec.yes x)) (.acons (.sl (C := RC) .write false (Rec.writes x)) (.anil)))
def dRec : D RC → Option Rec
  | .acons (.int .i64 a0) (.acons (.bool a1) (.acons (a2) (.anil))) => match D.asList (C := RC) .write a2 with | some b2 => (some ⟨a0, a1, b2⟩) | none => none
  | _ => none
theorem dRec_R {T : Tab RC} {X : Cx} {d : D RC} {x : Rec} {cs : List Value} (hd : dRec d = some x) (hr : R T X false d cs) : R T X false (eRec x) cs := by
  unfold dRec at hd
  split at hd
  · skip
    split at hd
    case h_2 => cases hd
    rename_i h2
    cases hd
    exact acons_map hr (fun _ h => h) (fun _ hr => acons_map hr (fun _ h => h) (fun _ hr => acons_map hr (fun _ h => asList_R h2 h) (fun _ hr => hr)))
  · cases hd
def eActSC (x : ActS) (c0 : Bool) : D RC := .acons (.int .i64 (ActS.do_ x)) (.acons (.bool (ActS.yes x)) (.acons (.sl (C := RC) .write c0 (ActS.w x)) (.acons (.int .u64 (ActS.lost x)) (.acons (.int .i64 (ActS.n x)) (.anil)))))
def eActS (x : ActS) : D RC := .acons (.int .i64 (ActS.do_ x)) (.acons (.bool (ActS.yes x)) (.acons (.sl (C := RC) .write false (ActS.w x)) (.acons (.int .u64 (ActS.lost x)) (.acons (.int .i64 (ActS.n x)) (.anil)))))
def dActS : D RC → Option ActS
  | .acons (.int .i64 a0) (.acons (.bool a1) (.acons (a2) (.acons (.int .u64 a3) (.acons (.int .i64 a4) (.anil))))) => match D.asList (C := RC) .write a2 with | some b2 => (some ⟨a0, a1, b2, a3, a4⟩) | none => none
  | _ => none
theorem dActS_R {T : Tab RC} {X : Cx} {d : D RC} {x : ActS} {cs : List Value} (hd : dActS d = some x) (hr : R T X false d cs) : R T X false (eActS x) cs := by
  unfold dActS at hd
  split at hd
  · skip
    split at hd
    case h_2 => cases hd
    rename_i h2
    cases hd
    exact acons_map hr (fun _ h => h) (fun _ hr => acons_map hr (fun _ h => h) (fun _ hr => acons_map hr (fun _ h => asList_R h2 h) (fun _ hr => acons_map hr (fun _ h => h) (fun _ hr => acons_map hr (fun _ h => h) (fun _ hr => hr)))))
  · cases hd
def rEnc : (t : RTy) → RA t → D RC
  | .actS, x => eActS (x)
  | .l_u8, x => .sl (C := RC) .u8 false (x)
  | .recd, x => eRec (x)
  | .sector, x => eSector (x)
  | .u8, x => .int .u8 (UInt8.toNat x)
  | .write, x => eWrite (x)
def rDec : (t : RTy) → D RC → Option (RA t)
  | .actS => dActS
  | .l_u8 => D.asList (C := RC) .u8
  | .recd => dRec
  | .sector => dSector
  | .u8 => dU8
  | .write => dWrite
def rDflt : (t : RTy) → RA t
  | .actS => (⟨0, false, [], 0, 0⟩ : ActS)
  | .l_u8 => ([] : List (UInt8))
  | .recd => (⟨0, false, []⟩ : Rec)
  | .sector => (⟨0, []⟩ : Sector)
  | .u8 => (0 : UInt8)
  | .write => (⟨0, 0⟩ : Write)
def rEqb : (t : RTy) → RA t → RA t → Option Bool
  | .actS => fun _ _ => none
  | .l_u8 => fun _ _ => none
  | .recd => fun _ _ => none
  | .sector => fun _ _ => none
  | .u8 => fun (a b : UInt8) => none
  | .write => fun _ _ => none
def rU8s : (t : RTy) → Option (List (RA t) → List UInt8)
  | .u8 => some fun l => l
  | _ => none
def rOfU8s : (t : RTy) → Option (List UInt8 → List (RA t))
  | .u8 => some fun l => l
  | _ => none
def rCod (ety : RTy → TypeId) : Cod RC := ⟨rEnc, rDec, rDflt, ety, rEqb, rU8s, rOfU8s⟩
theorem rDecR {T : Tab RC} {X : Cx} : ∀ (t : RTy) {d : D RC} {x : RA t} {cs : List Value}, rDec t d = some x → R T X false d cs → R T X false (rEnc t x) cs
  | .actS, _, _, _, hd, hr => dActS_R hd hr
  | .l_u8, _, _, _, hd, hr => asList_R hd hr
  | .recd, _, _, _, hd, hr => dRec_R hd hr
  | .sector, _, _, _, hd, hr => dSector_R hd hr
  | .u8, _, _, _, hd, hr => dU8_R hd hr
  | .write, _, _, _, hd, hr => dWrite_R hd hr
theorem rEqbR : ∀ {t : RTy} {a b : RA t} {r : Bool}, rEqb t a b = some r → eqS (rEnc t a) (rEnc t b) = some r
  | .actS, _, _, _, h => absurd (show (none : Option Bool) = some _ from h) (by simp)
  | .l_u8, _, _, _, h => absurd (show (none : Option Bool) = some _ from h) (by simp)
  | .recd, _, _, _, h => absurd (show (none : Option Bool) = some _ from h) (by simp)
  | .sector, _, _, _, h => absurd (show (none : Option Bool) = some _ from h) (by simp)
  | .u8, _, _, _, h => absurd (show (none : Option Bool) = some _ from h) (by simp)
  | .write, _, _, _, h => absurd (show (none : Option Bool) = some _ from h) (by simp)
theorem rRefs (t : RTy) (x : RA t) : (rEnc t x).refs = [] := by cases t <;> rfl
theorem rU8sR {T : Tab RC} (he : T.enc = rEnc) : ∀ (t : RTy) (f : List (RA t) → List UInt8) (l : List (RA t)), rU8s t = some f → bytesOf T l = some (f l) := by
  intro t f l h
  cases t <;> simp [rU8s] at h
  subst h
  induction l with
  | nil => rfl
  | cons x l ih =>
    simp only [bytesOf, ih, he, rEnc]
    have : UInt8.ofNat (UInt8.toNat x) = x := by simp
    simp [this]
theorem rOfU8sR : ∀ (t : RTy) (g : List UInt8 → List (RA t)) (l : List UInt8), rOfU8s t = some g → (g l).map (rEnc t) = l.map fun b => .int .u8 (b.toNat : Int) := by
  intro t g l h
  cases t <;> simp [rOfU8s] at h
  subst h; rfl
theorem rLaws {ety : RTy → TypeId} {t : Tree (Row RC)} {pre : List (Nat × Array Value)} {settle : TypeId → Bool} (hfit : ∀ t' x, fit (mkTab (rCod ety) t pre settle) (rEnc t' x) (.inl (ety t')) = true) : CLaws (mkTab (rCod ety) t pre settle) :=
  ⟨rRefs, hfit, fun X t d x cs hd hr => rDecR t hd hr, fun t a b r h => rEqbR h, rU8sR rfl, rOfU8sR⟩
open Go.Proofs
set_option maxRecDepth 100000
def s06Ety : RTy → TypeId := fun | .actS => 51 | .l_u8 => 61 | .recd => 27 | .sector => 58 | .u8 => 5 | .write => 60
def s06Tree : Tree (Row RC) := (.node 65 ⟨.fn, 1, 8, some .nilfn⟩ (.node 41 ⟨.fn, 1, 8, some .nilfn⟩ (.node 25 ⟨(.sl 60 .write), 1, 24, some (.sl .write true [])⟩ (.node 9 ⟨.str, 1, 16, some (.str [])⟩ (.node 3 ⟨(.int .i64), 1, 8, some (.int .i64 0)⟩ (.node 2 ⟨(.int .i64), 1, 8, some (.int .i64 0)⟩ (.node 1 ⟨.fn, 1, 8, some .nilfn⟩ .nil .nil) .nil) (.node 5 ⟨(.int .u8), 1, 1, some (.int .u8 0)⟩ (.node 4 ⟨.bool, 1, 1, some (.bool false)⟩ .nil .nil) .nil)) (.node 22 ⟨(.sl 58 .sector), 1, 24, some (.sl .sector true [])⟩ (.node 21 ⟨(.int .i32), 1, 4, some (.int .i32 0)⟩ (.node 12 ⟨(.int .u64), 1, 8, some (.int .u64 0)⟩ .nil .nil) .nil) (.node 24 ⟨(.struct false [22, 22]), 2, 48, some (.acons (.sl .sector true []) (.acons (.sl .sector true []) .anil))⟩ (.node 23 ⟨(.struct false [22, 22]), 2, 48, some (.acons (.sl .sector true []) (.acons (.sl .sector true []) .anil))⟩ .nil .nil) .nil))) (.node 31 ⟨(.int .i64), 1, 8, some (.int .i64 0)⟩ (.node 28 ⟨.fn, 1, 8, some .nilfn⟩ (.node 27 ⟨(.struct false [3, 4, 25]), 3, 40, some (.acons (.int .i64 0) (.acons (.bool false) (.acons (.sl .write true []) .anil)))⟩ (.node 26 ⟨(.struct false [3, 4, 25]), 3, 40, some (.acons (.int .i64 0) (.acons (.bool false) (.acons (.sl .write true []) .anil)))⟩ .nil .nil) .nil) (.node 30 ⟨.fn, 1, 8, some .nilfn⟩ (.node 29 ⟨.fn, 1, 8, some .nilfn⟩ .nil .nil) .nil)) (.node 36 ⟨(.sl 27 .recd), 1, 24, some (.sl .recd true [])⟩ (.node 35 ⟨.fn, 1, 8, some .nilfn⟩ (.node 33 ⟨.fn, 1, 8, some .nilfn⟩ .nil .nil) .nil) (.node 40 ⟨.fn, 1, 8, some .nilfn⟩ (.node 38 ⟨.fn, 1, 8, some .nilfn⟩ .nil .nil) .nil)))) (.node 53 ⟨.fn, 1, 8, some .nilfn⟩ (.node 47 ⟨(.sl 51 .actS), 1, 24, some (.sl .actS true [])⟩ (.node 44 ⟨.fn, 1, 8, some .nilfn⟩ (.node 43 ⟨.fn, 1, 8, some .nilfn⟩ (.node 42 ⟨.fn, 1, 8, some .nilfn⟩ .nil .nil) .nil) (.node 46 ⟨.fn, 1, 8, some .nilfn⟩ (.node 45 ⟨.fn, 1, 8, some .nilfn⟩ .nil .nil) .nil)) (.node 50 ⟨(.struct false [3, 4, 25, 49, 3]), 5, 56, some (.acons (.int .i64 0) (.acons (.bool false) (.acons (.sl .write true []) (.acons (.int .u64 0) (.acons (.int .i64 0) .anil)))))⟩ (.node 49 ⟨(.int .u64), 1, 8, some (.int .u64 0)⟩ (.node 48 ⟨.fn, 1, 8, some .nilfn⟩ .nil .nil) .nil) (.node 52 ⟨.fn, 1, 8, some .nilfn⟩ (.node 51 ⟨(.struct false [3, 4, 25, 49, 3]), 5, 56, some (.acons (.int .i64 0) (.acons (.bool false) (.acons (.sl .write true []) (.acons (.int .u64 0) (.acons (.int .i64 0) .anil)))))⟩ .nil .nil) .nil))) (.node 59 ⟨(.struct false [3, 3]), 2, 16, some (.acons (.int .i64 0) (.acons (.int .i64 0) .anil))⟩ (.node 56 ⟨.fn, 1, 8, some .nilfn⟩ (.node 55 ⟨.fn, 1, 8, some .nilfn⟩ (.node 54 ⟨.fn, 1, 8, some .nilfn⟩ .nil .nil) .nil) (.node 58 ⟨(.struct false [3, 9]), 2, 24, some (.acons (.int .i64 0) (.acons (.str []) .anil))⟩ (.node 57 ⟨(.struct false [3, 9]), 2, 24, some (.acons (.int .i64 0) (.acons (.str []) .anil))⟩ .nil .nil) .nil)) (.node 63 ⟨.fn, 1, 8, some .nilfn⟩ (.node 61 ⟨(.sl 5 .u8), 1, 24, some (.sl .u8 true [])⟩ (.node 60 ⟨(.struct false [3, 3]), 2, 16, some (.acons (.int .i64 0) (.acons (.int .i64 0) .anil))⟩ .nil .nil) .nil) (.node 64 ⟨.fn, 1, 8, some .nilfn⟩ .nil .nil))))) (.node 91 ⟨(.ptr 93), 1, 8, some .nilp⟩ (.node 79 ⟨(.int .u64), 1, 8, some (.int .u64 0)⟩ (.node 73 ⟨.fn, 1, 8, some .nilfn⟩ (.node 70 ⟨.fn, 1, 8, some .nilfn⟩ (.node 68 ⟨.fn, 1, 8, some .nilfn⟩ (.node 66 ⟨.fn, 1, 8, some .nilfn⟩ .nil .nil) .nil) (.node 72 ⟨.fn, 1, 8, some .nilfn⟩ (.node 71 ⟨(.dsl 30), 1, 24, some .nils⟩ .nil .nil) .nil)) (.node 76 ⟨(.int .i64), 1, 8, some (.int .i64 0)⟩ (.node 75 ⟨.fn, 1, 8, some .nilfn⟩ (.node 74 ⟨.fn, 1, 8, some .nilfn⟩ .nil .nil) .nil) (.node 78 ⟨.fn, 1, 8, some .nilfn⟩ (.node 77 ⟨.fn, 1, 8, some .nilfn⟩ .nil .nil) .nil))) (.node 85 ⟨.fn, 1, 8, some .nilfn⟩ (.node 82 ⟨(.struct false [61]), 1, 24, some (.acons (.sl .u8 true []) .anil)⟩ (.node 81 ⟨(.struct false [61]), 1, 24, some (.acons (.sl .u8 true []) .anil)⟩ (.node 80 ⟨(.ptr 82), 1, 8, some .nilp⟩ .nil .nil) .nil) (.node 84 ⟨.fn, 1, 8, some .nilfn⟩ (.node 83 ⟨.fn, 1, 8, some .nilfn⟩ .nil .nil) .nil)) (.node 88 ⟨.fn, 1, 8, some .nilfn⟩ (.node 87 ⟨.fn, 1, 8, some .nilfn⟩ (.node 86 ⟨.fn, 1, 8, some .nilfn⟩ .nil .nil) .nil) (.node 90 ⟨.fn, 1, 8, some .nilfn⟩ .nil .nil)))) (.node 104 ⟨.fn, 1, 8, some .nilfn⟩ (.node 98 ⟨.fn, 1, 8, some .nilfn⟩ (.node 94 ⟨.fn, 1, 8, some .nilfn⟩ (.node 93 ⟨(.struct false [61, 4]), 2, 32, some (.acons (.sl .u8 true []) (.acons (.bool false) .anil))⟩ (.node 92 ⟨(.struct false [61, 4]), 2, 32, some (.acons (.sl .u8 true []) (.acons (.bool false) .anil))⟩ .nil .nil) .nil) (.node 97 ⟨.fn, 1, 8, some .nilfn⟩ (.node 96 ⟨.fn, 1, 8, some .nilfn⟩ .nil .nil) .nil)) (.node 101 ⟨.fn, 1, 8, some .nilfn⟩ (.node 100 ⟨(.int .u32), 1, 4, some (.int .u32 0)⟩ (.node 99 ⟨.fn, 1, 8, some .nilfn⟩ .nil .nil) .nil) (.node 103 ⟨.fn, 1, 8, some .nilfn⟩ (.node 102 ⟨(.sl 61 .l_u8), 1, 24, some (.sl .l_u8 true [])⟩ .nil .nil) .nil))) (.node 110 ⟨.fn, 1, 8, some .nilfn⟩ (.node 107 ⟨.fn, 1, 8, some .nilfn⟩ (.node 106 ⟨.fn, 1, 8, some .nilfn⟩ (.node 105 ⟨.fn, 1, 8, some .nilfn⟩ .nil .nil) .nil) (.node 109 ⟨.fn, 1, 8, some .nilfn⟩ (.node 108 ⟨.fn, 1, 8, some .nilfn⟩ .nil .nil) .nil)) (.node 120 ⟨.fn, 1, 8, some .nilfn⟩ (.node 117 ⟨.fn, 1, 8, some .nilfn⟩ (.node 111 ⟨.fn, 1, 8, some .nilfn⟩ .nil .nil) .nil) (.node 121 ⟨(.ptr 5), 1, 8, some .nilp⟩ .nil .nil))))))
def s06 : Tab RC := mkTab (rCod s06Ety) s06Tree [] (fun t => !(Nat.beq t 36))
theorem s06_rows : s06Tree.all (rowB Try.prog s06) = true := by kernel_rfl
theorem s06_order : Try.prog.follows .mixedOrders = true := by kernel_rfl
theorem s06_fit : ∀ t x, fit s06 (rEnc t x) (.inl (s06Ety t)) = true
  | .actS, _ => rfl
  | .l_u8, _ => rfl
  | .recd, _ => rfl
  | .sector, _ => rfl
  | .u8, _ => rfl
  | .write, _ => rfl
theorem s06_laws : PLaws Try.prog s06 := mkLaws s06_rows (rLaws s06_fit) s06_order
section
variable {C : Cdc} {P : Program} {T : Tab C} {Φ : Fns C}
open Pg (Ex)
def fnB (P : Program) (f : FuncId) : Bool := match P.funcs[f]? with
  | some fn => !(fn.name == "runtime.NumGoroutine") && (match fn.body with
    | some b => codeB fn.ntmps b
    | none => true)
  | none => true
def fnsB (P : Program) : Nat → Bool
  | 0 => true
  | n + 1 => fnB P n && fnsB P n
theorem fnsB_spec : ∀ (n f : Nat), fnsB P n = true → f < n → fnB P f = true
  | 0, f, _, h => by omega
  | n + 1, f, h, hf => by
    simp only [fnsB, Bool.and_eq_true] at h
    by_cases he : f = n
    · subst he; exact h.1
    · exact fnsB_spec n f h.2 (by omega)
def noFns (P : Program) (n : Nat) (keeps : FuncId → Bool) (rest : FuncId → List (Nat × List Nat) := fun _ => []) (total : FuncId → Bool := fun _ => false) (lend : FuncId → Bool := fun _ => false) : Fns C where
  fn f := bif Nat.blt f n then P.funcs[f]? else none
  keeps := keeps
  rest := rest
  total := total
  lend := lend
  ospec _ := none
  spec _ := none
  loop _ _ := none
def Fns.addSpec (Φ : Fns C) (g : FuncId) (s : List (D C) → Option (Bool × D C)) : Fns C := { Φ with spec := fun f => bif Nat.beq f g then some s else Φ.spec f }
def Fns.addLoop (Φ : Fns C) (g key : Nat) (s : Env C → Pg C (Ev.X × Env C)) : Fns C := { Φ with loop := fun f k => bif Nat.beq f g && Nat.beq k key then some s else Φ.loop f k }
theorem noFns_laws {n : Nat} {keeps : FuncId → Bool} {rest : FuncId → List (Nat × List Nat)} {total lend : FuncId → Bool} (h : fnsB P n = true) : FLaws P T (noFns P n keeps rest total lend) where
  fn f fn hf := by
    simp only [noFns] at hf
    cases hb : Nat.blt f n with
    | false => simp [hb] at hf
    | true =>
      simp only [hb, cond_true] at hf
      have := fnsB_spec n f h (by simpa [Nat.blt_eq] using hb)
      simp only [fnB, hf, Bool.and_eq_true, Bool.not_eq_true'] at this
      refine ⟨hf, this.1, fun body hbody => ?_⟩
      have h2 := this.2
      rw [hbody] at h2; exact h2
  spec g s args d hs := by simp [noFns] at hs
  ospec g s hs := by simp [noFns] at hs
  loop f fn body b s _ _ _ hs := by simp [noFns] at hs
theorem FLaws.addSpec (F : FLaws P T Φ) {g : FuncId} {s : List (D C) → Option (Bool × D C)}
    (hs : ∀ args d, s args = some (true, d) → (∀ a ∈ args, D.refs a = []) ∧ BareLaw P T g args d) : FLaws P T (Φ.addSpec g s) where
  fn := F.fn
  spec f s' args d h1 h2 := by
    simp only [Fns.addSpec] at h1
    cases hb : Nat.beq f g with
    | false => simp only [hb, cond_false] at h1; exact F.spec f s' args d h1 h2
    | true =>
      simp only [hb, cond_true, Option.some.injEq] at h1
      subst h1
      have := Nat.eq_of_beq_eq_true hb
      subst this
      exact hs args d h2
  ospec := F.ospec
  loop := F.loop
theorem FLaws.addEv (K : PLaws P T) (F : FLaws P T Φ) {g : FuncId} {s : List (D C) → Option (Bool × D C)} (hs : ∀ args d, s args = some (true, d) → (∀ a ∈ args, D.refs a = []) ∧ ∃ n, evF T Φ n g args = some d) : FLaws P T (Φ.addSpec g s) :=
  F.addSpec fun args d h => by
    obtain ⟨h1, n, h2⟩ := hs args d h
    exact ⟨h1, evF_bare K F h2 h1⟩
def LoopLaw (P : Program) (T : Tab C) (Φ : Fns C) (g key : Nat) (s : Env C → Pg C (Ev.X × Env C)) : Prop :=
  ∀ fn body b, Φ.fn g = some fn → fn.body = some body → b ∈ loops body → firstRegion b = key → ∀ B, ClearC B b → ∀ X h nx lim e env x env' h' nx' tr a Q, G T X h nx lim → EnvOK T X nx lim env a.tmps → nx' ≤ lim.top → fn.ntmps ≤ a.tmps.size →
    Ex e (s env) h nx (x, env') h' nx' tr → CPost T B X nx lim h' nx' env' a (Q (exitX x)) → (Code.loop b).wp P Q a X.w
theorem FLaws.addLoop (F : FLaws P T Φ) {g key : Nat} {s : Env C → Pg C (Ev.X × Env C)} (hs : LoopLaw P T Φ g key s) : FLaws P T (Φ.addLoop g key s) where
  fn := F.fn
  spec := F.spec
  ospec := F.ospec
  loop f fn body b s' h1 h2 h3 h4 := by
    simp only [Fns.addLoop] at h4
    cases hb : Nat.beq f g && Nat.beq (firstRegion b) key with
    | false => simp only [hb, cond_false] at h4; exact F.loop f fn body b s' h1 h2 h3 h4
    | true =>
      simp only [hb, cond_true, Option.some.injEq] at h4
      subst h4
      simp only [Bool.and_eq_true] at hb
      have e1 := Nat.eq_of_beq_eq_true hb.1
      have e2 := Nat.eq_of_beq_eq_true hb.2
      subst e1
      exact hs fn body b h1 h2 h3 e2
def Sub (env env0 : Env C) : Prop := ∀ p ∈ env0, eget env p.1 = p.2
theorem eget_mem : ∀ (env : Env C) (t : Nat), eget env t = .top ∨ (t, eget env t) ∈ env
  | [], t => .inl rfl
  | (j, d) :: r, t => by
    rw [eget_cons]
    by_cases h : t = j
    · subst h; simp
    · simp only [h, if_false]
      rcases eget_mem r t with h' | h'
      · exact .inl h'
      · exact .inr (by simp [h'])
theorem EnvOK.sub {X : Cx} {nx nx' : Nat} {lim lim' : Lim} {env env0 : Env C} {tmps : Array Value} (he : EnvOK T X nx lim env tmps) (hs : Sub env env0) (hr : ∀ p ∈ env0, D.refs p.2 = []) : EnvOK T X nx' lim' env0 tmps := by
  intro t
  rcases eget_mem env0 t with h | h
  · rw [h]; exact RO.mk (RV.top _ _ _) rfl
  · refine ⟨?_, ?_⟩
    · have := hs _ h
      simp only at this
      rw [← this]; exact (he t).1
    · rw [hr _ h]; simp
structure Grown (w w' : World) : Prop where
  size : w.heap.size ≤ w'.heap.size
  same : ∀ b, b < w.heap.size → w'.heap[b]? = w.heap[b]?
  os : w'.os = w.os
  tape : w'.tape = w.tape
  output : w'.output = w.output
  frz : ∀ a : Addr, a.block < w.heap.size → w'.frozen? a = w.frozen? a
theorem Grown.refl (w : World) : Grown w w := ⟨Nat.le_refl _, fun _ _ => rfl, rfl, rfl, rfl, fun _ _ => rfl⟩
theorem Grown.trans {w w' w'' : World} (h : Grown w w') (k : Grown w' w'') : Grown w w'' :=
  ⟨Nat.le_trans h.size k.size, fun b hb => (k.same b (Nat.lt_of_lt_of_le hb h.size)).trans (h.same b hb), k.os.trans h.os, k.tape.trans h.tape, k.output.trans h.output, fun a ha => (k.frz a (Nat.lt_of_lt_of_le ha h.size)).trans (h.frz a ha)⟩
theorem EnvOK.move (L : Laws T) {X X' : Cx} {nx nx' : Nat} {lim lim' : Lim} {env : Env C} {tmps : Array Value} (he : EnvOK T X nx lim env tmps) (hr : ∀ p ∈ env, D.refs p.2 = [])
    (hk : Kps X X') : EnvOK T X' nx' lim' env tmps := by
  intro t
  have h0 : (eget env t).refs = [] := by
    rcases eget_mem env t with h | h
    · rw [h]; rfl
    · exact hr _ h
  refine ⟨(he t).1.mono T L.encOK hk fun id hi => ?_, ?_⟩
  · rw [h0] at hi; simp at hi
  · rw [h0]; simp
structure LoopSt (C : Cdc) (σ : Type) where
  canon : σ → Env C
  fin : σ → Ev.X × Env C
  Inv : σ → Prop
  μ : σ → Nat
theorem codeB_loop {nt : Nat} : ∀ (c : Code), codeB nt c = true → ∀ b ∈ loops c, codeB nt b = true ∧ ∀ b' ∈ loops b, b' ∈ loops c
  | .seq x y, h, b, hb => by
    simp only [codeB, Bool.and_eq_true] at h
    simp only [loops, List.mem_append] at hb ⊢
    rcases hb with hb | hb
    · obtain ⟨q1, q2⟩ := codeB_loop x h.1 b hb; exact ⟨q1, fun b' h' => .inl (q2 b' h')⟩
    · obtain ⟨q1, q2⟩ := codeB_loop y h.2 b hb; exact ⟨q1, fun b' h' => .inr (q2 b' h')⟩
  | .cond _ x y, h, b, hb => by
    simp only [codeB, Bool.and_eq_true] at h
    simp only [loops, List.mem_append] at hb ⊢
    rcases hb with hb | hb
    · obtain ⟨q1, q2⟩ := codeB_loop x h.1 b hb; exact ⟨q1, fun b' h' => .inl (q2 b' h')⟩
    · obtain ⟨q1, q2⟩ := codeB_loop y h.2 b hb; exact ⟨q1, fun b' h' => .inr (q2 b' h')⟩
  | .block _ x, h, b, hb => by
    simp only [codeB] at h
    simp only [loops] at hb ⊢
    exact codeB_loop x h b hb
  | .loop x, h, b, hb => by
    simp only [codeB] at h
    simp only [loops, List.mem_cons] at hb ⊢
    rcases hb with rfl | hb
    · exact ⟨h, fun b' h' => .inr h'⟩
    · obtain ⟨q1, q2⟩ := codeB_loop x h b hb; exact ⟨q1, fun b' h' => .inr (q2 b' h')⟩
  | .skip, _, b, hb => by simp [loops] at hb
  | .region _ _ _, _, b, hb => by simp [loops] at hb
  | .rangeFunc _ _ _ _, _, b, hb => by simp [loops] at hb
  | .exit _, _, b, hb => by simp [loops] at hb
  | .scope _, _, b, hb => by simp [loops] at hb
  | .label _, _, b, hb => by simp [loops] at hb
  | .goto _, _, b, hb => by simp [loops] at hb
  | .ret, _, b, hb => by simp [loops] at hb
end
section
variable {C : Cdc}
def D.ren (f : Nat → Nat) : D C → D C
  | .acons d ds => .acons (d.ren f) (ds.ren f)
  | .tup d => .tup (d.ren f)
  | .fn g d => .fn g (d.ren f)
  | .yl n s p a b d => .yl n s p a b (d.ren f)
  | .cptr d => .cptr (d.ren f)
  | .dsl n d => .dsl n (d.ren f)
  | .mp id => .mp (f id)
  | .vs id n => .vs (f id) n
  | .ptr id p => .ptr (f id) p
  | .asl t id p lo n => .asl t (f id) p lo n
  | .vptr id n p => .vptr (f id) n p
  | d => d
def Obj.ren (f : Nat → Nat) : Obj C → Obj C
  | .var t d => .var t (d.ren f)
  | o => o
theorem D.ren_refs (f : Nat → Nat) : ∀ d : D C, (d.ren f).refs = d.refs.map f
  | .acons d ds => by simp [D.ren, D.refs, D.ren_refs f d, D.ren_refs f ds]
  | .tup d => by simp [D.ren, D.refs, D.ren_refs f d]
  | .fn g d => by simp [D.ren, D.refs, D.ren_refs f d]
  | .cptr d => by simp [D.ren, D.refs, D.ren_refs f d]
  | .dsl _ d => by simp [D.ren, D.refs, D.ren_refs f d]
  | .mp id => rfl
  | .vs id n => rfl
  | .ptr id p => rfl
  | .asl _ id _ _ _ => rfl
  | .vptr id n p => rfl
  | .bool _ => rfl
  | .int _ _ => rfl
  | .str _ => rfl
  | .anil => rfl
  | .arr _ _ _ => rfl
  | .nils => rfl
  | .sl _ _ _ => rfl
  | .nilp => rfl
  | .nilfn => rfl
  | .nilm => rfl
  | .bm _ _ _ => rfl
  | .yl _ _ _ _ _ d => by simp [D.ren, D.refs, D.ren_refs f d]
  | .top => rfl
theorem Obj.ren_refs (f : Nat → Nat) (o : Obj C) : (o.ren f).refs = o.refs.map f := by
  cases o with
  | var t d => exact D.ren_refs f d
  | vec t own l => rfl
  | map _ _ _ => rfl
theorem D.ren_ren (f g : Nat → Nat) : ∀ d : D C, (∀ id ∈ d.refs, g (f id) = id) → (d.ren f).ren g = d
  | .acons d ds, h => by
    simp only [D.refs, List.mem_append] at h
    simp [D.ren, D.ren_ren f g d (fun id hi => h id (.inl hi)), D.ren_ren f g ds (fun id hi => h id (.inr hi))]
  | .tup d, h => by simp [D.ren, D.ren_ren f g d (by simpa [D.refs] using h)]
  | .fn _ d, h => by simp [D.ren, D.ren_ren f g d (by simpa [D.refs] using h)]
  | .yl _ _ _ _ _ d, h => by simp [D.ren, D.ren_ren f g d (by simpa [D.refs] using h)]
  | .cptr d, h => by simp [D.ren, D.ren_ren f g d (by simpa [D.refs] using h)]
  | .dsl _ d, h => by simp [D.ren, D.ren_ren f g d (by simpa [D.refs] using h)]
  | .mp id, h => by simp [D.ren, h id (by simp [D.refs])]
  | .vs id n, h => by simp [D.ren, h id (by simp [D.refs])]
  | .ptr id p, h => by simp [D.ren, h id (by simp [D.refs])]
  | .asl _ id _ _ _, h => by simp [D.ren, h id (by simp [D.refs])]
  | .vptr id n p, h => by simp [D.ren, h id (by simp [D.refs])]
  | .bool _, _ => rfl
  | .int _ _, _ => rfl
  | .str _, _ => rfl
  | .anil, _ => rfl
  | .arr _ _ _, _ => rfl
  | .nils, _ => rfl
  | .sl _ _ _, _ => rfl
  | .nilp, _ => rfl
  | .nilfn, _ => rfl
  | .nilm, _ => rfl
  | .bm _ _ _, _ => rfl
  | .top, _ => rfl
theorem D.ren_same (f : Nat → Nat) : ∀ d : D C, d.refs = [] → d.ren f = d
  | .acons d ds, h => by
    simp only [D.refs, List.append_eq_nil_iff] at h
    simp [D.ren, D.ren_same f d h.1, D.ren_same f ds h.2]
  | .tup d, h => by simp [D.ren, D.ren_same f d (by simpa [D.refs] using h)]
  | .fn _ d, h => by simp [D.ren, D.ren_same f d (by simpa [D.refs] using h)]
  | .yl _ _ _ _ _ d, h => by simp [D.ren, D.ren_same f d (by simpa [D.refs] using h)]
  | .cptr d, h => by simp [D.ren, D.ren_same f d (by simpa [D.refs] using h)]
  | .dsl _ d, h => by simp [D.ren, D.ren_same f d (by simpa [D.refs] using h)]
  | .mp id, h => by simp [D.refs] at h
  | .vs id n, h => by simp [D.refs] at h
  | .ptr id p, h => by simp [D.refs] at h
  | .asl _ id _ _ _, h => by simp [D.refs] at h
  | .vptr id n p, h => by simp [D.refs] at h
  | .bool _, _ => rfl
  | .int _ _, _ => rfl
  | .str _, _ => rfl
  | .anil, _ => rfl
  | .arr _ _ _, _ => rfl
  | .nils, _ => rfl
  | .sl _ _ _, _ => rfl
  | .nilp, _ => rfl
  | .nilfn, _ => rfl
  | .nilm, _ => rfl
  | .bm _ _ _, _ => rfl
  | .top, _ => rfl
theorem D.ren_noYl (f : Nat → Nat) (d : D C) : (d.ren f).noYl = d.noYl := by
  induction d with
  | acons d ds i1 i2 => simp only [D.ren, D.noYl, i1, i2]
  | tup d ih => simpa only [D.ren, D.noYl] using ih
  | fn _ d ih => simpa only [D.ren, D.noYl] using ih
  | cptr d ih => simpa only [D.ren, D.noYl] using ih
  | dsl _ d ih => simpa only [D.ren, D.noYl] using ih
  | _ => rfl
theorem D.ren_row (f : Nat → Nat) (d : D C) : (d.ren f).isRow = d.isRow := by cases d <;> rfl
theorem D.ren_ones (f : Nat → Nat) (d : D C) : (d.ren f).ones = d.ones := by
  induction d with
  | acons d ds _ ih => simp only [D.ren, D.ones, D.ren_row, ih]
  | _ => rfl
variable {T : Tab C}
theorem fit_ren (f : Nat → Nat) : ∀ (d : D C) (u : TypeId ⊕ List TypeId), fit T (d.ren f) u = fit T d u
  | .acons d ds, .inl t => by
    simp only [D.ren, fit]
    split <;> simp [fit_ren f d, fit_ren f ds]
  | .acons d ds, .inr [] => by simp [D.ren, fit]
  | .acons d ds, .inr (a :: fs) => by simp [D.ren, fit, fit_ren f d, fit_ren f ds]
  | .tup _, .inl _ => rfl
  | .tup _, .inr _ => rfl
  | .fn _ d, .inl _ => by simp only [D.ren, fit, D.ren_noYl]
  | .yl _ _ _ _ _ _, .inl _ => rfl
  | .yl _ _ _ _ _ _, .inr _ => rfl
  | .fn _ _, .inr _ => rfl
  | .cptr d, .inl _ => by simp only [D.ren, fit, D.ren_noYl]
  | .cptr _, .inr _ => rfl
  | .dsl _ d, .inl _ => by simp only [D.ren, fit, D.ren_noYl]
  | .dsl _ _, .inr _ => rfl
  | .mp _, .inl _ => rfl
  | .mp _, .inr _ => rfl
  | .vs _ _, .inl _ => rfl
  | .vs _ _, .inr _ => rfl
  | .ptr _ _, .inl _ => rfl
  | .asl _ _ _ _ _, .inl _ => rfl
  | .asl _ _ _ _ _, .inr _ => rfl
  | .ptr _ _, .inr _ => rfl
  | .vptr _ _ _, .inl _ => rfl
  | .vptr _ _ _, .inr _ => rfl
  | .bool _, _ => rfl
  | .int _ _, _ => rfl
  | .str _, _ => rfl
  | .anil, _ => rfl
  | .arr _ _ _, _ => rfl
  | .nils, _ => rfl
  | .sl _ _ _, _ => rfl
  | .nilp, _ => rfl
  | .nilfn, _ => rfl
  | .nilm, _ => rfl
  | .bm _ _ _, _ => rfl
  | .top, _ => rfl
theorem R.renG {X X' : Cx} {y : Bool} (f : Nat → Nat) (he : ∀ t x, (T.enc t x).refs = [] ∧ (T.enc t x).noYl = true) (hX : ∀ b o v, X.w.cell? ⟨b, o, none⟩ = some v → X.free b o → X'.w.cell? ⟨b, o, none⟩ = some v ∧ X'.free b o)
    (hL : y = true → ∀ l r, X.w.heap[l]? = some (.loop r) → (∀ o, ¬ X.mine l o) → X'.w.heap[l]? = some (.loop r) ∧ ∀ o, ¬ X'.mine l o)
    {m : Bool} {d : D C} {vs : List Value} (h : R T X m d vs) : (∀ id ∈ d.refs, Compat (X.ρ id) (X'.ρ (f id))) → (y = true ∨ d.noYl = true) → R T X' m (d.ren f) vs := by
  induction h with
  | bool b => exact fun _ _ => .bool b
  | int h => exact fun _ _ => .int h
  | str s => exact fun _ _ => .str s
  | anil => exact fun _ _ => .anil
  | acons _ _ i1 i2 =>
    intro hr hy
    simp only [D.refs, List.mem_append] at hr
    exact .acons (i1 (fun id h => hr id (.inl h)) (hy.imp id fun h => by simp only [D.noYl, Bool.and_eq_true] at h; exact h.1)) (i2 (fun id h => hr id (.inr h)) (hy.imp id fun h => by simp only [D.noYl, Bool.and_eq_true] at h; exact h.2))
  | arr0 t => exact fun _ _ => .arr0 t
  | @arrS t n x l c1 c2 _ _ i1 i2 =>
    intro _ hy
    have h1 := i1 (by simp [he]) (.inr (he _ _).2)
    rw [D.ren_same f _ (he t x).1] at h1
    exact .arrS h1 (i2 (by simp [D.refs]) (.inr rfl))
  | nils => exact fun _ _ => .nils
  | sl0 t c a => exact fun _ _ => .sl0 t c a
  | sl ha _ hc hcap ih => exact fun _ _ => .sl (fun j v hj => hX _ _ _ (ha j v hj).1 (ha j v hj).2) (ih (by simp [D.refs]) (.inr rfl)) hc hcap
  | @vs id n cp a h =>
    intro hr hy
    refine .vs fun v e b lo hi hv => ?_
    have hc := hr id (by simp [D.refs])
    rw [hv] at hc
    cases ho : X.ρ id with
    | none => rw [ho] at hc; simp [Compat] at hc
    | some l =>
      rw [ho] at hc
      cases l with
      | var b t => simp [Compat] at hc
      | map b0 => simp [Compat] at hc
      | vec v0 e0 b0 lo0 hi0 =>
        simp only [Compat] at hc
        have := h _ _ _ _ _ ho
        refine ⟨by omega, fun hl => ?_⟩
        have e1 := hc.2.2 (by omega)
        rw [e1]
        exact this.2 (by omega)
  | @ptr id p a h =>
    intro hr hy
    refine .ptr fun b t hv => ?_
    have hc := hr id (by simp [D.refs])
    rw [hv] at hc
    cases ho : X.ρ id with
    | none => rw [ho] at hc; simp [Compat] at hc
    | some l =>
      rw [ho] at hc
      cases l with
      | var b0 t0 =>
        simp only [Compat, Loc.var.injEq] at hc
        obtain ⟨rfl, rfl⟩ := hc
        exact h _ _ ho
      | vec v0 e0 b0 lo0 hi0 => simp [Compat] at hc
      | map b0 => simp [Compat] at hc
  | @asl ta id lo n cp p ao h hs hw =>
    intro hr hy
    refine .asl (fun b t hv => ?_) hs (fun v e b lo hi hv => ?_)
    · have hc := hr id (by simp [D.refs])
      rw [hv] at hc
      cases ho : X.ρ id with
      | none => rw [ho] at hc; simp [Compat] at hc
      | some l =>
        rw [ho] at hc
        cases l with
        | var b0 t0 =>
          simp only [Compat, Loc.var.injEq] at hc
          obtain ⟨rfl, rfl⟩ := hc
          exact h _ _ ho
        | vec v0 e0 b0 lo0 hi0 => simp [Compat] at hc
        | map b0 => simp [Compat] at hc
    · have hc := hr id (by simp [D.refs])
      rw [hv] at hc
      cases ho : X.ρ id with
      | none => rw [ho] at hc; simp [Compat] at hc
      | some l =>
        rw [ho] at hc
        cases l with
        | var b t => simp [Compat] at hc
        | map b0 => simp [Compat] at hc
        | vec v0 e0 b0 lo0 hi0 =>
          simp only [Compat] at hc
          have := hw _ _ _ _ _ ho
          refine ⟨by omega, fun hl => ?_⟩
          have e1 := hc.2.2 (by omega)
          rw [e1, hc.1]
          exact this.2 (by omega)
  | @vptr id n i p a h =>
    intro hr hy
    refine .vptr fun v e b lo hi hv => ?_
    have hc := hr id (by simp [D.refs])
    rw [hv] at hc
    cases ho : X.ρ id with
    | none => rw [ho] at hc; simp [Compat] at hc
    | some l =>
      rw [ho] at hc
      cases l with
      | var b t => simp [Compat] at hc
      | map b0 => simp [Compat] at hc
      | vec v0 e0 b0 lo0 hi0 =>
        simp only [Compat] at hc
        have := h _ _ _ _ _ ho
        refine ⟨by omega, fun hl => ?_⟩
        have e1 := hc.2.2 (by omega)
        rw [e1, hc.1]
        exact this.2 (by omega)
  | cptr ha _ ih =>
    intro hr hy
    exact .cptr (fun j v hj => hX _ _ _ (ha j v hj).1 (ha j v hj).2) (ih (by simpa [D.refs] using hr) hy)
  | nilp => exact fun _ _ => .nilp
  | dsl ha _ hn h1 ih =>
    intro hr hy
    exact .dsl (fun j v hj => hX _ _ _ (ha j v hj).1 (ha j v hj).2) (ih (by simpa [D.refs] using hr) hy) hn (by rw [D.ren_ones]; exact h1)
  | @mp id b h =>
    intro hr hy
    refine .mp fun b' hv => ?_
    have hc := hr id (by simp [D.refs])
    rw [hv] at hc
    cases ho : X.ρ id with
    | none => rw [ho] at hc; simp [Compat] at hc
    | some l =>
      rw [ho] at hc
      cases l with
      | map b0 =>
        simp only [Compat, Loc.map.injEq] at hc
        obtain rfl := hc
        exact h _ ho
      | _ => simp [Compat] at hc
  | fn _ ih => exact fun hr hy => .fn (ih (by simpa [D.refs] using hr) hy)
  | nilfn => exact fun _ _ => .nilfn
  | nilm => exact fun _ _ => .nilm
  | bm h => exact fun _ _ => .bm h
  | yl hw hm hs _ ih =>
    intro hr hy
    rcases hy with hy | hy
    · obtain ⟨h1, h2⟩ := hL hy _ _ hw hm
      exact .yl h1 h2 hs (ih (by simpa [D.refs] using hr) (.inl hy))
    · cases hy
  | tup _ ih => exact fun hr hy => .tup (ih (by simpa [D.refs] using hr) hy)
  | top v => exact fun _ _ => .top v
  | vnil => exact fun _ _ => .vnil
  | vrow _ hr' _ i1 i2 =>
    intro hr hy
    simp only [D.refs, List.mem_append] at hr
    exact .vrow (i1 (fun id h => hr id (.inl h)) (hy.imp id fun h => by simp only [D.noYl, Bool.and_eq_true] at h; exact h.1)) (by rw [D.ren_row]; exact hr') (i2 (fun id h => hr id (.inr h)) (hy.imp id fun h => by simp only [D.noYl, Bool.and_eq_true] at h; exact h.2))
  | vone _ hr' _ i1 i2 =>
    intro hr hy
    simp only [D.refs, List.mem_append] at hr
    exact .vone (i1 (fun id h => hr id (.inl h)) (hy.imp id fun h => by simp only [D.noYl, Bool.and_eq_true] at h; exact h.1)) (by rw [D.ren_row]; exact hr') (i2 (fun id h => hr id (.inr h)) (hy.imp id fun h => by simp only [D.noYl, Bool.and_eq_true] at h; exact h.2))
theorem R.ren {X X' : Cx} (f : Nat → Nat) (he : ∀ t x, (T.enc t x).refs = [] ∧ (T.enc t x).noYl = true) (hX : Kps X X')
    {m : Bool} {d : D C} {vs : List Value} (h : R T X m d vs) (hr : ∀ id ∈ d.refs, Compat (X.ρ id) (X'.ρ (f id))) : R T X' m (d.ren f) vs :=
  h.renG (y := true) f he hX.cell (fun _ => hX.loop) hr (.inl rfl)
theorem R.renE {X X' : Cx} (f : Nat → Nat) (he : ∀ t x, (T.enc t x).refs = [] ∧ (T.enc t x).noYl = true) (hX : ∀ b o v, X.w.cell? ⟨b, o, none⟩ = some v → X.free b o → X'.w.cell? ⟨b, o, none⟩ = some v ∧ X'.free b o)
    {m : Bool} {d : D C} {vs : List Value} (h : R T X m d vs) (hn : d.noYl = true) (hr : ∀ id ∈ d.refs, Compat (X.ρ id) (X'.ρ (f id))) : R T X' m (d.ren f) vs :=
  h.renG (y := false) f he hX (fun h => by cases h) hr (.inr hn)
theorem RV.ren {X X' : Cx} (f : Nat → Nat) (he : ∀ t x, (T.enc t x).refs = [] ∧ (T.enc t x).noYl = true) (hX : Kps X X')
    {d : D C} {v : Value} (h : RV T X d v) (hr : ∀ id ∈ d.refs, Compat (X.ρ id) (X'.ρ (f id))) : RV T X' (d.ren f) v := by
  rcases h with ⟨h1, cs, h2, h3⟩ | ⟨h1, h2⟩
  · exact .inl ⟨by rw [D.ren_row]; exact h1, cs, h2.ren f he hX hr, h3⟩
  · exact .inr ⟨by rw [D.ren_row]; exact h1, h2.ren f he hX hr⟩
def Cx.part (X : Cx) (k : Nat) (f : Nat → Nat) : Cx :=
  ⟨X.w, fun j => if j < k then X.ρ (f j) else none, fun b o => X.O b o ∨ (X.mine b o ∧ ∀ j, j < k → ∀ l, X.ρ (f j) = some l → ¬ l.owns b o)⟩
theorem Cx.part_mine {X : Cx} {k : Nat} {f : Nat → Nat} {b o : Nat} : (X.part k f).mine b o ↔ ∃ j l, j < k ∧ X.ρ (f j) = some l ∧ l.owns b o := by
  constructor
  · rintro ⟨j, l, h1, h2⟩
    simp only [Cx.part] at h1
    split at h1
    · exact ⟨j, l, by assumption, h1, h2⟩
    · cases h1
  · rintro ⟨j, l, h0, h1, h2⟩
    exact ⟨j, l, by simp [Cx.part, h0, h1], h2⟩
theorem Cx.part_free {X : Cx} {k : Nat} {f : Nat → Nat} {b o : Nat} : (X.part k f).free b o ↔ X.free b o := by
  constructor
  · rintro ⟨h1, h2⟩
    refine ⟨fun h => h1 (.inl h), fun hm => ?_⟩
    by_cases hq : ∃ j l, j < k ∧ X.ρ (f j) = some l ∧ l.owns b o
    · exact h2 (Cx.part_mine.2 hq)
    · exact h1 (.inr ⟨hm, fun j hj l hl ho => hq ⟨j, l, hj, hl, ho⟩⟩)
  · rintro ⟨h1, h2⟩
    refine ⟨fun h => h.elim h1 fun h => h2 h.1, fun hm => ?_⟩
    obtain ⟨j, l, _, hl, ho⟩ := Cx.part_mine.1 hm
    exact h2 ⟨f j, l, hl, ho⟩
def hpOf : Nat → List (Obj C) → Heap C
  | _, [] => []
  | n, o :: l => (n, o) :: hpOf (n + 1) l
theorem hpOf_get : ∀ (l : List (Obj C)) (n id : Nat), (hpOf n l).get id = if n ≤ id then l[id - n]? else none
  | [], n, id => by simp [hpOf, Heap.get]
  | o :: l, n, id => by
    rw [hpOf, get_cons, hpOf_get l (n + 1) id]
    by_cases h1 : id = n
    · subst h1; simp
    · by_cases h2 : n ≤ id
      · have h3 : n + 1 ≤ id := by omega
        have h4 : id - n = (id - (n + 1)) + 1 := by omega
        simp [h1, h2, h3, h4]
      · have h3 : ¬ n + 1 ≤ id := by omega
        simp [h1, h2, h3]
theorem hpOf_get0 (l : List (Obj C)) (id : Nat) : (hpOf 0 l).get id = l[id]? := by rw [hpOf_get]; simp
structure Part (h : Heap C) (os : List (Obj C)) (f : Nat → Nat) : Prop where
  at' : ∀ j o, os[j]? = some o → h.get (f j) = some (o.ren f)
  inj : ∀ i j, i < os.length → j < os.length → f i = f j → i = j
  refs : ∀ o ∈ os, ∀ r ∈ Obj.refs o, r < os.length
theorem inv_of {f : Nat → Nat} {k : Nat} (hi : ∀ i j, i < k → j < k → f i = f j → i = j) : ∃ g : Nat → Nat, ∀ j, j < k → g (f j) = j := by
  classical
  refine ⟨fun n => if h : ∃ j, j < k ∧ f j = n then h.choose else 0, fun j hj => ?_⟩
  have hex : ∃ i, i < k ∧ f i = f j := ⟨j, hj, rfl⟩
  simp only [hex, dif_pos]
  have h1 := hex.choose_spec
  exact hi _ _ h1.1 hj h1.2
theorem Part.ctx (L : Laws T) {X : Cx} {h : Heap C} {nx : Nat} {lim : Lim} (g : G T X h nx lim) {os : List (Obj C)} {f : Nat → Nat} (p : Part h os f) (top : Nat) : G T (X.part os.length f) (hpOf 0 os) os.length (lim0 top) := by
  obtain ⟨fi, hfi⟩ := inv_of p.inj
  have hX : Kps X (X.part os.length f) := ⟨fun b o v h1 h2 => ⟨h1, Cx.part_free.2 h2⟩, fun l r h1 h2 => ⟨h1, fun o hm => by obtain ⟨j, q, _, hl, ho⟩ := Cx.part_mine.1 hm; exact h2 o ⟨f j, q, hl, ho⟩⟩⟩
  refine ⟨?_, ?_, ?_, ?_, ?_, ?_, ?_, ?_, Nat.zero_le _, ?_⟩
  · intro id t d ho
    rw [hpOf_get0] at ho
    have hlt : id < os.length := (List.getElem?_eq_some_iff.1 ho).1
    obtain ⟨b, c, h1, h2, h3, h4⟩ := g.var (f id) t (d.ren f) (p.at' id _ ho)
    have hrefs : ∀ r ∈ d.refs, r < os.length := p.refs _ (List.mem_of_getElem? ho)
    refine ⟨b, c, by simp [Cx.part, hlt, h1], h2, ?_, by rw [fit_ren] at h4; exact h4⟩
    have h5 := h3.ren (X' := X.part os.length f) fi L.encOK hX (fun r hr => by
      rw [D.ren_refs, List.mem_map] at hr
      obtain ⟨r0, hr0, rfl⟩ := hr
      have := hrefs r0 hr0
      simp only [hfi r0 this, Cx.part, this, if_true]
      exact .refl _)
    rwa [D.ren_ren f fi d (fun r hr => hfi r (hrefs r hr))] at h5
  · intro id t own l ho
    rw [hpOf_get0] at ho
    have hlt : id < os.length := (List.getElem?_eq_some_iff.1 ho).1
    obtain ⟨v, b, lo, hi, h1, h2⟩ := g.vec (f id) t own l (p.at' id _ ho)
    refine ⟨v, b, lo, hi, by simp [Cx.part, hlt, h1], ?_⟩
    exact h2.move L hX.cell (fun _ => rfl) (L.posE t)
  · intro id ck cv l ho
    rw [hpOf_get0] at ho
    have hlt : id < os.length := (List.getElem?_eq_some_iff.1 ho).1
    obtain ⟨b, es, k, h1, h2, h3⟩ := g.map (f id) ck cv l (p.at' id _ ho)
    exact ⟨b, es, k, by simp [Cx.part, hlt, h1], h2, h3.move L hX.cell⟩
  · intro id l hr
    simp only [Cx.part] at hr
    split at hr
    · rename_i hlt
      rw [hpOf_get0]; simp [hlt]
    · cases hr
  · intro id o ho
    rw [hpOf_get0] at ho
    have hlt : id < os.length := (List.getElem?_eq_some_iff.1 ho).1
    exact ⟨⟨.inl hlt, fun h => h⟩, fun r hr => ⟨.inl (p.refs _ (List.mem_of_getElem? ho) r hr), fun h => h⟩⟩
  · intro i j l l' b o o' h1 h2 h3 h4
    simp only [Cx.part] at h1 h2
    split at h1
    · split at h2
      · exact p.inj i j (by assumption) (by assumption) (g.apart _ _ _ _ _ _ _ h1 h2 h3 h4)
      · cases h2
    · cases h1
  · intro b o hm
    obtain ⟨j, l, hj, hl, ho⟩ := Cx.part_mine.1 hm
    have := g.outer b o ⟨_, l, hl, ho⟩
    exact ⟨fun h => h.elim this.1 fun h => h.2 j hj l hl ho, this.2⟩
  · intro b o ho
    exact ho.elim (g.outs b o) fun h => (g.outer b o h.1).2
  · exact fun q hq => ⟨(g.pre q hq).1, fun o hm => by
      obtain ⟨j, l, hj, hl, ho⟩ := Cx.part_mine.1 hm
      exact (g.pre q hq).2 o ⟨_, l, hl, ho⟩⟩
theorem Part.back (L : Laws T) {X : Cx} {h h' : Heap C} {nx : Nat} {lim : Lim} (g : G T X h nx lim) {os os' : List (Obj C)} {f : Nat → Nat} (p : Part h os f) (hlen : os'.length = os.length) (hrefs : ∀ o ∈ os', ∀ r ∈ Obj.refs o, r < os.length)
    {X1 : Cx} {lim1 : Lim} (g1 : G T X1 (hpOf 0 os') os.length lim1) (s1 : Step (X.part os.length f) os.length (lim0 os.length) X1)
    (hin : ∀ j o, os'[j]? = some o → h'.get (f j) = some (o.ren f)) (hout : ∀ id, (∀ j, j < os.length → f j ≠ id) → h'.get id = h.get id) :
    ∃ X', X'.w = X1.w ∧ G T X' h' nx lim ∧ Step X nx lim X' ∧ (∀ j, j < os.length → X'.ρ (f j) = X1.ρ j) ∧ ∀ b o v, X1.w.cell? ⟨b, o, none⟩ = some v → X1.free b o → X'.w.cell? ⟨b, o, none⟩ = some v ∧ X'.free b o := by
  classical
  obtain ⟨fi, hfi⟩ := inv_of p.inj
  let X' : Cx := ⟨X1.w, fun id => if ∃ j, j < os.length ∧ f j = id then X1.ρ (fi id) else X.ρ id, X.O⟩
  have hρ1 : ∀ j, j < os.length → X'.ρ (f j) = X1.ρ j := fun j hj => by
    have : ∃ i, i < os.length ∧ f i = f j := ⟨j, hj, rfl⟩
    simp only [X', this, if_true, hfi j hj]
  have hρ2 : ∀ id, (∀ j, j < os.length → f j ≠ id) → X'.ρ id = X.ρ id := fun id hid => by
    have : ¬ ∃ j, j < os.length ∧ f j = id := fun ⟨j, hj, e⟩ => hid j hj e
    simp only [X', this, if_false]
  have hcase : ∀ id, (∃ j, j < os.length ∧ f j = id) ∨ (∀ j, j < os.length → f j ≠ id) := fun id => by
    by_cases hq : ∃ j, j < os.length ∧ f j = id
    · exact .inl hq
    · exact .inr fun j hj e => hq ⟨j, hj, e⟩
  have gp := Part.ctx L g p os.length
  -- what the others own
  have hA : ∀ id l b o, (∀ j, j < os.length → f j ≠ id) → X.ρ id = some l → l.owns b o → b < X.w.heap.size ∧ (X.part os.length f).O b o ∧ ∀ o', ¬ (X.part os.length f).mine b o' := by
    intro id l b o hid hl ho
    have hno : ∀ j, j < os.length → ∀ l', X.ρ (f j) = some l' → ∀ o', ¬ l'.owns b o' := fun j hj l' hl' o' ho' => hid j hj (g.apart _ _ _ _ _ _ _ hl' hl ho' ho)
    refine ⟨(g.outer b o ⟨id, l, hl, ho⟩).2, .inr ⟨⟨id, l, hl, ho⟩, fun j hj l' hl' => hno j hj l' hl' o⟩, fun o' hm => ?_⟩
    obtain ⟨j, l', hj, hl', ho'⟩ := Cx.part_mine.1 hm
    exact hno j hj l' hl' o' ho'
  have hmine : ∀ b o, X'.mine b o → X1.mine b o ∨ ∃ id l, (∀ j, j < os.length → f j ≠ id) ∧ X.ρ id = some l ∧ l.owns b o := by
    rintro b o ⟨id, l, h1, h2⟩
    rcases hcase id with ⟨j, hj, rfl⟩ | hid
    · rw [hρ1 j hj] at h1; exact .inl ⟨j, l, h1, h2⟩
    · rw [hρ2 id hid] at h1; exact .inr ⟨id, l, hid, h1, h2⟩
  have hB : ∀ b o, X1.free b o → X'.free b o := by
    rintro b o ⟨h1, h2⟩
    have hO : X1.O = (X.part os.length f).O := s1.O
    refine ⟨fun h3 => h1 (by rw [hO]; exact .inl h3), fun hm => ?_⟩
    rcases hmine b o hm with h3 | ⟨id, l, h3, h4, h5⟩
    · exact h2 h3
    · exact h1 (by rw [hO]; exact (hA id l b o h3 h4 h5).2.1)
  have hBB : ∀ b o v, X1.w.cell? ⟨b, o, none⟩ = some v → X1.free b o → X'.w.cell? ⟨b, o, none⟩ = some v ∧ X'.free b o := fun b o v h1 h2 => ⟨h1, hB b o h2⟩
  have hC : ∀ b o v, X.w.cell? ⟨b, o, none⟩ = some v → X.free b o → X'.w.cell? ⟨b, o, none⟩ = some v ∧ X'.free b o := by
    intro b o v h1 h2
    have := s1.keeps.cell b o v h1 (Cx.part_free.2 h2)
    exact hBB b o v this.1 this.2
  have hold : ∀ j, j < os.length → old os.length (lim0 os.length) j := fun j hj => ⟨.inl hj, fun h => h⟩
  have hD : ∀ id, Compat (X.ρ id) (X'.ρ id) := by
    intro id
    rcases hcase id with ⟨j, hj, rfl⟩ | hid
    · rw [hρ1 j hj]
      have := s1.ρ j (hold j hj)
      simpa [Cx.part, hj] using this
    · rw [hρ2 id hid]; exact .refl _
  have hblk : ∀ id l b o, (∀ j, j < os.length → f j ≠ id) → X.ρ id = some l → l.owns b o → X'.w.heap[b]? = X.w.heap[b]? := fun id l b o h1 h2 h3 => by
    obtain ⟨a1, a2, a3⟩ := hA id l b o h1 h2 h3
    exact s1.block b a1 a3
  have hsome : ∀ j, j < os.length → ∃ o, h.get (f j) = some o := fun j hj => ⟨_, p.at' j os[j] (by simp [hj])⟩
  have hs : Step X nx lim X' := by
    refine ⟨rfl, s1.os, s1.tape, s1.output, s1.size, fun id _ => hD id, ?_, ?_, ?_, s1.frz⟩
    · intro b o hb hm
      rcases hmine b o hm with h3 | ⟨id, l, h3, h4, h5⟩
      · obtain ⟨j, l, hj, hl, ho⟩ := Cx.part_mine.1 (s1.mine b o hb h3)
        exact ⟨f j, l, hl, ho⟩
      · exact ⟨id, l, h4, h5⟩
    · intro b o hb hm
      exact s1.cell b o hb fun hq => by
        obtain ⟨j, l, hj, hl, ho⟩ := Cx.part_mine.1 hq
        exact hm ⟨f j, l, hl, ho⟩
    · intro b hb hm
      exact s1.block b hb fun o hq => by
        obtain ⟨j, l, hj, hl, ho⟩ := Cx.part_mine.1 hq
        exact hm o ⟨f j, l, hl, ho⟩
  refine ⟨X', rfl, ⟨?_, ?_, ?_, ?_, ?_, ?_, ?_, ?_, g.low, g.pre.step hs⟩, hs, hρ1, hBB⟩
  · intro id t d ho
    rcases hcase id with ⟨j, hj, rfl⟩ | hid
    · have e1 : os'[j]? = some os'[j] := by simp [hlen, hj]
      have e2 := hin j _ e1
      rw [ho] at e2
      have e3 : ∃ d0, os'[j] = .var t d0 ∧ d = d0.ren f := by
        cases hq : os'[j] with
        | var t0 d0 => rw [hq] at e2; simp [Obj.ren] at e2; exact ⟨d0, by rw [e2.1], e2.2⟩
        | vec t0 own0 l0 => rw [hq] at e2; simp [Obj.ren] at e2
        | map _ _ _ => rw [hq] at e2; simp [Obj.ren] at e2
      obtain ⟨d0, e4, rfl⟩ := e3
      rw [e4] at e1
      obtain ⟨b, c, h1, h2, h3, h4⟩ := g1.var j t d0 (by rw [hpOf_get0]; exact e1)
      refine ⟨b, c, by rw [hρ1 j hj]; exact h1, h2, ?_, by rw [fit_ren]; exact h4⟩
      refine h3.renE f L.encOK hBB (fit_noYl _ _ h4) fun r hr => ?_
      rw [hρ1 r (hrefs _ (List.mem_of_getElem? e1) r hr)]; exact .refl _
    · rw [hout id hid] at ho
      obtain ⟨b, c, h1, h2, h3, h4⟩ := g.var id t d ho
      refine ⟨b, c, by rw [hρ2 id hid]; exact h1, by rw [hblk id _ b 0 hid h1 rfl]; exact h2, h3.monoG T (y := false) L.encOK hC (fun h => by cases h) (fun r hr => hD r) (.inr (fit_noYl _ _ h4)), h4⟩
  · intro id t own l ho
    rcases hcase id with ⟨j, hj, rfl⟩ | hid
    · have e1 : os'[j]? = some os'[j] := by simp [hlen, hj]
      have e2 := hin j _ e1
      rw [ho] at e2
      have e3 : os'[j] = .vec t own l := by
        cases hq : os'[j] with
        | var t0 d0 => rw [hq] at e2; simp [Obj.ren] at e2
        | vec t0 own0 l0 => rw [hq] at e2; simp only [Obj.ren, Option.some.injEq] at e2; exact e2.symm
        | map _ _ _ => rw [hq] at e2; simp [Obj.ren] at e2
      rw [e3] at e1
      obtain ⟨v, b, lo, hi, h1, h2⟩ := g1.vec j t own l (by rw [hpOf_get0]; exact e1)
      exact ⟨v, b, lo, hi, by rw [hρ1 j hj]; exact h1, h2.move L hBB (fun _ => rfl) (L.posE t)⟩
    · rw [hout id hid] at ho
      obtain ⟨v, b, lo, hi, h1, h2⟩ := g.vec id t own l ho
      exact ⟨v, b, lo, hi, by rw [hρ2 id hid]; exact h1, h2.move L hC (fun ⟨o, ho'⟩ => hblk id _ b o hid h1 ho') (L.posE t)⟩
  · intro id ck cv l ho
    rcases hcase id with ⟨j, hj, rfl⟩ | hid
    · have e1 : os'[j]? = some os'[j] := by simp [hlen, hj]
      have e2 := hin j _ e1
      rw [ho] at e2
      have e3 : os'[j] = .map ck cv l := by
        cases hq : os'[j] with
        | var t0 d0 => rw [hq] at e2; simp [Obj.ren] at e2
        | vec t0 own0 l0 => rw [hq] at e2; simp [Obj.ren] at e2
        | map _ _ _ => rw [hq] at e2; simp only [Obj.ren, Option.some.injEq] at e2; exact e2.symm
      rw [e3] at e1
      obtain ⟨b, es, k, h1, h2, h3⟩ := g1.map j ck cv l (by rw [hpOf_get0]; exact e1)
      exact ⟨b, es, k, by rw [hρ1 j hj]; exact h1, h2, h3.move L hBB⟩
    · rw [hout id hid] at ho
      obtain ⟨b, es, k, h1, h2, h3⟩ := g.map id ck cv l ho
      exact ⟨b, es, k, by rw [hρ2 id hid]; exact h1, by rw [hblk id _ b 0 hid h1 rfl]; exact h2, h3.move L hC⟩
  · intro id l hr
    rcases hcase id with ⟨j, hj, rfl⟩ | hid
    · rw [hin j os'[j] (by simp [hlen, hj])]; rfl
    · rw [hρ2 id hid] at hr
      rw [hout id hid]; exact g.dom id l hr
  · intro id o ho
    rcases hcase id with ⟨j, hj, rfl⟩ | hid
    · obtain ⟨o0, h0⟩ := hsome j hj
      have e1 : os'[j]? = some os'[j] := by simp [hlen, hj]
      have e2 := hin j _ e1
      rw [ho] at e2
      simp only [Option.some.injEq] at e2
      refine ⟨(g.nums _ _ h0).1, fun r hr => ?_⟩
      rw [e2, Obj.ren_refs, List.mem_map] at hr
      obtain ⟨r0, hr0, rfl⟩ := hr
      obtain ⟨o1, h1⟩ := hsome r0 (hrefs _ (List.mem_of_getElem? e1) r0 hr0)
      exact (g.nums _ _ h1).1
    · rw [hout id hid] at ho; exact g.nums id o ho
  · intro i i' l l' b o o' h1 h2 h3 h4
    rcases hcase i with ⟨j, hj, rfl⟩ | hid
    · rcases hcase i' with ⟨j', hj', rfl⟩ | hid'
      · rw [hρ1 j hj] at h1; rw [hρ1 j' hj'] at h2
        rw [g1.apart j j' l l' b o o' h1 h2 h3 h4]
      · rw [hρ1 j hj] at h1; rw [hρ2 i' hid'] at h2
        obtain ⟨a1, a2, a3⟩ := hA i' l' b o' hid' h2 h4
        exact (a3 o (s1.mine b o a1 ⟨j, l, h1, h3⟩)).elim
    · rcases hcase i' with ⟨j', hj', rfl⟩ | hid'
      · rw [hρ2 i hid] at h1; rw [hρ1 j' hj'] at h2
        obtain ⟨a1, a2, a3⟩ := hA i l b o hid h1 h3
        exact (a3 o' (s1.mine b o' a1 ⟨j', l', h2, h4⟩)).elim
      · rw [hρ2 i hid] at h1; rw [hρ2 i' hid'] at h2
        exact g.apart i i' l l' b o o' h1 h2 h3 h4
  · intro b o hm
    rcases hmine b o hm with h3 | ⟨id, l, h3, h4, h5⟩
    · have := g1.outer b o h3
      exact ⟨fun h => this.1 (by rw [s1.O]; exact .inl h), this.2⟩
    · have := g.outer b o ⟨id, l, h4, h5⟩
      exact ⟨this.1, Nat.lt_of_lt_of_le this.2 s1.size⟩
  · intro b o ho
    exact Nat.lt_of_lt_of_le (g.outs b o ho) s1.size
def renE (f : Nat → Nat) (env : Env C) : Env C := env.map fun p => (p.1, p.2.ren f)
theorem eget_ren (f : Nat → Nat) : ∀ (env : Env C) (t : Nat), eget (renE f env) t = (eget env t).ren f
  | [], t => rfl
  | (j, d) :: r, t => by
    show eget ((j, d.ren f) :: renE f r) t = _
    rw [eget_cons, eget_cons, eget_ren f r t]
    split <;> rfl
theorem EnvOK.part (L : Laws T) {X : Cx} {nx : Nat} {lim : Lim} {env env0 : Env C} {tmps : Array Value} {k top : Nat} {f : Nat → Nat} (he : EnvOK T X nx lim env tmps) (hinj : ∀ i j, i < k → j < k → f i = f j → i = j)
    (hs : ∀ q ∈ env0, eget env q.1 = q.2.ren f) (hr : ∀ q ∈ env0, ∀ r ∈ q.2.refs, r < k) : EnvOK T (X.part k f) k (lim0 top) env0 tmps := by
  obtain ⟨fi, hfi⟩ := inv_of hinj
  intro t
  rcases eget_mem env0 t with h | h
  · rw [h]; exact RO.mk (RV.top _ _ _) rfl
  · have hrt : ∀ r ∈ (eget env0 t).refs, r < k := hr _ h
    refine ⟨?_, fun r hh => ⟨.inl (hrt r hh), fun h => h⟩⟩
    have h1 := (he t).1
    have h2 := hs _ h
    simp only at h2
    rw [h2] at h1
    have h3 := RV.ren (X := X) (X' := X.part k f) fi L.encOK (h := h1) ⟨fun b o v a1 a2 => ⟨a1, Cx.part_free.2 a2⟩, fun l r h1 h2 => ⟨h1, fun o hm => by obtain ⟨j, q, _, hl, ho⟩ := Cx.part_mine.1 hm; exact h2 o ⟨f j, q, hl, ho⟩⟩⟩ (fun r hh => by
      rw [D.ren_refs, List.mem_map] at hh
      obtain ⟨r0, hr0, rfl⟩ := hh
      have := hrt r0 hr0
      simp only [hfi r0 this, Cx.part, this, if_true]
      exact .refl _)
    rwa [D.ren_ren f fi _ (fun r hh => hfi r (hrt r hh))] at h3
theorem EnvOK.back (L : Laws T) {X1 X' : Cx} {nx k : Nat} {lim lim1 : Lim} {env : Env C} {tmps : Array Value} {f : Nat → Nat} (he : EnvOK T X1 k lim1 env tmps) (hr : ∀ q ∈ env, ∀ r ∈ q.2.refs, r < k)
    (hρ : ∀ j, j < k → X'.ρ (f j) = X1.ρ j) (hB : Kps X1 X') (hold : ∀ j, j < k → old nx lim (f j)) : EnvOK T X' nx lim (renE f env) tmps := by
  intro t
  rw [eget_ren]
  have hrt : ∀ r ∈ (eget env t).refs, r < k := by
    rcases eget_mem env t with h | h
    · rw [h]; simp [D.refs]
    · exact hr _ h
  refine ⟨(he t).1.ren f L.encOK hB fun r hh => ?_, fun r hh => ?_⟩
  · rw [hρ r (hrt r hh)]; exact .refl _
  · rw [D.ren_refs, List.mem_map] at hh
    obtain ⟨r0, hr0, rfl⟩ := hh
    exact hold r0 (hrt r0 hr0)
end
end Go.Ev
