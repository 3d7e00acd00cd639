/-
  Operations with their guards; regions in the order of the text.
-/
import Derived.Test.YtnphmfcnnpoinaaEvP
namespace Go.Ev
set_option linter.unusedVariables false
set_option linter.unusedSimpArgs false

section
variable {C : Cdc} {P : Program} {T : Tab C} (K : PLaws P T)
open Pg (Ex)

theorem eget_cons (env : Env C) (t j : Nat) (d : D C) : eget ((j, d) :: env) t = if t = j then d else eget env t := by
  simp only [eget]
  by_cases h : t = j
  · subst h; simp
  · simp [beqF h, h]

theorem eget_put (env : Env C) (dst : Option Tmp) (d : D C) (t : Nat) : eget (put env dst d) t = if dst = some t then d else eget env t := by
  cases dst with
  | none => simp [put]
  | some j =>
    simp only [put, eget_cons]
    by_cases h : t = j
    · simp [h]
    · have : ¬ j = t := fun e => h e.symm
      simp [h, this]

theorem evOp_congr (call : FuncId → List (D C) → Pg C (D C)) (o : Oper) (r s : Operand → D C) (hh : ∀ x ∈ o.op.operands, r x = s x) : evOp T call o r = evOp T call o s := by
  obtain ⟨dst, op, ty, pos, after, guard⟩ := o
  have hl : ∀ (xs : Array Operand), (∀ x ∈ xs, r x = s x) → xs.toList.map r = xs.toList.map s := fun xs hx => List.map_congr_left fun x hm => hx x (by simpa using hm)
  have hp : ∀ (ps : Array (Nat × Operand)), (∀ x ∈ (ps.toList.map (·.2)).toArray, r x = s x) → (ps.toList.map fun p => (p.1, r p.2)) = ps.toList.map fun p => (p.1, s p.2) := fun ps hx => List.map_congr_left fun p hm => by
    rw [hx p.2 (by simp; exact ⟨p.1, by simpa using hm⟩)]
  have hopt : ∀ (q : Option Operand), (∀ x ∈ q.toArray, r x = s x) → q.map r = q.map s := fun q hx => by
    cases q with
    | none => rfl
    | some q => simp [hx q (by simp)]
  cases op <;> simp only [Op.operands] at hh <;> simp only [evOp]
  case build t ps => rw [hp ps hh]
  case buildSlice t n ps => rw [hp ps hh]
  case makeFunc fn a b => rw [hl a (fun x hx => hh x (by simp [hx])), hl b (fun x hx => hh x (by simp [hx]))]
  case slice t x lo hi mx =>
    rw [hh x (by simp), hopt lo (fun y hy => hh y (by simp at hy ⊢; simp [hy])), hopt hi (fun y hy => hh y (by simp at hy ⊢; simp [hy])), hopt mx (fun y hy => hh y (by simp at hy ⊢; simp [hy]))]
  case call c =>
    obtain ⟨callee, args, argTypes⟩ := c
    have ha := hl args (fun x hx => hh x (by simp [Call.operands, hx]))
    cases callee with
    | builtin b => simp only [ha]
    | value f => simp only [ha, hh f (by simp [Call.operands])]
    | invoke q m => rfl
  all_goals simp_all

/-- what the slots are behind an operation; and that it goes alike where the slots that it looks at are the same -/
theorem evOpG_eq (call : FuncId → List (D C) → Pg C (D C)) (ops : Array Oper) (o : Oper) (env env2 : Env C) (hh : ∀ t ∈ o.looksAt ops, eget env t = eget env2 t) {e : Pg.Lv} {h h' : Heap C} {n n' : Nat} {env1 : Env C} {tr : Tr}
    (hx : Ex e (evOpG T call ops o env) h n env1 h' n' tr) :
    ∃ v env3, (∀ t, eget env1 t = if o.dst = some t then v else eget env t) ∧ Ex e (evOpG T call ops o env2) h n env3 h' n' tr ∧ ∀ t, eget env3 t = if o.dst = some t then v else eget env2 t := by
  have hops : ∀ (f1 f2 : Env C), (∀ t, eget f1 t = eget env t) → (∀ t, eget f2 t = eget env2 t) → ∀ x ∈ o.op.operands, evAt f1 x = evAt f2 x := by
    intro f1 f2 h1 h2 x hx
    cases x with
    | tmp t =>
      simp only [evAt, h1, h2]
      refine hh t ?_
      unfold Oper.looksAt
      simp only [List.mem_append, List.mem_filterMap]
      exact .inl ⟨.tmp t, by simpa using hx, rfl⟩
    | _ => rfl
  have hgo : ∀ (f1 f2 : Env C), (∀ t, eget f1 t = eget env t) → (∀ t, eget f2 t = eget env2 t) → Ex e (.bind (evOp T call o (evAt f1)) fun d => .ret (put f1 o.dst d)) h n env1 h' n' tr →
      ∃ v env3, (∀ t, eget env1 t = if o.dst = some t then v else eget env t) ∧ Ex e (.bind (evOp T call o (evAt f2)) fun d => .ret (put f2 o.dst d)) h n env3 h' n' tr ∧ ∀ t, eget env3 t = if o.dst = some t then v else eget env2 t := by
    intro f1 f2 h1 h2 hx
    obtain ⟨d, h3, n3, t1, t2, q1, q2, rfl⟩ := Ex.bind hx
    obtain ⟨rfl, rfl, rfl, rfl⟩ := Ex.ret q2
    rw [evOp_congr call o _ _ (hops f1 f2 h1 h2)] at q1
    exact ⟨d, put f2 o.dst d, fun t => by rw [eget_put, h1], Pg.Ex.mk_bind q1 (Pg.Ex.mk_ret _), fun t => by rw [eget_put, h2]⟩
  have hskip : ∀ (f1 f2 : Env C), (∀ t, eget f1 t = eget env t) → (∀ t, eget f2 t = eget env2 t) → Ex e (.ret (put f1 o.dst (.tup .anil)) : Pg C (Env C)) h n env1 h' n' tr →
      ∃ v env3, (∀ t, eget env1 t = if o.dst = some t then v else eget env t) ∧ Ex e (.ret (put f2 o.dst (.tup .anil)) : Pg C (Env C)) h n env3 h' n' tr ∧ ∀ t, eget env3 t = if o.dst = some t then v else eget env2 t := by
    intro f1 f2 h1 h2 hx
    obtain ⟨rfl, rfl, rfl, rfl⟩ := Ex.ret hx
    exact ⟨_, put f2 o.dst (.tup .anil), fun t => by rw [eget_put, h1], Pg.Ex.mk_ret _, fun t => by rw [eget_put, h2]⟩
  unfold evOpG at hx ⊢
  cases hg : o.guard with
  | none => rw [hg] at hx; exact hgo env env2 (fun _ => rfl) (fun _ => rfl) hx
  | some jw =>
    obtain ⟨j, want⟩ := jw
    rw [hg] at hx
    simp only at hx ⊢
    cases hd : (ops[j]?).bind (·.dst) with
    | none => rw [hd] at hx; exact (Ex.fail hx).elim
    | some d =>
      simp only [hd] at hx ⊢
      have hlk : eget env d = eget env2 d := hh d (by
        unfold Oper.looksAt
        rw [hg]
        simp [hd])
      rw [← hlk]
      have same : ∀ (f : Env C) (b : Bool), eget f d = .bool b → ∀ t, eget ((d, .bool b) :: f) t = eget f t := by
        intro f b hb t
        rw [eget_cons]
        by_cases ht : t = d
        · simp [ht, hb]
        · simp [ht]
      generalize hq : eget env d = q at hx
      match q, hq, hx with
      | .bool b, hq, hx =>
        simp only at hx ⊢
        have hq2 : eget env2 d = .bool b := by rw [← hlk, hq]
        rcases Ex.br hx with ⟨rfl, hx⟩ | ⟨rfl, hx⟩
        · cases want with
          | true =>
            obtain ⟨v, env3, k1, k2, k3⟩ := hgo _ _ (same env true hq) (same env2 true hq2) hx
            exact ⟨v, env3, k1, Pg.Ex.mk_br (.inl ⟨rfl, k2⟩), k3⟩
          | false =>
            obtain ⟨v, env3, k1, k2, k3⟩ := hskip _ _ (same env true hq) (same env2 true hq2) hx
            exact ⟨v, env3, k1, Pg.Ex.mk_br (.inl ⟨rfl, k2⟩), k3⟩
        · cases want with
          | true =>
            obtain ⟨v, env3, k1, k2, k3⟩ := hskip _ _ (same env false hq) (same env2 false hq2) hx
            exact ⟨v, env3, k1, Pg.Ex.mk_br (.inr ⟨rfl, k2⟩), k3⟩
          | false =>
            obtain ⟨v, env3, k1, k2, k3⟩ := hgo _ _ (same env false hq) (same env2 false hq2) hx
            exact ⟨v, env3, k1, Pg.Ex.mk_br (.inr ⟨rfl, k2⟩), k3⟩
      | .tup .anil, hq, hx => exact hskip env env2 (fun _ => rfl) (fun _ => rfl) hx
      | .tup (.bool _), _, hx | .tup (.int _ _), _, hx | .tup (.str _), _, hx | .tup (.acons _ _), _, hx | .tup (.arr _ _ _), _, hx | .tup (.tup _), _, hx | .tup .nils, _, hx | .tup (.sl _ _ _), _, hx | .tup (.vs _ _), _, hx
      | .tup (.ptr _ _), _, hx | .tup (.vptr _ _ _), _, hx | .tup (.cptr _), _, hx | .tup .nilp, _, hx | .tup (.fn _ _), _, hx | .tup .nilfn, _, hx | .tup .top, _, hx
      | .int _ _, _, hx | .str _, _, hx | .anil, _, hx | .acons _ _, _, hx | .arr _ _ _, _, hx | .nils, _, hx | .sl _ _ _, _, hx | .vs _ _, _, hx | .ptr _ _, _, hx | .vptr _ _ _, _, hx | .cptr _, _, hx | .nilp, _, hx
      | .fn _ _, _, hx | .nilfn, _, hx | .top, _, hx => exact (Ex.fail hx).elim

variable {X : Cx} {h h' : Heap C} {nx nx' : Nat} {e : Pg.Lv} {lim : Lim} {tr : Tr} {env env' : Env C} {a : Act}

theorem EnvOK.put {d : D C} {v : Value} {dst : Option Tmp} (he : EnvOK T X nx lim env a.tmps) (hd : RO T X nx lim d v) (hb : ∀ t, dst = some t → t < a.tmps.size) : EnvOK T X nx lim (Ev.put env dst d) (a.put dst v).tmps := by
  intro t
  rw [eget_put]
  cases dst with
  | none => simpa [Act.put] using he t
  | some j =>
    simp only [Act.put, Option.some.injEq]
    by_cases hj : j = t
    · subst hj
      have := hb j rfl
      simp [this]; exact hd
    · simp [hj]; simpa using he t

/-- slots that are as they were -/
def Kp (B : Nat → Bool) (u u' : Array Value) : Prop := ∀ t, B t = true → u'.getD t undef = u.getD t undef
theorem Kp.refl (B : Nat → Bool) (u : Array Value) : Kp B u u := fun _ _ => rfl
theorem Kp.trans {B : Nat → Bool} {u v w : Array Value} (h : Kp B u v) (k : Kp B v w) : Kp B u w := fun t ht => (k t ht).trans (h t ht)
theorem put_kp {B : Nat → Bool} (a : Act) (dst : Option Tmp) (v : Value) (hB : ∀ t, dst = some t → B t = false) : Kp B a.tmps (a.put dst v).tmps := by
  intro t ht
  cases dst with
  | none => rfl
  | some j =>
    have : j ≠ t := fun e => by have := hB j rfl; rw [e, ht] at this; cases this
    simp [Act.put, this]

theorem put_size (a : Act) (dst : Option Tmp) (v : Value) : (a.put dst v).tmps.size = a.tmps.size ∧ (a.put dst v).defers = a.defers := by
  cases dst <;> simp [Act.put]

include K
/-- an operation with its guard -/
theorem evOpG_ok {call : FuncId → List (D C) → Pg C (D C)} (hcall : CallOK P T call) (g : G T X h nx lim) (he : EnvOK T X nx lim env a.tmps) (hlim : nx' ≤ lim.top) {ops : Array Oper} {i : Nat} {o : Oper} (hi : ops[i]? = some o)
    (hb : ∀ t, o.dst = some t → t < a.tmps.size) {B : Nat → Bool} (hB : ∀ t, o.dst = some t → B t = false) (hx : Ex e (evOpG T call ops o env) h nx env' h' nx' tr) {k : Act → World → Prop} {Q : Exit → Act → World → Prop}
    (hk : ∀ a' X', G T X' h' nx' lim → Step X nx lim X' → EnvOK T X' nx' lim env' a'.tmps → a'.tmps.size = a.tmps.size → a'.defers = a.defers → Kp B a.tmps a'.tmps → k a' X'.w) : wpOp P ops Q i k a X.w := by
  have hgo : ∀ (f : Env C), EnvOK T X nx lim f a.tmps → Region.wanted o (yielded ops a.tmps) = true → Ex e (.bind (evOp T call o (evAt f)) fun d => .ret (put f o.dst d)) h nx env' h' nx' tr → wpOp P ops Q i k a X.w := by
    intro f hf hw hx
    obtain ⟨d, h3, n3, t1, t2, q1, q2, rfl⟩ := Ex.bind hx
    obtain ⟨rfl, rfl, rfl, rfl⟩ := Ex.ret q2
    unfold wpOp
    simp only [hi, hw, if_true]
    refine .inl (evOp_ok K hcall g hf hlim q1 fun v X' g' s' r' => ?_)
    have hle := Ex.le q1
    exact hk _ X' g' s' ((hf.step K.base s' hle).put r' hb) (put_size _ _ _).1 (put_size _ _ _).2 (put_kp _ _ _ hB)
  have hskip : ∀ (f : Env C), EnvOK T X nx lim f a.tmps → Region.wanted o (yielded ops a.tmps) = false → Ex e (.ret (put f o.dst (.tup .anil)) : Pg C (Env C)) h nx env' h' nx' tr → wpOp P ops Q i k a X.w := by
    intro f hf hw hx
    obtain ⟨rfl, rfl, rfl, rfl⟩ := Ex.ret hx
    unfold wpOp
    simp only [hi, hw, Bool.false_eq_true, if_false]
    exact hk _ X g (.refl _ _ _) (hf.put (RO.mk (.mk rfl (.tup .vnil)) rfl) hb) (put_size _ _ _).1 (put_size _ _ _).2 (put_kp _ _ _ hB)
  unfold evOpG at hx
  cases hg : o.guard with
  | none => rw [hg] at hx; exact hgo env he (by simp [Region.wanted, hg]) hx
  | some jw =>
    obtain ⟨j, want⟩ := jw
    rw [hg] at hx
    simp only at hx
    cases hd : (ops[j]?).bind (·.dst) with
    | none => rw [hd] at hx; exact (Ex.fail hx).elim
    | some d =>
      simp only [hd] at hx
      have hed := he d
      have same : ∀ (b : Bool), eget env d = .bool b → EnvOK T X nx lim ((d, .bool b) :: env) a.tmps := by
        intro b hb' t
        rw [eget_cons]
        by_cases ht : t = d
        · subst ht; simp; rw [← hb']; simpa using he t
        · simp [ht]; simpa using he t
      generalize hq : eget env d = q at hx hed
      match q, hq, hx, hed with
      | .bool b, hq, hx, hed =>
        simp only at hx
        have hv : a.tmps[d]? = some (.bool b) := by
          have := hed.1.bool
          cases hs : a.tmps[d]? with
          | none => simp [hs, undef] at this
          | some u => simp [hs] at this; rw [this]
        have hy : yielded ops a.tmps j = some b := by simp [yielded, hd, hv]
        rcases Ex.br hx with ⟨rfl, hx⟩ | ⟨rfl, hx⟩
        · cases want with
          | true => exact hgo _ (same true hq) (by simp [Region.wanted, hg, hy]) hx
          | false => exact hskip _ (same true hq) (by simp [Region.wanted, hg, hy]) hx
        · cases want with
          | true => exact hskip _ (same false hq) (by simp [Region.wanted, hg, hy]) hx
          | false => exact hgo _ (same false hq) (by simp [Region.wanted, hg, hy]) hx
      | .tup .anil, hq, hx, hed =>
        have hR := hed.1.one rfl
        have hv : a.tmps.getD d undef = .tuple #[] := by
          generalize a.tmps.getD d undef = u at hR
          cases hR with
          | tup hr => cases hr; rfl
        have hy : yielded ops a.tmps j = none := by
          simp only [yielded, hd, Option.bind_some]
          cases hs : a.tmps[d]? with
          | none => rfl
          | some u => simp [hs] at hv; rw [hv]
        exact hskip env he (by simp [Region.wanted, hg, hy]) hx
      | .tup (.bool _), _, hx, _ | .tup (.int _ _), _, hx, _ | .tup (.str _), _, hx, _ | .tup (.acons _ _), _, hx, _ | .tup (.arr _ _ _), _, hx, _ | .tup (.tup _), _, hx, _ | .tup .nils, _, hx, _ | .tup (.sl _ _ _), _, hx, _ | .tup (.vs _ _), _, hx, _
      | .tup (.ptr _ _), _, hx, _ | .tup (.vptr _ _ _), _, hx, _ | .tup (.cptr _), _, hx, _ | .tup .nilp, _, hx, _ | .tup (.fn _ _), _, hx, _ | .tup .nilfn, _, hx, _ | .tup .top, _, hx, _
      | .int _ _, _, hx, _ | .str _, _, hx, _ | .anil, _, hx, _ | .acons _ _, _, hx, _ | .arr _ _ _, _, hx, _ | .nils, _, hx, _ | .sl _ _ _, _, hx, _ | .vs _ _, _, hx, _ | .ptr _ _, _, hx, _ | .vptr _ _ _, _, hx, _ | .cptr _, _, hx, _ | .nilp, _, hx, _
      | .fn _ _, _, hx, _ | .nilfn, _, hx, _ | .top, _, hx, _ => exact (Ex.fail hx).elim

/-- operations in the order of the text -/
theorem evOps_ok {call : FuncId → List (D C) → Pg C (D C)} (hcall : CallOK P T call) {ops : Array Oper} {B : Nat → Bool} (hB : ∀ o ∈ ops.toList, ∀ t, o.dst = some t → B t = false) : ∀ (l : List Oper) (i : Nat), ops.toList.drop i = l → ∀ {X : Cx} {h h' : Heap C} {nx nx' : Nat} {e : Pg.Lv} {lim : Lim} {tr : Tr} {env env' : Env C} {a : Act},
    G T X h nx lim → EnvOK T X nx lim env a.tmps → nx' ≤ lim.top → (∀ o ∈ ops.toList, ∀ t, o.dst = some t → t < a.tmps.size) → Ex e (evOps T call ops l env) h nx env' h' nx' tr → ∀ {Q : Exit → Act → World → Prop},
    (∀ a' X', G T X' h' nx' lim → Step X nx lim X' → EnvOK T X' nx' lim env' a'.tmps → a'.tmps.size = a.tmps.size → a'.defers = a.defers → Kp B a.tmps a'.tmps → Q .normal a' X'.w) → wpOps P ops Q (List.range' i l.length) a X.w := by
  intro l
  induction l with
  | nil =>
    intro i hl X h h' nx nx' e lim tr env env' a g he hlim hb hx Q hk
    obtain ⟨rfl, rfl, rfl, rfl⟩ := Ex.ret hx
    exact hk a X g (.refl _ _ _) he rfl rfl (.refl _ _)
  | cons o l ih =>
    intro i hl X h h' nx nx' e lim tr env env' a g he hlim hb hx Q hk
    simp only [evOps] at hx
    obtain ⟨env1, h1, n1, t1, t2, q1, q2, _⟩ := Ex.bind hx
    have hle := Ex.le q2
    have hlt : i < ops.toList.length := by
      rcases Nat.lt_or_ge i ops.toList.length with h | h
      · exact h
      · rw [List.drop_eq_nil_of_le h] at hl; simp at hl
    have hlo : ops.toList[i]? = some o := by
      rw [List.drop_eq_getElem_cons hlt] at hl
      rw [List.getElem?_eq_getElem hlt, (List.cons.inj hl).1]
    have hio : ops[i]? = some o := by rw [← Array.getElem?_toList]; exact hlo
    have hl2 : ops.toList.drop (i + 1) = l := by
      rw [List.drop_eq_getElem_cons hlt] at hl
      simp at hl; exact hl.2
    rw [List.length_cons, List.range'_succ, wpOps_cons]
    refine evOpG_ok K hcall g he (by omega) hio (fun t ht => hb o (List.mem_of_getElem? hlo) t ht) (fun t ht => hB o (List.mem_of_getElem? hlo) t ht) q1 fun a' X' g' s' e' hs hd hkp => ?_
    refine ih (i + 1) hl2 g' e' hlim (fun o' ho' t ht => by rw [hs]; exact hb o' ho' t ht) q2 fun a2 X2 g2 s2 e2 hs2 hd2 hkp2 => ?_
    exact hk a2 X2 g2 (s'.trans s2 (Ex.le q1)) e2 (by omega) (by rw [hd2, hd]) (hkp.trans hkp2)
end
end Go.Ev
