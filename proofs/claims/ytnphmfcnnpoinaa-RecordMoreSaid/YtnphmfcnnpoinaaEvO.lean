/-
  An operation as a whole; regions in the order of the text.
-/
import Derived.Test.YtnphmfcnnpoinaaEvN2
namespace Go.Ev
set_option linter.unusedVariables false
set_option linter.unusedSimpArgs false

section
variable {C : Cdc} {P : Program} {T : Tab C} (K : PLaws P T)
open Pg (Ex)

/-- what a call comes to -/
def CallPost (T : Tab C) (X : Cx) (nx : Nat) (lim : Lim) (h' : Heap C) (nx' : Nat) (d : D C) (en : Ending) (w' : World) : Prop :=
  ∃ v X', en = .returned v ∧ X'.w = w' ∧ G T X' h' nx' lim ∧ Step X nx lim X' ∧ RO T X' nx' lim d v

def CallOK (P : Program) (T : Tab C) (call : FuncId → List (D C) → Pg C (D C)) : Prop :=
  ∀ f args vs X h nx lim e d h' nx' tr, G T X h nx lim → RVs T X args vs → (∀ a ∈ args, ∀ id ∈ D.refs a, old nx lim id) → nx' ≤ lim.top → Ex e (call f args) h nx d h' nx' tr →
    (callFunc f ⟨vs⟩).run P X.w = .ok (.enter f ⟨vs⟩) X.w ∧ Calls P f ⟨vs⟩ X.w (CallPost T X nx lim h' nx' d)

variable {X : Cx} {h h' : Heap C} {nx nx' : Nat} {e : Pg.Lv} {lim : Lim} {tr : Tr} {env : Env C} {a : Act}

theorem const_ok (v : Value) : RO T X nx lim (constD v : D C) v := by
  unfold constD
  split
  · exact RO.mk (.mk rfl (.bool _)) rfl
  · rename_i k n
    cases hb : decide (k.min ≤ n) && decide (n ≤ k.max) with
    | true => exact RO.mk (.mk rfl (.int (by simpa using hb))) rfl
    | false => exact RO.mk (RV.top _ _ _) rfl
  · exact RO.mk (.mk rfl (.str _)) rfl
  · exact RO.mk (.mk rfl .nils) rfl
  · exact RO.mk (.mk rfl .nilp) rfl
  · exact RO.mk (.mk rfl .nilfn) rfl
  · exact RO.mk (.mk rfl (.tup .vnil)) rfl
  · exact RO.mk (RV.top _ _ _) rfl

theorem opd_ok (he : EnvOK T X nx lim env a.tmps) (x : Operand) : RO T X nx lim (evAt env x) (a.eval x) := by
  cases x with
  | tmp t => exact he t
  | const v => exact const_ok v
  | global g => exact RO.mk (RV.top _ _ _) rfl
  | func f => exact RO.mk (.mk rfl (.fn .vnil)) rfl

theorem opds_ok (he : EnvOK T X nx lim env a.tmps) (l : List Operand) : RVs T X (l.map (evAt env)) (l.map a.eval) ∧ ∀ d ∈ l.map (evAt env), ∀ id ∈ D.refs d, old nx lim id := by
  induction l with
  | nil => exact ⟨.nil, by simp⟩
  | cons x l ih =>
    refine ⟨.cons (opd_ok he x).1 ih.1, ?_⟩
    intro d hd
    simp only [List.map_cons, List.mem_cons] at hd
    rcases hd with rfl | hd
    · exact (opd_ok he x).2
    · exact ih.2 d hd

theorem typedL_ok {ts : List TypeId} : ∀ {ds : List (D C)} {vs : List Value}, RVs T X ds vs → (∀ d ∈ ds, ∀ id ∈ D.refs d, old nx lim id) → RVs T X (typedL T ts ds) vs ∧ ∀ d ∈ typedL T ts ds, ∀ id ∈ D.refs d, old nx lim id := by
  induction ts with
  | nil => intro ds vs h hr; cases ds <;> exact ⟨h, hr⟩
  | cons t ts ih =>
    intro ds vs h hr
    cases h with
    | nil => exact ⟨.nil, by simp [typedL]⟩
    | @cons d ds v vs h0 h1 =>
      have := ih h1 (fun d hd => hr d (by simp [hd]))
      have h2 : RO T X nx lim (typed T t d) v := typed_ok ⟨h0, hr d (by simp)⟩
      refine ⟨.cons h2.1 this.1, ?_⟩
      intro q hq
      simp only [typedL, List.mem_cons] at hq
      rcases hq with rfl | hq
      · exact h2.2
      · exact this.2 q hq

theorem parts_ok (he : EnvOK T X nx lim env a.tmps) (l : List (Nat × Operand)) : ∀ (j : Nat) (p : Nat × D C) (q : Nat × Value), (l.map fun p => (p.1, evAt env p.2))[j]? = some p → (l.map fun p => (p.1, a.eval p.2))[j]? = some q → p.1 = q.1 ∧ RO T X nx lim p.2 q.2 := by
  intro j p q hp hq
  rw [List.getElem?_map, Option.map_eq_some_iff] at hp hq
  obtain ⟨x, hx, rfl⟩ := hp
  obtain ⟨y, hy, rfl⟩ := hq
  rw [hx] at hy; simp at hy; subst hy
  exact ⟨rfl, opd_ok he _⟩

theorem refs_toList (d : D C) : ∀ q ∈ d.toList, ∀ id ∈ q.refs, id ∈ d.refs := by
  induction d with
  | acons a b _ ih =>
    intro q hq id hid
    simp only [D.toList, List.mem_cons] at hq
    simp only [D.refs, List.mem_append]
    rcases hq with rfl | hq
    · exact .inl hid
    · exact .inr (ih q hq id hid)
  | _ => intro q hq; simp [D.toList] at hq

theorem refs_ofList (l : List (D C)) : ∀ id ∈ (D.ofList l).refs, ∃ d ∈ l, id ∈ d.refs := by
  induction l with
  | nil => intro id h; simp [D.ofList, D.refs] at h
  | cons d l ih =>
    intro id hid
    simp only [D.ofList, D.refs, List.mem_append] at hid
    rcases hid with h | h
    · exact ⟨d, by simp, h⟩
    · obtain ⟨q, hq, hi⟩ := ih id h; exact ⟨q, by simp [hq], hi⟩

/-- how an operation that gives a value goes on -/
theorem wp_of_post {o : Oper} {s : Sem Value} {d : D C} {k : Act → World → Prop} {Q : Exit → Act → World → Prop} (hrun : (execOp a.eval o).run P X.w = (s.run P X.w).andThen fun v w => .ok (.value v) w)
    (hp : Post P T X nx lim h' nx' d s) (hk : ∀ v X', G T X' h' nx' lim → Step X nx lim X' → RO T X' nx' lim d v → k (a.put o.dst v) X'.w) : o.wp P a X.w k Q := by
  obtain ⟨v, X', h1, h2, h3, h4⟩ := hp
  unfold Oper.wp
  rw [hrun, h1]
  exact hk v X' h2 h3 h4

include K
theorem evOp_ok {call : FuncId → List (D C) → Pg C (D C)} (hcall : CallOK P T call) (g : G T X h nx lim) (he : EnvOK T X nx lim env a.tmps) (hlim : nx' ≤ lim.top) {o : Oper} {d : D C} (hx : Ex e (evOp T call o (evAt env)) h nx d h' nx' tr)
    {k : Act → World → Prop} {Q : Exit → Act → World → Prop} (hk : ∀ v X', G T X' h' nx' lim → Step X nx lim X' → RO T X' nx' lim d v → k (a.put o.dst v) X'.w) : o.wp P a X.w k Q := by
  obtain ⟨dst, op, ty, pos, after, guard⟩ := o
  unfold evOp at hx
  cases op <;> simp only at hx
  case move x =>
    obtain ⟨rfl, rfl, rfl, rfl⟩ := Ex.ret hx
    exact hk _ X g (.refl _ _ _) (typed_ok (opd_ok he x))
  case assign x =>
    obtain ⟨rfl, rfl, rfl, rfl⟩ := Ex.ret hx
    exact hk _ X g (.refl _ _ _) (typed_ok (opd_ok he x))
  case pick c x y =>
    refine wp_of_post (P := P) ?_ (pick_ok (P := P) (opd_ok he c) (opd_ok he x) (opd_ok he y) g hx) hk
    simp only [execOp, Sem.run_bind, Sem.run_pure]
    cases (asBool (a.eval c)).run P X.w <;> rfl
  case alloc t => exact wp_of_post (by simp only [execOp, Sem.run_bind, Sem.run_pure]) (alloc_ok K g hlim hx) hk
  case box t x => exact wp_of_post (by simp only [execOp, Sem.run_bind, Sem.run_pure]) (box_ok K g hlim (typed_ok (opd_ok he x)) hx) hk
  case build t ps =>
    refine wp_of_post (s := Instr.build t (ps.map fun p => (p.1, a.eval p.2))) (by simp only [execOp, Sem.run_bind, Sem.run_pure]) ?_ hk
    have := build_ok K g (vs := ps.toList.map fun p => (p.1, a.eval p.2)) (by simp) (parts_ok he ps.toList) hx
    have e1 : (ps.map fun p => (p.1, a.eval p.2)) = ⟨ps.toList.map fun p => (p.1, a.eval p.2)⟩ := by apply Array.ext'; simp
    rw [e1]; exact this
  case buildSlice t n ps =>
    refine wp_of_post (s := Instr.buildSlice t n (ps.map fun p => (p.1, a.eval p.2))) (by simp only [execOp, Sem.run_bind, Sem.run_pure]) ?_ hk
    have := buildSlice_ok K g (vs := ps.toList.map fun p => (p.1, a.eval p.2)) (by simp) (parts_ok he ps.toList) hx
    have e1 : (ps.map fun p => (p.1, a.eval p.2)) = ⟨ps.toList.map fun p => (p.1, a.eval p.2)⟩ := by apply Array.ext'; simp
    rw [e1]; exact this
  case load t x => exact wp_of_post (by simp only [execOp, Sem.run_bind, Sem.run_pure]) (loadS_ok K g (opd_ok he x) hx) hk
  case store t x y =>
    obtain ⟨X', h1, h2, h3, rfl⟩ := store_ok K g (opd_ok he x) (typed_ok (opd_ok he y)) hx
    unfold Oper.wp
    simp only [execOp, Sem.run_bind, h1, Result.andThen_ok, Sem.run_pure]
    exact hk undef X' h2 h3 (RO.mk (.mk rfl (.tup .vnil)) rfl)
  case nilCheck x =>
    obtain ⟨v, h1, h2, rfl, rfl⟩ := nilCheck_ok (opd_ok he x) hx
    unfold Oper.wp
    rw [h1 a.eval _ x rfl rfl]
    exact hk v X g (.refl _ _ _) h2
  case binOp op t x y yt => exact wp_of_post (by simp only [execOp, Sem.run_bind, Sem.run_pure]) (bin_ok K g x y (opd_ok he x) (opd_ok he y) hx) hk
  case unOp op t x => exact wp_of_post (by simp only [execOp, Sem.run_bind, Sem.run_pure]) (un_ok g (opd_ok he x) hx) hk
  case convert s t x => exact wp_of_post (by simp only [execOp, Sem.run_bind, Sem.run_pure]) (conv_ok K g (opd_ok he x) hx) hk
  case makeFunc fn first caps =>
    unfold evMakeFunc at hx
    split at hx
    · rename_i f hfirst
      obtain ⟨rfl, rfl, rfl, rfl⟩ := Ex.ret hx
      have hc := opds_ok he caps.toList
      have hf : first = #[] := by
        apply Array.ext'
        simpa using hfirst
      subst hf
      have e1 : caps.map a.eval = ⟨caps.toList.map a.eval⟩ := by apply Array.ext'; simp
      have := hk (.func (.func f) #[] ⟨caps.toList.map a.eval⟩) X g (.refl _ _ _) ⟨.mk rfl (.fn hc.1.row), fun id hid => by
        obtain ⟨q, hq, hi⟩ := refs_ofList _ id (by simpa [D.refs] using hid); exact hc.2 q hq id hi⟩
      unfold Oper.wp
      simp only [execOp, Sem.run_bind, Instr.makeFunc, Sem.run_pure, Result.andThen_ok, e1, Array.map_empty]
      exact this
    · exact (Ex.fail hx).elim
  case makeSlice t x y => exact wp_of_post (by simp only [execOp, Sem.run_bind, Sem.run_pure]) (makeSlice_ok K g hlim (opd_ok he x) (opd_ok he y) hx) hk
  case slice t x lo hi mx =>
    have ho : ∀ q : Option Operand, ROo T X nx lim (q.map (evAt env)) (q.map a.eval) := by
      intro q
      cases q with
      | none => trivial
      | some q => exact opd_ok he q
    exact wp_of_post (by simp only [execOp, Sem.run_bind, Sem.run_pure]) (slice_ok K g (opd_ok he x) (ho lo) (ho hi) (ho mx) hx) hk
  case fieldAddr s x i => exact wp_of_post (by simp only [execOp, Sem.run_bind, Sem.run_pure]) (fieldAddr_ok K g (opd_ok he x) hx) hk
  case field s x i => exact wp_of_post (by simp only [execOp, Sem.run_bind, Sem.run_pure]) (field_ok K g (opd_ok he x) hx) hk
  case indexAddr t x i => exact wp_of_post (by simp only [execOp, Sem.run_bind, Sem.run_pure]) (indexAddr_ok K g (opd_ok he x) (opd_ok he i) hx) hk
  case index t x i => exact wp_of_post (by simp only [execOp, Sem.run_bind, Sem.run_pure]) (index_ok K g (opd_ok he x) (opd_ok he i) hx) hk
  case extract x i =>
    unfold evExtract at hx
    have hx0 := opd_ok he x
    generalize evAt env x = q at hx hx0
    cases q with
    | tup ds =>
      simp only at hx
      obtain ⟨hn, rfl, rfl, rfl⟩ := Ex.ofOpt hx
      have hR := hx0.1.one rfl
      generalize hv : a.eval x = vv at hR hx0
      cases hR with
      | tup hr =>
        obtain ⟨v, hv1, hv2⟩ := hr.nth T rfl i d hn
        unfold Oper.wp
        simp only [execOp, Sem.run_bind, hv, Instr.extract]
        rename_i vs
        have : (⟨vs⟩ : Array Value)[i]? = some v := by simpa using hv1
        simp only [this, Sem.run_pure, Result.andThen_ok]
        exact hk v X g (.refl _ _ _) ⟨hv2, fun id hid => hx0.2 id (by simpa [D.refs] using refs_nth _ _ _ hn id hid)⟩
    | _ => exact (Ex.fail hx).elim
  case call c =>
    obtain ⟨callee, args, argTypes⟩ := c
    have ha := opds_ok he args.toList
    have e1 : args.map a.eval = ⟨args.toList.map a.eval⟩ := by apply Array.ext'; simp
    cases callee with
    | builtin b =>
      simp only at hx
      cases hb : Nat.beq argTypes.toList.length args.toList.length with
      | false => rw [hb] at hx; exact (Ex.fail hx).elim
      | true =>
        rw [hb] at hx
        simp only [cond_true] at hx
        obtain ⟨s, hs1, hs2⟩ := builtin_ok K g hlim (ty0 := ty) ha.1 ha.2 (by simpa using Nat.eq_of_beq_eq_true hb) hx
        refine wp_of_post (s := s) ?_ hs2 hk
        have hs1' : ∀ consts, Go.builtin b argTypes ty consts ⟨args.toList.map a.eval⟩ = (do pure (.value (← s))) := hs1
        simp only [execOp, resolve, Sem.run_bind, Sem.run_pure, Result.andThen_ok, invoke, e1, hs1']
    | value f =>
      simp only at hx
      unfold evCall at hx
      have hf := opd_ok he f
      generalize evAt env f = q at hx hf
      cases q with
      | fn fid caps =>
        simp only at hx
        have hR := hf.1.one rfl
        generalize hv : a.eval f = vf at hR hf
        cases hR with
        | @fn _ _ cvs hc =>
          have ht := typedL_ok (ts := argTypes.toList) ha.1 ha.2
          have hcl := hc.toList T rfl
          obtain ⟨q1, q2⟩ := hcall fid _ _ X h nx lim e d h' nx' tr g (RVs.append T ht.1 hcl) (by
            intro x hx'
            rcases List.mem_append.1 hx' with h1 | h1
            · exact ht.2 x h1
            · exact fun id hid => hf.2 id (by simpa [D.refs] using refs_toList caps x h1 id hid)) hlim hx
          unfold Oper.wp
          have e2 : (#[] ++ args.map a.eval) ++ (⟨cvs⟩ : Array Value) = ⟨args.toList.map a.eval ++ cvs⟩ := by apply Array.ext'; simp
          simp only [execOp, resolve, Sem.run_bind, hv, Deferred.ofValue, Sem.run_pure, Result.andThen_ok, invoke, e2, q1]
          rw [Oper.upon_enter]
          refine q2.mono fun en w' hp => ?_
          obtain ⟨v, X', rfl, rfl, h2, h3, h4⟩ := hp
          exact hk v X' h2 h3 h4
      | _ => exact (Ex.fail hx).elim
    | invoke r m => exact (Ex.fail hx).elim
  all_goals exact (Ex.fail hx).elim
end
end Go.Ev
