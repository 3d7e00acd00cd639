/-
  A part of the proof of a statement of this seat: the model is run over values by content, proved sound; what the functions come to. No condition beyond the given statements. (text 7)
-/
import Derived.Test.YtndenhihcjijaaaGreatP5
import Derived.OpenShut
import Derived.ReadAgain
namespace Go.Ev
set_option linter.unusedVariables false
set_option linter.unusedSimpArgs false
def pendT (t:Task):Int := Zo (topF t.stack) t.got
def tk0:Task := ⟨0,[],[],false⟩
def pk0:Pick := ⟨0,0,0,0,0,0⟩
def putK (K V:Nat -> Int) (k:Int):Nat -> List Item
 | 0 => []
 | n + 1 => if K (n + 1) = k then ⟨k,((n + 1:Nat):Int),V (n + 1)⟩ :: putK K V k n else putK K V k n
theorem QaF {K V K' V':Nat -> Int} {k:Int}:∀ {n:Nat},(∀ p,1 <= p -> p <= n -> K' p = K p /\ V' p = V p) -> putK K' V' k n = putK K V k n
 | 0,_ => rfl
 | n + 1,h => by
  unfold putK;obtain ⟨h1,h2⟩ := h (n + 1) (by omega) (by omega)
  rw [h1,h2,QaF fun p a b => h p a (by omega)]
structure ClI (g:CG) (s:ChS) (c:Nat) (f:Frame) (got:List Int):Prop where
 t:s.ts.getD c tk0 = tkOf c f got
 u:s.us.getD c tk0 = tkOf c f got
 P:PhI g s.cs (s.does.getD c pk0) f got
 nx:∃ na,NxtP f got na
structure GI (s:ChS) (g:CG) (out:List Int):Prop where
 C:Q4 g s.cs
 L:s.Lens
 last:s.last = g.n
 dn:s.done = true -> g.m = g.n
 key:1 <= g.n -> s.key = g.K g.n
 cut:s.cut = g.cut
 cr:∀ k:Nat,k < 24 -> 0 <= g.ct k /\ (g.ct k = 0 \/ g.ct k < g.n)
 cl:∀ c,c < 4 -> s.busy.getD c false = true -> ∃ f got,ClI g s c f got
 p1:∀ c c',c < 4 -> c' < 4 -> c ≠ c' -> s.busy.getD c false = true -> s.busy.getD c' false = true -> pendT (s.ts.getD c tk0) ≠ 0 -> pendT (s.ts.getD c tk0) ≠ pendT (s.ts.getD c' tk0)
 p2:∀ c,c < 4 -> s.busy.getD c false = true -> pendT (s.ts.getD c tk0) ≠ 0 -> pendT (s.ts.getD c tk0) ∉ out
 o:∀ w ∈ out,w ≠ 0 -> ∃ y,1 <= y /\ y <= 100 /\ w = wP y /\ Jq g s.cs y
theorem PhI.ctle {g:CG} {cs:List Int} {d:Pick} {f:Frame} {got:List Int} (h:PhI g cs d f got) (hd:d.do_ = 1):g.ct d.key <= d.place := by
 cases h with
 | get0 hr hd' h0 h1 hk hs => exact hs.1
 | get1 hr hd' h0 h1 hk hs hq kq nb => exact hs.1
 | ins0 hr hd' => omega
 | ins1 hr hd' => omega
 | ins2 hr hd' => omega
 | ins3 hr hd' => omega
 | cut0 hr hd' => omega
 | cut1 hr hd' => omega
 | cut2 hr hd' => omega
 | cut3 hr hd' => omega
 | cut4n hr hd' => omega
 | cut4y hr hd' => omega
 | cut5 hr hd' => omega
theorem PhI.taken {g:CG} {cs:List Int} {d:Pick} {f:Frame} {got:List Int} (h:PhI g cs d f got) (hC:Q4 g cs) (hp:Zo f got ≠ 0):∃ y,1 <= y /\ y <= 100 /\ Zo f got = wP y /\ Jq g cs y := by
 have n100 := hC.n100;have mn := hC.mn;cases h with
 | get0 hr hd' => exact absurd (QaE _ _ _) hp
 | get1 hr hd' => exact absurd (QaE _ _ _) hp
 | ins0 hr hd' => exact absurd (Yp _ _ _) hp
 | ins1 hr hd' => exact absurd (Yp _ _ _) hp
 | ins2 hr hd' => exact absurd (Yp _ _ _) hp
 | ins3 hr hd' => exact absurd (Yp _ _ _) hp
 | cut0 hr hd' => exact absurd (pend74 _ _ (by decide) (by decide)) hp
 | cut1 hr hd' => exact absurd (pend74 _ _ (by decide) (by decide)) hp
 | cut2 hr hd' => exact absurd (pend74 _ _ (by decide) (by decide)) hp
 | cut3 hr hd' => exact absurd (pend74 _ _ (by decide) (by decide)) hp
 | cut4n hr hd' => exact absurd (if_neg (fun h => h.2.elim (fun h => by have := h.2;simp at this) (fun h => by have h:(4:Int) = 5 := h;omega))) hp
 | @cut4y r a y hr hd' ha ka ae h3 hy hc =>
  have := QR g.K d.key a ha.1;exact ⟨y,hy.1,by omega,by unfold Zo;rw [if_pos ⟨rfl,.inl ⟨rfl,rfl⟩⟩];exact h3,a,ha.1,ha.2,by rw [ka];exact hy.2.symm,hc⟩
 | @cut5 r a y x hr hd' ha ka ae h3 hy hc =>
  have := QR g.K d.key a ha.1;exact ⟨y,hy.1,by omega,by unfold Zo;rw [if_pos ⟨rfl,.inr rfl⟩];exact h3,a,ha.1,ha.2,by rw [ka];exact hy.2.symm,hc⟩
theorem Jq.later {g g':CG} {cs cs':List Int} {y:Nat} (h:Jq g cs y) (L:K3 g cs g' cs'):Jq g' cs' y := by
 obtain ⟨a,h1,h2,h3,h4⟩ := h;have mn := L.mn;have hm := L.m;exact ⟨a,h1,by omega,by rw [L.K a h1 (by omega),L.prev _ (by omega)];exact h3,L.off a h1 h2 h4⟩
theorem QaG {f:Frame} {got args:List Int} {na:NA} (h:NxtP f got na) (k:EndC f got args):False := by
 have h1 := h.e false;have h2 := k.e false;rw [h1] at h2;have h3 := congrArg Qb.kind h2;have h3:na.a.kind = 7 := h3;rcases h.kd with e | e <;> omega
theorem Vs (c:Nat) (f:Frame) (got:List Int):pendT (tkOf c f got) = Zo f got := rfl
theorem JS {α:Type} {l:List α} {n:Nat} (x d:α) (h:n < l.length) (j:Nat):(l.set n x).getD j d = if j = n then x else l.getD j d := by
 by_cases e:j = n
 · subst e;simp [h]
 · rw [if_neg e];simp only [List.getD_eq_getElem?_getD];rw [List.getElem?_set_ne (fun q => e q.symm)]
structure Qq7 (s:ChS) (g:CG) (out:List Int) (c:Nat) (f:Frame) (got:List Int) (na:NA) (g':CG) (cs':List Int) (x:Int):Prop where
 cl:ClI g s c f got
 st:Qk2 g s.cs (s.does.getD c pk0) f got na g' cs' x
 go:(∃ na',NxtP na.f [x] na') -> GI { s with cs := cs',ts := s.ts.set c (tkOf c na.f [x]),us := s.us.set c (tkOf c na.f [x]) } g' out
 en:∀ args,EndC na.f [x] args -> QpZ g' (s.does.getD c pk0) na.f [x] args /\
  GI { s with cs := cs',ts := s.ts.set c (tkOf c na.f [x]),us := s.us.set c (tkOf c na.f [x]),busy := s.busy.set c false } g' out /\
  ((s.does.getD c pk0).do_ = 2 -> (args.headD 0 ≠ 0 -> args.headD 0 ∉ out) /\ GI { s with cs := cs',ts := s.ts.set c (tkOf c na.f [x]),us := s.us.set c (tkOf c na.f [x]),busy := s.busy.set c false } g' (out ++ [args.headD 0]))
 or:(∃ na',NxtP na.f [x] na') \/ ∃ args,EndC na.f [x] args
theorem GI.step {s:ChS} {g:CG} {out:List Int} (h:GI s g out) {c:Nat} (hc:c < 4) (hb:s.busy.getD c false = true):∃ f got na g' cs' x,Qq7 s g out c f got na g' cs' x := by
 obtain ⟨f,got,hcl⟩ := h.cl c hc hb;obtain ⟨na0,hna0⟩ := hcl.nx;rcases PhI.step h.C hcl.P with ⟨na,g',cs',x,st⟩ | ⟨args,he,_⟩;rotate_left
 · exact (QaG hna0 he).elim
 have lt := h.L.ts;have lu := h.L.us;have lb := h.L.busy;have hL':∀ b:List Bool,b.length = 4 -> ChS.Lens { s with cs := cs',ts := s.ts.set c (tkOf c na.f [x]),us := s.us.set c (tkOf c na.f [x]),busy := b } := fun b hb => ⟨by simp [lt],by simp [lu],hb,h.L.does,h.L.cut,st.C.len⟩
 -- who is asked for behind the step
 have tN:∀ j,(s.ts.set c (tkOf c na.f [x])).getD j tk0 = if j = c then tkOf c na.f [x] else s.ts.getD j tk0 := fun j => JS _ _ (by omega) j
 have uN:∀ j,(s.us.set c (tkOf c na.f [x])).getD j tk0 = if j = c then tkOf c na.f [x] else s.us.getD j tk0 := fun j => JS _ _ (by omega) j
 have hct:∀ k,g'.ct k = g.ct k := fun k => by unfold CG.ct;rw [st.cut]
 have other:∀ j,j < 4 -> j ≠ c -> s.busy.getD j false = true -> ∀ b,∃ f got,ClI g' { s with cs := cs',ts := s.ts.set c (tkOf c na.f [x]),us := s.us.set c (tkOf c na.f [x]),busy := b } j f got := by
  intro j hj hjc hbj b;obtain ⟨fj,gj,q⟩ := h.cl j hj hbj;refine ⟨fj,gj,?_,?_,?_,q.nx⟩
  · show (s.ts.set c _).getD j tk0 = _;rw [tN,if_neg hjc];exact q.t
  · show (s.us.set c _).getD j tk0 = _;rw [uN,if_neg hjc];exact q.u
  · exact q.P.later st.L fun hd => by rw [hct];exact q.P.ctle hd
 -- what is pending of another
 have pO:∀ j,j < 4 -> s.busy.getD j false = true -> pendT (s.ts.getD j tk0) ≠ 0 -> ∃ y,1 <= y /\ y <= 100 /\ pendT (s.ts.getD j tk0) = wP y /\ Jq g s.cs y := by
  intro j hj hbj hp;obtain ⟨fj,gj,q⟩ := h.cl j hj hbj;rw [q.t,Vs] at hp ⊢;exact q.P.taken h.C hp
 have pS:pendT (s.ts.getD c tk0) = Zo f got := by rw [hcl.t,Vs]
 -- the step's own is none of the others'
 have p1':∀ j,j < 4 -> j ≠ c -> s.busy.getD j false = true -> Zo na.f [x] ≠ 0 -> Zo na.f [x] ≠ pendT (s.ts.getD j tk0) := by
  intro j hj hjc hbj hp he;rcases st.pd with e | ⟨_,y,e,y1,y2,hn,ht⟩
  · rw [e,<- pS] at hp he;exact h.p1 c j hc hj (fun q => hjc q.symm) hb hbj hp he
  · rw [he] at hp;obtain ⟨z,z1,z2,z3,z4⟩ := pO j hj hbj hp;rw [e,z3] at he;have := QkD y2 z2 he;subst this;exact hn z4
 have p2':Zo na.f [x] ≠ 0 -> Zo na.f [x] ∉ out := by
  intro hp hm;rcases st.pd with e | ⟨_,y,e,y1,y2,hn,ht⟩
  · rw [e,<- pS] at hp hm;exact h.p2 c hc hb hp hm
  · obtain ⟨z,z1,z2,z3,z4⟩ := h.o _ hm hp;rw [e] at z3;have := QkD y2 z2 z3;subst this;exact hn z4
 have o':∀ w ∈ out,w ≠ 0 -> ∃ y,1 <= y /\ y <= 100 /\ w = wP y /\ Jq g' cs' y := fun w hw h0 => by
  obtain ⟨y,y1,y2,y3,y4⟩ := h.o w hw h0;exact ⟨y,y1,y2,y3,y4.later st.L⟩
 have mm := st.L.m;have mn' := st.C.mn;have nn := st.n;have dn':s.done = true -> g'.m = g'.n := fun hd => by have := h.dn hd;omega
 have key':1 <= g'.n -> s.key = g'.K g'.n := fun hn => by rw [st.K,st.n];exact h.key (by omega)
 have cr':∀ k:Nat,k < 24 -> 0 <= g'.ct k /\ (g'.ct k = 0 \/ g'.ct k < g'.n) := fun k hk => by rw [hct,nn];exact h.cr k hk
 have base:∀ (b:List Bool) (o2:List Int),b.length = 4 -> (∀ j,j < 4 -> b.getD j false = true -> s.busy.getD j false = true) -> (b.getD c false = true -> ∃ na',NxtP na.f [x] na') ->
  (∀ w ∈ o2,w ≠ 0 -> ∃ y,1 <= y /\ y <= 100 /\ w = wP y /\ Jq g' cs' y) -> (∀ j,j < 4 -> b.getD j false = true -> pendT ((s.ts.set c (tkOf c na.f [x])).getD j tk0) ≠ 0 -> pendT ((s.ts.set c (tkOf c na.f [x])).getD j tk0) ∉ o2) ->
  GI { s with cs := cs',ts := s.ts.set c (tkOf c na.f [x]),us := s.us.set c (tkOf c na.f [x]),busy := b } g' o2 := by
  intro b o2 hlb hsub hown ho2 hp2;refine ⟨st.C,hL' b hlb,by rw [nn];exact h.last,dn',key',by rw [st.cut];exact h.cut,cr',?_,?_,hp2,ho2⟩
  · intro j hj hbj
    by_cases hjc:j = c
    · subst hjc;exact ⟨na.f,[x],by show (s.ts.set j _).getD j tk0 = _;rw [tN,if_pos rfl],by show (s.us.set j _).getD j tk0 = _;rw [uN,if_pos rfl],st.P,hown hbj⟩
    · exact other j hj hjc (hsub j hj hbj) b
  · intro j j' hj hj' hne hbj hbj' hp he;have hp:pendT ((s.ts.set c (tkOf c na.f [x])).getD j tk0) ≠ 0 := hp;have he:pendT ((s.ts.set c (tkOf c na.f [x])).getD j tk0) = pendT ((s.ts.set c (tkOf c na.f [x])).getD j' tk0) := he;rw [tN] at hp he;rw [tN] at he
    by_cases hjc:j = c
    · rw [if_pos hjc,Vs] at hp he;rw [if_neg (fun q => hne (hjc.trans q.symm))] at he;exact p1' j' hj' (fun q => hne (hjc.trans q.symm)) (hsub j' hj' hbj') hp he
    · rw [if_neg hjc] at hp he
      by_cases hjc':j' = c
      · rw [if_pos hjc',Vs] at he;rw [he] at hp;exact p1' j hj hjc (hsub j hj hbj) hp he.symm
      · rw [if_neg hjc'] at he;exact h.p1 j j' hj hj' hne (hsub j hj hbj) (hsub j' hj' hbj') hp he
 have pAll:∀ j,j < 4 -> s.busy.getD j false = true -> pendT ((s.ts.set c (tkOf c na.f [x])).getD j tk0) ≠ 0 -> pendT ((s.ts.set c (tkOf c na.f [x])).getD j tk0) ∉ out := by
  intro j hj hbj hp;rw [tN] at hp ⊢
  by_cases hjc:j = c
  · rw [if_pos hjc,Vs] at hp ⊢;exact p2' hp
  · rw [if_neg hjc] at hp ⊢;exact h.p2 j hj hbj hp
 have bset:∀ j,(s.busy.set c false).getD j false = if j = c then false else s.busy.getD j false := fun j => JS _ _ (by omega) j
 have bsub:∀ j,j < 4 -> (s.busy.set c false).getD j false = true -> j ≠ c /\ s.busy.getD j false = true := fun j _ hbj => by
  rw [bset] at hbj
  by_cases hjc:j = c
  · rw [if_pos hjc] at hbj;cases hbj
  · rw [if_neg hjc] at hbj;exact ⟨hjc,hbj⟩
 refine ⟨f,got,na,g',cs',x,hcl,st,fun hna => ?_,fun args he => ?_,?_⟩
 · exact base s.busy out lb (fun _ _ h => h) (fun _ => hna) o' pAll
 · have hans:QpZ g' (s.does.getD c pk0) na.f [x] args := by
    rcases PhI.step st.C st.P with ⟨na2,g2,cs2,x2,st2⟩ | ⟨args2,he2,ha2⟩
    · exact (QaG st2.nx he).elim
    · have h1 := he.e false;rw [he2.e false] at h1;have h2:args2 = args := congrArg Qb.args h1;rw [<- h2];exact ha2
   refine ⟨hans,base _ out (by simp [lb]) (fun j hj hbj => (bsub j hj hbj).2) (fun q => by rw [bset,if_pos rfl] at q;cases q) o' (fun j hj hbj hp => pAll j hj (bsub j hj hbj).2 hp),fun hd => ?_⟩
   obtain ⟨_,a2,_⟩ := hans.c hd;refine ⟨fun hne => by rw [a2] at hne ⊢;exact p2' hne,base _ _ (by simp [lb]) (fun j hj hbj => (bsub j hj hbj).2) (fun q => by rw [bset,if_pos rfl] at q;cases q) ?_ ?_⟩
   · intro w hw h0;rcases List.mem_append.1 hw with hw | hw
     · exact o' w hw h0
     · rw [List.mem_singleton] at hw;subst hw;rw [a2] at h0 ⊢;exact st.P.taken st.C h0
   · intro j hj hbj hp hm;obtain ⟨hjc,hbj'⟩ := bsub j hj hbj;rcases List.mem_append.1 hm with hm | hm
     · exact pAll j hj hbj' hp hm
     · rw [List.mem_singleton,a2] at hm;rw [tN,if_neg hjc] at hp hm;rw [hm] at hp;exact p1' j hj hjc hbj' hp hm.symm
 · rcases PhI.step st.C st.P with ⟨na2,g2,cs2,x2,st2⟩ | ⟨args2,he2,ha2⟩
   · exact .inl ⟨na2,st2.nx⟩
   · exact .inr ⟨args2,he2⟩
theorem KT {ar:List Int} (h:ar.length <= 96):(regs1 ar).length = 96 := by unfold regs1;simp;omega
theorem Yg {ar:List Int} {j:Nat} (h:j < ar.length):(regs1 ar).getD j 0 = ar.getD j 0 := by
 unfold regs1;simp only [List.getD_eq_getElem?_getD];rw [List.getElem?_append_left h]
theorem GI.beg {s:ChS} {g:CG} {out:List Int} (h:GI s g out) {c:Nat} (hc:c < 4) (hb:s.busy.getD c false = false) {p:Int} {ar:List Int} {d:Pick} (hP:PhI g s.cs d ⟨p,0,regs1 ar⟩ []) (hn:∃ na,NxtP ⟨p,0,regs1 ar⟩ [] na):GI (s.beg c p ar d) g out := by
 have lt := h.L.ts;have lu := h.L.us;have lb := h.L.busy;have ld := h.L.does;have tN:∀ j,(s.ts.set c (begTask c p ar)).getD j tk0 = if j = c then begTask c p ar else s.ts.getD j tk0 := fun j => JS _ _ (by omega) j
 have uN:∀ j,(s.us.set c (begTask c p ar)).getD j tk0 = if j = c then begTask c p ar else s.us.getD j tk0 := fun j => JS _ _ (by omega) j
 have bN:∀ j,(s.busy.set c true).getD j false = if j = c then true else s.busy.getD j false := fun j => JS _ _ (by omega) j
 have dN:∀ j,(s.does.set c d).getD j pk0 = if j = c then d else s.does.getD j pk0 := fun j => JS _ _ (by omega) j
 have p0:pendT (begTask c p ar) = 0 := if_neg (fun h => h.2.elim (fun h => by have h:(0:Int) = 4 := h.1;omega) (fun h => by have h:(0:Int) = 5 := h;omega))
 refine ⟨h.C,h.L.beg c p ar d,h.last,h.dn,h.key,h.cut,h.cr,?_,?_,?_,h.o⟩
 · intro j hj hbj;have hbj:(s.busy.set c true).getD j false = true := hbj;rw [bN] at hbj
   by_cases hjc:j = c
   · subst hjc;exact ⟨⟨p,0,regs1 ar⟩,[],by show (s.ts.set j _).getD j tk0 = _;rw [tN,if_pos rfl];rfl,by show (s.us.set j _).getD j tk0 = _;rw [uN,if_pos rfl];rfl,by show PhI g s.cs ((s.does.set j d).getD j pk0) _ _;rw [dN,if_pos rfl];exact hP,hn⟩
   · rw [if_neg hjc] at hbj;obtain ⟨f,got,q⟩ := h.cl j hj hbj;exact ⟨f,got,by show (s.ts.set c _).getD j tk0 = _;rw [tN,if_neg hjc];exact q.t,by show (s.us.set c _).getD j tk0 = _;rw [uN,if_neg hjc];exact q.u,by show PhI g s.cs ((s.does.set c d).getD j pk0) _ _;rw [dN,if_neg hjc];exact q.P,q.nx⟩
 · intro j j' hj hj' hne hbj hbj' hp he;have hbj:(s.busy.set c true).getD j false = true := hbj;have hbj':(s.busy.set c true).getD j' false = true := hbj';have hp:pendT ((s.ts.set c (begTask c p ar)).getD j tk0) ≠ 0 := hp;have he:pendT ((s.ts.set c (begTask c p ar)).getD j tk0) = pendT ((s.ts.set c (begTask c p ar)).getD j' tk0) := he;rw [tN] at hp he;rw [tN] at he;rw [bN] at hbj hbj'
   by_cases hjc:j = c
   · rw [if_pos hjc] at hp;exact hp p0
   · rw [if_neg hjc] at hp he hbj
     by_cases hjc':j' = c
     · rw [if_pos hjc',p0] at he;exact hp he
     · rw [if_neg hjc'] at he hbj';exact h.p1 j j' hj hj' hne hbj hbj' hp he
 · intro j hj hbj hp;have hbj:(s.busy.set c true).getD j false = true := hbj;have hp:pendT ((s.ts.set c (begTask c p ar)).getD j tk0) ≠ 0 := hp;show pendT ((s.ts.set c (begTask c p ar)).getD j tk0) ∉ out;rw [tN] at hp ⊢;rw [bN] at hbj
   by_cases hjc:j = c
   · rw [if_pos hjc] at hp;exact absurd p0 hp
   · rw [if_neg hjc] at hp ⊢ hbj;exact h.p2 j hj hbj hp
theorem PhI.start {g:CG} {cs:List Int} {d:Pick} {p:Int} {r:List Int} (h:PhI g cs d ⟨p,0,r⟩ []) (hC:Q4 g cs):∃ na,NxtP ⟨p,0,r⟩ [] na := by
 rcases PhI.step hC h with ⟨na,_,_,_,st⟩ | ⟨args,he,_⟩
 · exact ⟨na,st.nx⟩
 · exfalso;have e := he.e false;cases h with
   | get0 hr hd h0 h1 hk hs =>
    rw [Qna] at e;unfold Q8 at e;rw [if_pos rfl,h1,YH false 72 r hk] at e;have e:(0:Int) = 7 := congrArg Qb.kind e;omega
   | ins0 hr hd hp h0 h1 h2 pl =>
    rw [Qg4] at e;unfold QV at e;rw [if_pos rfl,h2,YH false 73 r (hC.kr _ hp.1 hp.2)] at e;have e:(0:Int) = 7 := congrArg Qb.kind e;omega
   | cut0 hr hd h0 h1 hk he' =>
    rw [QcZ] at e;unfold QQ at e;rw [if_pos rfl,h1,YH false 74 r hk] at e;have e:(0:Int) = 7 := congrArg Qb.kind e;omega
def CG.new (g:CG) (k v:Int):CG := ⟨fun p => if p = g.n + 1 then k else g.K p,fun p => if p = g.n + 1 then v else g.V p,g.n + 1,g.m,g.cut⟩
theorem GI.new {s:ChS} {g:CG} {out:List Int} (h:GI s g out) (hm:g.m = g.n) (hn:g.n < 100) {k v:Int} (hk:0 <= k /\ k < 24) (hv:0 <= v /\ v < 256):GI ⟨Q0 s.cs s.last k v,s.ts,s.us,s.busy,s.last + 1,false,k,s.does,s.cut⟩ (g.new k v) out := by
 have hl := h.C.len;have hlast := h.last
 have eN:Q0 s.cs s.last k v = (s.cs.set (288 + 3 * (g.n + 1)) 3).set (290 + 3 * (g.n + 1)) (k * 256 + v) := by
  unfold Q0;rw [hlast,show (291 + 3 * (g.n:Int)).toNat = 288 + 3 * (g.n + 1) by omega,show (293 + 3 * (g.n:Int)).toNat = 290 + 3 * (g.n + 1) by omega]
 rw [eN]
 have hN:∀ j,((s.cs.set (288 + 3 * (g.n + 1)) 3).set (290 + 3 * (g.n + 1)) (k * 256 + v)).getD j 0 = if j = 290 + 3 * (g.n + 1) then k * 256 + v else if j = 288 + 3 * (g.n + 1) then 3 else s.cs.getD j 0 := fun j => by
  rw [gset _ _ (by rw [List.length_set];omega),gset _ _ (by omega)]
 generalize hcs:(s.cs.set (288 + 3 * (g.n + 1)) 3).set (290 + 3 * (g.n + 1)) (k * 256 + v) = cs' at hN;have hlen':cs'.length = 771 := by rw [<- hcs,List.length_set,List.length_set];exact hl
 have hnx:∀ p,cs'.getD (289 + 3 * p) 0 = s.cs.getD (289 + 3 * p) 0 := fun p => by rw [hN,if_neg (by omega),if_neg (by omega)]
 have hK:∀ p,p <= g.n -> (g.new k v).K p = g.K p := fun p hp => if_neg (by omega)
 have hV:∀ p,p <= g.n -> (g.new k v).V p = g.V p := fun p hp => if_neg (by omega)
 have hKn:(g.new k v).K (g.n + 1) = k := if_pos rfl;have hVn:(g.new k v).V (g.n + 1) = v := if_pos rfl;have hprev:∀ k' q,q <= g.n + 1 -> prevK (g.new k v).K k' q = prevK g.K k' q := fun k' q hq => V0 fun p h1 h2 => hK p (by omega)
 have hct:∀ k',(g.new k v).ct k' = g.ct k' := fun _ => rfl
 have hC':Q4 (g.new k v) cs' := by
  refine ⟨hlen',by rw [<- hcs];exact Zm (Zm h.C.fits (by omega)) (by omega),by show g.n + 1 <= 100;omega,by show g.m <= g.n + 1;omega,by show g.n + 1 <= g.m + 1;omega,fun p a b => ?_,fun p a b => ?_,fun k' hk' => ?_,fun p a b => ?_,fun p a b => ?_,fun p a b => ?_,fun _ => ?_,fun p a b => ?_⟩
  · by_cases e:p = g.n + 1
    · rw [e,hKn];exact hk
    · have b:p <= g.n + 1 := b;rw [hK p (by omega)];exact h.C.kr p a (by omega)
  · by_cases e:p = g.n + 1
    · rw [e,hVn];exact hv
    · have b:p <= g.n + 1 := b;rw [hV p (by omega)];exact h.C.vr p a (by omega)
  · rw [hN,if_neg (by omega),if_neg (by omega)]
    show _ = wP (prevK (g.new k v).K k' (g.m + 1));rw [hprev _ _ (by omega)];exact h.C.hd k' hk'
  · by_cases e:p = g.n + 1
    · rw [e,hN,if_neg (by omega),if_pos rfl]
    · have b:p <= g.n + 1 := b;rw [hN,if_neg (by omega),if_neg (by omega)];exact h.C.gen p a (by omega)
  · by_cases e:p = g.n + 1
    · rw [e,hN,if_pos rfl,hKn,hVn]
    · have b:p <= g.n + 1 := b;rw [hN,if_neg (by omega),if_neg (by omega),hK p (by omega),hV p (by omega)];exact h.C.val p a (by omega)
  · have b:p <= g.m := b;rw [hnx,hK p (by omega),hprev _ _ (by omega)];exact h.C.nx p a b
  · show cs'.getD (289 + 3 * (g.n + 1)) 0 = -1 \/ _;rw [hnx];exact .inl (h.C.free _ (by omega) (by omega))
  · have a:g.n + 1 < p := a;rw [hnx];exact h.C.free p (by omega) b
 have hLt:K3 g s.cs (g.new k v) cs' := ⟨fun p a b => hK p b,by show g.n <= g.n + 1;omega,Nat.le_refl _,h.C.mn,fun _ => Int.le_refl _,fun p a b hn' => by rw [hnx];exact hn',fun p a b hz => by rw [hnx];exact hz⟩
 refine ⟨hC',⟨h.L.ts,h.L.us,h.L.busy,h.L.does,h.L.cut,hlen'⟩,by show s.last + 1 = ((g.n + 1:Nat):Int);omega,(fun q => by cases q),fun _ => hKn.symm,h.cut,fun k' hk' => ?_,fun c hc hb => ?_,h.p1,h.p2,fun w hw h0 => ?_⟩
 · obtain ⟨q1,q2⟩ := h.cr k' hk';exact ⟨q1,q2.imp id fun q => by show g.ct k' < ((g.n + 1:Nat):Int);omega⟩
 · obtain ⟨f,got,q⟩ := h.cl c hc hb;exact ⟨f,got,q.t,q.u,q.P.later hLt fun hd => q.P.ctle hd,q.nx⟩
 · obtain ⟨y,y1,y2,y3,y4⟩ := h.o w hw h0;exact ⟨y,y1,y2,y3,y4.later hLt⟩
theorem GI.begAll {g:CG} {out:List Int} (cc many:Int) (hn:1 <= g.n):∀ (k i:Nat) (s:ChS),i + k <= 4 -> GI s g out -> GI (begAll cc many [(g.n:Int),255 + (g.n:Int),g.K g.n] ⟨0,0,0,0,(g.n:Int),0⟩ k i s) g out
 | 0,_,s,_,h => h
 | k + 1,i,s,hi,h => by
  unfold Ev.begAll;refine GI.begAll cc many hn k (i + 1) _ (by omega) ?_
  by_cases hw:s.busy.getD i false = false /\ ((i:Int) = cc \/ QdI many i = true)
  · rw [if_pos hw]
    have hP:PhI g s.cs ⟨0,0,0,0,(g.n:Int),0⟩ ⟨73,0,regs1 [(g.n:Int),255 + (g.n:Int),g.K g.n]⟩ [] :=
     .ins0 (p := g.n) (KT (by simp)) rfl ⟨hn,Nat.le_refl _⟩ (Yg (by simp)) (Yg (by simp)) (Yg (by simp)) rfl
    exact h.beg (by omega) hw.1 hP (hP.start h.C)
  · rw [if_neg hw];exact h
theorem QaH {busy:List Bool} {does:List Pick} {k p:Int}:∀ {n i:Nat},Yf busy does k p n i = false -> ∀ j,i <= j -> j < i + n -> busy.getD j false = true -> (does.getD j pk0).do_ = 1 -> (does.getD j pk0).key = k -> p <= (does.getD j pk0).place
 | 0,i,_,j,h1,h2,_,_,_ => by omega
 | n + 1,i,h,j,h1,h2,hb,hd,hk => by
  unfold Yf at h;rw [Bool.or_eq_false_iff] at h
  by_cases e:j = i
  · subst e;have h3 := h.1;have hp0:(⟨0,0,0,0,0,0⟩:Pick) = pk0 := rfl;rw [hp0,hb,hd,hk] at h3;simp at h3;exact h3
  · exact QaH h.2 j (by omega) (by omega) hb hd hk
theorem Qqc {cut:List Int} (hl:cut.length = 24) {k:Int} (hk:0 <= k /\ k < 24) (x:Int) (j:Int) (hj:0 <= j):(cut.set k.toNat x).getD j.toNat 0 = if j = k then x else cut.getD j.toNat 0 := by
 rw [gset _ _ (by omega)]
 by_cases e:j = k
 · rw [if_pos e,if_pos (by rw [e])]
 · rw [if_neg e,if_neg (by omega)]
theorem GI.b1 {s:ChS} {g:CG} {out:List Int} (h:GI s g out) (xc xd xk xv xp xm:Int):∃ g',GI (s.b1 xc xd xk xv xp xm) g' out /\
 ((s.b1 xc xd xk xv xp xm).last = s.last /\ g'.n = g.n /\ g'.K = g.K /\ g'.V = g.V /\ g'.m = g.m \/ (s.b1 xc xd xk xv xp xm).last = s.last + 1 /\ g' = g.new (xk % 24) (xv % 256) /\ (s.b1 xc xd xk xv xp xm).key = xk % 24) := by
 have c0 := Int.emod_nonneg xc (show (4:Int) ≠ 0 by decide)
 have c1 := Int.emod_lt_of_pos xc (show (0:Int) < 4 by decide)
 have k0 := Int.emod_nonneg xk (show (24:Int) ≠ 0 by decide)
 have k1 := Int.emod_lt_of_pos xk (show (0:Int) < 24 by decide)
 have v0 := Int.emod_nonneg xv (show (256:Int) ≠ 0 by decide)
 have v1 := Int.emod_lt_of_pos xv (show (0:Int) < 256 by decide)
 have hlast := h.last;have n100 := h.C.n100;have mn := h.C.mn;have nm := h.C.nm
 have same:∀ {t:ChS},t = s -> ∃ g',GI t g' out /\ (t.last = s.last /\ g'.n = g.n /\ g'.K = g.K /\ g'.V = g.V /\ g'.m = g.m \/ t.last = s.last + 1 /\ g' = g.new (xk % 24) (xv % 256) /\ t.key = xk % 24) := fun e => by
  subst e;exact ⟨g,h,.inl ⟨rfl,rfl,rfl,rfl,rfl⟩⟩
 obtain ⟨ct0,ct1⟩ := h.cr (xk % 24).toNat (by omega)
 have hk':(((xk % 24).toNat:Nat):Int) = xk % 24 := by omega
 rw [hk'] at ct0 ct1;have hcut:s.cut.getD (xk % 24).toNat 0 = g.ct (xk % 24) := by rw [h.cut];rfl
 have hcn:(xc % 4).toNat < 4 := by omega
 unfold ChS.b1
 by_cases d0:xd = 0
 · rw [if_pos d0]
   by_cases hq:0 < s.last /\ s.done = false \/ 100 <= s.last \/ s.busy.getD (xc % 4).toNat false = true
   · rw [if_pos hq];exact same rfl
   · rw [if_neg hq]
     have hm:g.m = g.n := by
      rcases Nat.eq_zero_or_pos g.n with e | e
      · omega
      · exact h.dn (by cases hd:s.done;exact absurd (.inl ⟨by omega,hd⟩) hq;rfl)
     have hn:g.n < 100 := by
      rcases Nat.lt_or_ge g.n 100 with e | e
      · exact e
      · exact absurd (.inr (.inl (by omega))) hq
     have hnew := h.new hm hn (k := xk % 24) (v := xv % 256) ⟨k0,k1⟩ ⟨v0,v1⟩;have hgn:(g.new (xk % 24) (xv % 256)).n = g.n + 1 := rfl;have hgk:(g.new (xk % 24) (xv % 256)).K (g.n + 1) = xk % 24 := if_pos rfl;have hall := GI.begAll (xc % 4) xm (show 1 <= (g.new (xk % 24) (xv % 256)).n by rw [hgn];omega) 4 0 _ (by omega) hnew
     rw [hgn,hgk] at hall;have e1:((g.n + 1:Nat):Int) = s.last + 1 := by omega
     have e2:255 + ((g.n + 1:Nat):Int) = 256 + s.last := by omega
     rw [e2,e1] at hall;obtain ⟨b1,b2,b3,b4,b5⟩ := YZ (xc % 4) xm [s.last + 1,256 + s.last,xk % 24] ⟨0,0,0,0,s.last + 1,0⟩ 4 0 ⟨Q0 s.cs s.last (xk % 24) (xv % 256),s.ts,s.us,s.busy,s.last + 1,false,xk % 24,s.does,s.cut⟩;exact ⟨_,hall,.inr ⟨b2,rfl,b4⟩⟩
 rw [if_neg d0]
 by_cases d1:xd = 1
 · rw [if_pos d1];cases hb:s.busy.getD (xc % 4).toNat false;rotate_left
   · rw [if_pos rfl];exact same rfl
   · rw [if_neg (by simp),hcut]
     have hfr:g.ct (xk % 24) <= s.front /\ s.front <= g.m := by
      unfold ChS.front;cases hd:s.done
      · simp only [cond_false]
        split <;> omega
      · have := h.dn hd;simp only [cond_true];omega
     have hpl:g.ct (xk % 24) <= VJ xp (g.ct (xk % 24)) s.front /\ VJ xp (g.ct (xk % 24)) s.front <= s.front := by
      unfold VJ
      split <;> split <;> omega
     generalize VJ xp (g.ct (xk % 24)) s.front = pl at hpl ⊢
     have hP:PhI g s.cs ⟨0,1,xk % 24,0,pl,0⟩ ⟨72,0,regs1 [pl,xk % 24]⟩ [] :=
      .get0 (KT (by simp)) rfl (Yg (by simp)) (Yg (by simp)) ⟨k0,k1⟩ ⟨hpl.1,by show 0 <= pl;omega,by show pl <= (g.m:Int);omega⟩
     exact ⟨g,h.beg hcn hb hP (hP.start h.C),.inl ⟨rfl,rfl,rfl,rfl,rfl⟩⟩
 rw [if_neg d1]
 by_cases d2:xd = 2
 · rw [if_pos d2]
   by_cases hq:s.busy.getD (xc % 4).toNat false = false /\ 0 <= xp /\ xp < s.last
   rotate_left
   · rw [if_neg hq];exact same rfl
   rw [if_pos hq];obtain ⟨hb,x0,x1⟩ := hq;cases hg:Yf s.busy s.does (xk % 24) xp 4 0;rotate_left
   · rw [if_pos rfl];exact same rfl
   rw [if_neg (by simp),hcut]
   have hmax:xp <= (if g.ct (xk % 24) < xp then xp else g.ct (xk % 24)) /\ g.ct (xk % 24) <= (if g.ct (xk % 24) < xp then xp else g.ct (xk % 24)) /\ ((if g.ct (xk % 24) < xp then xp else g.ct (xk % 24)) = xp \/ (if g.ct (xk % 24) < xp then xp else g.ct (xk % 24)) = g.ct (xk % 24)) := by
    split <;> omega
   generalize (if g.ct (xk % 24) < xp then xp else g.ct (xk % 24)) = mx at hmax ⊢
   have hcl:g.cut.length = 24 := by rw [<- h.cut];exact h.L.cut
   have hct:∀ j,0 <= j -> ({ g with cut := g.cut.set (xk % 24).toNat mx }:CG).ct j = if j = xk % 24 then mx else g.ct j := fun j hj => Qqc hcl ⟨k0,k1⟩ mx j hj
   have hcle:∀ j,g.ct j <= ({ g with cut := g.cut.set (xk % 24).toNat mx }:CG).ct j := fun j => by
    rcases Int.lt_or_le j 0 with e | e
    · have e2:({ g with cut := g.cut.set (xk % 24).toNat mx }:CG).ct j = ({ g with cut := g.cut.set (xk % 24).toNat mx }:CG).ct 0 := by unfold CG.ct;rw [show j.toNat = (0:Int).toNat by omega]
      have e3:g.ct j = g.ct 0 := by unfold CG.ct;rw [show j.toNat = (0:Int).toNat by omega]
      rw [e2,e3,hct 0 (by omega)]
      split
      · rename_i q;rw [q];omega
      · omega
    · rw [hct j e]
      split
      · rename_i q;rw [q];omega
      · omega
   have hC2:Q4 { g with cut := g.cut.set (xk % 24).toNat mx } s.cs :=
    ⟨h.C.len,h.C.fits,h.C.n100,h.C.mn,h.C.nm,h.C.kr,h.C.vr,h.C.hd,h.C.gen,h.C.val,fun p a b => (h.C.nx p a b).imp id fun q => ⟨q.1,Int.le_trans q.2 (hcle _)⟩,h.C.nxn,h.C.free⟩
   have hLt:K3 g s.cs { g with cut := g.cut.set (xk % 24).toNat mx } s.cs := ⟨fun _ _ _ => rfl,Nat.le_refl _,Nat.le_refl _,h.C.mn,hcle,fun _ _ _ q => q,fun _ _ _ q => q⟩
   have h2:GI { s with cut := s.cut.set (xk % 24).toNat mx } { g with cut := g.cut.set (xk % 24).toNat mx } out := by
    refine ⟨hC2,⟨h.L.ts,h.L.us,h.L.busy,h.L.does,by show (s.cut.set _ _).length = 24;rw [List.length_set];exact h.L.cut,h.L.cs⟩,h.last,h.dn,h.key,by show s.cut.set _ _ = g.cut.set _ _;rw [h.cut],fun k hk => ?_,fun c hc hbc => ?_,h.p1,h.p2,fun w hw h0 => ?_⟩
    · rw [hct _ (by omega)]
      obtain ⟨q1,q2⟩ := h.cr k hk
      split
      · show 0 <= mx /\ (mx = 0 \/ mx < (g.n:Int));omega
      · exact ⟨q1,q2⟩
    · obtain ⟨f,got,q⟩ := h.cl c hc hbc;refine ⟨f,got,q.t,q.u,q.P.later hLt fun hd => ?_,q.nx⟩;have hle := q.P.ctle hd
      have hkr:0 <= (s.does.getD c pk0).key := by
       have := q.P;cases this <;> first | omega | exact absurd hd (by omega)
      show ({ g with cut := g.cut.set (xk % 24).toNat mx }:CG).ct (s.does.getD c pk0).key <= (s.does.getD c pk0).place;rw [hct _ hkr]
      split
      · rename_i hkk;have := QaH hg c (by omega) (by omega) hbc hd hkk
        rw [hkk] at hle;omega
      · exact hle
    · obtain ⟨y,y1,y2,y3,y4⟩ := h.o w hw h0;exact ⟨y,y1,y2,y3,y4.later hLt⟩
   have hP:PhI { g with cut := g.cut.set (xk % 24).toNat mx } s.cs ⟨0,2,xk % 24,0,xp,0⟩ ⟨74,0,regs1 [xp,xk % 24]⟩ [] :=
    .cut0 (KT (by simp)) rfl (Yg (by simp)) (Yg (by simp)) ⟨k0,k1⟩ ⟨x0,by rw [hct _ k0,if_pos rfl];exact hmax.1⟩
   exact ⟨_,h2.beg hcn hb hP (hP.start hC2),.inl ⟨rfl,rfl,rfl,rfl,rfl⟩⟩
 · rw [if_neg d2];exact same rfl
structure OnS where
 s:ChS
 put:List (List Item)
 out:List Int
structure OnI (o:OnS) (n:Nat) (now sure:List Sector):Prop where
 d1:Qz now sure = true
 d2:Qv now = true
 d3:Qv sure = true
 g:∃ g,GI o.s g o.out /\ ∀ k:Nat,k < 24 -> o.put.getD k [] = putK g.K g.V k g.n
 pl:o.put.length = 24
 on:o.out.length <= n
theorem QbE (K V:Nat -> Int) (k:Int):∀ n,(putK K V k n).length <= n
 | 0 => Nat.le_refl _
 | n + 1 => by
  have := QbE K V k n;unfold putK
  split
  · simp;omega
  · omega
theorem Qc1 (K V:Nat -> Int) (k:Int) (P:Nat):∀ n,(putK K V k n).find? (fun x => decide (x.place <= (P:Int))) = if prevK K k (min n P + 1) = 0 then none else some ⟨k,((prevK K k (min n P + 1):Nat):Int),V (prevK K k (min n P + 1))⟩
 | 0 => by
  have:prevK K k (min 0 P + 1) = 0 := by rw [Nat.zero_min];simp [prevK]
  rw [this,if_pos rfl];rfl
 | n + 1 => by
  have ih := Qc1 K V k P n;unfold putK
  by_cases hk:K (n + 1) = k
  · rw [if_pos hk]
    by_cases hp:n + 1 <= P
    · have e:prevK K k (min (n + 1) P + 1) = n + 1 := by
       rw [Nat.min_eq_left hp];unfold prevK;rw [if_pos ⟨by omega,hk⟩]
      rw [e,if_neg (by omega),List.find?_cons_of_pos (by simp;omega)]
    · have e:min (n + 1) P = min n P := by omega
      rw [e,<- ih,List.find?_cons_of_neg (by simp;omega)]
  · rw [if_neg hk,ih]
    by_cases hp:n + 1 <= P
    · have e:prevK K k (min (n + 1) P + 1) = prevK K k (min n P + 1) := by
       rw [Nat.min_eq_left hp,Nat.min_eq_left (by omega)]
       conv => lhs;unfold prevK
       rw [if_neg (fun h => hk h.2)]
      rw [e]
    · have e:min (n + 1) P = min n P := by omega
      rw [e]
theorem PhI.insn {g:CG} {cs:List Int} {d:Pick} {f:Frame} {got:List Int} (h:PhI g cs d f got) (hmn:g.m <= g.n) (hd:d.do_ = 0):1 <= g.n := by
 cases h with
 | ins0 hr hd' hp => omega
 | ins1 hr hd' hp => omega
 | ins2 hr hd' hp => omega
 | ins3 hr hd' hp => omega
 | get0 hr hd' => omega
 | get1 hr hd' => omega
 | cut0 hr hd' => omega
 | cut1 hr hd' => omega
 | cut2 hr hd' => omega
 | cut3 hr hd' => omega
 | cut4n hr hd' => omega
 | cut4y hr hd' => omega
 | cut5 hr hd' => omega
theorem PhI.do3 {g:CG} {cs:List Int} {d:Pick} {f:Frame} {got:List Int} (h:PhI g cs d f got):d.do_ = 0 \/ d.do_ = 1 /\ (0 <= d.key /\ d.key < 24) /\ 0 <= d.place /\ d.place <= g.m \/ d.do_ = 2 := by
 cases h with
 | ins0 hr hd' hp => omega
 | ins1 hr hd' hp => omega
 | ins2 hr hd' hp => omega
 | ins3 hr hd' hp => omega
 | get0 hr hd' h0 h1 hk hs => omega
 | get1 hr hd' h0 h1 hk hs => omega
 | cut0 hr hd' => omega
 | cut1 hr hd' => omega
 | cut2 hr hd' => omega
 | cut3 hr hd' => omega
 | cut4n hr hd' => omega
 | cut4y hr hd' => omega
 | cut5 hr hd' => omega
def ChS.to (s:ChS) (c:Nat) (cs':List Int) (t1:Task) (b:List Bool):ChS := { s with cs := cs',ts := s.ts.set c t1,us := s.us.set c t1,busy := b }
inductive QrM (o:OnS) (n:Nat) (now sure:List Sector) (c:Nat) (t1:Task) (cs':List Int):Prop
 | on (e:(goT nCh false t1).is = true) (I:OnI ⟨o.s.to c cs' t1 o.s.busy,o.put,o.out⟩ n now sure)
 | ins (e:(goT nCh false t1).is = false) (d:(o.s.does.getD c pk0).do_ = 0) (hp:(o.s.does.getD c pk0).place ≠ o.s.last) (I:OnI ⟨o.s.to c cs' t1 (o.s.busy.set c false),o.put,o.out⟩ n now sure)
 | insL (e:(goT nCh false t1).is = false) (d:(o.s.does.getD c pk0).do_ = 0) (hp:(o.s.does.getD c pk0).place = o.s.last) (rd:OkRd cs' o.s.key) (it:Item) (r1 r2:List Item)
  (e1:rdW cs' o.s.key 160 (wh (cs'.getD (21 + o.s.key).toNat 0)) = it :: r1) (e2:o.put.getD o.s.key.toNat [] = it :: r2) (e3:r1 = [] \/ ∃ y r,r1 = y :: r /\ y.place < o.s.last) (I:OnI ⟨{ o.s.to c cs' t1 (o.s.busy.set c false) with done := true },o.put,o.out⟩ n now sure)
 | sel (e:(goT nCh false t1).is = false) (d:(o.s.does.getD c pk0).do_ = 1) (w:Int) (g:(goT nCh false t1).got = [w]) (k:0 <= (o.s.does.getD c pk0).key /\ (o.s.does.getD c pk0).key < 24)
  (fnd:(match (o.put.getD (o.s.does.getD c pk0).key.toNat []).find? (fun x => decide (x.place <= (o.s.does.getD c pk0).place)) with | some x => plc w == x.place | none => w == 0) = true) (I:OnI ⟨o.s.to c cs' t1 (o.s.busy.set c false),o.put,o.out⟩ n now sure)
 | cut (e:(goT nCh false t1).is = false) (d:(o.s.does.getD c pk0).do_ = 2) (a b:Int) (g:(goT nCh false t1).got = [a,b]) (nb:a ≠ 0 -> a ∉ o.out) (pl:a = 0 \/ plc a < (o.s.does.getD c pk0).place) (I:OnI ⟨o.s.to c cs' t1 (o.s.busy.set c false),o.put,o.out ++ [a]⟩ (n + 1) now sure)
theorem Qqd {g:CG} {cs:List Int} (hC:Q4 g cs) (hn:1 <= g.n) (hm:g.m = g.n):∃ r1,rdW cs (g.K g.n) 160 (wh (cs.getD (21 + g.K g.n).toNat 0)) = ⟨g.K g.n,(g.n:Int),g.V g.n⟩ :: r1 /\ (r1 = [] \/ ∃ y r,r1 = y :: r /\ y.place < (g.n:Int)) := by
 have n100 := hC.n100;obtain ⟨k0,k1⟩ := hC.kr g.n hn (Nat.le_refl _);obtain ⟨v0,v1⟩ := hC.vr g.n hn (Nat.le_refl _);obtain ⟨h1,_⟩ := hC.head ⟨k0,k1⟩;have e:prevK g.K (g.K g.n) (g.m + 1) = g.n := by rw [hm];unfold prevK;rw [if_pos ⟨hn,rfl⟩]
 have hR := hC.rok;have hne:¬ wP g.n = 0 := fun h => by have := Qfp h;omega
 have hv:valW cs (wP g.n) = g.K g.n * 256 + g.V g.n := by rw [hR.valw hn (by omega),hC.val g.n hn (Nat.le_refl _)]
 obtain ⟨q,q1,q2,q3⟩ := hR.nx g.n hn (by omega)
 rw [show (21 + g.K g.n).toNat = 21 + (g.K g.n).toNat by omega,h1,e,QdV n100]
 unfold rdW;rw [if_neg hne,hv,Y4 n100,hR.nxt hn (by omega),q2,QdV (by omega),show (g.K g.n * 256 + g.V g.n) % 256 = g.V g.n by omega]
 refine ⟨_,rfl,?_⟩;show rdW cs (g.K g.n) (158 + 1) (wP q) = [] \/ _;unfold rdW
 by_cases hq:wP q = 0
 · rw [if_pos hq];exact .inl rfl
 · rw [if_neg hq];exact .inr ⟨_,_,rfl,by show plc (wP q) < _;rw [Y4 (by omega)];omega⟩
theorem OnI.stp {o:OnS} {n:Nat} {now sure:List Sector} (h:OnI o n now sure) {c:Nat} (hc:c < 4) (hb:o.s.busy.getD c false = true):∃ t1 cs',KG (c:Int) o.s.cs (o.s.ts.getD c tk0) (o.s.us.getD c tk0) now sure /\ gmCs nCh o.s.cs (o.s.ts.getD c tk0) = cs' /\
 gmT nCh false (gmX nCh o.s.cs (o.s.ts.getD c tk0)) (o.s.ts.getD c tk0) = t1 /\ gmT nCh true (gmX nCh o.s.cs (o.s.ts.getD c tk0)) (o.s.us.getD c tk0) = t1 /\ o.s.cs.length = cs'.length /\ OkRt cs' /\ QrM o n now sure c t1 cs' := by
 obtain ⟨d1,d2,d3,⟨g,hg,hput⟩,hpl,hon⟩ := h;obtain ⟨f,got,na,g',cs',x,st⟩ := hg.step hc hb;obtain ⟨e1,e2,e3⟩ := Qnd (c := c) st.st.nx o.s.cs false;obtain ⟨_,_,e4⟩ := Qnd (c := c) st.st.nx o.s.cs true;have hput':∀ k:Nat,k < 24 -> o.put.getD k [] = putK g'.K g'.V k g'.n := fun k hk => by rw [st.st.K,st.st.V,st.st.n];exact hput k hk
 have mk:∀ {s:ChS} {out:List Int} {m:Nat},GI s g' out -> out.length <= m -> OnI ⟨s,o.put,out⟩ m now sure := fun hI hl => ⟨d1,d2,d3,⟨g',hI,hput'⟩,hpl,hl⟩;have n100 := hg.C.n100;have nn := st.st.n;have mn' := st.st.C.mn;refine ⟨tkOf c na.f [x],cs',?_,?_,?_,?_,?_,⟨_,_,st.st.C.rok⟩,?_⟩
 · rw [st.cl.t,st.cl.u];exact Qk4 hg.C st.st d1 d2 d3
 · rw [st.cl.t,e2,st.st.ce]
 · rw [st.cl.t,e1,st.st.xe,e3]
 · rw [st.cl.t,st.cl.u,e1,st.st.xe,e4]
 · rw [hg.C.len,st.st.C.len]
 · rcases st.or with ⟨na',hn⟩ | ⟨args,he⟩
   · exact .on (by rw [ZP hn]) (mk (st.go ⟨na',hn⟩) hon)
   · have i0:(goT nCh false (tkOf c na.f [x])).is = false := by rw [V2 he]
     have g0:(goT nCh false (tkOf c na.f [x])).got = args := by rw [V2 he]
     obtain ⟨ans,hG,hcut⟩ := st.en args he;rcases st.cl.P.do3 with d | ⟨d,dk,dp⟩ | d
     · by_cases hp:(o.s.does.getD c pk0).place = o.s.last
       · have hi := ans.i d;have hn := st.cl.P.insn hg.C.mn d;have hl := hg.last;have hm:g'.m = g'.n := by omega
         have hk:o.s.key = g'.K g'.n := by rw [st.st.K,nn];exact hg.key hn
         obtain ⟨r1,q1,q2⟩ := Qqd st.st.C (by omega) hm
         obtain ⟨k0,k1⟩ := st.st.C.kr g'.n (by omega) (Nat.le_refl _)
         have hp2 := hput' o.s.key.toNat (by omega)
         obtain ⟨n',hn'⟩:∃ n',g'.n = n' + 1 := ⟨g'.n - 1,by omega⟩
         have hc2:((o.s.key.toNat:Nat):Int) = g'.K (n' + 1) := by rw [<- hn'];omega
         rw [hn',hc2] at hp2;unfold putK at hp2;rw [if_pos rfl,<- hn'] at hp2;refine .insL i0 d hp ⟨⟨_,_,st.st.C.rok⟩,by omega,by omega⟩ _ r1 _ (by rw [hk];exact q1) hp2 ?_ (mk ⟨hG.C,⟨hG.L.ts,hG.L.us,hG.L.busy,hG.L.does,hG.L.cut,hG.L.cs⟩,hG.last,fun _ => hm,hG.key,hG.cut,hG.cr,(fun j hj hbj => (hG.cl j hj hbj).imp fun _ q => q.imp fun _ q => ⟨q.t,q.u,q.P,q.nx⟩),hG.p1,hG.p2,hG.o⟩ hon)
         rw [hl,<- nn];exact q2
       · exact .ins i0 d hp (mk hG hon)
     · have hs := ans.s d;refine .sel i0 d _ (by rw [g0,hs]) dk ?_ (mk hG hon)
       have hp2 := hput' (o.s.does.getD c pk0).key.toNat (by omega)
       rw [show (((o.s.does.getD c pk0).key.toNat:Nat):Int) = (o.s.does.getD c pk0).key by omega] at hp2
       have hf := Qc1 g'.K g'.V (o.s.does.getD c pk0).key (o.s.does.getD c pk0).place.toNat g'.n;rw [show (((o.s.does.getD c pk0).place.toNat:Nat):Int) = (o.s.does.getD c pk0).place by omega] at hf
       have hm2 := st.st.L.m;rw [hp2,hf,Nat.min_eq_right (by omega)]
       by_cases hz:prevK g'.K (o.s.does.getD c pk0).key ((o.s.does.getD c pk0).place.toNat + 1) = 0
       · rw [if_pos hz,hz];rfl
       · rw [if_neg hz];have hle := QR g'.K (o.s.does.getD c pk0).key ((o.s.does.getD c pk0).place.toNat + 1) (by omega)
         show (plc (wP _) == _) = true;rw [Y4 (by omega)]
         simp
     · obtain ⟨c1,c2,c3⟩ := ans.c d;obtain ⟨h1,h2⟩ := hcut d
       match args,c1,c3,h1,h2,g0 with
       | [a,b],_,c3,h1,h2,g0 =>
        exact .cut i0 d a b g0 h1 c3 (mk h2 (by simp;omega))
theorem OnI.okBeg {o:OnS} {n:Nat} {now sure:List Sector} (h:OnI o n now sure):QmP o.s := by
 obtain ⟨d1,d2,d3,⟨g,hg,hput⟩,hpl,hon⟩ := h;have := hg.last;have := hg.C.n100;exact ⟨hg.L,by omega,by omega⟩
def putX (l0:Int) (b:ChS) (v:Int) (put:List (List Item)):List (List Item) := if l0 < b.last then put.set b.key.toNat ([⟨b.key,b.last,v⟩] ++ put.getD b.key.toNat []) else put
theorem OnI.beg {o:OnS} {n:Nat} {now sure:List Sector} (h:OnI o n now sure) (xc xd xk xv xp xm:Int):OnI ⟨o.s.b1 xc xd xk xv xp xm,putX o.s.last (o.s.b1 xc xd xk xv xp xm) (xv % 256) o.put,o.out⟩ n now sure /\
 (o.s.last < (o.s.b1 xc xd xk xv xp xm).last -> 0 <= (o.s.b1 xc xd xk xv xp xm).key /\ (o.s.b1 xc xd xk xv xp xm).key < 24 /\ (o.put.getD (o.s.b1 xc xd xk xv xp xm).key.toNat []).length <= 100) := by
 obtain ⟨d1,d2,d3,⟨g,hg,hput⟩,hpl,hon⟩ := h;have hl := hg.last;have n100 := hg.C.n100;have k0 := Int.emod_nonneg xk (show (24:Int) ≠ 0 by decide)
 have k1 := Int.emod_lt_of_pos xk (show (0:Int) < 24 by decide)
 obtain ⟨g',hg',hc⟩ := hg.b1 xc xd xk xv xp xm;generalize o.s.b1 xc xd xk xv xp xm = b at hg' hc ⊢;rcases hc with ⟨e1,e2,e3,e4,e5⟩ | ⟨e1,e2,e3⟩
 · refine ⟨⟨d1,d2,d3,⟨g',hg',fun k hk => ?_⟩,?_,hon⟩,fun q => by omega⟩
   · show (putX _ _ _ _).getD k [] = _;unfold putX;rw [if_neg (by omega),e2,e3,e4];exact hput k hk
   · show (putX _ _ _ _).length = 24;unfold putX;rw [if_neg (by omega)];exact hpl
 · subst e2;refine ⟨⟨d1,d2,d3,⟨_,hg',fun k hk => ?_⟩,?_,hon⟩,fun q => ⟨by omega,by omega,?_⟩⟩
   · show (putX _ _ _ _).getD k [] = putK (g.new (xk % 24) (xv % 256)).K (g.new (xk % 24) (xv % 256)).V k (g.n + 1);have hK:∀ p,p <= g.n -> (g.new (xk % 24) (xv % 256)).K p = g.K p := fun p hp => if_neg (by omega)
     have hV:∀ p,p <= g.n -> (g.new (xk % 24) (xv % 256)).V p = g.V p := fun p hp => if_neg (by omega)
     have hKn:(g.new (xk % 24) (xv % 256)).K (g.n + 1) = xk % 24 := if_pos rfl;have hVn:(g.new (xk % 24) (xv % 256)).V (g.n + 1) = xv % 256 := if_pos rfl;unfold putX putK;rw [if_pos (by omega),hKn,hVn,QaF fun p a b => ⟨hK p b,hV p b⟩,JS _ _ (by omega),e3]
     by_cases hkk:k = (xk % 24).toNat
     · have:xk % 24 = (k:Int) := by omega
       rw [if_pos hkk,if_pos this,hput _ (by omega),<- hkk,e1,hl,this];rfl
     · rw [if_neg hkk,if_neg (by omega)];exact hput k hk
   · show (putX _ _ _ _).length = 24;unfold putX;rw [if_pos (by omega),List.length_set];exact hpl
   · rw [hput _ (by omega)]
     have := QbE g.K g.V ((b.key.toNat:Nat):Int) g.n;omega
theorem OnI.put100 {o:OnS} {n:Nat} {now sure:List Sector} (h:OnI o n now sure) {k:Int} (k0:0 <= k) (k1:k < 24):(o.put.getD k.toNat []).length <= 100 := by
 obtain ⟨d1,d2,d3,⟨g,hg,hput⟩,hpl,hon⟩ := h;have n100 := hg.C.n100;rw [hput _ (by omega)]
 have := QbE g.K g.V ((k.toNat:Nat):Int) g.n;omega
def Vt (o:OnS) (c:Nat) (t1:Task) (cs':List Int):OnS :=
 if (goT nCh false t1).is = true then ⟨o.s.to c cs' t1 o.s.busy,o.put,o.out⟩
 else if (o.s.does.getD c pk0).do_ = 0 then (if (o.s.does.getD c pk0).place = o.s.last then ⟨{ o.s.to c cs' t1 (o.s.busy.set c false) with done := true },o.put,o.out⟩ else ⟨o.s.to c cs' t1 (o.s.busy.set c false),o.put,o.out⟩)
 else if (o.s.does.getD c pk0).do_ = 2 then ⟨o.s.to c cs' t1 (o.s.busy.set c false),o.put,o.out ++ [(goT nCh false t1).got.getD 0 0]⟩
 else ⟨o.s.to c cs' t1 (o.s.busy.set c false),o.put,o.out⟩
def QbF (x:Pick) (o:OnS):OnS :=
 if 0 <= x.do_ /\ x.do_ <= 2 then ⟨o.s.b1 x.client x.do_ x.key x.value x.place x.many,putX o.s.last (o.s.b1 x.client x.do_ x.key x.value x.place x.many) (x.value % 256) o.put,o.out⟩
 else if o.s.busy.getD (x.client % 4).toNat false = false then o
 else Vt o (x.client % 4).toNat (gmT nCh false (gmX nCh o.s.cs (o.s.ts.getD (x.client % 4).toNat tk0)) (o.s.ts.getD (x.client % 4).toNat tk0)) (gmCs nCh o.s.cs (o.s.ts.getD (x.client % 4).toNat tk0))
def YI:List Pick -> OnS -> OnS
 | [],o => o
 | x :: l,o => YI l (QbF x o)
theorem OnI.mono {o:OnS} {n:Nat} {now sure:List Sector} (h:OnI o n now sure):OnI o (n + 1) now sure := ⟨h.d1,h.d2,h.d3,h.g,h.pl,by have := h.on;omega⟩
theorem cc2 {α:Type} (a b:Bool) (A B:α):(bif a then (bif b then A else B) else B) = bif a && b then A else B := by cases a <;> cases b <;> rfl
theorem QbG {α:Type} {b:Bool} {P:Prop} {x y:Option α} {Q:α -> Prop} (hb:b = true) (h:P) (ha:Leaf x Q):Leaf (bif b && cdec P then x else y) Q := by rw [QG h,hb];exact ha
theorem QD {α:Type} {b:Bool} {x y:Option α} {Q:α -> Prop} (hb:b = true) (ha:Leaf x Q):Leaf (bif b then x else y) Q := by rw [hb];exact ha
theorem Zr {α:Type} {b:Bool} {x y:Option α} {Q:α -> Prop} (hb:b = false) (ha:Leaf y Q):Leaf (bif b then x else y) Q := by rw [hb];exact ha
theorem Qk5 {o:OnS} {c:Nat} {t1:Task} {cs':List Int} (e:(goT nCh false t1).is = true):Vt o c t1 cs' = ⟨o.s.to c cs' t1 o.s.busy,o.put,o.out⟩ := if_pos e
theorem Qg5 {o:OnS} {c:Nat} {t1:Task} {cs':List Int} (e:(goT nCh false t1).is = false) (d:(o.s.does.getD c pk0).do_ = 0) (hp:(o.s.does.getD c pk0).place ≠ o.s.last):Vt o c t1 cs' = ⟨o.s.to c cs' t1 (o.s.busy.set c false),o.put,o.out⟩ := by
 unfold Vt;rw [if_neg (by rw [e];simp),if_pos d,if_neg hp]
theorem KU {o:OnS} {c:Nat} {t1:Task} {cs':List Int} (e:(goT nCh false t1).is = false) (d:(o.s.does.getD c pk0).do_ = 0) (hp:(o.s.does.getD c pk0).place = o.s.last):Vt o c t1 cs' = ⟨{ o.s.to c cs' t1 (o.s.busy.set c false) with done := true },o.put,o.out⟩ := by
 unfold Vt;rw [if_neg (by rw [e];simp),if_pos d,if_pos hp]
theorem Qg6 {o:OnS} {c:Nat} {t1:Task} {cs':List Int} (e:(goT nCh false t1).is = false) (d:(o.s.does.getD c pk0).do_ = 1):Vt o c t1 cs' = ⟨o.s.to c cs' t1 (o.s.busy.set c false),o.put,o.out⟩ := by
 unfold Vt;rw [if_neg (by rw [e];simp),if_neg (by omega),if_neg (by omega)]
theorem Qg7 {o:OnS} {c:Nat} {t1:Task} {cs':List Int} {a b:Int} (e:(goT nCh false t1).is = false) (d:(o.s.does.getD c pk0).do_ = 2) (g:(goT nCh false t1).got = [a,b]):Vt o c t1 cs' = ⟨o.s.to c cs' t1 (o.s.busy.set c false),o.put,o.out ++ [a]⟩ := by
 unfold Vt;rw [if_neg (by rw [e];simp),if_neg (by omega),if_pos d,g];rfl
open Go.Proofs
set_option maxRecDepth 100000
set_option maxHeartbeats 4000000
structure QfA where
 lc:Bool
 l:List Pick
 i:Nat
 now:List Sector
 sure:List Sector
 cs:List Int
 ts:List Task
 us:List Task
 busy:List Bool
 last:Int
 done:Bool
 key:Int
 does:List Pick
 cut:List Int
 put:List (List Item)
 out:List Int
noncomputable def KV (lc:Bool) (l:List Pick) (i:Nat) (now:List Sector) (sure:List Sector) (cs:List Int) (ts:List Task) (us:List Task) (busy:List Bool) (last:Int) (done:Bool) (key:Int) (does:List Pick) (cut:List Int) (put:List (List Item)) (out:List Int):Env RC := [(0,.sl (C := RC) .pick lc l),(2,.bool false),(3,.ptr 0 []),(4,.ptr 3 []),(5,.vs 4 (out.length)),(6,.int .i64 (i:Int))]
def V3 (lc:Bool) (l:List Pick) (i:Nat) (now:List Sector) (sure:List Sector) (cs:List Int) (ts:List Task) (us:List Task) (busy:List Bool) (last:Int) (done:Bool) (key:Int) (does:List Pick) (cut:List Int) (put:List (List Item)) (out:List Int):List (Obj RC) := [.var 32 (.acons (.ptr 1 []) (.acons (.int .i64 last) (.acons (.bool done) (.acons (.int .i64 key) (.acons (.arr (C := RC) .pick 4 does) (.acons (.arr (C := RC) .int 24 cut) .anil)))))),.var 51 (.acons (.acons (.vs 2 (cs.length)) (.acons (.acons (.sl (C := RC) .sector false now) (.acons (.sl (C := RC) .sector false sure) .anil)) .anil)) (.acons (.arr (C := RC) .task 4 ts) (.acons (.arr (C := RC) .task 4 us) (.acons (.arr (C := RC) .bool 4 busy) .anil)))),.vec .int true cs,.var 34 (.arr (C := RC) .l_item 24 put),.vec .int true out]
noncomputable def Qk6 (lc:Bool) (l:List Pick) (i:Nat) (now:List Sector) (sure:List Sector) (cs:List Int) (ts:List Task) (us:List Task) (busy:List Bool) (last:Int) (done:Bool) (key:Int) (does:List Pick) (cut:List Int) (put:List (List Item)) (out:List Int) := rndV s18 un_1 (mvOf [2]) 3 7 80 5 [0,2,3,4,5,6] [2] [.slot 3 0,.path 0 [0],.path 1 [0,0],.slot 4 0,.slot 5 0] (KV lc l i now sure cs ts us busy last done key does cut put out) (V3 lc l i now sure cs ts us busy last done key does cut put out)
theorem Qne (lc:Bool) (l:List Pick) (i:Nat) (now:List Sector) (sure:List Sector) (cs:List Int) (ts:List Task) (us:List Task) (busy:List Bool) (last:Int) (done:Bool) (key:Int) (does:List Pick) (cut:List Int) (put:List (List Item)) (out:List Int):Qk6 lc l i now sure cs ts us busy last done key does cut put out = (let Z0:Int := (↑i:Int);let Z1:Bool := decide ((0:Int) <= Z0 /\ Z0 < (↑l.length:Int));let Z2:Pick := Pick.mk (0:Int) (0:Int) (0:Int) (0:Int) (0:Int) (0:Int);let Z3:Pick := List.getD l Z0.toNat Z2;let Z4:Int := Pick.do_ Z3;let Z5:Nat := List.length cs;let Z6:ChS := ChS.mk cs ts us busy last done key does cut;let Z7:ChS := ChS.b1 (Pick.client Z3) Z4 (Pick.key Z3) (Pick.value Z3) (Pick.place Z3) (Pick.many Z3) Z6;let Z8:Int := ChS.last Z7;let Z9:Int := ChS.key Z7;let Z10:Bool := decide ((0:Int) <= Z9 /\ Z9 < (24:Int));let Z11:List Item := [Item.mk Z9 Z8 (bits .i64 (fun (x:Nat) (u v:BitVec x) => u &&& v) (Pick.value Z3) (255:Int))];let Z12:List Item := List.getD put Z9.toNat [];let Z13:Nat := List.length Z11 + List.length Z12;let Z14:Nat × D RC := (0,D.sl RTy.pick lc l);let Z15:Nat × D RC := (2,D.bool false);let Z16:Nat × D RC := (3,D.ptr 0 []);let Z17:Nat × D RC := (4,D.ptr 3 []);let Z18:Nat := List.length out;let Z19:List (Nat × D RC) := [(6,D.int .i64 (IntKind.wrap .i64 (Z0 + (1:Int))))];let Z20:X × Env RC := (X.normal,Z14 :: Z15 :: Z16 :: Z17 :: (5,D.vs 4 Z18) :: Z19);let Z21:D RC := D.ptr 1 [];let Z22:D RC := .anil;let Z23:Option (Obj RC) := some (Obj.var 32 (.acons Z21 (D.acons (D.int .i64 Z8) (.acons (D.bool (ChS.done Z7)) (.acons (D.int .i64 Z9) (.acons (D.arr RTy.pick (4:Nat) (ChS.does Z7)) (.acons (D.arr RTy.int (24:Nat) (ChS.cut Z7)) Z22)))))));let Z24:D RC := D.acons (D.acons (D.sl RTy.sector false now) (.acons (D.sl RTy.sector false sure) Z22)) Z22;let Z25:Option (Obj RC) := some (Obj.var 51 (.acons (D.acons (D.vs 2 (ChS.cs Z7).length) Z24) (.acons (D.arr RTy.task (4:Nat) (ChS.ts Z7)) (.acons (D.arr RTy.task (4:Nat) (ChS.us Z7)) (.acons (D.arr RTy.bool (4:Nat) (ChS.busy Z7)) Z22)))));let Z26:Option (Obj RC) := some (Obj.vec RTy.int true (ChS.cs Z7));let Z27:RO_ := none;let Z28:Option (Obj RC) := some (Obj.var 34 (D.arr RTy.l_item (24:Nat) put));let Z29:List (Option (Obj RC)) := [Z28,some (Obj.vec RTy.int true out)];let Z30:Int := Pick.client Z3 % (4:Int);let Z31:Bool := decide ((0:Int) <= Z30 /\ Z30 < (4:Int));let Z32:Nat := Int.toNat Z30;let Z33:D RC := D.acons (D.int .i64 key) (.acons (D.arr RTy.pick (4:Nat) does) (.acons (D.arr RTy.int (24:Nat) cut) Z22));let Z34:Option (Obj RC) := some (Obj.var 32 (.acons Z21 (D.acons (D.int .i64 last) (.acons (D.bool done) Z33))));let Z35:D RC := D.acons (D.vs 2 Z5) Z24;let Z36:List (Option (Obj RC)) := Z34 :: some (Obj.var 51 (.acons Z35 (D.acons (D.arr RTy.task (4:Nat) ts) (.acons (D.arr RTy.task (4:Nat) us) (.acons (D.arr RTy.bool (4:Nat) busy) Z22))))) :: some (Obj.vec RTy.int true cs) :: Z29;let Z37:Task := tkC ts Z30;let Z38:List Int := gmCs nCh cs Z37;let Z39:Task := gmT nCh false (gmX nCh cs Z37) Z37;let Z40:Bool := GoM.is (goT nCh false Z39);let Z41:Option (Obj RC) := some (Obj.var 51 (.acons Z35 (D.acons (D.arr RTy.task (4:Nat) (List.set ts Z32 Z39)) (.acons (D.arr RTy.task (4:Nat) (List.set us Z32 (gmT nCh true (gmX nCh cs Z37) (tkC us Z30)))) (.acons (D.arr RTy.bool (4:Nat) (bif Z40 then busy else List.set busy Z32 false)) Z22)))));let Z42:List (Option (Obj RC)) := Z41 :: some (Obj.vec RTy.int true Z38) :: Z29;let Z43:Pick := List.getD does Z32 Z2;let Z44:Int := Pick.do_ Z43;let Z45:Int := Pick.place Z43;let Z46:List Item := rdW Z38 key (160:Nat) (wh (List.getD Z38 ((21:Int) + key).toNat (0:Int)));let Z47:Int := (↑Z46.length:Int);let Z48:List (Option (Obj RC)) := some (Obj.var 32 (.acons Z21 (D.acons (D.int .i64 last) (.acons (D.bool true) Z33)))) :: Z42;let Z49:List Item := List.getD put key.toNat [];let Z50:Item := Item.mk (0:Int) (0:Int) (0:Int);let Z51:Item := List.getD Z46 (0:Nat) Z50;let Z52:Item := List.getD Z49 (0:Nat) Z50;let Z53:List Int := bif Z40 then [] else GoM.got (goT nCh false Z39);let Z54:Nat := List.length Z53;let Z55:Int := (↑Z54:Int);let Z56:RO_ := some ((X.ret,[Z15]),Z34 :: Z42);let Z57:Int := Pick.key Z43;let Z58:Bool := decide ((0:Int) <= (0:Int) /\ (0:Int) < Z55);let Z59:List Item := List.getD put Z57.toNat [];let Z60:Int := List.getD Z53 (0:Nat) (0:Int);let Z61:Nat := Z18 + List.length [Z60];let Z62:List (Option (Obj RC)) := [Z34,Z41,some (Obj.vec RTy.int true Z38),Z28,some (Obj.vec RTy.int true (out ++ [Z60]))];let Z63:RO_ := some ((X.normal,Z14 :: Z15 :: Z16 :: Z17 :: (5,D.vs 4 Z61) :: Z19),Z62);let Z64:RO_ := bif Z31 then bif !List.getD busy Z32 false then some (Z20,Z36) else bif Z31 then bif decide (Z5 = Z5) && cdec ((0:Int) <= Z30 /\ Z30 <= (3:Int) /\ List.length ts = (4:Nat) /\ List.length us = (4:Nat) /\ KG Z30 cs Z37 (tkC us Z30) now sure) then bif Nat.beq Z5 Z38.length then bif cdec (OkRt Z38) then bif !!Z40 then some (Z20,Z34 :: Z42) else bif Z44 == (0:Int) then bif Z45 != last then some (Z20,Z34 :: Z42) else bif decide (Z5 = List.length Z38) && cdec (OkRd Z38 key) then bif Qd Z46.length then bif Z47 == (0:Int) then some ((X.ret,[Z15]),Z48) else bif decide ((0:Int) <= (0:Int) /\ (0:Int) < Z47) then bif decide ((0:Int) <= key /\ key < (24:Int)) then bif decide ((0:Int) <= (0:Int) /\ (0:Int) < (↑Z49.length:Int)) then bif !(Item.key Z51 == Item.key Z52 && (Item.place Z51 == Item.place Z52 && (Item.value Z51 == Item.value Z52 && true))) then some ((X.ret,[Z15]),Z48) else bif Qd Z46.length then bif decide ((1:Int) < Z47) then bif decide ((0:Int) <= (1:Int) /\ (1:Int) < Z47) then bif decide (last <= Item.place (List.getD Z46 (1:Nat) Z50)) then some ((X.ret,[Z15]),Z48) else some (Z20,Z48) else Z27 else some (Z20,Z48) else Z27 else Z27 else Z27 else Z27 else Z27 else Z27 else bif Z44 == (1:Int) then bif Qd Z54 then bif Z55 != (1:Int) then Z56 else bif decide ((0:Int) <= Z57 /\ Z57 < (24:Int)) then bif Z58 then bif Qd Z59.length then bif !JF.match_1 (fun (x:Option Item) => Bool) (List.find? (fun (x:Item) => decide (Item.place x <= Z45)) Z59) (fun (x:Item) => plc Z60 == Item.place x) fun (_:Unit) => Z60 == (0:Int) then Z56 else some (Z20,Z34 :: Z42) else Z27 else Z27 else Z27 else Z27 else bif Z44 == (2:Int) then bif Qd Z54 then bif Z55 != (2:Int) then Z56 else bif decide (Z18 = Z18) && true && decide (Z18 <= (1000:Nat) /\ (1:Nat) <= Z54) then bif List.any (List.drop (0:Nat) out) fun (y:Int) => Z60 != (0:Int) && y == Z60 then Z56 else bif Z58 then bif Nat.beq Z18 Z18 && Qo Z61 (8:Nat) then bif Z58 then bif Z60 != (0:Int) then bif Z58 then bif decide (Z45 <= plc Z60) then some ((X.ret,[Z15]),Z62) else Z63 else Z27 else Z63 else Z27 else Z27 else Z27 else Z27 else Z27 else some (Z20,Z34 :: Z42) else Z27 else Z27 else Z27 else Z27 else Z27;bif Qd l.length then bif decide (Z0 < (↑l.length:Int)) then bif Z1 then bif Z1 then bif decide ((0:Int) <= Z4) then bif Z1 then bif decide (Z4 <= (2:Int)) then bif Z1 then bif decide (Z5 = Z5) && cdec (QmP Z6) then bif decide (last < Z8) then bif Z1 then bif Z10 then bif Qo Z13 (24:Nat) then bif Z10 then bif Nat.beq Z13 (Z11 ++ Z12).length then some (Z20,[Z23,Z25,Z26,some (Obj.var 34 (D.arr RTy.l_item (24:Nat) (List.set put Z9.toNat (Z11 ++ Z12)))),some (Obj.vec RTy.int true out)]) else Z27 else Z27 else Z27 else Z27 else Z27 else some (Z20,Z23 :: Z25 :: Z26 :: Z29) else Z27 else Z27 else Z64 else Z27 else Z64 else Z27 else Z27 else some ((X.exit (0:Nat),[Z15]),Z36) else Z27) := by kernel_rfl
noncomputable def Yh (lc:Bool) (l:List Pick) (i:Nat) (now:List Sector) (sure:List Sector) (cs:List Int) (ts:List Task) (us:List Task) (busy:List Bool) (last:Int) (done:Bool) (key:Int) (does:List Pick) (cut:List Int) (put:List (List Item)) (out:List Int):RT RC := .leaf (.exit 0) [(2,.bool false)] (V3 lc l i now sure (YI (l.drop i) ⟨⟨cs,ts,us,busy,last,done,key,does,cut⟩,put,out⟩).s.cs (YI (l.drop i) ⟨⟨cs,ts,us,busy,last,done,key,does,cut⟩,put,out⟩).s.ts (YI (l.drop i) ⟨⟨cs,ts,us,busy,last,done,key,does,cut⟩,put,out⟩).s.us (YI (l.drop i) ⟨⟨cs,ts,us,busy,last,done,key,does,cut⟩,put,out⟩).s.busy (YI (l.drop i) ⟨⟨cs,ts,us,busy,last,done,key,does,cut⟩,put,out⟩).s.last (YI (l.drop i) ⟨⟨cs,ts,us,busy,last,done,key,does,cut⟩,put,out⟩).s.done (YI (l.drop i) ⟨⟨cs,ts,us,busy,last,done,key,does,cut⟩,put,out⟩).s.key (YI (l.drop i) ⟨⟨cs,ts,us,busy,last,done,key,does,cut⟩,put,out⟩).s.does (YI (l.drop i) ⟨⟨cs,ts,us,busy,last,done,key,does,cut⟩,put,out⟩).s.cut (YI (l.drop i) ⟨⟨cs,ts,us,busy,last,done,key,does,cut⟩,put,out⟩).put (YI (l.drop i) ⟨⟨cs,ts,us,busy,last,done,key,does,cut⟩,put,out⟩).out)
def Vu (lc:Bool) (l:List Pick) (i:Nat) (now:List Sector) (sure:List Sector) (cs:List Int) (ts:List Task) (us:List Task) (busy:List Bool) (last:Int) (done:Bool) (key:Int) (does:List Pick) (cut:List Int) (put:List (List Item)) (out:List Int):Prop := i <= l.length /\ l.length <= 300 /\ OnI ⟨⟨cs,ts,us,busy,last,done,key,does,cut⟩,put,out⟩ i now sure
noncomputable def V4:QU RC QfA where
 k := 5
 canon q := KV q.lc q.l q.i q.now q.sure q.cs q.ts q.us q.busy q.last q.done q.key q.does q.cut q.put q.out
 objs q := V3 q.lc q.l q.i q.now q.sure q.cs q.ts q.us q.busy q.last q.done q.key q.does q.cut q.put q.out
 fin q := Yh q.lc q.l q.i q.now q.sure q.cs q.ts q.us q.busy q.last q.done q.key q.does q.cut q.put q.out
 Inv q := Vu q.lc q.l q.i q.now q.sure q.cs q.ts q.us q.busy q.last q.done q.key q.does q.cut q.put q.out
 μ q := q.l.length - q.i
theorem QdZ (lc:Bool) (l:List Pick) (i:Nat) (now:List Sector) (sure:List Sector) (cs:List Int) (ts:List Task) (us:List Task) (busy:List Bool) (last:Int) (done:Bool) (key:Int) (does:List Pick) (cut:List Int) (put:List (List Item)) (out:List Int) (hI:Vu lc l i now sure cs ts us busy last done key does cut put out):Leaf (Qk6 lc l i now sure cs ts us busy last done key does cut put out) (LedR V4 ⟨lc,l,i,now,sure,cs,ts,us,busy,last,done,key,does,cut,put,out⟩) := by
 (rw [Qne];conv => zeta)
 unfold Vu at hI;obtain ⟨h1,h2,hO⟩ := hI;have hlk:Qd l.length = true := Qq (by omega)
 by_cases hlt:i < l.length
 · have dI:decide ((0:Int) <= (i:Int) /\ (i:Int) < (l.length:Int)) = true := decide_eq_true (by omega)
   have c1:decide ((i:Int) < (l.length:Int)) = true := decide_eq_true (by omega)
   have v1:IntKind.i64.wrap ((i:Int) + 1) = ((i + 1:Nat):Int) := by rw [Qr (by omega) (by omega)];simp
   have hd:l.drop i = l.getD ((i:Int)).toNat ⟨0,0,0,0,0,0⟩ :: l.drop (i + 1) := by
    rw [List.drop_eq_getElem_cons hlt];simp [hlt]
   rw [hlk,cond_true,c1,cond_true];simp only [dI,v1,cond_true,Qbl];generalize l.getD ((i:Int)).toNat ⟨0,0,0,0,0,0⟩ = x at hd ⊢;rw [cc2]
   have go:∀ o':OnS,QbF x ⟨⟨cs,ts,us,busy,last,done,key,does,cut⟩,put,out⟩ = o' -> OnI o' (i + 1) now sure -> Leaf (some ((X.normal,KV lc l (i + 1) now sure o'.s.cs o'.s.ts o'.s.us o'.s.busy o'.s.last o'.s.done o'.s.key o'.s.does o'.s.cut o'.put o'.out),(V3 lc l (i + 1) now sure o'.s.cs o'.s.ts o'.s.us o'.s.busy o'.s.last o'.s.done o'.s.key o'.s.does o'.s.cut o'.put o'.out).map some)) (LedR V4 ⟨lc,l,i,now,sure,cs,ts,us,busy,last,done,key,does,cut,put,out⟩) := fun o' e hI => by
    refine QP ⟨lc,l,i + 1,now,sure,o'.s.cs,o'.s.ts,o'.s.us,o'.s.busy,o'.s.last,o'.s.done,o'.s.key,o'.s.does,o'.s.cut,o'.put,o'.out⟩ ⟨hlt,h2,hI⟩ (by simp only [V4];omega) ?_ rfl rfl
    show (Yh lc l (i + 1) now sure o'.s.cs o'.s.ts o'.s.us o'.s.busy o'.s.last o'.s.done o'.s.key o'.s.does o'.s.cut o'.put o'.out).val = (Yh lc l i now sure cs ts us busy last done key does cut put out).val;unfold Yh;rw [hd];simp only [YI,e];rfl
   by_cases hb:0 <= x.do_ /\ x.do_ <= 2
   · have eB:(decide (0 <= x.do_) && decide (x.do_ <= 2)) = true := by simp [hb.1,hb.2]
     rw [eB,cond_true];refine QbG (by simp) hO.okBeg ?_
     obtain ⟨hI',hk⟩ := hO.beg x.client x.do_ x.key x.value x.place x.many;have eS:QbF x ⟨⟨cs,ts,us,busy,last,done,key,does,cut⟩,put,out⟩ = ⟨ChS.b1 x.client x.do_ x.key x.value x.place x.many ⟨cs,ts,us,busy,last,done,key,does,cut⟩,putX last (ChS.b1 x.client x.do_ x.key x.value x.place x.many ⟨cs,ts,us,busy,last,done,key,does,cut⟩) (x.value % 256) put,out⟩ := if_pos hb
     dsimp only at hI' hk
     generalize ChS.b1 x.client x.do_ x.key x.value x.place x.many ⟨cs,ts,us,busy,last,done,key,does,cut⟩ = b at hI' hk eS ⊢;have this := go _ eS hI'.mono
     by_cases hq:last < b.last
     · obtain ⟨k0,k1,k2⟩ := hk hq;refine QD (decide_eq_true hq) ?_;refine QD (decide_eq_true ⟨k0,k1⟩) ?_;refine QD (by unfold Qo;refine decide_eq_true ?_;simp only [List.length_cons,List.length_nil];omega) ?_
       refine QD (decide_eq_true ⟨k0,k1⟩) ?_;refine QD (Qa4 (by rw [List.length_append])) ?_
       unfold putX at this;rw [if_pos hq] at this;exact this
     · refine Zr (decide_eq_false hq) ?_;unfold putX at this;rw [if_neg hq] at this;exact this
   · have eB:(decide (0 <= x.do_) && decide (x.do_ <= 2)) = false := by rw [Bool.and_eq_false_iff];by_cases q:0 <= x.do_ <;> simp [q];omega
     rw [eB,cond_false];have m0 := Int.emod_nonneg x.client (show (4:Int) ≠ 0 by decide)
     have m1 := Int.emod_lt_of_pos x.client (show (0:Int) < 4 by decide)
     have eS:QbF x ⟨⟨cs,ts,us,busy,last,done,key,does,cut⟩,put,out⟩ = if busy.getD (x.client % 4).toNat false = false then ⟨⟨cs,ts,us,busy,last,done,key,does,cut⟩,put,out⟩ else Vt ⟨⟨cs,ts,us,busy,last,done,key,does,cut⟩,put,out⟩ (x.client % 4).toNat (gmT nCh false (gmX nCh cs (tkC ts (x.client % 4))) (tkC ts (x.client % 4))) (gmCs nCh cs (tkC ts (x.client % 4))) := if_neg hb
     generalize x.client % 4 = c4 at m0 m1 eS ⊢;refine QD (decide_eq_true ⟨m0,m1⟩) ?_
     by_cases hbz:busy.getD c4.toNat false = false
     · refine QD (by rw [hbz];rfl) ?_
       rw [if_pos hbz] at eS;exact go _ eS hO.mono
     have hbt:busy.getD c4.toNat false = true := by simpa using hbz
     rw [if_neg hbz] at eS;refine Zr (by rw [hbt];rfl) ?_
     refine QD (decide_eq_true ⟨m0,m1⟩) ?_;obtain ⟨t1,cs',okS,e1,e2,e3,e4,rt,af⟩ := hO.stp (c := c4.toNat) (by omega) hbt
     have et:tkC ts c4 = ts.getD c4.toNat tk0 := rfl;have eu:tkC us c4 = us.getD c4.toNat tk0 := rfl;have hc4:((c4.toNat:Nat):Int) = c4 := by omega
     dsimp only at okS e1 e2 e3 e4
     rw [hc4,<- et,<- eu] at okS;rw [<- et] at e1 e2;rw [<- et,<- eu] at e3;have hL := hO.okBeg.L;refine QbG (by simp) ⟨m0,by omega,hL.ts,hL.us,okS⟩ ?_
     simp only [e1,e2,e3];rw [e1,e2] at eS;clear e1 e2 e3 okS et eu;refine QD (Qa4 e4) ?_;refine QD (QG rt) ?_;rw [e4];have hle:∀ k:Int,0 <= k -> k < 24 -> (put.getD k.toNat []).length <= 100 := fun k a b => hO.put100 a b;have hon := hO.on
     dsimp only at hon
     cases af with
     | on e I =>
      refine QD (by rw [e];rfl) ?_
      simp only [e,cond_true];exact go _ (eS.trans (Qk5 e)) I.mono
     | ins e d hp I =>
      refine Zr (by rw [e];rfl) ?_
      refine QD (beq_iff_eq.2 d) ?_;refine QD (bne_iff_ne.2 hp) ?_;simp only [e,cond_false];exact go _ (eS.trans (Qg5 e d hp)) I.mono
     | insL e d hp rd it r1 r2 e1 e2 e3 I =>
      dsimp only at rd e1 e2 e3
      refine Zr (by rw [e];rfl) ?_
      refine QD (beq_iff_eq.2 d) ?_;refine Zr (by rw [bne_eq_false_iff_eq];exact hp) ?_
      refine QbG (by simp) rd ?_
      have l160 := QkE cs' key 160 (wh (cs'.getD (21 + key).toNat 0));refine QD (Qq (by omega)) ?_
      rw [e1] at l160;simp only [e,e1,e2,cond_false];refine Zr (by rw [beq_eq_false_iff_ne,List.length_cons];omega) ?_
      refine QD (decide_eq_true ⟨by omega,by rw [List.length_cons];omega⟩) ?_
      refine QD (decide_eq_true rd.2) ?_;refine QD (decide_eq_true ⟨by omega,by rw [List.length_cons];omega⟩) ?_
      refine Zr (by simp) ?_
      refine QD (Qq (by omega)) ?_
      rcases e3 with e3 | ⟨y,r,e3,hy⟩
      · subst e3;refine Zr (decide_eq_false (by simp)) ?_
        exact go _ (eS.trans (KU e d hp)) I.mono
      · subst e3;refine QD (decide_eq_true (by rw [List.length_cons,List.length_cons];omega)) ?_
        refine QD (decide_eq_true ⟨by omega,by rw [List.length_cons,List.length_cons];omega⟩) ?_
        refine Zr (decide_eq_false (by show ¬ last <= y.place;omega)) ?_
        exact go _ (eS.trans (KU e d hp)) I.mono
     | sel e d w g k fnd I =>
      refine Zr (by rw [e];rfl) ?_
      refine Zr (by rw [beq_eq_false_iff_ne];intro q;have q := q.symm.trans d;omega) ?_
      refine QD (beq_iff_eq.2 d) ?_;simp only [e,g,cond_false];refine QD rfl ?_;refine Zr rfl ?_;refine QD (decide_eq_true k) ?_;refine QD (decide_eq_true ⟨by omega,by simp⟩) ?_
      refine QD (Qq (by have := hle _ k.1 k.2;exact Nat.le_trans this (by decide))) ?_
      refine Zr (congrArg not fnd) ?_;exact go _ (eS.trans (Qg6 e d)) I.mono
     | cut e d a b g nb pl I =>
      refine Zr (by rw [e];rfl) ?_
      refine Zr (by rw [beq_eq_false_iff_ne];intro q;have q := q.symm.trans d;omega) ?_
      refine Zr (by rw [beq_eq_false_iff_ne];intro q;have q := q.symm.trans d;omega) ?_
      refine QD (beq_iff_eq.2 d) ?_;simp only [e,g,cond_false];have this := go _ (eS.trans (Qg7 e d g)) I;simp only [KV,List.length_append] at this;refine QD rfl ?_;refine Zr rfl ?_;refine QD (by simp;omega) ?_
      refine Zr (by
       rw [List.any_eq_false];intro y hy q;rw [List.drop_zero] at hy;simp at q;exact nb q.1 (by rw [<- q.2];exact hy)) ?_
      refine QD (decide_eq_true ⟨by omega,by simp⟩) ?_
      refine QD (by simp [Qo];omega) ?_
      refine QD (decide_eq_true ⟨by omega,by simp⟩) ?_
      by_cases ha:a = 0
      · refine Zr (by rw [bne_eq_false_iff_eq];exact ha) ?_
        exact this
      · refine QD (bne_iff_ne.2 ha) ?_;refine QD (decide_eq_true ⟨by omega,by simp⟩) ?_
        have pl := pl.resolve_left ha;refine Zr (decide_eq_false (by intro q;exact absurd (Int.lt_of_le_of_lt q pl) (Int.lt_irrefl _))) ?_
        exact this
 · have hi:i = l.length := by omega
   have c1:decide ((i:Int) < (l.length:Int)) = false := decide_eq_false (by omega)
   rw [hlk,cond_true,c1,cond_false];have hd:l.drop i = [] := by rw [hi];simp
   refine QC (V3 lc l i now sure cs ts us busy last done key does cut put out) ?_ rfl;show (Yh lc l i now sure cs ts us busy last done key does cut put out).val = _;unfold Yh;rw [hd];rfl
noncomputable def Qd0 (env:Env RC) (os:List (Obj RC)):Option (Bool × QfA) := match env,os with
 | [(0,.sl .pick lc l),(2,.bool false),(3,.ptr 0 []),(4,.ptr 3 []),(5,.vs 4 x0),(6,.int .i64 x1)],[.var 32 (.acons (.ptr 1 []) (.acons (.int .i64 last) (.acons (.bool done) (.acons (.int .i64 key) (.acons (.arr .pick 4 does) (.acons (.arr .int 24 cut) .anil)))))),.var 51 (.acons (.acons (.vs 2 x2) (.acons (.acons (.sl .sector false now) (.acons (.sl .sector false sure) .anil)) .anil)) (.acons (.arr .task 4 ts) (.acons (.arr .task 4 us) (.acons (.arr .bool 4 busy) .anil)))),.vec .int true cs,.var 34 (.arr .l_item 24 put),.vec .int true out] => QN (true) (decide (x0 = out.length) && decide (x1 = 0) && decide (x2 = cs.length) && decide (l.length <= 300) && cdec (OnI ⟨⟨cs,ts,us,busy,last,done,key,does,cut⟩,put,out⟩ 0 now sure),⟨lc,l,0,now,sure,cs,ts,us,busy,last,done,key,does,cut,put,out⟩)
 | _,_ => none
noncomputable def uo_1 := un_1.addLoop 3 7 (sumV s18 (mvOf [2]) [.slot 3 0,.path 0 [0],.path 1 [0,0],.slot 4 0,.slot 5 0] [0,2,3,4,5,6] (resR V4 Qd0))
theorem Qk7:Qg Tryz.prog s18 uo_1 := by
 refine Qk1.addRoundsV (mv := (mvOf [2])) Qe (by kernel_rfl) V4 80 [0,2,3,4,5,6] [2] [.slot 3 0,.path 0 [0],.path 1 [0,0],.slot 4 0,.slot 5 0] [0,2,3,4,5,6] Qd0 (fun q hI => ?_) ?_
 · obtain ⟨lc,l,i,now,sure,cs,ts,us,busy,last,done,key,does,cut,put,out⟩ := q;refine ⟨?_,?_,QdZ lc l i now sure cs ts us busy last done key does cut put out hI⟩
   · simp_all [Ql,V4,KV,V3,Vu,D.refs,Obj.refs,rEnc]
   · simp_all [V4,Yh,V3,Vu,RT.refsOK,Ql,D.refs,Obj.refs,rEnc]
 · intro env os b q hd_ hb;unfold Qd0 at hd_
   split at hd_
   · obtain ⟨hs,hd_⟩ := Qi hd_;cases hd_;simp only [Bool.and_eq_true,decide_eq_true_eq] at hb;obtain ⟨⟨⟨⟨rfl,rfl⟩,rfl⟩,hl⟩,hO⟩ := hb;exact ⟨⟨Nat.zero_le _,hl,QI.1 hO⟩,rfl,rfl⟩
   · cases hd_
open Go.Proofs
def nst:Nat -> List Int
 | 0 => (List.replicate 771 0).set 1 1
 | i + 1 => (nst i).set (292 + 3 * i) (-1)
theorem Qk8:∀ i,(nst i).length = 771
 | 0 => by unfold nst;rw [List.length_set,List.length_replicate]
 | i + 1 => by unfold nst;rw [List.length_set];exact Qk8 i
theorem Qqe:nst 160 = Zu := by kernel_rfl
theorem Qq8:∃ l,l = Zu := ⟨Zu,rfl⟩
noncomputable def nC:List Int := Classical.choose Qq8
theorem Qq9:nC = Zu := Classical.choose_spec Qq8
structure Qk9 where
 i:Nat
 l:List Int
noncomputable def Qla (i:Nat) (l:List Int):Env RC := [(1,.vs 0 771),(2,.int .i64 (i:Int))]
def QaI (i:Nat) (l:List Int):List (Obj RC) := [.vec .int true l]
noncomputable def Qn2 (i:Nat) (l:List Int) := rndO s18 uo_1 16 4 60 1 [1,2] [] [.slot 1 0] (Qla i l) (QaI i l)
theorem Qqf (i:Nat) (l:List Int):Qn2 i l = (let Z0:Int := (↑i:Int);let Z1:Bool := Nat.beq (771:Nat) l.length;let Z2:Int := lField (291:Int) Z0 (1:Int) (160:Int) (3:Int);bif decide (Z0 < (160:Int)) then bif Z1 && decide ((0:Int) <= Z2 /\ Z2 < (↑l.length:Int)) then bif Z1 then some ((X.normal,[(1,D.vs 0 (771:Nat)),(2,D.int .i64 (IntKind.wrap .i64 (Z0 + (1:Int))))]),[some (Obj.vec RTy.int true (List.set l Z2.toNat (-1:Int)))]) else none else none else some ((X.exit (0:Nat),[]),[some (Obj.vec RTy.int true l)])) := by kernel_rfl
noncomputable def QfB (i:Nat) (l:List Int):RT RC := .leaf (.exit 0) [] (QaI i nC)
def Jr (i:Nat) (l:List Int):Prop := i <= 160 /\ l = nst i
noncomputable def KW:QU RC Qk9 where
 k := 1
 canon q := Qla q.i q.l
 objs q := QaI q.i q.l
 fin q := QfB q.i q.l
 Inv q := Jr q.i q.l
 μ q := 160 - q.i
theorem Qg8 (i:Nat) (l:List Int) (hI:Jr i l):Leaf (Qn2 i l) (LedR KW ⟨i,l⟩) := by
 (rw [Qqf];conv => zeta)
 unfold Jr at hI;obtain ⟨h1,rfl⟩ := hI;have hl := Qk8 i
 by_cases hlt:i < 160
 · have v1:IntKind.i64.wrap ((i:Int) + 1) = ((i + 1:Nat):Int) := by rw [Qr (by omega) (by omega)];simp
   have v4:lField 291 (i:Int) 1 160 3 = 292 + 3 * (i:Int) := by unfold lField;rw [if_pos ⟨by omega,by omega,by omega,by omega⟩];omega
   have v5:(292 + 3 * (i:Int)).toNat = 292 + 3 * i := by omega
   have d1:decide ((i:Int) < 160) = true := decide_eq_true (by omega)
   have d2:decide (160 <= (i:Int)) = false := decide_eq_false (by omega)
   have d3:decide (291 + 3 * (i:Int) < 0) = false := decide_eq_false (by omega)
   have d4:decide (0 <= 292 + 3 * (i:Int) /\ 292 + 3 * (i:Int) < ((nst i).length:Int)) = true := decide_eq_true ⟨by omega,by omega⟩
   have d5:Nat.beq 771 (nst i).length = true := Qa4 hl.symm;simp only [v1,v4,v5,d1,d2,d3,d4,d5,Bool.and_self,cond_true,cond_false];exact QP (S := KW) (s := ⟨i,nst i⟩) ⟨i + 1,nst (i + 1)⟩ ⟨hlt,rfl⟩ (by simp only [KW];omega) rfl rfl rfl
 · have e:i = 160 := by omega
   have d1:decide ((i:Int) < 160) = false := decide_eq_false (by omega)
   rw [d1];simp only [cond_false];exact QC (QaI i nC) rfl (by rw [e,Qqe,<- Qq9];rfl)
noncomputable def Qlb (env:Env RC) (os:List (Obj RC)):Option (Bool × Qk9) := match env,os with
 | [(1,.vs 0 771),(2,.int .i64 x0)],[.vec .int true l] => QN (true) (decide (x0 = 0) && decide (l = nst 0),⟨0,l⟩)
 | _,_ => none
noncomputable def up_1 := uo_1.addLoop 16 4 (sumR s18 [.slot 1 0] [1,2] KW Qlb)
theorem Qlc:Qg Tryz.prog s18 up_1 := by
 refine Qk7.addRoundsR Qe (by kernel_rfl) KW 60 [1,2] [] [.slot 1 0] [1,2] Qlb (fun q hI => ?_) ?_
 · obtain ⟨i,l⟩ := q;refine ⟨?_,?_,Qg8 i l hI⟩
   · simp_all [Ql,KW,Qla,QaI,Jr,D.refs,Obj.refs,rEnc]
   · simp_all [KW,QfB,QaI,Jr,RT.refsOK,Ql,D.refs,Obj.refs,rEnc]
 · intro env os b q hd_ hb;unfold Qlb at hd_
   split at hd_
   · obtain ⟨hs,hd_⟩ := Qi hd_;cases hd_;simp only [Bool.and_eq_true,decide_eq_true_eq] at hb;obtain ⟨e0,e1⟩ := hb;subst e0;exact ⟨⟨Nat.zero_le _,e1⟩,rfl,rfl⟩
   · cases hd_
open Go.Proofs
theorem Qnf:((List.range 24).all fun k => Zu.getD (21 + k) 0 == 0) = true := by kernel_rfl
theorem Qng:((List.range 161).all fun p => p == 0 || Zu.getD (289 + 3 * p) 0 == -1) = true := by kernel_rfl
theorem Qd1:Zu.length = 771 := by kernel_rfl
theorem Qnh:cellsOK Zu = true := by kernel_rfl
def chS0:ChS := ⟨Zu,List.replicate 4 (QT RTy.task),List.replicate 4 (QT RTy.task),List.replicate 4 false,0,false,0,List.replicate 4 (QT RTy.pick),List.replicate 24 0⟩
def cg0:CG := ⟨fun _ => 0,fun _ => 0,0,0,List.replicate 24 0⟩
theorem JG (c:Nat):(List.replicate 4 false).getD c false = false := by
 rw [List.getD_eq_getElem?_getD,List.getElem?_replicate]
 split <;> rfl
theorem Qra:Q4 cg0 Zu where
 len := Qd1
 fits := Qnh
 n100 := by show 0 <= 100;omega
 mn := Nat.le_refl _
 nm := by show 0 <= 0 + 1;omega
 kr p h1 h2 := by have h2:p <= 0 := h2;omega
 vr p h1 h2 := by have h2:p <= 0 := h2;omega
 hd k hk := by
  have := List.all_eq_true.1 Qnf k (by simp;exact hk)
  rw [beq_iff_eq.1 this];have e:prevK cg0.K k (cg0.m + 1) = 0 := by show prevK _ _ (0 + 1) = 0;simp [prevK]
  rw [e];rfl
 gen p h1 h2 := by have h2:p <= 0 := h2;omega
 val p h1 h2 := by have h2:p <= 0 := h2;omega
 nx p h1 h2 := by have h2:p <= 0 := h2;omega
 nxn h := by have h:0 = 0 + 1 := h;omega
 free p h1 h2 := by
  have h1:0 < p := h1;have := List.all_eq_true.1 Qng p (by simp;omega)
  rw [Bool.or_eq_true] at this;rcases this with h | h
  · have := beq_iff_eq.1 h;omega
  · exact beq_iff_eq.1 h
theorem Qrb (k:Nat):(List.replicate 24 (0:Int)).getD k 0 = 0 := by
 rw [List.getD_eq_getElem?_getD,List.getElem?_replicate]
 split <;> rfl
theorem onI0:OnI ⟨chS0,List.replicate 24 (QT RTy.l_item),[]⟩ 0 QZ QZ where
 d1 := by kernel_rfl
 d2 := by kernel_rfl
 d3 := by kernel_rfl
 pl := List.length_replicate
 on := Nat.le_refl _
 g := by
  refine ⟨cg0,⟨Qra,⟨List.length_replicate,List.length_replicate,List.length_replicate,List.length_replicate,List.length_replicate,Qd1⟩,rfl,fun _ => rfl,fun h => ?_,rfl,fun k hk => ?_,fun c hc hb => ?_,fun c c' hc hc' hn hb => ?_,fun c hc hb => ?_,fun w hw => ?_⟩,fun k hk => ?_⟩
  · have h:1 <= 0 := h;omega
  · have e:cg0.ct k = 0 := Qrb _;rw [e];exact ⟨Int.le_refl _,.inl rfl⟩
  · have hb:(List.replicate 4 false).getD c false = true := hb;rw [JG] at hb;cases hb
  · have hb:(List.replicate 4 false).getD c false = true := hb;rw [JG] at hb;cases hb
  · have hb:(List.replicate 4 false).getD c false = true := hb;rw [JG] at hb;cases hb
  · cases hw
  · show (List.replicate 24 (QT RTy.l_item)).getD k [] = [];rw [List.getD_eq_getElem?_getD,List.getElem?_replicate]
    split <;> rfl
noncomputable def QbH (lc:Bool) (l:List Pick) := evF s18 up_1 300 3 [.sl (C := RC) .pick lc l]
theorem Qld (lc:Bool) (l:List Pick):QbH lc l = (let Z0:Nat := List.length l;let Z1:List Task := List.replicate (4:Nat) (QT RTy.task);bif Qd Z0 then bif decide ((300:Int) < (↑Z0:Int)) then some (D.bool true) else bif decide ((771:Nat) = List.length nC) && decide (Z0 <= (300:Nat)) && cdec (OnI (OnS.mk (ChS.mk nC Z1 Z1 (List.replicate (4:Nat) false) (0:Int) false (0:Int) (List.replicate (4:Nat) (QT RTy.pick)) (List.replicate (24:Nat) (0:Int))) (List.replicate (24:Nat) (QT RTy.l_item)) []) (0:Nat) QZ QZ) then some (D.bool true) else none else none) := by kernel_rfl
theorem Qle (lc:Bool) (l:List Pick) (h:(Qd l.length) = true):QbH lc l = some (.bool true) := by
 (rw [Qld];conv => zeta)
 rw [h];simp only [cond_true]
 by_cases h3:l.length <= 300
 · have d1:decide ((300:Int) < (l.length:Int)) = false := decide_eq_false (by omega)
   have k1:(decide (771 = List.length nC) && decide (l.length <= 300) && cdec (OnI ⟨⟨nC,List.replicate 4 (QT RTy.task),List.replicate 4 (QT RTy.task),List.replicate 4 false,0,false,0,List.replicate 4 (QT RTy.pick),List.replicate 24 0⟩,List.replicate 24 (QT RTy.l_item),[]⟩ 0 QZ QZ)) = true := by
    rw [Qq9,QG (show OnI ⟨⟨Zu,List.replicate 4 (QT RTy.task),List.replicate 4 (QT RTy.task),List.replicate 4 false,0,false,0,List.replicate 4 (QT RTy.pick),List.replicate 24 0⟩,List.replicate 24 (QT RTy.l_item),[]⟩ 0 QZ QZ from onI0),decide_eq_true h3,decide_eq_true Qd1.symm];rfl
   rw [d1];exact (congrArg (fun b => bif b then some (D.bool (C := RC) true) else none) k1)
 · have d1:decide ((300:Int) < (l.length:Int)) = true := decide_eq_true (by omega)
   rw [d1];rfl
open Go.ChangeShapes Go.WideShapes Go.RowKit
section
variable {C:Cdc}
def good (gA:(t:C.Ty) -> C.A t -> Prop):D C -> Prop
 | .int k n => k.min <= n /\ n <= k.max
 | .str s => s.length <= maxLen
 | .acons d ds => good gA d /\ good gA ds
 | .arr t n l => l.length = n /\ ∀ x ∈ l,gA t x
 | .sl t _ l => l.length <= maxLen /\ ∀ x ∈ l,gA t x
 | _ => True
def plainT (T:Tab C):Nat -> TypeId -> Bool
 | 0,_ => false
 | k + 1,t => match T.ty t with
  | .bool | .int _ | .str => true
  | .struct _ fs => fs.all (plainT T k)
  | .arr _ e _ => plainT T k e
  | .sl e _ => plainT T k e
  | _ => false
structure Dec (T:Tab C) (gA:(t:C.Ty) -> C.A t -> Prop):Prop where
 dec:∀ t d,fit T d (.inl (T.ety t)) = true -> d.refs = [] -> good gA d -> (∃ k u,T.ty u = T.ty (T.ety t) /\ plainT T k u = true) -> ∃ x,T.dec t d = some x /\ gA t x
variable {P:Program} {T:Tab C} {gA:(t:C.Ty) -> C.A t -> Prop}
def X0 (W:World):Cx := ⟨W,fun _ => none,fun _ _ => False⟩
theorem Qqg (W:World) (b o:Nat):(X0 W).free b o := ⟨fun h => h,fun ⟨_,_,h,_⟩ => by simp [X0] at h⟩
theorem Qrc {X:Cx} (t:C.Ty) (sz:Nat):∀ (n:Nat) (cs:List Value),cs.length = n * sz -> (∀ i,i < n -> ∃ x:C.A t,R T X false (T.enc t x) ((cs.drop (i * sz)).take sz) /\ gA t x) ->
 ∃ l:List (C.A t),R T X false (.arr t n l) cs /\ l.length = n /\ ∀ x ∈ l,gA t x
 | 0,cs,hl,_ => by
  obtain rfl:cs = [] := by simpa using hl
  exact ⟨[],.arr0 _,rfl,by simp⟩
 | n + 1,cs,hl,h => by
  obtain ⟨x,hx,gx⟩ := h 0 (by omega)
  obtain ⟨l,hr,hn,gl⟩ := Qrc t sz n (cs.drop sz) (by rw [List.length_drop,hl,Nat.succ_mul];omega) fun i hi => by
   obtain ⟨y,hy,gy⟩ := h (i + 1) (by omega)
   refine ⟨y,?_,gy⟩;rw [List.drop_drop];rw [show sz + i * sz = (i + 1) * sz by rw [Nat.succ_mul];omega]
   exact hy
  refine ⟨x :: l,?_,by simp [hn],by simpa using ⟨gx,gl⟩⟩
  have := R.arrS hx hr
  simpa using this
theorem sl_R {W:World} (t:C.Ty) (b sz:Nat):∀ (n off:Nat),(∀ i,i < n -> ∃ (x:C.A t) (ci:List Value),R T (X0 W) false (T.enc t x) ci /\ ci.length = sz /\ (∀ j,j < sz -> W.cell? ⟨b,off + i * sz + j,none⟩ = ci[j]?) /\ gA t x) ->
 ∃ (l:List (C.A t)) (cs:List Value),R T (X0 W) false (.arr t n l) cs /\ l.length = n /\ (X0 W).at b off cs /\ ∀ x ∈ l,gA t x
 | 0,off,_ => ⟨[],[],.arr0 _,rfl,fun j v h => by simp at h,by simp⟩
 | n + 1,off,h => by
  obtain ⟨x,ci,hx,hlen,hc,gx⟩ := h 0 (by omega)
  obtain ⟨l,cs,hr,hn,hat,gl⟩ := sl_R t b sz n (off + sz) fun i hi => by
   obtain ⟨y,c2,hy,h2,h3,gy⟩ := h (i + 1) (by omega)
   refine ⟨y,c2,hy,h2,fun j hj => ?_,gy⟩;have := h3 j hj
   rwa [show off + (i + 1) * sz + j = off + sz + i * sz + j by rw [Nat.succ_mul];omega] at this
  refine ⟨x :: l,ci ++ cs,.arrS hx hr,by simp [hn],fun j v hj => ⟨?_,Qqg _ _ _⟩,by simpa using ⟨gx,gl⟩⟩
  by_cases hlt:j < ci.length
  · rw [List.getElem?_append_left hlt] at hj;have := hc j (by omega)
    simp only [Nat.zero_mul,Nat.add_zero] at this;exact this.trans hj
  · rw [List.getElem?_append_right (by omega)] at hj
    have := (hat _ _ hj).1
    rwa [show off + sz + (j - ci.length) = off + j by omega] at this
theorem st_R {X:Cx}:∀ (fs:List TypeId) (cs:List Value),(∀ i f,fs[i]? = some f -> ∃ d,R T X false d ((cs.drop (QE T (fs.take i))).take (T.size f)) /\ fit T d (.inl f) = true /\ good gA d /\ d.refs = []) ->
 ∃ d,R T X false d (cs.take (QE T fs)) /\ fit T d (.inr fs) = true /\ good gA d /\ d.refs = [] /\ d.isRow = true /\ (∀ t a,T.ty t = .struct a fs -> fit T d (.inl t) = true)
 | [],cs,_ => ⟨.anil,by simpa [QE] using R.anil,rfl,trivial,rfl,rfl,fun t a ht => by simp [fit,ht]⟩
 | f :: fs,cs,h => by
  obtain ⟨d,hd,fd,gd,rd⟩ := h 0 f rfl
  obtain ⟨ds,hr,fr,gr,rr,_,_⟩ := st_R fs (cs.drop (T.size f)) fun i g hg => by
   obtain ⟨e,he,h2⟩ := h (i + 1) g (by simpa using hg)
   refine ⟨e,?_,h2⟩
   simpa [QE,List.drop_drop] using he
  refine ⟨.acons d ds,?_,by simp [fit,fd,fr],⟨gd,gr⟩,by simp [D.refs,rd,rr],rfl,fun t a ht => by simp [fit,ht,fd,fr]⟩
  have := R.acons hd hr
  simpa [QE,List.take_add] using this
theorem QX {t:TypeId} {i:TypeInfo} (h:P.info? t = some i):P.cellsOf t = i.size := by
 simp [Program.cellsOf,h]
theorem Qrd (K:QM P T) (hd:Dec T gA) {H:Type} {enc:TypeId × Value -> H} {W:World}:∀ (k:Nat) (t:TypeId),plainT T k t = true -> ∀ (fuel:Nat) (cs:List Value) (x:DataW H × List MemPlace),DataW.trod enc P W 0 (fun _ => true) true fuel t cs = some x ->
 ∃ d,R T (X0 W) false d cs /\ fit T d (.inl t) = true /\ good gA d /\ d.refs = [] := by
 intro k
 induction k with
 | zero => intro t h;simp [plainT] at h
 | succ k ih =>
  intro t hp fuel cs x h;unfold plainT at hp
  split at hp
  · rename_i ht;obtain ⟨b,rfl,_⟩ := DataW.trod_bool (K.uBool t ht) h;exact ⟨.bool b,.bool b,by simp [fit,ht],trivial,rfl⟩
  · rename_i kd ht;obtain ⟨n,rfl,_,hw⟩ := DataW.trod_int (K.uInt t kd ht) h;have hw':kd.min <= n /\ n <= kd.max := by simpa [Lit.wf] using hw
    exact ⟨.int kd n,.int hw',by simp [fit,ht],hw',rfl⟩
  · rename_i ht;obtain ⟨s,rfl,_,hs⟩ := DataW.trod_string (K.uStr t ht) h;exact ⟨.str s.data.toList,.str s.data.toList,by simp [fit,ht],by simpa [good] using hs,rfl⟩
  · rename_i isA fs ht;cases isA with
    | true =>
     obtain ⟨el,hu,hfs,hpos,inf,hi1,hi2⟩ := K.uRow t fs ht;obtain ⟨xs,m,_,_,hlen,hxs,hel⟩ := DataW.trod_array hu h
     have hget:∀ i f,fs[i]? = some f -> f = el /\ i < fs.length := fun i f hf => by
      have := (List.getElem?_eq_some_iff.1 hf).1;rw [hfs,List.getElem?_replicate] at hf;simp at hf;exact ⟨hf.2.symm,this⟩
     have hsum:∀ i,i <= fs.length -> QE T (fs.take i) = i * T.size el := by
      intro i hi;rw [hfs,List.take_replicate,Nat.min_eq_left hi];clear hi
      induction i with
      | zero => simp [QE]
      | succ i ih => simp only [List.replicate_succ,QE,ih];rw [Nat.succ_mul];omega
     obtain ⟨d,hr,_,gd,rd,_,hfit⟩ := st_R (T := T) (X := X0 W) (gA := gA) fs cs fun i f hf => by
      obtain ⟨rfl,hi⟩ := hget i f hf;have := hel i hi;rw [QX hi1,hi2] at this;have hx:xs[i]? = some xs[i] := by simp [hxs,hi]
      rw [hx] at this;obtain ⟨d,h1,h2,h3,h4⟩ := ih f (List.all_eq_true.1 hp _ (List.mem_of_getElem? hf)) m _ _ this;refine ⟨d,?_,h2,h3,h4⟩;rw [hsum i (by omega)];exact h1
     obtain ⟨inf,hi1,hi2⟩ := K.info t d (hfit t _ ht);rw [QX hi1,hi2,K.base.szStruct t _ fs ht] at hlen;rw [<- hlen,List.take_length] at hr;exact ⟨d,hr,hfit t _ ht,gd,rd⟩
    | false =>
     obtain ⟨fields,hu,hfs,hoff,_⟩ := K.uStruct t fs ht;obtain ⟨xs,n,_,_,hlen,hxs,hel⟩ := DataW.trod_struct hu h
     obtain ⟨d,hr,_,gd,rd,_,hfit⟩ := st_R (T := T) (X := X0 W) (gA := gA) fs cs fun i f hf => by
      rw [<- hfs,List.getElem?_map] at hf;cases hfi:fields.toList[i]? with
      | none => simp [hfi] at hf
      | some fld =>
       simp only [hfi,Option.map_some,Option.some.injEq] at hf;have hfa:fields[i]? = some fld := by rw [<- Array.getElem?_toList];exact hfi
       have := hel i fld hfa
       have hx:∃ y,xs[i]? = some y := by
        have:i < fields.size := (Array.getElem?_eq_some_iff.1 hfa).1;exact ⟨xs[i],by simp [hxs,this]⟩
       obtain ⟨y,hy⟩ := hx;rw [hy] at this;subst hf;have hmem:fld.type ∈ fs := by rw [<- hfs];exact List.mem_map.2 ⟨fld,by exact List.mem_of_getElem? hfi,rfl⟩
       obtain ⟨d,h1,h2,h3,h4⟩ := ih fld.type (List.all_eq_true.1 hp _ hmem) n _ _ this;obtain ⟨inf,hi1,hi2,_⟩ := K.uField t fs fld.type ht hmem;refine ⟨d,?_,h2,h3,h4⟩;rw [hoff i fld hfa,QX hi1,hi2] at h1;exact h1
     obtain ⟨inf,hi1,hi2⟩ := K.info t d (hfit t _ ht);rw [QX hi1,hi2,K.base.szStruct t _ fs ht] at hlen;rw [<- hlen,List.take_length] at hr;exact ⟨d,hr,hfit t _ ht,gd,rd⟩
  · rename_i n e ct ht;obtain ⟨hu,_⟩ := K.uArr t n e ct ht;obtain ⟨xs,m,_,_,hlen,hxs,hel⟩ := DataW.trod_array hu h;obtain ⟨inf,z,hi1,hi2,_⟩ := K.uElem t e ct (.inl ⟨n,ht⟩);obtain ⟨it,hj1,hj2⟩ := K.info t (.arr ct n []) (by simp [fit,ht])
    obtain ⟨hs1,hs2,hs3⟩ := K.base.szArr t n e ct ht;rw [QX hj1,hj2,hs1] at hlen
    obtain ⟨l,hr,hn,gl⟩ := Qrc (T := T) (X := X0 W) (gA := gA) ct (T.size e) n cs hlen fun i hi => by
     have := hel i hi;rw [QX hi1,hi2] at this;have hx:xs[i]? = some xs[i] := by simp [hxs,hi]
     rw [hx] at this;obtain ⟨d,h1,h2,h3,h4⟩ := ih e hp m _ _ this;obtain ⟨x,h5,h6⟩ := hd.dec ct d (by rw [<- Zt hs2];exact h2) h4 h3 ⟨k,e,hs2,hp⟩
     exact ⟨x,K.base.decR _ _ _ _ _ h5 h1,h6⟩
    exact ⟨.arr ct n l,hr,by simp [fit,ht],⟨hn,gl⟩,rfl⟩
  · rename_i e ct ht;have hu := K.uSl t e ct ht;obtain ⟨inf,z,hi1,hi2,_,_,hpos,_⟩ := K.uElem t e ct (.inr ht);obtain ⟨hs1,hs2,hs3⟩ := K.base.szSl t e ct ht;rcases DataW.trod_slice hu h with ⟨rfl,_⟩ | ⟨a,len,cap,elems,rest,m,_,rfl,_,_,hlc,hcm,hel,he,hrest,_⟩
    · exact ⟨.sl ct false [],.sl0 _ _ _,by simp [fit,ht],by simp [good],rfl⟩
    · by_cases hc0:cap = 0
      · subst hc0;obtain rfl:len = 0 := by omega
        exact ⟨.sl ct false [],.sl0 _ _ _,by simp [fit,ht],by simp [good],rfl⟩
      · have hspot:a.spot = none := by
         have key:∀ i y,i = 0 -> (W.cells? 0 (a.add (i * P.cellsOf e)) (P.cellsOf e)).bind (DataW.trod enc P W 0 (fun _ => true) true m e) = some y -> a.spot = none := by
          intro i y hi0 hy;subst hi0;rw [QX hi1,hi2] at hy;cases hcs:W.cells? 0 (a.add (0 * T.size e)) (T.size e) with
          | none => rw [hcs] at hy;cases hy
          | some ci =>
           obtain ⟨_,h2,h3⟩ := World.cells?_some hcs;have h4 := h3 0 hpos;have h5:ci[0]? = some ci[0] := by simp
           rw [h5] at h4;have := World.cell?_spot h4
           simpa [Addr.add] using this
         by_cases hl0:0 < len
         · have := he 0 hl0;have hx:elems[0]? = some elems[0] := by simp
           exact key 0 _ rfl (this.trans hx)
         · have hr2 := hrest rfl;have := hr2.2 0 (by omega)
           have h0:0 < rest.length := by omega
           have hx:rest[0]? = some rest[0] := by simp
           exact key _ _ (by omega) (this.trans hx)
        obtain ⟨b,off,sp⟩ := a;simp only at hspot;subst hspot
        obtain ⟨l,cs,hr,hn,hat,gl⟩ := sl_R (T := T) (W := W) (gA := gA) ct b (T.size e) len off fun i hi => by
         have := he i hi;have hx:elems[i]? = some elems[i] := by simp [hel,hi]
         rw [hx,QX hi1,hi2] at this;cases hcs:W.cells? 0 ((⟨b,off,none⟩:Addr).add (i * T.size e)) (T.size e) with
         | none => simp [hcs] at this
         | some ci =>
          simp only [hcs,Option.bind_some] at this;obtain ⟨_,h2,h3⟩ := World.cells?_some hcs;obtain ⟨d,k1,k2,k3,k4⟩ := ih e hp m _ _ this;obtain ⟨x,k5,k6⟩ := hd.dec ct d (by rw [<- Zt hs2];exact k2) k4 k3 ⟨k,e,hs2,hp⟩
          refine ⟨x,ci,K.base.decR _ _ _ _ _ k5 k1,h2,fun j hj => ?_,k6⟩;have := h3 j hj
          rwa [add_plain,add_plain] at this
        subst hn;exact ⟨.sl ct false l,.sl hat hr hlc (by simp),by simp [fit,ht],⟨by omega,gl⟩,rfl⟩
  · cases hp
theorem Qg9 (K:QM P T) {W:World} {r:Reach} {base:Nat} {t:TypeId} {v:Value} {d:D C} (hv:Value.okWide P W r base t v) (hp:∃ k,plainT T k t = true) (hf:fit T d (.inl t) = true) (hr:R T (X0 W) false d v.cells.toList) (hrf:d.refs = []):RV T (X0 W) d v := by
 obtain ⟨k,hp⟩ := hp;cases k with
 | zero => simp [plainT] at hp
 | succ k =>
  unfold plainT at hp
  split at hp
  · rename_i ht;obtain ⟨b,rfl⟩ := okWide_bool (K.uBool t ht) hv;refine .inr ⟨?_,by simpa [Value.cells] using hr⟩
    cases d <;> simp [fit,ht] at hf <;> rfl
  · rename_i kd ht;obtain ⟨b,rfl⟩ := okWide_int (K.uInt t kd ht) hv;refine .inr ⟨?_,by simpa [Value.cells] using hr⟩
    cases d <;> simp [fit,ht] at hf <;> rfl
  · rename_i ht;obtain ⟨b,rfl⟩ := okWide_string (K.uStr t ht) hv;refine .inr ⟨?_,by simpa [Value.cells] using hr⟩
    cases d <;> simp [fit,ht] at hf <;> rfl
  · rename_i isA fs ht
    have:∃ cs,v = .agg cs := by
     cases isA with
     | false =>
      obtain ⟨fields,hu,_⟩ := K.uStruct t fs ht;obtain ⟨cs,rfl,_⟩ := okWide_struct hu hv;exact ⟨cs,rfl⟩
     | true =>
      obtain ⟨el,hu,_⟩ := K.uRow t fs ht;simp only [Value.okWide,hu] at hv;obtain ⟨cs,rfl,_⟩ := hv;exact ⟨cs,rfl⟩
    obtain ⟨cs,rfl⟩ := this;refine .inl ⟨?_,cs.toList,by simpa [Value.cells] using hr,rfl⟩
    cases d <;> simp [fit,ht] at hf <;> rfl
  · rename_i n e ct ht;obtain ⟨hu,_⟩ := K.uArr t n e ct ht
    have:∃ cs,v = .agg cs := by
     simp only [Value.okWide,hu] at hv;obtain ⟨cs,rfl,_⟩ := hv;exact ⟨cs,rfl⟩
    obtain ⟨cs,rfl⟩ := this;refine .inl ⟨?_,cs.toList,by simpa [Value.cells] using hr,rfl⟩
    cases d <;> simp [fit,ht] at hf <;> rfl
  · rename_i e ct ht;obtain ⟨a,len,cap,rfl⟩ := okWide_slice (K.uSl t e ct ht) hv;refine .inr ⟨?_,by simpa [Value.cells] using hr⟩
    cases d <;> simp [fit,ht] at hf <;> rfl
  · cases hp
inductive Fits (T:Tab C) (gA:(t:C.Ty) -> C.A t -> Prop):List TypeId -> List (D C) -> Prop
 | nil:Fits T gA [] []
 | cons {t:TypeId} {ts:List TypeId} {d:D C} {ds:List (D C)} (hf:fit T d (.inl t) = true) (hg:good gA d) (hr:d.refs = []) (h:Fits T gA ts ds):Fits T gA (t :: ts) (d :: ds)
theorem Fits.refs {ts:List TypeId} {ds:List (D C)} (h:Fits T gA ts ds):∀ a ∈ ds,D.refs a = [] := by
 induction h with
 | nil => simp
 | cons _ _ hr _ ih => simpa using ⟨hr,ih⟩
theorem Qc2 (K:QM P T) (hd:Dec T gA) {H:Type} {enc:TypeId × Value -> H} {W:World} {r:Reach} {base:Nat}:∀ (ts:List TypeId) (vs:List Value) (ds:List (DataW H)) (ps:List MemPlace),(∀ t ∈ ts,∃ k,plainT T k t = true) ->
 (∀ (j:Nat) t v,ts[j]? = some t -> vs[j]? = some v -> Value.okWide P W r base t v) -> DataW.TrodAll enc P W 0 (fun _ => true) true ts vs ds ps -> ∃ al,Fits T gA ts al /\ RVs T (X0 W) al vs
 | [],vs,ds,ps,_,_,h => by
  obtain ⟨rfl,rfl,rfl⟩ := trodAll_nil h;exact ⟨[],.nil,.nil⟩
 | t :: ts,vs,ds,ps,hp,hv,h => by
  obtain ⟨v,vs1,d,ds1,p,q,rfl,rfl,rfl,⟨fuel,h1⟩,h2⟩ := trodAll_cons h;obtain ⟨al,f1,r1⟩ := Qc2 K hd ts vs1 ds1 q (fun t ht => hp t (by simp [ht])) (fun j t v a b => hv (j + 1) t v (by simpa using a) (by simpa using b)) h2
  obtain ⟨k,hk⟩ := hp t (by simp)
  obtain ⟨a,k1,k2,k3,k4⟩ := Qrd K hd k t hk fuel _ _ h1;exact ⟨a :: al,.cons k2 k3 k4 f1,.cons (Qg9 K (hv 0 t v rfl rfl) ⟨k,hk⟩ k2 k1 k4) r1⟩
theorem Qre (hl:laidOutB P = true) {H:Type} {enc:TypeId × Value -> H} {W W':World} {sp:Nat -> Bool}:∀ (ts:List TypeId) (vs:List Value) (ds:List (DataW H)) (ps:List MemPlace),(∀ t ∈ ts,P.readableRec t = true /\ t < P.types.size) ->
 DataW.TrodAll enc P W 0 (fun _ => true) true ts vs ds ps -> (∀ p ∈ ps,W.sameAt W' p) -> (∀ p ∈ ps,sp p.block = true) -> DataW.TrodAll enc P W' 0 sp true ts vs ds ps
 | [],vs,ds,ps,_,h,_,_ => by
  obtain ⟨rfl,rfl,rfl⟩ := trodAll_nil h;exact trodAll_mk0
 | t :: ts,vs,ds,ps,ht,h,h3,h4 => by
  obtain ⟨v,vs1,d,ds1,p,q,rfl,rfl,rfl,h1,h2⟩ := trodAll_cons h
  exact trodAll_cons_mk (WideElems.Trod_stays hl (ht t (by simp)).1 (ht t (by simp)).2 h1 (fun x hx => h3 x (by simp [hx])) (fun x hx => h4 x (by simp [hx])))
   (Qre hl ts vs1 ds1 q (fun t h => ht t (by simp [h])) h2 (fun x hx => h3 x (by simp [hx])) (fun x hx => h4 x (by simp [hx])))
theorem QbI {H:Type} {enc:TypeId × Value -> H} {f:Func} {s:ChangeSpec} {apart fresh handsOn again:Bool} {W W':World} {args:Array Value} {v:Value} {ds gs:List (DataW H)} {before pa pv:List MemPlace}
 (hW:DataW.Whole enc P f.params.toList s.vars apart W args.toList ds gs before)
 (hres:∀ (b:Nat) (sp:Nat -> Bool) (hd:Bool),DataW.TrodAll enc P W' b sp hd f.resultTypes.toList (v.resultList f.resultTypes.size) (s.fn H (ds ++ gs)).results [])
 (hargs:∀ sp:Nat -> Bool,(∀ p ∈ before,sp p.block = true) -> DataW.TrodAll enc P W' 0 sp true f.params.toList args.toList (s.fn H (ds ++ gs)).args pa)
 (hvars:∀ sp:Nat -> Bool,(∀ p ∈ before,sp p.block = true) -> DataW.TrodVars enc P W' sp s.vars (s.fn H (ds ++ gs)).vars pv)
 (hps:before = pa ++ pv) (hk:W.keptBut W' (· ∈ before)) (hfz:∀ a:Addr,a.block < W.heap.size -> W'.frozen? a = W.frozen? a)
 (hok:∀ (j:Nat) (t:TypeId) (r:Value),f.resultTypes[j]? = some t -> (v.resultList f.resultTypes.size)[j]? = some r -> Value.okWide P W' .any 0 t r) :
 s.post enc P f apart fresh handsOn again W args v W' := by
 have hold:∀ p ∈ before,(fun b => decide (b < W.heap.size)) p.block = true := fun p hp => by simpa using hW.lt p hp
 refine ⟨ds,gs,before,[],pa,pv,hW,hres _ _ _,hargs _ hold,hvars _ hold,World.keptBut_mono (fun p hp => ⟨hp,?_⟩) hk,fun _ => ?_⟩
 · rw [hps,List.mem_append] at hp;exact Or.inr hp
 · have hlt := hW.lt;obtain ⟨_,_,_,_,_,hz,hn⟩ := hW;refine ⟨hok,_,_,([] ++ pa) ++ pv,⟨[] ++ pa,pv,trodAll_append (hargs _ (fun _ _ => rfl)) (hres _ _ _),hvars _ (fun _ _ => rfl),rfl,?_,?_⟩,?_⟩
   · intro b off hp;have hb:MemPlace.cell b off ∈ before := by rw [hps];simpa using hp
     rw [hfz _ (by simpa [MemPlace.block] using hlt _ hb)]
     exact hz b off hb
   · intro ha;have := hn ha;rw [hps] at this
     simpa using this
   · intro p hp _;rw [hps]
     simpa using hp
theorem Qc3 (K:QM P T) {Φ:Fns C} (F:Qg P T Φ) (hd:Dec T gA) (hl:laidOutB P = true) {f:FuncId} {fn:Func} {s:ChangeSpec} {tb:TypeId} {m:Nat}
 (hres:fn.resultTypes = #[tb]) (hb:P.underlying tb = some .bool) (hvars:s.vars = [])
 (hts:fn.params.toList.all (fun t => plainT T m t && P.readableRec t && Nat.blt t P.types.size) = true)
 (hspec:∀ (H:Type) (ds:List (DataW H)),ds.length = fn.params.toList.length -> s.fn H ds = { results := [.lit (.bool true)],args := ds })
 (hev:∀ ds:List (D C),Fits T gA fn.params.toList ds -> ∃ n,evF T Φ n f ds = some (.bool true))
 (H:Type) (enc:TypeId × Value -> H) (W:World) (base:Nat) (args:Array Value) (ds gs:List (DataW H)) (before:List MemPlace)
 (hval:∀ (j:Nat) t v,fn.params[j]? = some t -> args[j]? = some v -> Value.okWide P W .any base t v)
 (hW:DataW.Whole enc P fn.params.toList s.vars false W args.toList ds gs before) (hpre:∀ p ∈ T.pre,∃ t f,W.heap[p.1]? = some (.cells p.2 t f)) :
 Calls P f args W fun e W' => ∃ v,e = .returned v /\ s.post enc P fn false true false false W args v W' := by
 have hts':∀ t ∈ fn.params.toList,plainT T m t = true /\ P.readableRec t = true /\ t < P.types.size := by
  intro t ht;have := List.all_eq_true.1 hts t ht;simp only [Bool.and_eq_true] at this;exact ⟨this.1.1,this.1.2,by simpa [Nat.blt_eq] using this.2⟩
 have hW' := hW;obtain ⟨p,q,hA,hV,rfl,hfz,hnd⟩ := hW;rw [hvars] at hV;obtain ⟨rfl,rfl⟩ := trodVars_none hV;obtain ⟨al,hf,hr⟩ := Qc2 (gA := gA) K hd (r := .any) (base := base) _ _ _ _ (fun t ht => ⟨m,(hts' t ht).1⟩) (fun j t v a b => hval j t v (by rw [<- Array.getElem?_toList];exact a) (by rw [<- Array.getElem?_toList];exact b)) hA
 obtain ⟨n,hn⟩ := hev al hf;have hc := (Qb5 K F hn hf.refs W (fun _ _ => False) (fun _ _ h => h.elim) hpre (vs := args.toList) hr).2;have ea:(⟨args.toList⟩:Array Value) = args := by simp
 rw [ea] at hc;refine hc.mono fun e W' hp => ?_;obtain ⟨v,ρ,rfl,rv,a1,a2,a3,a4,a5,a6⟩ := hp;obtain rfl := rv.bool
 have hlen:ds.length = fn.params.toList.length := by
  have:∀ (ts:List TypeId) (vs:List Value) (ds:List (DataW H)) (ps:List MemPlace),DataW.TrodAll enc P W 0 (fun _ => true) true ts vs ds ps -> ds.length = ts.length := by
   intro ts
   induction ts with
   | nil => intro vs ds ps h;obtain ⟨rfl,rfl,rfl⟩ := trodAll_nil h;rfl
   | cons t ts ih =>
    intro vs ds ps h;obtain ⟨v,vs1,d,ds1,p,q,rfl,rfl,rfl,h1,h2⟩ := trodAll_cons h;simp [ih _ _ _ h2]
  exact this _ _ _ _ hA
 have hs := hspec H ds hlen;have hbel:Below W.heap.size W W' := ⟨a3,a4,a5,a1,a2⟩;have hlt:∀ x ∈ p,x.block < W.heap.size := fun x hx => by simpa using hW'.lt x (by simpa using hx)
 refine ⟨_,rfl,QbI (pa := p) (pv := []) hW' ?_ ?_ ?_ (by simp) (hbel.frame _) a6 ?_⟩
 · intro b sp hd;simp only [List.append_nil];rw [hs,hres];exact trodAll_cons_mk (p := []) (p' := []) (shut_bool hb _) trodAll_mk0
 · intro sp hsp;simp only [List.append_nil] at hsp ⊢;rw [hs];exact Qre hl _ _ _ _ (fun t ht => (hts' t ht).2) hA (fun x hx => hbel.same (hlt x hx)) hsp
 · intro sp hsp;simp only [List.append_nil];rw [hs,hvars];rfl
 · exact ok_one hres rfl (okWide_bool_mk hb _)
theorem Qd2 (K:QM P T) {Φ:Fns C} (F:Qg P T Φ) (hd:Dec T gA) (hl:laidOutB P = true) {f:FuncId} {fn:Func} {s:ChangeSpec} {tb:TypeId} {m:Nat}
 (hres:fn.resultTypes = #[tb]) (hb:P.underlying tb = some .bool) (hvars:s.vars = [])
 (hts:fn.params.toList.all (fun t => plainT T m t && P.readableRec t && Nat.blt t P.types.size) = true)
 (hspec:∀ (H:Type) (ds:List (DataW H)),ds.length = fn.params.toList.length -> s.fn H ds = { results := [.lit (.bool true)],args := ds })
 (hev:∀ ds:List (D C),Fits T gA fn.params.toList ds -> ∃ n,evF T Φ n f ds = some (.bool true))
 (H:Type) (enc:TypeId × Value -> H) (W:World) (base:Nat) (args:Array Value) (ds gs:List (DataW H)) (before:List MemPlace)
 (hval:∀ (j:Nat) t v,fn.params[j]? = some t -> args[j]? = some v -> Value.okWide P W .any base t v)
 (hW:DataW.Whole enc P fn.params.toList s.vars false W args.toList ds gs before) (h0:T.pre = [] := by rfl) :
 Calls P f args W fun e W' => ∃ v,e = .returned v /\ s.post enc P fn false true false false W args v W' :=
 Qc3 K F hd hl hres hb hvars hts hspec hev H enc W base args ds gs before hval hW (by rw [h0];intro p hp;cases hp)
end
def i64 (n:Int):Prop := -9223372036854775808 <= n /\ n <= 9223372036854775807
def inK (k:IntKind) (n:Int):Prop := k.min <= n /\ n <= k.max
theorem YJ {n:Int} (h:IntKind.i64.min <= n /\ n <= IntKind.i64.max):i64 n := by
 simpa [i64,IntKind.min,IntKind.max,IntKind.signed,IntKind.bits] using h
section
variable {C:Cdc} {T:Tab C} {d:D C} {u:TypeId}
theorem Zy {k:IntKind} (hu:T.ty u = .int k) (hf:fit T d (.inl u) = true):∃ n,d = .int k n := by
 cases d <;> simp [fit,hu] at hf
 subst hf;exact ⟨_,rfl⟩
theorem QfC (hu:T.ty u = .bool) (hf:fit T d (.inl u) = true):∃ n,d = .bool n := by
 cases d <;> simp [fit,hu] at hf
 exact ⟨_,rfl⟩
theorem Qqh (hu:T.ty u = .str) (hf:fit T d (.inl u) = true):∃ n,d = .str n := by
 cases d <;> simp [fit,hu] at hf
 exact ⟨_,rfl⟩
theorem QfD {e:TypeId} {t:C.Ty} (hu:T.ty u = .sl e t) (hf:fit T d (.inl u) = true) (hr:d.refs = []):∃ c l,d = .sl t c l := by
 cases d <;> simp [fit,hu] at hf
 · subst hf;exact ⟨_,_,rfl⟩
 · simp [D.refs] at hr
 · simp [D.refs] at hr
theorem Qqi {e:TypeId} {t:C.Ty} {n:Nat} (hu:T.ty u = .arr n e t) (hf:fit T d (.inl u) = true):∃ l,d = .arr t n l := by
 cases d <;> simp [fit,hu] at hf
 obtain ⟨h1,h2⟩ := hf;subst h1;subst h2;exact ⟨_,rfl⟩
theorem Qc4 {a:Bool} {f:TypeId} {fs:List TypeId} (hu:T.ty u = .struct a (f :: fs)) (hf:fit T d (.inl u) = true):∃ x y,d = .acons x y /\ fit T x (.inl f) = true /\ fit T y (.inr fs) = true := by
 cases d <;> simp [fit,hu] at hf
 exact ⟨_,_,rfl,hf.1,hf.2⟩
theorem Za {f:TypeId} {fs:List TypeId} (hf:fit T d (.inr (f :: fs)) = true):∃ a b,d = .acons a b /\ fit T a (.inl f) = true /\ fit T b (.inr fs) = true := by
 cases d <;> simp [fit] at hf
 exact ⟨_,_,rfl,hf.1,hf.2⟩
theorem KX (hf:fit T d (.inr []) = true):d = .anil := by
 cases d <;> simp [fit] at hf
 rfl
end
end Go.Ev
