/-
  A part of the proof of a statement of this seat: the model is run over values by content, proved sound; what the functions come to. No condition beyond the given statements. (text 3)
-/
import Derived.Test.YtndenhihcjijaaaGreatP1
import Derived.Test.YtndenhihcjijaaaGreatProg
import Derived.KernelRfl
namespace Go.Ev
set_option linter.unusedVariables false
set_option linter.unusedSimpArgs false
section
variable {C:Cdc} {P:Program} {T:Tab C} {Φ:Fns C}
open Pg (Ex)
def Qap:Ev.X->Exit
 | .normal=>.normal
 | .exit id=>.exit id
 | .ret=>.ret
theorem ZJ {P:Program} {b:Frame} {a:Act} {k:List Item} {cs:List Frame} {w:World} {c:Code}:step P (lone (b.atR a (.code (.scope c)::k)) cs w)=.next (lone (b.atR a (.code c::.inScope c::k)) cs w) :=
 step_lone_go (by simp [stepG,stepG.exec,Frame.atR])
theorem Qbp {P:Program} {b:Frame} {a:Act} {k:List Item} {cs:List Frame} {w:World} {c:Code}:step P (lone (b.atR a (.inScope c::k)) cs w)=.next (lone (b.atR a k) cs w) :=
 step_lone_go (by simp [stepG,stepG.exec,Frame.atR])
def Qpj (Q:Exit->Act->Go.World->Prop):Exit->Act->Go.World->Prop
 | .goto _,_,_=>False
 | e,a,w=>Q e a w
theorem QgE {F:Fence} {n:Nat} {P:Program} {Q:Exit->Act->Go.World->Prop} {a:Act} {w:Go.World} {c:Code} (h:c.wpIn F n P (Qpj Q) a w):(Code.scope c).wpIn F n P Q a w:=by
 intro b k cs hro hb hr;have h0:(lone (b.atR a (.code (.scope c)::k)) cs w).fenced P F:=fenced_calm hb hr rfl;obtain ⟨e,a₁,w₁,hq,harr⟩:=h b (.inScope c::k) cs hro hb hr;cases e with
 | normal=>exact ⟨.normal,a₁,w₁,hq,.head h0 ZJ (StepsIn.trans harr (.one (fenced_calm hb hr rfl) Qbp))⟩
 | exit id =>
  have hx:exitTo id (.inScope c::k)=exitTo id k:=by simp [exitTo]
  exact ⟨.exit id,a₁,w₁,hq,fun k' hk=>.head h0 ZJ (harr.1 k' (by rw [hx];exact hk)),
   fun hr' hk=>let ⟨k₁,h1,h2⟩:=harr.2 hr' (by rw [hx];exact hk);⟨k₁,h1,.head h0 ZJ h2⟩⟩
 | goto l=>exact hq.elim
 | ret=>exact ⟨_,a₁,w₁,hq,.of_steps (.one h0 ZJ) harr⟩
 | panic ch=>exact ⟨_,a₁,w₁,hq,.of_steps (.one h0 ZJ) harr⟩
 | outgrown=>exact ⟨_,a₁,w₁,hq,.of_steps (.one h0 ZJ) harr⟩
def QN:Code->List Code
 | .seq a b=>QN a++QN b
 | .cond _ a b=>QN a++QN b
 | .block _ a=>QN a
 | .loop a=>a::QN a
 | .scope a=>QN a
 | _=>[]
theorem Qin {nt:Nat} {ops:Array Oper} (h:opsB nt ops=true):∀ o ∈ ops.toList,∀ t,o.dst=some t->t < nt:=by
 intro o ho t ht;simp only [opsB,List.all_eq_true] at h;have:=h o ho;rw [ht] at this
 simpa [Nat.blt_eq] using this
theorem QgF {ops:Array Oper} (h:Qo7 ops=true):Qim ops:=by
 simp only [Qo7,List.all_eq_true,Bool.and_eq_true] at h
 have mem:∀ i o,ops[i]? = some o->(o,i) ∈ ops.toList.zipIdx:=by
  intro i o hi;rw [List.mem_zipIdx_iff_getElem?];rw [Array.getElem?_toList];exact hi
 refine ⟨fun i o hi e he hb=>?_,fun i j oi oj hij hi hj=>?_⟩
 · have:=(h (o,i) (mem i o hi)).1 e (by simpa using he)
   simpa [hb,Nat.blt_eq] using this
 · have:=(h (oi,i) (mem i oi hi)).2 (oj,j) (mem j oj hj);simp only [Bool.or_eq_true,Bool.not_eq_true'] at this;rcases this with (h1 | h1) | h1
   · have h2:Nat.blt i j=true:=by rw [Nat.blt_eq];exact hij
     rw [h2] at h1;cases h1
   · exact .inl h1
   · exact .inr h1
def QaD (B:Nat->Bool) (c:Code):Prop := ∀ t ∈ asgL c,B t=false
def Qio (T:Tab C) (B:Nat->Bool) (X:Cx) (nx:Nat) (lim:Lim) (h':Heap C) (nx':Nat) (env':Env C) (a:Act) (Q:Act->World->Prop):Prop :=
 ∀ a' X',G T X' h' nx' lim->Step X nx lim X'->Qi T X' nx' lim env' a'.tmps->a'.tmps.size=a.tmps.size->ZU X X' a'.defers a.defers->Kp B a.tmps a'.tmps->Q a' X'.w
def KO (P:Program) (T:Tab C) (g:FuncId) (args:List (D C)) (d:D C):Prop :=
 ∀ (w:World) (O:Nat->Nat->Prop) (vs:List Value),(∀ b o,O b o->b < w.heap.size)->(∀ p ∈ T.pre,∃ t f,w.heap[p.1]? = some (.cells p.2 t f))->RVs T ⟨w,fun _=>none,O⟩ args vs ->
  (callFunc g ⟨vs⟩).run P w=.ok (.enter g ⟨vs⟩) w /\ Calls P g ⟨vs⟩ w fun en w' =>
   ∃ v ρ,en=.returned v /\ RV T ⟨w',ρ,O⟩ d v /\ (d.refs=[] /\ d.noYl=true) /\ w.heap.size <= w'.heap.size /\ (∀ b,b < w.heap.size->w'.heap[b]? = w.heap[b]?) /\ w'.os=w.os /\ w'.tape=w.tape /\ w'.output=w.output /\ (∀ a:Addr,a.block < w.heap.size->w'.frozen? a=w.frozen? a)
theorem KO.call (K:QU P T) {g:FuncId} {args:List (D C)} {d:D C} (hb:KO P T g args d) (hargs:∀ a ∈ args,D.refs a=[]) {X:Cx} {hp:Heap C} {nx:Nat} {lim:Lim} {vs:List Value} (g0:G T X hp nx lim) (hvs:RVs T X args vs) :
 (callFunc g ⟨vs⟩).run P X.w=.ok (.enter g ⟨vs⟩) X.w /\ Calls P g ⟨vs⟩ X.w (Q7 T X nx lim hp nx d):=by
 have hkeep:Kps X ⟨X.w,fun _=>none,fun b o=>X.O b o \/ X.mine b o⟩ :=
  ⟨fun b o v hc hf=>⟨hc,fun h=>h.elim hf.1 hf.2,fun ⟨_,_,hq,_⟩=>by simp at hq⟩,fun l r hl _=>⟨hl,fun o ⟨_,_,hq,_⟩=>by simp at hq⟩⟩
 have hvs0:RVs T ⟨X.w,fun _=>none,fun b o=>X.O b o \/ X.mine b o⟩ args vs:=by
  clear hb
  induction hvs with
  | nil=>exact .nil
  | @cons d ds v vs hv _ ih =>
   refine .cons (hv.mono T K.base.encOK (X':=⟨X.w,fun _=>none,fun b o=>X.O b o \/ X.mine b o⟩) hkeep fun id hi=>?_) (ih fun a ha=>hargs a (by simp [ha]))
   rw [hargs d (by simp)] at hi;simp at hi
 obtain ⟨q1,q2⟩:=hb X.w (fun b o=>X.O b o \/ X.mine b o) vs (fun b o ho=>ho.elim (g0.outs b o) fun hm=>(g0.outer b o hm).2) (fun p hp=>(g0.pre p hp).1) hvs0;refine ⟨q1,q2.mono fun en w' hpp=>?_⟩;obtain ⟨v,ρ,rfl,r,hd,a1,a2,a3,a4,a5,a6⟩:=hpp;obtain ⟨g',s'⟩:=g0.grow K.base w' a1 a2 a3 a4 a5 a6;refine ⟨v,⟨w',X.ρ,X.O⟩,rfl,rfl,g',s',?_,by rw [hd.1];simp⟩
 exact RV.monoE T K.base (X:=⟨w',ρ,fun b o=>X.O b o \/ X.mine b o⟩) (X':=⟨w',X.ρ,X.O⟩) (fun b o u hc hf=>⟨hc,fun ho=>hf.1 (Or.inl ho),fun hm=>hf.1 (Or.inr hm)⟩) r hd
theorem R.plain {X X':Cx} {m:Bool} {d:D C} {vs:List Value} (h:R T X m d vs):d.plain=true->R T X' m d vs:=by
 induction h with
 | bool b=>exact fun _=>.bool b
 | int h=>exact fun _=>.int h
 | str s=>exact fun _=>.str s
 | anil=>exact fun _=>.anil
 | acons _ _ i1 i2=>intro hp;simp only [D.plain,Bool.and_eq_true] at hp;exact .acons (i1 hp.1) (i2 hp.2)
 | nils=>exact fun _=>.nils
 | nilp=>exact fun _=>.nilp
 | nilfn=>exact fun _=>.nilfn
 | nilm=>exact fun _=>.nilm
 | tup _ ih=>intro hp;exact .tup (ih hp)
 | vnil=>exact fun _=>.vnil
 | vrow _ hr _ i1 i2=>intro hp;simp only [D.plain,Bool.and_eq_true] at hp;exact .vrow (i1 hp.1) hr (i2 hp.2)
 | vone _ hr _ i1 i2=>intro hp;simp only [D.plain,Bool.and_eq_true] at hp;exact .vone (i1 hp.1) hr (i2 hp.2)
 | _=>intro hp;simp [D.plain] at hp
theorem RV.plain {X X':Cx} {d:D C} {v:Value} (h:RV T X d v) (hp:d.plain=true):RV T X' d v:=by
 rcases h with ⟨h1,cs,h2,h3⟩ | ⟨h1,h2⟩
 · exact .inl ⟨h1,cs,h2.plain hp,h3⟩
 · exact .inr ⟨h1,h2.plain hp⟩
def Cx.bare (X:Cx):Cx:=⟨X.w,fun _=>none,X.O⟩
theorem Cx.bare_keep (X:Cx):∀ b o v,X.w.cell? ⟨b,o,none⟩=some v->X.free b o->X.bare.w.cell? ⟨b,o,none⟩=some v /\ X.bare.free b o :=
 fun b o v hc hf=>⟨hc,hf.1,fun ⟨_,_,hq,_⟩=>by simp [Cx.bare] at hq⟩
theorem Qip (K:QU P T) {X:Cx} {h h':Heap C} {nx nx':Nat} {e:Pg.Lv} {lim:Lim} {tr:Tr} {id n:Nat} {d':D C} {v:Value} (g:G T X h nx lim) (hr:R T X false (.vs id n) [v])
 (hx:Ex e (Jn (.vs id n)) h nx d' h' nx' tr):h'=h /\ nx'=nx /\ R T X.bare false d' [v] /\ d'.isRow=false:=by
 simp only [Jn] at hx;obtain ⟨o,t',ho,hx,_⟩:=Ex.rd hx;cases o with
 | var t d=>exact (Ex.fail hx).elim
 | map _ _ _=>exact (Ex.fail hx).elim
 | vec ty own l =>
  rcases Ex.br hx with ⟨hb,hx⟩ | ⟨hb,hx⟩
  · obtain ⟨rfl,rfl,rfl,rfl⟩:=Ex.ret hx;have hn:n=l.length:=Nat.eq_of_beq_eq_true hb;obtain ⟨v0,b,lo,hi,h1,h2⟩:=g.vec id ty own l ho;have hlen:=h2.len;refine ⟨rfl,rfl,?_,rfl⟩;cases hr with
    | @vs _ _ cp a hh =>
     have hv:=(hh _ _ _ _ _ h1).2 (by rw [hlen,hn])
     rcases h2 with ⟨⟨a0,h2,_⟩,rfl,_⟩ | ⟨off,cp',h2,h3,h4,h5⟩
     · rw [h2] at hv;simp only [Value.slice.injEq] at hv;obtain ⟨_,e1,e2⟩:=hv;rw [<- e1,<- e2];exact .sl0 ty false a
     · rw [h2] at hv;simp only [Value.slice.injEq] at hv;obtain ⟨rfl,rfl,rfl⟩:=hv;have hR:∀ cs,R T X false (.arr ty l.length l) cs->R T X.bare false (.arr ty l.length l) cs:=fun cs hr=>hr.monoE T K.base X.bare_keep ⟨rfl,rfl⟩;rcases h5 with ⟨_,hlo,h5⟩ | ⟨_,hlo,⟨cs,h5,h6⟩,_⟩
       · rcases h5 with h5 | ⟨c,ce,h5,h6,h7⟩
         · have hl0:l=[]:=List.length_eq_zero_iff.1 (by omega)
           subst hl0;exact .sl (cs:=[]) (fun j u hj=>by simp at hj) (.arr0 _) h3 (fun h=>by cases h)
         · refine .sl (cs:=(c.toList.drop off).take (l.length * T.size (T.ety ty))) (fun j u hj=>?_) (hR _ h7) h3 (fun h=>by cases h)
           have hlt:j < l.length * T.size (T.ety ty):=by
            have:=(List.getElem?_eq_some_iff.1 hj).1;rw [List.length_take] at this;omega
           have hmul:l.length * T.size (T.ety ty) <= cp' * T.size (T.ety ty):=Nat.mul_le_mul_right _ h3;refine ⟨?_,(g.outer b (off+j) ⟨id,_,h1,rfl,by omega,by omega⟩).1,fun ⟨_,_,hq,_⟩=>by simp [Cx.bare] at hq⟩
           rw [List.getElem?_take_of_lt hlt,List.getElem?_drop] at hj;show X.w.cell? _=_;simp only [World.cell?,h5];rw [<- hj];simp
       · exact .sl (cs:=cs) (fun j u hj=>X.bare_keep _ _ _ (h5 j u hj).1 (h5 j u hj).2) (hR _ h6) h3 (fun h=>by cases h)
  · exact (Ex.fail hx).elim
theorem Qiq (K:QU P T):∀ (d:D C) {m:Bool} {vs:List Value} {X:Cx} {h h':Heap C} {nx nx':Nat} {e:Pg.Lv} {lim:Lim} {tr:Tr} {d':D C},G T X h nx lim->R T X m d vs->Ex e (Jn d) h nx d' h' nx' tr ->
 h'=h /\ nx'=nx /\ d'.isRow=d.isRow /\ (d'.refs=[]->d'.noYl=true->R T X.bare m d' vs):=by
 intro d
 have same:∀ (d0:D C),Jn d0=.ret d0 -> ∀ {m:Bool} {vs:List Value} {X:Cx} {h h':Heap C} {nx nx':Nat} {e:Pg.Lv} {lim:Lim} {tr:Tr} {d':D C},G T X h nx lim->R T X m d0 vs->Ex e (Jn d0) h nx d' h' nx' tr ->
  h'=h /\ nx'=nx /\ d'.isRow=d0.isRow /\ (d'.refs=[]->d'.noYl=true->R T X.bare m d' vs):=by
  intro d0 hd m vs X h h' nx nx' e lim tr d' g hr hx;rw [hd] at hx;obtain ⟨rfl,rfl,rfl,rfl⟩:=Ex.ret hx;exact ⟨rfl,rfl,rfl,fun h1 h2=>hr.monoE T K.base X.bare_keep ⟨h1,h2⟩⟩
 induction d with
 | acons d ds i1 i2 =>
  intro m vs X h h' nx nx' e lim tr d' g hr hx;simp only [Jn] at hx;obtain ⟨d1,h1,n1,t1,t2,q1,hx,_⟩:=Ex.bind hx;obtain ⟨d2,h2,n2,t3,t4,q2,hx,_⟩:=Ex.bind hx;obtain ⟨rfl,rfl,rfl,rfl⟩:=Ex.ret hx;have hsplit:∀ (a b:D C),(D.acons a b).refs=[]->a.refs=[] /\ b.refs=[]:=fun a b h=>by simpa [D.refs] using h
  cases hr with
  | acons r1 r2 =>
   obtain ⟨rfl,rfl,_,k1⟩:=i1 g r1 q1;obtain ⟨rfl,rfl,_,k2⟩:=i2 g r2 q2;refine ⟨rfl,rfl,rfl,fun h1 h2=>?_⟩;simp only [D.noYl,Bool.and_eq_true] at h2;exact .acons (k1 (hsplit _ _ h1).1 h2.1) (k2 (hsplit _ _ h1).2 h2.2)
  | vrow r1 hrow r2 =>
   obtain ⟨rfl,rfl,e1,k1⟩:=i1 g r1 q1;obtain ⟨rfl,rfl,_,k2⟩:=i2 g r2 q2;refine ⟨rfl,rfl,rfl,fun h1 h2=>?_⟩;simp only [D.noYl,Bool.and_eq_true] at h2;exact .vrow (k1 (hsplit _ _ h1).1 h2.1) (by rw [e1];exact hrow) (k2 (hsplit _ _ h1).2 h2.2)
  | vone r1 hrow r2 =>
   obtain ⟨rfl,rfl,e1,k1⟩:=i1 g r1 q1;obtain ⟨rfl,rfl,_,k2⟩:=i2 g r2 q2;refine ⟨rfl,rfl,rfl,fun h1 h2=>?_⟩;simp only [D.noYl,Bool.and_eq_true] at h2;exact .vone (k1 (hsplit _ _ h1).1 h2.1) (by rw [e1];exact hrow) (k2 (hsplit _ _ h1).2 h2.2)
 | tup d ih =>
  intro m vs X h h' nx nx' e lim tr d' g hr hx;simp only [Jn] at hx;obtain ⟨d1,h1,n1,t1,t2,q1,hx,_⟩:=Ex.bind hx;obtain ⟨rfl,rfl,rfl,rfl⟩:=Ex.ret hx;cases hr with
  | tup r1 =>
   obtain ⟨rfl,rfl,_,k1⟩:=ih g r1 q1;exact ⟨rfl,rfl,rfl,fun h1 h2=>.tup (k1 h1 h2)⟩
 | vs id n =>
  intro m vs X h h' nx nx' e lim tr d' g hr hx;have hm:m=false:=by cases hr;rfl
  subst hm;have hv:∃ v,vs=[v]:=by cases hr;exact ⟨_,rfl⟩
  obtain ⟨v,rfl⟩:=hv;obtain ⟨rfl,rfl,k1,k2⟩:=Qip K g hr hx;exact ⟨rfl,rfl,by rw [k2];rfl,fun _ _=>k1⟩
 | asl ta id p lo n =>
  intro m vs X h h' nx nx' e lim tr d' g hr hx;have hm:m=false:=by cases hr;rfl
  subst hm;simp only [Jn] at hx;obtain ⟨o,t',ho,hx,_⟩:=Ex.rd hx;cases o with
  | var t d=>exact (Ex.fail hx).elim
  | map _ _ _=>exact (Ex.fail hx).elim
  | vec ty own l =>
   rcases Ex.br hx with ⟨hb,hx⟩ | ⟨hb,hx⟩
   · obtain ⟨rfl,rfl,rfl,rfl⟩:=Ex.ret hx;simp only [Bool.and_eq_true,Nat.beq_eq] at hb;obtain ⟨hn,hlo⟩:=hb;have hlo:=Nat.le_of_ble_eq_true hlo;obtain ⟨v0,b,lo',hi',h1,h2⟩:=g.vec id ty own l ho;have hlen:=h2.len;refine ⟨rfl,rfl,rfl,fun _ _=>?_⟩;cases hr with
     | @asl _ _ _ _ cp _ ao hq hs hw =>
      obtain ⟨k1,k2⟩:=hw _ _ _ _ _ h1;obtain ⟨a0,cp0,k3,k4,k5,k6⟩:=k2 (by rw [hlen,hn])
      subst k3 k4 k5 k6
      have hrv:R T X false (.vs id (p.getD 0 0)) [.slice a0 (p.getD 0 0) cp0]:=.vs fun v e b' lo2 hi2 h5=>by
       rw [h1] at h5;cases h5;exact ⟨by simp [lenV],fun _=>rfl⟩
      have hex:Ex (0,0) (Jn (.vs id (p.getD 0 0))) h' nx' (.sl ty false l) h' nx' ([]++[(id,false)]):=by
       simp only [Jn];refine Ex.rd_mk ho ?_;simp only [hn];exact Ex.mk_br (.inl ⟨by simp,Ex.mk_ret _⟩)
      exact (Qip K g hrv hex).2.2.1.dropSl K.base lo (by omega)
   · exact (Ex.fail hx).elim
 | _=>exact same _ rfl
theorem QeY (K:QU P T):∀ (args:List (D C)) {vs:List Value} {X:Cx} {h h':Heap C} {nx nx':Nat} {e:Pg.Lv} {lim:Lim} {tr:Tr} {args':List (D C)},G T X h nx lim->RVs T X args vs->Ex e (Ql5 args) h nx args' h' nx' tr ->
 h'=h /\ nx'=nx /\ ((∀ a ∈ args',D.refs a=[])->(∀ a ∈ args',D.noYl a=true)->RVs T X.bare args' vs)
 | [],vs,X,h,h',nx,nx',e,lim,tr,args',g,hr,hx=>by
  obtain ⟨rfl,rfl,rfl,rfl⟩:=Ex.ret hx;cases hr;exact ⟨rfl,rfl,fun _ _=>.nil⟩
 | d::ds,vs,X,h,h',nx,nx',e,lim,tr,args',g,hr,hx=>by
  simp only [Ql5] at hx;obtain ⟨d1,h1,n1,t1,t2,q1,hx,_⟩:=Ex.bind hx;obtain ⟨d2,h2,n2,t3,t4,q2,hx,_⟩:=Ex.bind hx;obtain ⟨rfl,rfl,rfl,rfl⟩:=Ex.ret hx;cases hr with
  | @cons _ _ v vs' rv rs =>
   have key:h1=h /\ n1=nx /\ (d1.refs=[]->d1.noYl=true->RV T X.bare d1 v):=by
    rcases rv with ⟨i1,cs,r1,rfl⟩ | ⟨i1,r1⟩
    · obtain ⟨a,b,c,k⟩:=Qiq K d g r1 q1;exact ⟨a,b,fun u1 u2=>.inl ⟨by rw [c];exact i1,cs,k u1 u2,rfl⟩⟩
    · obtain ⟨a,b,c,k⟩:=Qiq K d g r1 q1;exact ⟨a,b,fun u1 u2=>.inr ⟨by rw [c];exact i1,k u1 u2⟩⟩
   obtain ⟨rfl,rfl,k1⟩:=key;obtain ⟨rfl,rfl,k2⟩:=QeY K ds g rs q2;exact ⟨rfl,rfl,fun h1 h2=>.cons (k1 (h1 _ (by simp)) (h2 _ (by simp))) (k2 (fun a ha=>h1 a (by simp [ha])) (fun a ha=>h2 a (by simp [ha])))⟩
structure Qh (P:Program) (T:Tab C) (Φ:Fns C):Prop where
 fn : ∀ f fn,Φ.fn f=some fn->P.funcs[f]? = some fn /\ (fn.name == "runtime.NumGoroutine")=false /\ ∀ body,fn.body=some body->ZH fn.ntmps body=true
 spec:∀ g s args d,Φ.spec g=some s->s args=some (true,d)->(∀ a ∈ args,D.refs a=[]) /\ KO P T g args d
 ospec:∀ g s,Φ.ospec g=some s -> ∀ args vs X h nx lim e d h' nx' tr,G T X h nx lim->RVs T X args vs->(∀ a ∈ args,∀ id ∈ D.refs a,old nx lim id)->nx' <= lim.top->Ex e (s args) h nx d h' nx' tr ->
  (callFunc g ⟨vs⟩).run P X.w=.ok (.enter g ⟨vs⟩) X.w /\ Calls P g ⟨vs⟩ X.w (Q7 T X nx lim h' nx' d)
 loop:∀ f fn body b s,Φ.fn f=some fn->fn.body=some body->b ∈ QN body->Φ.loop f (Qm b)=some s -> ∀ B,QaD B b -> ∀ X h nx lim e env x env' h' nx' tr a Q,G T X h nx lim->Qi T X nx lim env a.tmps->nx' <= lim.top->fn.ntmps <= a.tmps.size ->
  Ex e (s env) h nx (x,env') h' nx' tr->Qio T B X nx lim h' nx' env' a (Q (Qap x))->(Code.loop b).wp P Q a X.w
theorem eget_app:∀ (env env':Env C) (t:Nat),eget (env++env') t=eget env t \/ eget (env++env') t=eget env' t
 | [],env',t=>.inr rfl
 | (j,d)::r,env',t=>by
  rw [List.cons_append,Ql,Ql]
  split
  · exact .inl rfl
  · exact eget_app r env' t
theorem Qbq {l:List Nat} {t:Nat} (h:l.any (Nat.beq t)=true):∀ env:Env C,eget (keepE l env) t=.top
 | []=>rfl
 | (j,d)::r=>by
  rw [keepE];cases hj:l.any (Nat.beq j) with
  | true=>exact Qbq h r
  | false =>
   simp only [cond_false];rw [Ql];have:t ≠ j:=fun e=>by rw [e,hj] at h;cases h
   simp only [this,if_false];exact Qbq h r
theorem KP {l:List Nat} {t:Nat} (h:l.any (Nat.beq t)=false):∀ env:Env C,eget (keepE l env) t=eget env t
 | []=>rfl
 | (j,d)::r=>by
  rw [keepE,Ql];cases hj:l.any (Nat.beq j) with
  | true =>
   have:t ≠ j:=fun e=>by rw [e,hj] at h;cases h
   simp only [this,if_false,cond_true];exact KP h r
  | false =>
   simp only [cond_false];rw [Ql,KP h r]
theorem Qi.cons_same {X:Cx} {nx:Nat} {lim:Lim} {env:Env C} {tmps:Array Value} {t:Nat} {d:D C} (he:Qi T X nx lim env tmps) (hd:eget env t=d):Qi T X nx lim ((t,d)::env) tmps:=by
 intro u;rw [Ql]
 by_cases hu:u=t
 · subst hu;simp only [if_true];rw [<- hd];exact he u
 · simp only [hu,if_false];exact he u
theorem Qpk {b:Bool}:∀ (x y d:D C),mrgD b x y=some d->d=bif b then x else y:=by
 intro x
 induction x with
 | acons x xs i1 i2 =>
  intro y d h;cases y with
  | acons y ys =>
   simp only [mrgD] at h;cases h1:mrgD b x y with
   | none=>simp [h1] at h
   | some d1 =>
    cases h2:mrgD b xs ys with
    | none=>simp [h1,h2] at h
    | some d2 =>
     simp only [h1,h2,Option.some.injEq] at h;rw [<- h,i1 _ _ h1,i2 _ _ h2];cases b <;> rfl
  | _=>simp [mrgD] at h
 | sl t c l =>
  intro y d h;cases y with
  | sl t' c' l' =>
   simp only [mrgD] at h
   split at h
   · rename_i e;subst e;simp only [Option.some.injEq] at h;rw [<- h];cases b <;> rfl
   · cases h
  | _=>simp [mrgD] at h
 | arr t n l =>
  intro y d h;cases y with
  | arr t' n' l' =>
   simp only [mrgD] at h
   split at h
   · rename_i e;subst e
     split at h
     · rename_i e;subst e;simp only [Option.some.injEq] at h;rw [<- h];cases b <;> rfl
     · cases h
   · cases h
  | _=>simp [mrgD] at h
 | tup ds i =>
  intro y d h;cases y with
  | tup es=>cases ds <;> cases es <;> simp [mrgD] at h;rw [<- h];cases b <;> rfl
  | _=>cases ds <;> simp [mrgD] at h
 | int k n =>
  intro y d h;cases y with
  | int k' n' =>
   simp only [mrgD] at h
   split at h
   · rename_i e;subst e;simp only [Option.some.injEq] at h;rw [<- h];cases b <;> rfl
   · cases h
  | _=>simp [mrgD] at h
 | _=>intro y d h;cases y <;> simp [mrgD] at h <;> rw [<- h] <;> cases b <;> rfl
theorem Qpl {X:Cx} {nx:Nat} {lim:Lim} {b:Bool} {x y d:D C} {v:Value} (h:mrgT b x y=some d) (hx:RO T X nx lim (bif b then x else y) v):RO T X nx lim d v:=by
 have key:d=.top \/ mrgD b x y=some d:=by
  unfold mrgT at h
  split at h
  · left;simpa using h.symm
  · left;simpa using h.symm
  · right;exact h
 rcases key with rfl | key
 · exact RO.mk (RV.top _ _ _) rfl
 · rw [Qpk _ _ _ key];exact hx
theorem mrgE_get {b:Bool} {x y env:Env C} {t:Nat}:∀ {l:List Nat} {r:Env C},mrgE b x y l=some r->(l.any (Nat.beq t)=true /\ mrgT b (eget x t) (eget y t)=some (eget (r++env) t)) \/ (l.any (Nat.beq t)=false /\ eget (r++env) t=eget env t)
 | [],r,h=>by simp [mrgE] at h;subst h;exact .inr ⟨rfl,rfl⟩
 | u::l,r,h=>by
  simp only [mrgE] at h;cases h1:mrgT b (eget x u) (eget y u) with
  | none=>simp [h1] at h
  | some d =>
   cases h2:mrgE b x y l with
   | none=>simp [h1,h2] at h
   | some r' =>
    simp only [h1,h2,Option.some.injEq] at h;subst h;rw [List.cons_append,Ql]
    by_cases hu:t=u
    · subst hu;left;simp [h1]
    · have hb:Nat.beq t u=false:=by cases hq:Nat.beq t u with
       | false=>rfl
       | true=>exact (hu (Nat.eq_of_beq_eq_true hq)).elim
      simp only [hu,if_false,List.any_cons,hb,Bool.false_or];exact mrgE_get h2
theorem mrgC_cases (m:Option (List Nat)) (env:Env C) (b:Bool) (p q:Pg C (Ev.X × Env C)) :
 mrgC m env b p q=.br b p q \/ ∃ l x y r,p=.ret (.normal,x) /\ q=.ret (.normal,y) /\ mrgE b x y l=some r /\ m=some l /\ mrgC m env b p q=.ret (.normal,r++env):=by
 unfold mrgC;cases m with
 | none=>exact .inl rfl
 | some l =>
  simp only
  split
  · rename_i x y
    split
    · rename_i r hr;exact .inr ⟨l,x,y,r,rfl,rfl,hr,rfl,rfl⟩
    · exact .inl rfl
  · exact .inl rfl
theorem okL {ro:Option Nat} {Φ:Fns C} {f nt:Nat} {c c1:Code} (h:Y2 c=true \/ ro=none /\ ∃ fn body,Φ.fn f=some fn /\ nt=fn.ntmps /\ fn.body=some body /\ ∀ b ∈ QN c,b ∈ QN body) (h1:Y2 c=true->Y2 c1=true) (h2:∀ b ∈ QN c1,b ∈ QN c) :
 Y2 c1=true \/ ro=none /\ ∃ fn body,Φ.fn f=some fn /\ nt=fn.ntmps /\ fn.body=some body /\ ∀ b ∈ QN c1,b ∈ QN body:=by
 rcases h with h | ⟨h,fn,body,h3,h4,h5,h6⟩
 · exact .inl (h1 h)
 · exact .inr ⟨h,fn,body,h3,h4,h5,fun b hb=>h6 b (h2 b hb)⟩
def QeZ (P:Program) (T:Tab C) (Φ:Fns C) (n:Nat):Prop := ∀ ro m f nt code,(Y2 code=true \/ ro=none /\ ∃ fn body,Φ.fn f=some fn /\ nt=fn.ntmps /\ fn.body=some body /\ ∀ b ∈ QN code,b ∈ QN body)->ZH nt code=true -> ∀ B,QaD B code ->
 ∀ X h nx lim e env x env' h' nx' tr a Q,G T X h nx lim->Qi T X nx lim env a.tmps->nx' <= lim.top->nt <= a.tmps.size->Ex e (evC T Φ n f code env) h nx (x,env') h' nx' tr->Qio T B X nx lim h' nx' env' a (Q (Qap x))->code.wpIn (roF ro) m P Q a X.w
def Qe0 (P:Program) (T:Tab C) (Φ:Fns C) (n:Nat):Prop := ∀ f fn body b,Φ.fn f=some fn->fn.body=some body->ZH fn.ntmps (.loop b)=true->(∀ b' ∈ QN (.loop b),b' ∈ QN body)->Φ.loop f (Qm b)=none -> ∀ B,QaD B b ->
 ∀ X h nx lim e env x env' h' nx' tr a Q,G T X h nx lim->Qi T X nx lim env a.tmps->nx' <= lim.top->fn.ntmps <= a.tmps.size->Ex e (evC T Φ n f (.loop b) env) h nx (x,env') h' nx' tr->Qio T B X nx lim h' nx' env' a (Q (Qap x))->Code.rounds P b Q n a X.w
variable (K:QU P T) (F:Qh P T Φ)
def Qru (P:Program) (T:Tab C) (call:FuncId->List (D C)->Pg C (D C)):Prop :=
 ∀ f args vs X h nx lim e d h' nx' tr,G T X h nx lim->RVs T X args vs->(∀ a ∈ args,∀ id ∈ D.refs a,old nx lim id)->nx' <= lim.top->Ex e (call f args) h nx d h' nx' tr ->
  (callFunc f ⟨vs⟩).run P X.w=.ok (.enter f ⟨vs⟩) X.w /\ Calls P f ⟨vs⟩ X.w (Q7 T X nx lim h' nx' d)
theorem KQ:∀ (l:List (D C)) (n t:Nat),eget (eargs n l) t=if n <= t then l.getD (t - n) .top else .top:=by
 intro l
 induction l with
 | nil=>intro n t;simp [eargs,eget]
 | cons d l ih =>
  intro n t;rw [eargs,Ql,ih]
  by_cases h1:t=n
  · subst h1;simp
  · by_cases h2:n <= t
    · have h3:n+1 <= t:=by omega
      have h4:t - n=(t - (n+1))+1:=by omega
      simp [h1,h2,h3,h4]
    · have h3:¬ n+1 <= t:=by omega
      simp [h1,h2,h3]
theorem RVs.get {X:Cx} {ds:List (D C)} {vs:List Value} (h:RVs T X ds vs):∀ t,RV T X (ds.getD t .top) (vs.getD t undef):=by
 induction h with
 | nil=>intro t;simp;exact RV.top _ _ _
 | cons h _ ih=>intro t;cases t with
  | zero=>simpa using h
  | succ t=>simpa using ih t
theorem RVs.mono' {X X':Cx} {nx:Nat} {lim:Lim} (L:Laws T) (s:Step X nx lim X') {ds:List (D C)} {vs:List Value} (h:RVs T X ds vs):(∀ d ∈ ds,∀ id ∈ D.refs d,old nx lim id)->RVs T X' ds vs:=by
 induction h with
 | nil=>intro _;exact .nil
 | cons h _ ih =>
  intro ho;exact .cons (RO.step L s (nx':=nx) ⟨h,ho _ (by simp)⟩ (Nat.le_refl _)).1 (ih fun d hd=>ho d (by simp [hd]))
def oneD:List (D C)->D C
 | []=>.tup .anil
 | [d]=>d
 | d::e::l=>.tup (D.ofList (d::e::l))
theorem Qpm (f:FuncId) (n0:Nat) (env:Env C) (rs:List ResultVar):outD T Φ f n0 env rs =
 .bind (V8 T env rs) fun l=>bif Φ.keeps f then .ret (oneD l) else .bind (frz (oneD l)) fun d=>.gc n0 d.refs (.ret d):=by
 unfold outD
 congr 1
 funext l
 match l with
 | []=>rfl
 | [_]=>rfl
 | _::_::_=>rfl
theorem Qpn {X:Cx} {nx:Nat} {lim:Lim}:∀ {l:List (D C)} {us:List Value},RVs T X l us->(∀ d ∈ l,∀ id ∈ D.refs d,old nx lim id)->RO T X nx lim (oneD l) (if h:us.toArray.size=1 then us.toArray[0] else .tuple us.toArray)
 | [],[],_,_=>RO.mk (.mk rfl (.tup .vnil)) rfl
 | [d1],[u1],.cons r2 _,r3=>⟨r2,r3 d1 (by simp)⟩
 | d1::d2::l,u1::u2::us,r2,r3=>by
  refine ⟨.mk rfl ?_,fun id hid=>?_⟩
  · have hne:¬ (u1::u2::us).toArray.size=1:=by simp
    simp only [hne,dif_neg,not_false_eq_true];exact .tup r2.row
  · obtain ⟨q,hq,hi⟩:=Jd _ id (by simpa [D.refs,oneD] using hid);exact r3 q hq id hi
include K F
theorem Jt {n:Nat} (hc:QeZ P T Φ n):Qru P T (J7 T Φ (evC T Φ n)):=by
 intro g args vs X h nx lim e d h' nx' tr gg hargs hrefs hlim hx;unfold J7 at hx;cases hf:Φ.fn g with
 | none=>simp only [hf] at hx;exact (Ex.fail hx).elim
 | some fn =>
  simp only [hf] at hx;cases hb:fn.body with
  | none=>simp only [hb] at hx;exact (Ex.fail hx).elim
  | some body =>
   simp only [hb] at hx;have hx:=Ex.cnt hx;obtain ⟨⟨x,env1⟩,h1,n1,t1,t2,q1,q2,_⟩:=Ex.bind hx;obtain ⟨f1,f2,f3⟩:=F.fn g fn hf;have hle1:=Ex.le q1;refine ⟨?_,?_⟩
   · simp only [callFunc,Sem.run_bind];show ((match P.funcs[g]? with | none=>_ | some fn=>_:Sem Next)).run P X.w=_
     rw [f1];simp [f2,hb]
   · refine (callsIn_wide (n:=0)).1 (callsIn_of_wp_marks f1 hb trivial (hc none 0 g fn.ntmps body (.inr ⟨rfl,fn,body,hf,rfl,hb,fun b hb=>hb⟩) (f3 body hb) (fun _=>false) (fun _ _=>rfl) X h nx lim e (eargs 0 args) x env1 h1 n1 t1 _ _ gg ?_ ?_ ?_ q1 ?_))
     · intro t;rw [KQ];simp only [Nat.zero_le,if_true,Nat.sub_zero];refine ⟨?_,?_⟩
       · have:=hargs.get t
         by_cases ht:t < vs.length
         · have e1:((⟨vs⟩:Array Value)++Array.replicate (fn.ntmps - (⟨vs⟩:Array Value).size) undef).getD t undef=vs.getD t undef:=by
            simp [Array.getD_eq_getD_getElem?,Array.getElem?_append,ht]
           rw [e1];exact this
         · have:args.getD t .top=.top:=by
            have:=hargs.length;simp [List.getD_eq_getElem?_getD];rw [List.getElem?_eq_none (by omega)];rfl
           rw [this];exact RV.top _ _ _
       · by_cases ht:t < args.length
         · have:args.getD t .top ∈ args:=by
            simp [List.getD_eq_getElem?_getD,ht]
           exact hrefs _ this
         · have:args.getD t .top=.top:=by
            simp [List.getD_eq_getElem?_getD];rw [List.getElem?_eq_none (by omega)];rfl
           rw [this];simp [D.refs]
     · have:=Ex.le q2;omega
     · simp;omega
     · intro a' XX gg0 ss0 ee0 _ hdef _;obtain ⟨rs,hrs,hnd,hmk⟩:=hdef;rw [List.append_nil] at hrs;have hall:∀ X0,G T X0 h1 n1 lim->Step X nx lim X0->Qi T X0 n1 lim env1 a'.tmps->Ex e (.bind (Qce T env1 (Φ.rest g)) fun _=>outD T Φ g nx env1 fn.results.toList) h1 n1 d h' nx' t2 -> ∃ v,(results fn a'.tmps).run P X0.w=.ok v X0.w /\ Q7 T X nx lim h' nx' d (.returned v) X0.w:=?hall
       case hall =>
        intro X0 g0 s0 e0;intro q2;obtain ⟨d9,h9,n9,t9,t8,q9,q2,_⟩:=Ex.bind q2;obtain ⟨X1,w1,g1,s9,hn9⟩:=Kl K _ g0 q9;have hn9:=hn9.symm;subst hn9;have s1:=s0.trans s9 hle1;have e1:=e0.step K.base s9 (Nat.le_refl _);rw [<- w1];clear q9 g0 s0 e0;generalize h9=h1 at g1 q2;generalize t8=t2 at q2
        have hout:Ex e (outD T Φ g nx env1 fn.results.toList) h1 n1 d h' nx' t2 -> ∃ v,(results fn a'.tmps).run P X1.w=.ok v X1.w /\ Q7 T X nx lim h' nx' d (.returned v) X1.w:=by
         intro q2;rw [Qpm] at q2;obtain ⟨l,h2,n2,t3,t4,q3,q4,_⟩:=Ex.bind q2;obtain ⟨e2,e3,us,r1,r2,r3⟩:=QgD K g1 e1 fn.results.toList q3;have e2:=e2.symm;have e3:=e3.symm;subst e2;subst e3
         have hrun:(results fn a'.tmps).run P X1.w=.ok (if h:us.toArray.size=1 then us.toArray[0] else .tuple us.toArray) X1.w:=by
          have hm:fn.results.mapM (resM a'.tmps)=List.toArray <$> fn.results.toList.mapM (resM a'.tmps):=by rw [Array.mapM_eq_mapM_toList]
          have e0:results fn a'.tmps=(do let vs <- fn.results.mapM (resM a'.tmps);pure (if h:vs.size=1 then vs[0] else .tuple vs)):=by
           unfold results
           congr 1
          rw [e0,hm];simp only [map_eq_pure_bind,bind_assoc,Sem.run_bind,r1,Result.andThen_ok,Sem.run_pure,pure_bind]
         have hdl:RO T X1 n1 lim (oneD l) (if h:us.toArray.size=1 then us.toArray[0] else .tuple us.toArray):=Qpn r2 r3
         generalize hvv:(if h:us.toArray.size=1 then us.toArray[0] else Value.tuple us.toArray)=vv at hrun hdl
         cases hk:Φ.keeps g with
         | true =>
          simp only [hk,cond_true] at q4;obtain ⟨c1,c2,c3,_⟩:=Ex.ret q4;rw [c1,c2,c3];exact ⟨_,hrun,_,X1,rfl,rfl,g1,s1,hdl⟩
         | false =>
          simp only [hk,cond_false] at q4;obtain ⟨d2,h3,n3,t5,t6,q5,q6,_⟩:=Ex.bind q4;obtain ⟨_,q7⟩:=Ex.gc q6;obtain ⟨c1,c2,c3,_⟩:=Ex.ret q7;rw [c1,c2,c3]
          have hfz:∃ X2,X2.w=X1.w /\ G T X2 h3 n1 lim /\ Step X1 n1 lim X2 /\ RV T X2 d2 vv /\ n3=n1 /\ ∀ id ∈ d2.refs,old n1 lim id:=by
           rcases hdl.1 with ⟨hrow,cs,hr,hv⟩ | ⟨hrow,hr⟩
           · obtain ⟨X2,a1,a2,a3,a4,a5,a6,a7⟩:=QaC K _ g1 hr hdl.2 q5;exact ⟨X2,a1,a2,a3,.inl ⟨a7.trans hrow,cs,a4,hv⟩,a5,a6⟩
           · obtain ⟨X2,a1,a2,a3,a4,a5,a6,a7⟩:=QaC K _ g1 hr hdl.2 q5;exact ⟨X2,a1,a2,a3,.inr ⟨a7.trans hrow,a4⟩,a5,a6⟩
          obtain ⟨X2,a1,a2,a3,a4,a5,a6⟩:=hfz;rw [a5];obtain ⟨X3,b1,b2,b3,_⟩:=a2.drop K.base (h':=Heap.drop nx n1 d2.refs h3) (fun i=>by rw [Ya];split <;> simp)
          exact ⟨_,hrun,_,X3,rfl,by rw [b1,a1],b2,(s1.trans a3 hle1).trans b3 hle1,RO.step K.base b3 ⟨a4,a6⟩ (Nat.le_refl _)⟩
        exact hout q2
       have fin:Ex e (.bind (Qce T env1 (Φ.rest g)) fun _=>outD T Φ g nx env1 fn.results.toList) h1 n1 d h' nx' t2->LeavesInM Fence.wide 0 P fn a'.tmps (Q7 T X nx lim h' nx' d) a'.defers .returning XX.w:=fun q2=>by
        rw [hrs];exact Qct K rs XX hnd hmk gg0 ss0 ee0 fun X' g' s' e'=>hall X' g' s' e' q2
       cases x with
       | normal=>exact fin q2
       | ret=>exact fin q2
       | exit id=>exact (Ex.fail q2).elim
omit K F in
theorem Q7.since {X X':Cx} {nx nx':Nat} {lim:Lim} {h':Heap C} {d:D C} {en:Ending} {w':World} (s:Step X nx lim X') (h:Q7 T X' nx lim h' nx' d en w'):Q7 T X nx lim h' nx' d en w':=by
 obtain ⟨v,Y,h1,h2,h3,h4,h5⟩:=h;exact ⟨v,Y,h1,h2,h3,s.trans h4 (Nat.le_refl _),h5⟩
omit K F in
theorem Kc (E:Env C):∀ (ps:List Nat) (xs:List (D C)) (t:Nat),t ∉ ps->eget (zipE ps xs++E) t=eget E t
 | [],_,_,_=>rfl
 | _::_,[],_,_=>rfl
 | p::ps,x::xs,t,h=>by
  simp only [List.mem_cons,not_or] at h;rw [zipE,List.cons_append,Ql,if_neg h.1];exact Kc E ps xs t h.2
omit K F in
theorem Qe1 (E:Env C) (t0:Nat) (x0:D C) (t:Nat) (h:t ≠ t0):∀ A:Env C,eget (A++(t0,x0)::E) t=eget (A++E) t
 | []=>by rw [List.nil_append,List.nil_append,Ql,if_neg h]
 | (j,d)::A=>by rw [List.cons_append,List.cons_append,Ql,Ql,Qe1 E t0 x0 t h A]
omit K F in
theorem Qpo {nt t:Nat} {ps:List Nat} (h:ps.any (Nat.beq t)=false):t ∉ ps:=fun hm=>by
 have:ps.any (Nat.beq t)=true:=List.any_eq_true.2 ⟨t,hm,by simp⟩
 rw [this] at h;cases h
omit K F in
theorem Qpp {X:Cx} {nx:Nat} {lim:Lim} {nt:Nat}:∀ (ps:List Nat) (xs:List (D C)) (vs:List Value) (E:Env C) (tm:Array Value),okPs nt ps=true->nt <= tm.size->ps.length=xs.length->RVs T X xs vs->(∀ a ∈ xs,∀ id ∈ D.refs a,old nx lim id) ->
 (∀ t,RO T X nx lim (eget E t) (tm.getD t undef)) -> ∀ t,RO T X nx lim (eget (zipE ps xs++E) t) (((ps.zip vs).foldl (fun (tmps:Array Value) (p:Nat × Value)=>tmps.setIfInBounds p.1 p.2) tm).getD t undef):=by
 intro ps
 induction ps with
 | nil=>intro xs vs E tm _ _ _ _ _ hE t;simpa [zipE] using hE t
 | cons p ps ih =>
  intro xs vs E tm hok hsz hlen hr hx hE t;cases hr with
  | nil=>simp at hlen
  | @cons x xs v vs hv hr =>
   simp only [okPs,Bool.and_eq_true,Nat.blt_eq,Bool.not_eq_true'] at hok;obtain ⟨h1,h2,h3⟩:=hok;have hp:=Qpo (nt:=nt) h2
   have:=ih xs vs ((p,x)::E) (tm.setIfInBounds p v) h3 (by simpa using hsz) (by simpa using hlen) hr (fun a ha=>hx a (by simp [ha])) (fun u=>by
    rw [Ql]
    by_cases hu:u=p
    · subst hu;simp only [if_true]
      have e:(tm.setIfInBounds u v).getD u undef=v:=by
       have:u < tm.size:=by omega
       simp [Array.getD_eq_getD_getElem?,this]
      rw [e];exact ⟨hv,hx x (by simp)⟩
    · simp only [hu,if_false]
      have e:(tm.setIfInBounds p v).getD u undef=tm.getD u undef:=by
       simp [Array.getD_eq_getD_getElem?,Array.getElem?_setIfInBounds_ne (Ne.symm hu)]
      rw [e];exact hE u) t
   rw [List.zip_cons_cons,List.foldl_cons,zipE,List.cons_append,Ql]
   by_cases ht:t=p
   · subst ht;rw [Kc _ _ _ _ hp,Ql,if_pos rfl] at this;rw [if_pos rfl];exact this
   · rw [if_neg ht];rw [Qe1 E p x t ht] at this;exact this
omit K F in
theorem Qcu {X:Cx} {nx:Nat} {lim:Lim} {tm:Array Value}:∀ (slots:List Nat) (ds:List (D C)),RVs T X ds (slots.map fun t=>tm.getD t undef)->(∀ a ∈ ds,∀ id ∈ D.refs a,old nx lim id) -> ∀ t,RO T X nx lim (eget (zipE slots ds) t) (tm.getD t undef)
 | [],ds,h,_,t=>RO.mk (RV.top _ _ _) rfl
 | s::slots,[],h,_,t=>RO.mk (RV.top _ _ _) rfl
 | s::slots,d::ds,h,hr,t=>by
  cases h with
  | cons hv h =>
   rw [zipE,Ql]
   by_cases e:t=s
   · subst e;rw [if_pos rfl];exact ⟨hv,hr d (by simp)⟩
   · rw [if_neg e];exact Qcu slots ds h (fun a ha=>hr a (by simp [ha])) t
omit K F in
theorem Qe2:∀ {env:Env C},(env.all fun p=>p.2.noYl)=true -> ∀ t,(eget env t).noYl=true
 | [],_,_=>rfl
 | (j,d)::r,h,t=>by
  simp only [List.all_cons,Bool.and_eq_true] at h;rw [Ql]
  split
  · exact h.1
  · exact Qe2 h.2 t
omit K F in
theorem YJ:∀ (l:List (Nat × Value)) (tm:Array Value),(l.foldl (fun (tmps:Array Value) (p:Nat × Value)=>tmps.setIfInBounds p.1 p.2) tm).size=tm.size
 | [],_=>rfl
 | p::l,tm=>by rw [List.foldl_cons,YJ l];simp
omit F in
theorem Qbr {n:Nat} (hc:QeZ P T Φ n):Qik P T (QdH T Φ (evC T Φ n)):=by
 intro nt slots ps asn body caps xs l vs X h nx lim e d h' nx' tr g hR hcr hxs hxr hlim hx;unfold QdH at hx;have hyb:Nat.beq ZQ ZQ=true:=by simp
 simp only [hyb,cond_true,Qog] at hx;cases hc1:(caps.noYl && xs.all D.noYl) && ((Nat.beq xs.length ps.length && okPs nt ps) && (okC nt asn && okC nt body)) with
 | false=>rw [hc1] at hx;exact (Ex.fail hx).elim
 | true =>
  rw [hc1] at hx;simp only [cond_true] at hx;simp only [Bool.and_eq_true,okC] at hc1;obtain ⟨⟨hn1,hn2⟩,⟨hlen,hps⟩,⟨ha1,ha2⟩,⟨hb1,hb2⟩⟩:=hc1;have hlen:=Nat.eq_of_beq_eq_true hlen;cases hR with
  | @yl _ _ _ _ _ _ _ rec hw hm hs hcp =>
   obtain ⟨hs1,hs2,hs3,hs4,hs5,hs6⟩:=hs;subst hs4;subst hs5
   have hlv:(⟨vs⟩:Array Value).size=rec.params.size:=by
    have h1:=hxs.length;have h2:ps.length=rec.params.size:=by rw [<- hs3];simp
    simp;omega
   have hy:=run_yield (P:=P) (args:=⟨vs⟩) hw hlv;refine ⟨_,_,_,_,hy,fun m=>roundIn_of_wpIn trivial ?_⟩;obtain ⟨⟨x1,env1⟩,h1,n1,t1,t2,q1,q2,_⟩:=Ex.bind hx;have hle1:=Ex.le q1;have hle2:=Ex.le q2;cases x1 with
   | exit id=>exact (Ex.fail q2).elim
   | ret=>exact (Ex.fail q2).elim
   | normal =>
    simp only at q2;cases hev:env1.all (fun p=>p.2.noYl) with
    | false=>rw [hev] at q2;exact (Ex.fail q2).elim
    | true =>
     rw [hev] at q2;simp only [cond_true] at q2;obtain ⟨⟨x2,env2⟩,h2,n2,t3,t4,q3,q4,_⟩:=Ex.bind q2;cases x2 with
     | exit id=>exact (Ex.fail q4).elim
     | ret=>exact (Ex.fail q4).elim
     | normal =>
      obtain ⟨rfl,rfl,rfl,rfl⟩:=Ex.ret q4
      have efold:((rec.params.zip ⟨vs⟩).foldl (fun (tmps:Array Value) (x:Nat × Value)=>match x with | (t,a)=>tmps.setIfInBounds t a) rec.tmps)=(ps.zip vs).foldl (fun (tmps:Array Value) (p:Nat × Value)=>tmps.setIfInBounds p.1 p.2) rec.tmps:=by
       rw [<- Array.foldl_toList,Array.toList_zip,hs3]
      rw [efold];refine hc (some l) m 0 nt rec.assign (.inl ha2) ha1 (fun _=>false) (fun _ _=>rfl) X h nx lim e _ .normal env1 h1 n1 t1 _ _ g ?_ (by omega) ?_ q1 ?_
      · exact Qpp ps xs vs _ rec.tmps hps hs6 hlen.symm hxs hxr (Qcu slots caps.toList (hcp.toList T rfl) (fun a ha id hid=>hcr id (Y7 caps a ha id hid)))
      · show nt <= ((ps.zip vs).foldl _ rec.tmps).size;rw [YJ];exact hs6
      · intro a1 X1 g1 s1 e1 z1 _ _;obtain ⟨hw1,hm1⟩:=s1.keeps.loop l rec hw hm;have tn1:Kh X1 l (X1.w.putObj l (.loop { rec with state:=.busy })):=Y9 hw1 (fun c t f h=>by cases h) hm1
        refine ⟨_,run_beginRound hw1 hs1,?_⟩;refine hc (some l) m 0 nt rec.body (.inl hb2) hb1 (fun _=>false) (fun _ _=>rfl) ⟨X1.w.putObj l (.loop { rec with state:=.busy }),X1.ρ,X1.O⟩ h1 n1 lim e env1 .normal env2 h' nx' t3 a1 _ (g1.turn K.base tn1) (fun t=>(e1 t).turn K.base tn1 (Qe2 hev t)) hlim ?_ q3 ?_
        · have:((ps.zip vs).foldl (fun (tmps:Array Value) (p:Nat × Value)=>tmps.setIfInBounds p.1 p.2) rec.tmps).size=rec.tmps.size:=YJ _ _;rw [z1,this];exact hs6
        · intro a2 X2 g2 s2 e2 _ _ _;have hl1:l < X1.w.heap.size:=(Array.getElem?_eq_some_iff.1 hw1).1;obtain ⟨hw2,hm2⟩:=s2.keeps.loop l { rec with state:=.busy } (World.putObj_heap_same hl1) hm1;have tn3:Kh X2 l (X2.w.putObj l (.loop { { rec with state:=.busy } with state:=if (none:Option Code).isNone then .ready else .done,pending:=none })):=Y9 hw2 (fun c t f h=>by cases h) hm2
          refine ⟨_,_,run_endRound none hw2,?_⟩;refine ⟨_,⟨_,X2.ρ,X2.O⟩,rfl,rfl,g2.turn K.base tn3,s1.trans (Step.back tn1 s2 tn3 ?_) hle1,RO.mk (.mk rfl (.bool true)) rfl⟩;refine (World.putObj_heap_same (Array.getElem?_eq_some_iff.1 hw2).1).trans ?_;rw [hw1]
          have:({ { rec with state:=.busy } with state:=if (none:Option Code).isNone then LoopState.ready else .done,pending:=none }:Loop)=rec:=by
           cases rec;simp only at hs1 hs2;subst hs1;subst hs2;rfl
          rw [this]
theorem Qcv {n:Nat} (hc:QeZ P T Φ n):Kb P T (QdH T Φ (evC T Φ n)):=by
 refine ⟨Qbr K hc,?_⟩;intro g hgy args vs X h nx lim e d h' nx' tr gg hargs hrefs hlim hx;unfold QdH at hx
 have hyb:Nat.beq g ZQ=false:=by
  cases h:Nat.beq g ZQ with
  | false=>rfl
  | true=>exact absurd (Nat.eq_of_beq_eq_true h) hgy
 simp only [hyb,cond_false] at hx;cases hos:Φ.ospec g with
 | some s =>
  simp only [hos] at hx;obtain ⟨u,h1,n1,t1,t2,q1,q2,_⟩:=Ex.bind hx;obtain ⟨X1,w1,g1,s1,hn1⟩:=Kl K _ gg q1;subst hn1;have:=F.ospec g s hos args vs X1 h1 n1 lim e d h' nx' t2 g1 (hargs.mono' K.base s1 hrefs) hrefs hlim q2;rw [w1] at this;exact ⟨this.1,this.2.mono fun en w2 hp=>Q7.since s1 hp⟩
 | none =>
 simp only [hos] at hx;cases hs:Φ.spec g with
 | some s =>
  simp only [hs] at hx;cases hle:Φ.lend g with
  | true =>
   simp only [hle,cond_true] at hx;obtain ⟨args',h1,n1,t1,t2,q1,hx2,_⟩:=Ex.bind hx;clear hx;obtain ⟨rfl,rfl,kk⟩:=QeY K args gg hargs q1;cases hsa:s args' with
   | none=>rw [hsa] at hx2;exact (Ex.fail hx2).elim
   | some bd =>
    obtain ⟨b,d0⟩:=bd;rw [hsa] at hx2;simp only at hx2;cases hpl:d0.plain && args'.all D.noYl with
    | false=>rw [hpl] at hx2;exact (Ex.fail hx2).elim
    | true =>
     rw [hpl] at hx2;simp only [Bool.and_eq_true] at hpl;rcases Ex.br hx2 with ⟨rfl,hx2⟩ | ⟨rfl,hx2⟩
     · obtain ⟨rfl,rfl,rfl,_⟩:=Ex.ret hx2;obtain ⟨hrf,hB⟩:=F.spec g s args' _ hs hsa;obtain ⟨c1,c2⟩:=hB X.w X.O vs gg.outs (fun p hp=>(gg.pre p hp).1) (kk hrf fun a ha=>List.all_eq_true.1 hpl.2 a ha);refine ⟨c1,c2.mono fun en w' hpp=>?_⟩;obtain ⟨v,ρ,rfl,r,hd,a1,a2,a3,a4,a5,a6⟩:=hpp;obtain ⟨g',s'⟩:=gg.grow K.base w' a1 a2 a3 a4 a5 a6;exact ⟨v,⟨w',X.ρ,X.O⟩,rfl,rfl,g',s',r.plain hpl.1,by rw [hd.1];simp⟩
     · exact (Ex.fail hx2).elim
  | false =>
  simp only [hle,cond_false] at hx;obtain ⟨args',h1,n1,t1,t2,q1,hx2,_⟩:=Ex.bind hx;clear hx;obtain ⟨X',w',g',s',r',hn,hrf⟩:=Qie K args gg hargs hrefs q1;subst hn;cases hsa:s args' with
  | none=>rw [hsa] at hx2;exact (Ex.fail hx2).elim
  | some bd =>
   obtain ⟨b,d0⟩:=bd;rw [hsa] at hx2
   have hx2:b=true /\ ∃ t3,Ex e (.ret d0) h1 n1 d h' nx' t3:=by
    cases ht:Φ.total g with
    | false =>
     simp only [ht,cond_false] at hx2;rcases Ex.br hx2 with ⟨rfl,hx2⟩ | ⟨rfl,hx2⟩
     · exact ⟨rfl,_,hx2⟩
     · exact (Ex.fail hx2).elim
    | true =>
     simp only [ht,cond_true] at hx2;cases b with
     | true=>exact ⟨rfl,_,hx2⟩
     | false=>exact (Ex.fail hx2).elim
   obtain ⟨rfl,t3,hx2⟩:=hx2;obtain ⟨rfl,rfl,rfl,_⟩:=Ex.ret hx2;obtain ⟨hrf0,hB⟩:=F.spec g s args' _ hs hsa;have:=hB.call K hrf0 g' r';rw [w'] at this;exact ⟨this.1,this.2.mono fun en w1 hp=>Q7.since s' hp⟩
 | none =>
  simp only [hs] at hx;exact Jt K F hc g args vs X h nx lim e d h' nx' tr gg hargs hrefs hlim hx
theorem QdS:∀ n,QeZ P T Φ n /\ Qe0 P T Φ n:=by
 intro n
 induction n with
 | zero =>
  refine ⟨?_,?_⟩
  · intro ro m f nt code _ _ B _ X h nx lim e env x env' h' nx' tr a Q _ _ _ _ hx;exact (Ex.fail hx).elim
  · intro f fn body b _ _ _ _ _ B _ X h nx lim e env x env' h' nx' tr a Q _ _ _ _ hx;exact (Ex.fail hx).elim
 | succ n ih =>
  obtain ⟨ihC,ihR⟩:=ih;have hcall:=Qcv K F ihC
  have hR:Qe0 P T Φ (n+1):=by
   intro f fn body b hf hb hcb hl hnone B hB X h nx lim e env x env' h' nx' tr a Q g he hlim hsz hx hk;simp only [evC,Qo8,hnone] at hx;obtain ⟨⟨x1,env1⟩,h1,n1,t1,t2,q1,q2,_⟩:=Ex.bind hx;have hle:=Ex.le q2;have hle1:=Ex.le q1;rw [rounds_succ];refine (wpIn_wide (n:=0)).1 (ihC none 0 f fn.ntmps b (.inr ⟨rfl,fn,body,hf,rfl,hb,fun b' hb'=>hl b' (by simp [QN,hb'])⟩) (by simpa [ZH] using hcb) B hB X h nx lim e env x1 env1 h1 n1 t1 a _ g he (by omega) hsz q1 ?_)
   intro a1 X1 g1 s1 e1 hs1 hd1 kp1;cases x1 with
   | normal =>
    simp only [Ql9] at q2;exact ihR f fn body b hf hb hcb hl hnone B hB X1 h1 n1 lim e env1 x env' h' nx' t2 a1 Q g1 e1 hlim (by omega) q2 fun a2 X2 g2 s2 e2 hs2 hd2 kp2=>hk a2 X2 g2 (s1.trans s2 hle1) e2 (by omega) (hd1.trans s1 s2 hd2) (kp1.trans kp2)
   | exit id =>
    obtain ⟨hxx,rfl,rfl,rfl⟩:=Ex.ret q2;obtain ⟨rfl,rfl⟩:=Prod.mk.inj hxx;exact hk a1 X1 g1 s1 e1 hs1 hd1 kp1
   | ret =>
    obtain ⟨hxx,rfl,rfl,rfl⟩:=Ex.ret q2;obtain ⟨rfl,rfl⟩:=Prod.mk.inj hxx;exact hk a1 X1 g1 s1 e1 hs1 hd1 kp1
  refine ⟨?_,hR⟩;intro ro m f nt code hfl hcb B hB X h nx lim e env x env' h' nx' tr a Q g he hlim hsz hx hk
  have done:∀ x0,Ex e (.ret (x0,env):Pg C (Ev.X × Env C)) h nx (x,env') h' nx' tr->Q (Qap x0) a X.w:=by
   intro x0 hx;obtain ⟨hxx,rfl,rfl,rfl⟩:=Ex.ret hx;obtain ⟨rfl,rfl⟩:=Prod.mk.inj hxx;exact hk a X g (.refl _ _ _) he rfl (.refl _ _ _) (.refl _ _)
  cases code with
  | skip=>exact wpIn_skip (done _ hx)
  | label l=>exact wpIn_label (done _ hx)
  | ret=>exact wpIn_ret (done _ hx)
  | exit id=>exact wpIn_exit (done _ hx)
  | region id ops draw =>
   simp only [evC] at hx;simp only [ZH,Bool.and_eq_true] at hcb;have hdst:∀ o ∈ ops.toList,∀ t,o.dst=some t->t < a.tmps.size:=fun o ho t ht=>Nat.lt_of_lt_of_le (Qin hcb.1 o ho t ht) hsz;have hBo:∀ o ∈ ops.toList,∀ t,o.dst=some t->B t=false:=fun o ho t ht=>hB t (by simp only [asgL,List.mem_filterMap];exact ⟨o,ho,ht⟩)
   cases draw with
   | true =>
    simp only [cond_true] at hx;obtain ⟨_,h0,n0,t8,t9,q0,hx,_⟩:=Ex.bind hx;obtain ⟨X0,w0,g0,s0,hn0⟩:=Kl K _ g q0;have hn0:=hn0.symm;subst hn0;simp only [Qro] at hx;have hx:=Ex.cnt hx;obtain ⟨env1,h1,n1,t1,t2,q1,q2,_⟩:=Ex.bind hx;obtain ⟨hxx,rfl,rfl,rfl⟩:=Ex.ret q2;obtain ⟨rfl,rfl⟩:=Prod.mk.inj hxx;have hle:=Ex.le q1;rw [<- w0];exact Qpi K hcall hBo K.order (QgF (by simpa using hcb.2)) g0 (he.step K.base s0 (Nat.le_refl _)) hlim hdst q1 fun a' X' g' s' e' hs' hd' kp'=>hk a' X' g' (s0.trans s' (Nat.le_refl _)) e' hs' (.of_eq hd') kp'
   | false =>
    simp only [cond_false,regC] at hx;obtain ⟨env1,h1,n1,t1,t2,q1,q2,_⟩:=Ex.bind hx;obtain ⟨hxx,rfl,rfl,rfl⟩:=Ex.ret q2;obtain ⟨rfl,rfl⟩:=Prod.mk.inj hxx;refine wpIn_region ?_;rw [List.range_eq_range'];have:=Qmq (ro:=ro) (m:=m) K hcall hBo ops.toList 0 rfl g he hlim hdst q1 (Q:=Q) (fun a' X' g' s' e' hs' hd' kp'=>hk a' X' g' s' e' hs' (.of_eq hd') kp')
    simpa using this
  | seq c1 c2 =>
   simp only [evC] at hx;simp only [ZH,Bool.and_eq_true] at hcb;obtain ⟨⟨x1,env1⟩,h1,n1,t1,t2,q1,q2,_⟩:=Ex.bind hx;have hle:=Ex.le q2;have hle1:=Ex.le q1;refine wpIn_seq (ihC ro m f nt c1 (okL hfl (fun h=>by simp only [Y2,Bool.and_eq_true] at h;exact h.1) (fun b hb=>by simp [QN,hb])) hcb.1 B (fun t ht=>hB t (by simp [asgL,ht])) X h nx lim e env x1 env1 h1 n1 t1 a _ g he (by omega) hsz q1 ?_)
   intro a1 X1 g1 s1 e1 hs1 hd1 kp1;cases x1 with
   | normal =>
    simp only [Ql9] at q2;exact ihC ro m f nt c2 (okL hfl (fun h=>by simp only [Y2,Bool.and_eq_true] at h;exact h.2) (fun b hb=>by simp [QN,hb])) hcb.2 B (fun t ht=>hB t (by simp [asgL,ht])) X1 h1 n1 lim e env1 x env' h' nx' t2 a1 Q g1 e1 hlim (by omega) q2 fun a2 X2 g2 s2 e2 hs2 hd2 kp2=>hk a2 X2 g2 (s1.trans s2 hle1) e2 (by omega) (hd1.trans s1 s2 hd2) (kp1.trans kp2)
   | exit id =>
    obtain ⟨hxx,rfl,rfl,rfl⟩:=Ex.ret q2;obtain ⟨rfl,rfl⟩:=Prod.mk.inj hxx;exact hk a1 X1 g1 s1 e1 hs1 hd1 kp1
   | ret =>
    obtain ⟨hxx,rfl,rfl,rfl⟩:=Ex.ret q2;obtain ⟨rfl,rfl⟩:=Prod.mk.inj hxx;exact hk a1 X1 g1 s1 e1 hs1 hd1 kp1
  | cond c c1 c2 =>
   simp only [evC,Qrn] at hx;simp only [ZH,Bool.and_eq_true] at hcb
   have side0:∀ (b:Bool) (env0:Env C) (x0:Ev.X) (env1:Env C) (tr1:Tr) (B':Nat->Bool),(∀ t ∈ asgL c1++asgL c2,B' t=false)->Qi T X nx lim env0 a.tmps->a.eval c=.bool b->Ex e (evC T Φ n f (if b then c1 else c2) env0) h nx (x0,env1) h' nx' tr1 ->
    Qio T B' X nx lim h' nx' env1 a (Q (Qap x0))->(Code.cond c c1 c2).wpIn (roF ro) m P Q a X.w:=by
    intro b env0 x0 env1 tr1 B' hB' he0 hc0 hx0 hk0;refine wpIn_cond hc0 (ihC ro m f nt _ ?_ ?_ B' (fun t ht=>hB' t (by cases b <;> simp at ht ⊢ <;> simp [ht])) X h nx lim e env0 x0 env1 h' nx' tr1 a Q g he0 hlim hsz hx0 hk0)
    · exact okL hfl (fun h=>by simp only [Y2,Bool.and_eq_true] at h;cases b <;> simp [h.1,h.2]) (fun b' hb'=>by cases b <;> simp [QN] at hb' ⊢ <;> simp [hb'])
    · cases b <;> simp [hcb.1,hcb.2]
   have side:∀ (b:Bool) (env0:Env C),Qi T X nx lim env0 a.tmps->a.eval c=.bool b->Ex e (evC T Φ n f (if b then c1 else c2) env0) h nx (x,env') h' nx' tr->(Code.cond c c1 c2).wpIn (roF ro) m P Q a X.w:=by
    intro b env0 he0 hc0 hx0;refine wpIn_cond hc0 (ihC ro m f nt _ ?_ ?_ B (fun t ht=>hB t (by cases b <;> simp [asgL] at ht ⊢ <;> simp [ht])) X h nx lim e env0 x env' h' nx' tr a Q g he0 hlim hsz hx0 hk)
    · exact okL hfl (fun h=>by simp only [Y2,Bool.and_eq_true] at h;cases b <;> simp [h.1,h.2]) (fun b' hb'=>by cases b <;> simp [QN] at hb' ⊢ <;> simp [hb'])
    · cases b <;> simp [hcb.1,hcb.2]
   cases c with
   | tmp t =>
    simp only at hx;have het:=he t;generalize hq:eget env t=q at hx het;cases q with
    | bool b =>
     simp only at hx;have hv:a.eval (.tmp t)=.bool b:=het.1.bool;rcases mrgC_cases (bif pureC Φ c1 && pureC Φ c2 then some (asgL c1++asgL c2) else none) env b (evC T Φ n f c1 ((t,.bool true)::env)) (evC T Φ n f c2 ((t,.bool false)::env)) with hm | ⟨l,x1,y1,r,hp1,hp2,hr,hml,hm⟩
     · rw [hm] at hx;rcases Ex.br hx with ⟨rfl,hx⟩ | ⟨rfl,hx⟩
       · exact side true _ (he.cons_same hq) hv hx
       · exact side false _ (he.cons_same hq) hv hx
     · rw [hm] at hx;obtain ⟨hxx,rfl,rfl,rfl⟩:=Ex.ret hx;obtain ⟨rfl,rfl⟩:=Prod.mk.inj hxx
       have hl2:l=asgL c1++asgL c2:=by
        cases hpp:pureC Φ c1 && pureC Φ c2 with
        | false=>simp [hpp] at hml
        | true=>simpa [hpp] using hml.symm
       have hex:Ex e (evC T Φ n f (if b then c1 else c2) ((t,.bool b)::env)) h' nx' (.normal,bif b then x1 else y1) h' nx' []:=by
        cases b with
        | true=>simp only [if_true,hp1];simp [Ex,Pg.run]
        | false=>simp only [Bool.false_eq_true,if_false,hp2];simp [Ex,Pg.run]
       refine side0 b ((t,.bool b)::env) .normal (bif b then x1 else y1) [] (fun u=>B u || !(l.any (Nat.beq u))) (fun u hu=>?_) (he.cons_same hq) hv hex ?_
       · have h1:l.any (Nat.beq u)=true:=List.any_eq_true.2 ⟨u,by rw [hl2];exact hu,by simp⟩
         have h2:B u=false:=hB u (by simpa [asgL] using hu)
         simp only [h1,h2];rfl
       · intro a1 X1 g1 s1 e1 hs1 hd1 kp1;refine hk a1 X1 g1 s1 (fun u=>?_) hs1 hd1 (fun u hu=>kp1 u (by simp [hu]))
         rcases mrgE_get (t:=u) (env:=env) hr with ⟨h1,h2⟩ | ⟨h1,h2⟩
         · refine Qpl h2 ?_;have:=e1 u;cases b <;> simpa using this
         · rw [h2,kp1 u (by simp only [h1];simp)]
           exact (he u).step K.base s1 (Nat.le_refl _)
    | _=>exact (Ex.fail hx).elim
   | const v =>
    cases v with
    | bool b =>
     simp only at hx;rcases Ex.br hx with ⟨rfl,hx⟩ | ⟨rfl,hx⟩
     · exact side true _ he rfl hx
     · exact side false _ he rfl hx
    | _=>exact (Ex.fail hx).elim
   | global q=>exact (Ex.fail hx).elim
   | func q=>exact (Ex.fail hx).elim
  | scope c =>
   simp only [evC] at hx;refine QgE (ihC ro m f nt c (okL hfl (fun h=>by simp [Y2] at h) (fun b hb=>by simpa [QN] using hb)) (by simpa [ZH] using hcb) B (fun t ht=>hB t (by simpa [asgL] using ht)) X h nx lim e env x env' h' nx' tr a _ g he hlim hsz hx ?_)
   intro a1 X1 g1 s1 e1 hs1 hd1 kp1;cases x <;> exact hk a1 X1 g1 s1 e1 hs1 hd1 kp1
  | block id c =>
   simp only [evC] at hx;obtain ⟨⟨x1,env1⟩,h1,n1,t1,t2,q1,q2,_⟩:=Ex.bind hx;have hle:=Ex.le q2;refine wpIn_block (ihC ro m f nt c (okL hfl (fun h=>by simpa [Y2] using h) (fun b hb=>by simpa [QN] using hb)) (by simpa [ZH] using hcb) B (fun t ht=>hB t (by simpa [asgL] using ht)) X h nx lim e env x1 env1 h1 n1 t1 a _ g he (by omega) hsz q1 ?_)
   intro a1 X1 g1 s1 e1 hs1 hd1 kp1;cases x1 with
   | normal =>
    obtain ⟨hxx,rfl,rfl,rfl⟩:=Ex.ret q2;obtain ⟨rfl,rfl⟩:=Prod.mk.inj hxx;exact hk a1 X1 g1 s1 e1 hs1 hd1 kp1
   | exit i =>
    simp only [QeL] at q2;show (if i=id then Q .normal a1 X1.w else Q (.exit i) a1 X1.w)
    cases hi:Nat.beq i id with
    | true =>
     simp only [hi,cond_true] at q2;obtain ⟨hxx,rfl,rfl,rfl⟩:=Ex.ret q2;obtain ⟨rfl,rfl⟩:=Prod.mk.inj hxx;have:i=id:=Nat.eq_of_beq_eq_true hi;simp only [this,if_true];exact hk a1 X1 g1 s1 e1 hs1 hd1 kp1
    | false =>
     simp only [hi,cond_false] at q2;obtain ⟨hxx,rfl,rfl,rfl⟩:=Ex.ret q2;obtain ⟨rfl,rfl⟩:=Prod.mk.inj hxx;have:i ≠ id:=Nat.ne_of_beq_eq_false hi;simp only [this,if_false];exact hk a1 X1 g1 s1 e1 hs1 hd1 kp1
   | ret =>
    obtain ⟨hxx,rfl,rfl,rfl⟩:=Ex.ret q2;obtain ⟨rfl,rfl⟩:=Prod.mk.inj hxx;exact hk a1 X1 g1 s1 e1 hs1 hd1 kp1
  | loop c =>
   obtain ⟨rfl,fn,body,hf,rfl,hb,hl⟩:=hfl.resolve_left (by simp [Y2])
   refine wpIn_wide.2 ?_;cases hs:Φ.loop f (Qm c) with
   | none=>exact wp_loop_rounds (n+1) (hR f fn body c hf hb hcb hl hs B (fun t ht=>hB t (by simpa [asgL] using ht)) X h nx lim e env x env' h' nx' tr a Q g he hlim hsz hx hk)
   | some s =>
    simp only [evC,Qo8,hs] at hx;obtain ⟨⟨x1,env1⟩,h1,n1,t1,t2,q1,q2,_⟩:=Ex.bind hx;obtain ⟨hxx,rfl,rfl,_⟩:=Ex.ret q2;obtain ⟨rfl,rfl⟩:=Prod.mk.inj hxx;have hle1:=Ex.le q1;refine F.loop f fn body c s hf hb (hl c (by simp [QN])) hs (fun t=>B t || !((asgL c).any (Nat.beq t))) (fun t ht=>?_) X h nx lim e env x env1 h' nx' t1 a Q g he hlim hsz q1 ?_
    · have h1:(asgL c).any (Nat.beq t)=true:=List.any_eq_true.2 ⟨t,ht,by simp⟩
      have h2:B t=false:=hB t (by simpa [asgL] using ht)
      simp only [h1,h2];rfl
    · intro a1 X1 g1 s1 e1 hs1 hd1 kp1;refine hk a1 X1 g1 s1 (fun t=>?_) hs1 hd1 (fun t ht=>kp1 t (by simp [ht]))
      rcases eget_app env1 (keepE (asgL c) env) t with h1 | h1
      · rw [h1];exact e1 t
      · rw [h1];cases hq:(asgL c).any (Nat.beq t) with
        | true=>rw [Qbq hq];exact RO.mk (RV.top _ _ _) rfl
        | false =>
         rw [KP hq,kp1 t (by simp only [hq];simp)]
         exact (he t).step K.base s1 hle1
  | rangeFunc gq ps asn body' =>
   obtain ⟨rfl,fn,body,hf,rfl,hb,hl⟩:=hfl.resolve_left (by simp [Y2])
   simp only [evC,Qoh,hf] at hx;have hgo:=QF he gq;generalize hq:evAt env gq=q at hx hgo;cases q with
   | fn fid caps =>
    simp only at hx;cases hyb:Nat.beq fid ZQ with
    | true=>rw [hyb] at hx;exact (Ex.fail hx).elim
    | false =>
     rw [hyb] at hx;have hfy:fid ≠ ZQ:=fun e=>by rw [e] at hyb;simp at hyb
     simp only [cond_false] at hx;obtain ⟨d0,h1,n1,t1,t2,q1,q2,_⟩:=Ex.bind hx;obtain ⟨hxx,rfl,rfl,rfl⟩:=Ex.ret q2;obtain ⟨rfl,rfl⟩:=Prod.mk.inj hxx;have hR:=hgo.1.one rfl;generalize hv:a.eval gq=vf at hR hgo;cases hR with
     | @fn _ _ cvs hcv =>
      refine wpIn_rangeFunc ?_;intro fnid _;rw [Qij];obtain ⟨rc,hrc⟩:∃ rc:Loop,rc={ state:=.ready,pending:=none,fn:=fnid,tmps:=a.tmps,params:=ps,assign:=asn,body:=body',defers:=X.w.heap.size }:=⟨_,rfl⟩;obtain ⟨W1,hW1⟩:∃ W1,(X.w.alloc (.deferred (some []))).alloc (.loop rc)=W1:=⟨_,rfl⟩
      have hL1:W1.heap[X.w.heap.size+1]? = some (.loop rc):=by
       rw [<- hW1];have:=World.alloc_heap_new (X.w.alloc (.deferred (some []))) (.loop rc);rwa [World.size_alloc] at this
      have hK1:W1.heap[X.w.heap.size]? = some (.deferred (some [])):=by
       rw [<- hW1];exact (RowKit.Below.heap_alloc _ _ _ (by simp)).trans (World.alloc_heap_new X.w _)
      have hz1:W1.heap.size=X.w.heap.size+2:=by rw [<- hW1];simp
      have hold:∀ k,k < X.w.heap.size->W1.heap[k]? = X.w.heap[k]? := fun k hk=>by
       rw [<- hW1];exact (RowKit.Below.heap_alloc _ _ k (by simp;omega)).trans (RowKit.Below.heap_alloc _ _ k hk)
      obtain ⟨g1,s1⟩:=g.grow K.base W1 (by omega) hold (by rw [<- hW1];rfl) (by rw [<- hW1];rfl) (by rw [<- hW1];rfl) (fun q hq=>ZT (hold _ hq))
      have hm1:∀ k,X.w.heap.size <= k -> ∀ o,¬ (⟨W1,X.ρ,X.O⟩:Cx).mine k o:=fun k hk o ho=>by
       have:=(g.outer k o ho).2;omega
      have hys:R T ⟨W1,X.ρ,X.O⟩ false (.yl fn.ntmps (J8 (YH asn++YH body') env') ps.toList asn body' (D.ofList ((J8 (YH asn++YH body') env').map (eget env')))) [.func (.yield (X.w.heap.size+1)) #[] #[]]:=by
       refine .yl (rec:=rc) hL1 (hm1 _ (by omega)) (by rw [hrc];exact ⟨rfl,rfl,rfl,rfl,rfl,hsz⟩) ?_
       rw [hrc]
       have:∀ sl:List Nat,RVs T ⟨W1,X.ρ,X.O⟩ (sl.map (eget env')) (sl.map fun t=>a.tmps.getD t undef):=by
        intro sl
        induction sl with
        | nil=>exact .nil
        | cons t sl ih=>exact .cons ((he t).step K.base s1 (Nat.le_refl _)).1 ih
       exact (this _).row T
      have hargs:RVs T ⟨W1,X.ρ,X.O⟩ (.yl fn.ntmps (J8 (YH asn++YH body') env') ps.toList asn body' (D.ofList ((J8 (YH asn++YH body') env').map (eget env')))::caps.toList) (.func (.yield (X.w.heap.size+1)) #[] #[]::cvs) :=
       .cons (.inr ⟨rfl,hys⟩) ((hcv.toList T rfl).mono' K.base s1 (fun q hq id hid=>hgo.2 id (by simpa [D.refs] using Y7 caps q hq id hid)))
      have hrefs:∀ q ∈ (.yl fn.ntmps (J8 (YH asn++YH body') env') ps.toList asn body' (D.ofList ((J8 (YH asn++YH body') env').map (eget env')))::caps.toList:List (D C)),∀ id ∈ D.refs q,old nx lim id:=by
       intro q hq id hid;rcases List.mem_cons.1 hq with rfl | hq
       · obtain ⟨q2,hq2,hi⟩:=Jd _ id (by simpa [D.refs] using hid)
         obtain ⟨t,_,rfl⟩:=List.mem_map.1 hq2;exact (he t).2 id hi
       · exact hgo.2 id (by simpa [D.refs] using Y7 caps q hq id hid)
      obtain ⟨c1,c2⟩:=hcall.2 fid hfy _ _ ⟨W1,X.ρ,X.O⟩ h nx lim e d0 h' nx' t1 g1 hargs hrefs hlim q1;refine ⟨X.w.heap.size+1,[QeX X.w.heap.size],W1,{ target:=.fn (.func fid) ⟨cvs⟩,args := #[.func (.yield (X.w.heap.size+1)) #[] #[]] },W1,fid,⟨.func (.yield (X.w.heap.size+1)) #[] #[]::cvs⟩,W1,?_,?_,?_,?_,QeR,?_⟩
      · rw [<- hW1,hrc];exact run_enterLoop_outer _ _ _ _ _
      · simp only [resolve,hv];simp [go_sem]
      · intro f' _;exact roF_fn none f'
      · have e2:(#[.func (.yield (X.w.heap.size+1)) #[] #[]]:Array Value)++⟨cvs⟩=⟨.func (.yield (X.w.heap.size+1)) #[] #[]::cvs⟩:=by apply Array.ext';simp
        simp only [invoke,e2];exact c1
      · refine QeS (c2.mono fun en w2 hp=>?_);obtain ⟨v,X2,rfl,rfl,g2,s2,r2⟩:=hp;obtain ⟨hw2,hm2⟩:=s2.keeps.loop _ _ hL1 (hm1 _ (by omega))
        have tn:Kh X2 (X.w.heap.size+1) (X2.w.putObj (X.w.heap.size+1) (.loop { rc with state:=.exhausted })):=Y9 hw2 (fun c t f h=>by cases h) hm2
        have hend:=run_endLoop (P:=P) hw2 (by rw [hrc];simp)
        obtain ⟨W4,hW4⟩:∃ W4,X2.w.putObj (X.w.heap.size+1) (.loop { rc with state:=.exhausted })=W4:=⟨_,rfl⟩;rw [hW4] at hend tn;rw [show rc.pending=none by rw [hrc]] at hend
        refine ⟨none,W4,hend,?_⟩;have s3:=(s1.trans s2 (Nat.le_refl _)).turn tn (by omega)
        refine hk { a with defers:=QeX X.w.heap.size::a.defers } ⟨W4,X2.ρ,X2.O⟩ (g2.turn K.base tn) s3 (Qi.step K.base s3 he (Ex.le q1)) rfl ⟨[X.w.heap.size],rfl,by simp,fun r hr=>?_⟩ (.refl _ _)
        obtain rfl:r=X.w.heap.size:=by simpa using hr
        refine ⟨Nat.le_refl _,?_,fun o ho=>hm1 _ (Nat.le_refl _) o (s2.mine _ o (by show X.w.heap.size < W1.heap.size;omega) ho)⟩
        exact ((tn.block _ (by omega)).trans (s2.block _ (by show X.w.heap.size < W1.heap.size;omega) (hm1 _ (Nat.le_refl _)))).trans hK1
   | _=>exact (Ex.fail hx).elim
  | _=>exact (Ex.fail hx).elim
theorem Qbs (n:Nat):Qru P T (J7 T Φ (evC T Φ n)):=Jt K F (QdS K F n).1
end
section
variable {C:Cdc} {P:Program} {T:Tab C} {Φ:Fns C}
open Pg (Ex)
theorem Qon {n:Nat} {f:FuncId} {args:List (D C)} {d:D C} (h:evF T Φ n f args=some d):∃ h' nx' tr,Ex (0,0) (J7 T Φ (evC T Φ n) f args) [] 0 d h' nx' tr /\ d.refs=[] /\ d.noYl=true:=by
 unfold evF at h;obtain ⟨a,h',n',t,h1,h2⟩:=Pg.run_some h;cases hb:a.refs.isEmpty && a.noYl with
 | false=>simp [hb] at h2
 | true =>
  simp only [hb,cond_true,Option.some.injEq] at h2;subst h2;rw [Bool.and_eq_true] at hb;exact ⟨h',n',t,h1,List.isEmpty_iff.1 hb.1,hb.2⟩
def lim0 (n:Nat):Lim:=⟨0,n,fun _=>False,fun _ _ _ h=>h⟩
theorem G.start (w:World) (O:Nat->Nat->Prop) (hO:∀ b o,O b o->b < w.heap.size) (hp:∀ p ∈ T.pre,∃ t f,w.heap[p.1]? = some (.cells p.2 t f)) (n:Nat):G T ⟨w,fun _=>none,O⟩ [] 0 (lim0 n) where
 var id t d h:=by simp [Heap.get] at h
 vec id t own l h:=by simp [Heap.get] at h
 map id ck cv l h:=by simp [Heap.get] at h
 dom id l h:=by simp at h
 nums id o h:=by simp [Heap.get] at h
 apart id id' l l' b o o' h:=by simp at h
 outer b o h:=by obtain ⟨_,_,h,_⟩:=h;simp at h
 outs:=hO
 low:=Nat.le_refl _
 pre p h:=⟨hp p h,fun o ⟨_,_,hq,_⟩=>by simp at hq⟩
variable (K:QU P T) (F:Qh P T Φ)
include K F
theorem Qcw {n:Nat} {f:FuncId} {args:List (D C)} {d:D C} (h:evF T Φ n f args=some d) (hargs:∀ a ∈ args,D.refs a=[]) (w:World) (O:Nat->Nat->Prop) (hO:∀ b o,O b o->b < w.heap.size) (hp:∀ p ∈ T.pre,∃ t f,w.heap[p.1]? = some (.cells p.2 t f)) {vs:List Value}
 (hvs:RVs T ⟨w,fun _=>none,O⟩ args vs):(callFunc f ⟨vs⟩).run P w=.ok (.enter f ⟨vs⟩) w /\ Calls P f ⟨vs⟩ w fun en w' =>
  ∃ v ρ,en=.returned v /\ RV T ⟨w',ρ,O⟩ d v /\ w.heap.size <= w'.heap.size /\ (∀ b,b < w.heap.size->w'.heap[b]? = w.heap[b]?) /\ w'.os=w.os /\ w'.tape=w.tape /\ w'.output=w.output /\ (∀ a:Addr,a.block < w.heap.size->w'.frozen? a=w.frozen? a):=by
 obtain ⟨h',nx',tr,hx,hd,_⟩:=Qon h;have g:=G.start (T:=T) w O hO hp nx';obtain ⟨q1,q2⟩:=Qbs K F n f args vs _ _ _ _ _ _ _ _ _ g hvs (fun a ha id hid=>by rw [hargs a ha] at hid;simp at hid) (Nat.le_refl _) hx
 refine ⟨q1,q2.mono fun en w' hp=>?_⟩;obtain ⟨v,X',rfl,rfl,g',s',r'⟩:=hp;have hO':X'.O=O:=s'.O;refine ⟨v,X'.ρ,rfl,?_,s'.size,fun b hb=>s'.block b hb (fun o hm=>by obtain ⟨_,_,hq,_⟩:=hm;simp at hq),s'.os,s'.tape,s'.output,s'.frz⟩
 rw [<- hO'];exact r'.1
theorem Qms {n:Nat} {f:FuncId} {args:List (D C)} {d:D C} (h:evF T Φ n f args=some d) (hargs:∀ a ∈ args,D.refs a=[]):KO P T f args d:=by
 intro w O vs hO hp hvs;have hd:d.refs=[] /\ d.noYl=true:=by obtain ⟨_,_,_,_,hd⟩:=Qon h;exact hd
 obtain ⟨q1,q2⟩:=Qcw K F h hargs w O hO hp hvs;refine ⟨q1,q2.mono fun en w' hpp=>?_⟩;obtain ⟨v,ρ,rfl,r,a1,a2,a3,a4,a5,a6⟩:=hpp;exact ⟨v,ρ,rfl,r,hd,a1,a2,a3,a4,a5,a6⟩
end
inductive Tree (α:Type) where
 | nil
 | node (k:Nat) (a:α) (l r:Tree α)
namespace Tree
variable {α:Type}
def get (u:Nat):Tree α->Option α
 | .nil=>none
 | .node k a l r=>bif Nat.blt u k then l.get u else bif Nat.blt k u then r.get u else some a
def all (p:Nat->α->Bool):Tree α->Bool
 | .nil=>true
 | .node k a l r=>p k a && l.all p && r.all p
theorem get_all {p:Nat->α->Bool} {u:Nat} {a:α}:∀ {t:Tree α},t.all p=true->t.get u=some a->p u a=true
 | .nil,_,h=>by simp [get] at h
 | .node k b l r,h,hg=>by
  simp only [all,Bool.and_eq_true] at h;simp only [get] at hg;cases h1:Nat.blt u k with
  | true=>rw [h1] at hg;exact get_all h.1.2 hg
  | false =>
   rw [h1] at hg;cases h2:Nat.blt k u with
   | true=>rw [h2] at hg;exact get_all h.2 hg
   | false =>
    rw [h2] at hg;simp only [cond_false,Option.some.injEq] at hg;have e1:¬ u < k:=by rw [<- Nat.blt_eq,h1];simp
    have e2:¬ k < u:=by rw [<- Nat.blt_eq,h2];simp
    obtain rfl:u=k:=by omega
    rw [<- hg];exact h.1.1
end Tree
section
variable {C:Cdc}
structure Row (C:Cdc) where
 g:GT C
 size:Nat
 bytes:Nat
 zero:Option (D C)
structure Cod (C:Cdc) where
 enc:(t:C.Ty)->C.A t->D C
 dec:(t:C.Ty)->D C->Option (C.A t)
 dflt:(t:C.Ty)->C.A t
 ety:C.Ty->TypeId
 eqb:(t:C.Ty)->C.A t->C.A t->Option Bool
 u8s:(t:C.Ty)->Option (List (C.A t)->List UInt8)
 ofU8s:(t:C.Ty)->Option (List UInt8->List (C.A t))
def ZV (cd:Cod C) (t:Tree (Row C)) (pre:List (Nat × Array Value):=[]) (settle:TypeId->Bool:=fun _=>true):Tab C where
 ty u:=match t.get u with | some r=>r.g | none=>.none
 size u:=match t.get u with | some r=>r.size | none=>0
 bytes u:=match t.get u with | some r=>r.bytes | none=>0
 enc:=cd.enc
 dec:=cd.dec
 dflt:=cd.dflt
 ety:=cd.ety
 eqb:=cd.eqb
 zero u:=match t.get u with | some r=>r.zero | none=>none
 u8s:=cd.u8s
 ofU8s:=cd.ofU8s
 pre:=pre
 settle:=settle
def gtB:GT C->GT C->Bool
 | .bool,.bool | .str,.str | .fn,.fn=>true
 | .int k,.int k'=>decide (k=k')
 | .struct a fs,.struct a' fs'=>a == a' && fs == fs'
 | .arr n e t,.arr n' e' t'=>Nat.beq n n' && Nat.beq e e' && decide (t=t')
 | .sl e t,.sl e' t'=>Nat.beq e e' && decide (t=t')
 | .ptr e,.ptr e'=>Nat.beq e e'
 | .dsl e,.dsl e'=>Nat.beq e e'
 | .map k v ck cv,.map k' v' ck' cv'=>Nat.beq k k' && Nat.beq v v' && decide (ck=ck') && decide (cv=cv')
 | _,_=>false
theorem Qir {a b:GT C} (h:gtB a b=true):a=b:=by
 cases a <;> cases b <;> simp_all [gtB]
variable (P:Program) (T:Tab C)
def zRl {t:C.Ty} (f:D C->List Value->Option (List Value)):List (C.A t)->List Value->Option (List Value)
 | [],cs=>some cs
 | x::l,cs=>match f (T.enc t x) cs with
  | some r=>zRl f l r
  | none=>none
def zR:Nat->D C->List Value->Option (List Value)
 | 0,_,_=>none
 | n+1,d,cs=>match d,cs with
  | .bool b,.bool b'::r=>bif b == b' then some r else none
  | .int k m,.int k' m'::r=>bif decide (k=k') && m == m' && decide (k.min <= m) && decide (m <= k.max) then some r else none
  | .str s,.string s'::r=>bif s == s'.data.toList then some r else none
  | .anil,cs=>some cs
  | .acons d ds,cs=>match zR n d cs with
   | some r=>zR n ds r
   | none=>none
  | .arr t m l,cs=>bif Nat.beq m l.length then zRl T (zR n) l cs else none
  | .nils,.slice none 0 0::r=>some r
  | .sl _ _ [],.slice none 0 0::r=>some r
  | .nilp,.pointer none::r=>some r
  | .nilfn,.nilFunc::r=>some r
  | .nilm,.map none::r=>some r
  | _,_=>none
variable {P T}
theorem Qoo {X:Cx} {t:C.Ty} {f:D C->List Value->Option (List Value)} (hf:∀ d cs r,f d cs=some r -> ∃ c1,cs=c1++r /\ R T X false d c1):∀ (l:List (C.A t)) (cs r:List Value),zRl T f l cs=some r -> ∃ c1,cs=c1++r /\ R T X false (.arr t l.length l) c1
 | [],cs,r,h=>by simp [zRl] at h;exact ⟨[],by simp [h],.arr0 _⟩
 | x::l,cs,r,h=>by
  simp only [zRl] at h;cases hq:f (T.enc t x) cs with
  | none=>simp [hq] at h
  | some r1 =>
   simp only [hq] at h;obtain ⟨c1,e1,k1⟩:=hf _ _ _ hq;obtain ⟨c2,e2,k2⟩:=Qoo hf l r1 r h;exact ⟨c1++c2,by rw [e1,e2,List.append_assoc],.arrS k1 k2⟩
theorem Qsh {X:Cx}:∀ (n:Nat) (d:D C) (cs r:List Value),zR T n d cs=some r -> ∃ c1,cs=c1++r /\ R T X false d c1:=by
 intro n
 induction n with
 | zero=>intro d cs r h;simp [zR] at h
 | succ n ih =>
  intro d cs r h;unfold zR at h
  split at h
  · rename_i b b' q;cases hb:(b == b') with
    | false=>simp [hb] at h
    | true=>simp [hb] at h;subst h;have:=eq_of_beq hb;subst this;exact ⟨[.bool b],rfl,.bool b⟩
  · rename_i k m k' m' q;cases hb:(decide (k=k') && m == m' && decide (k.min <= m) && decide (m <= k.max)) with
    | false=>simp [hb] at h
    | true =>
     simp only [hb,cond_true,Option.some.injEq] at h;subst h;simp only [Bool.and_eq_true,decide_eq_true_eq,beq_iff_eq] at hb;obtain ⟨⟨⟨rfl,rfl⟩,h1⟩,h2⟩:=hb;exact ⟨[.int k m],rfl,.int ⟨h1,h2⟩⟩
  · rename_i s s' q;cases hb:(s == s'.data.toList) with
    | false=>simp [hb] at h
    | true =>
     simp only [hb,cond_true,Option.some.injEq] at h;subst h;have:=eq_of_beq hb;subst this;exact ⟨[.string s'],rfl,.str _⟩
  · simp at h;exact ⟨[],by simp [h],.anil⟩
  · rename_i d ds;cases hq:zR T n d cs with
    | none=>simp [hq] at h
    | some r1 =>
     simp only [hq] at h;obtain ⟨c1,e1,k1⟩:=ih _ _ _ hq;obtain ⟨c2,e2,k2⟩:=ih _ _ _ h;exact ⟨c1++c2,by rw [e1,e2,List.append_assoc],.acons k1 k2⟩
  · rename_i t m l;cases hb:Nat.beq m l.length with
    | false=>simp [hb] at h
    | true =>
     simp only [hb,cond_true] at h;have:=Nat.eq_of_beq_eq_true hb;subst this;exact Qoo ih l _ _ h
  · simp at h;subst h;exact ⟨[.slice none 0 0],rfl,.nils⟩
  · simp at h;subst h;exact ⟨[.slice none 0 0],rfl,.sl0 _ _ _⟩
  · simp at h;subst h;exact ⟨[.pointer none],rfl,.nilp⟩
  · simp at h;subst h;exact ⟨[.nilFunc],rfl,.nilfn⟩
  · simp at h;subst h;exact ⟨[.map none],rfl,.nilm⟩
  · simp at h
variable (P T)
def zB (d:D C) (cs:List Value):Bool:=match zR T 50 d cs with
 | some []=>true
 | _=>false
variable {P T}
theorem Qmt {d:D C} {cs:List Value} (h:zB T d cs=true) (X:Cx):R T X false d cs:=by
 unfold zB at h
 split at h
 · rename_i hq;obtain ⟨c1,e1,k1⟩:=Qsh (X:=X) _ _ _ _ hq;simp at e1;rw [e1];exact k1
 · cases h
variable (P T)
def Qcx (e:TypeId) (t:C.Ty):Bool :=
 gtB (T.ty e) (T.ty (T.ety t)) && Nat.beq (T.size e) (T.size (T.ety t)) && match P.info? e with
 | some i=>Nat.beq i.size (T.size e) && Nat.beq i.bytes (T.bytes e) && Nat.blt 0 (T.bytes e) && Nat.blt 0 (T.size e) && match i.zero with
  | some z=>Nat.beq z.cells.size (T.size e) && zB T (T.enc t (T.dflt t)) z.cells.toList
  | none=>false
 | none=>false
def QgG:List Field->Nat->Bool
 | [],_=>true
 | f::fs,n=>Nat.beq f.offset n && QgG fs (n+T.size f.type)
def oneB (e:TypeId):Bool:=(match T.ty e with | .struct _ _=>false | .arr _ _ _=>false | .none=>false | _=>true) && match P.info? e with
 | some i=>Nat.beq i.size 1 && (match i.zero with | some z=>Nat.beq z.cells.size 1 | none=>false)
 | none=>false
def mapB (k v:TypeId) (ck cv:C.Ty):Bool:=gtB (T.ty k) (T.ty (T.ety ck)) && gtB (T.ty v) (T.ty (T.ety cv)) && (match T.ty k with | .int _=>true | .str=>true | .bool=>true | _=>false) && match P.info? v with
 | some i=>(match i.zero with | some (.agg cs)=>(T.enc cv (T.dflt cv)).isRow && zB T (T.enc cv (T.dflt cv)) cs.toList | some z => !(T.enc cv (T.dflt cv)).isRow && zB T (T.enc cv (T.dflt cv)) [z] | none=>false)
 | none=>false
def Q5 (u:TypeId) (g:GT C) (size:Nat):Bool:=match g,P.underlying u with
 | .bool,some .bool=>Nat.beq size 1
 | .int k,some (.int k')=>decide (k=k') && Nat.beq size 1
 | .str,some .string=>Nat.beq size 1
 | .struct false fs,some (.struct fields)=>(fields.toList.map (·.type) == fs) && Nat.beq size (QM T fs) && QgG T fields.toList 0 && !P.stoodInHeld u && !P.eqGuardType P.depth u && fields.toList.all (fun f=>f.name != "_") &&
  fs.all (fun f=>match P.info? f with | some i=>Nat.beq i.size (T.size f) && Nat.blt 0 (T.size f) | none=>false)
 | .struct true fs,some (.array n e)=>Nat.beq fs.length n && (fs == List.replicate fs.length e) && Nat.blt 0 fs.length && Nat.beq size (QM T fs) && (match P.info? e with | some i=>Nat.beq i.size (T.size e) | none=>false)
 | .arr n e t,some (.array n' e')=>Nat.beq n n' && Nat.beq e e' && !P.eqGuardType P.depth u && Nat.beq size (n * T.size e) && Qcx P T e t
 | .sl e t,some (.slice e')=>Nat.beq e e' && Nat.beq size 1 && Qcx P T e t
 | .ptr e,some (.pointer e')=>Nat.beq e e' && Nat.beq size 1
 | .fn,some (.func _ _ _)=>Nat.beq size 1
 | .dsl e,some (.slice e')=>Nat.beq e e' && Nat.beq size 1 && oneB P T e
 | .map k v ck cv,some (.map k' v')=>Nat.beq k k' && Nat.beq v v' && Nat.beq size 1 && mapB P T k v ck cv
 | _,_=>false
def rowB (u:TypeId) (r:Row C):Bool :=
 Nat.blt 0 r.size && (match P.info? u with
  | some i=>Nat.beq i.size r.size && (match r.zero with
   | none=>true
   | some z=>match i.zero with
    | some v=>z.refs.isEmpty && zB T z v.cells.toList
    | none=>false)
  | none=>false) && Q5 P T u r.g r.size
variable {P T}
theorem QaE:∀ (fs:List Field) (n:Nat),QgG T fs n=true -> ∀ (i:Nat) (f:Field),fs[i]? = some f->f.offset=n+QM T ((fs.map (·.type)).take i)
 | [],n,h,i,f,hf=>by simp at hf
 | g::fs,n,h,i,f,hf=>by
  simp only [QgG,Bool.and_eq_true] at h;cases i with
  | zero=>simp at hf;subst hf;simp [QM,Nat.eq_of_beq_eq_true h.1]
  | succ i =>
   have:=QaE fs _ h.2 i f (by simpa using hf)
   rw [this];simp [QM];omega
theorem VT {e:TypeId} {t:C.Ty} (h:Qcx P T e t=true):(T.ty e=T.ty (T.ety t) /\ T.size e=T.size (T.ety t)) /\ ∃ i z,P.info? e=some i /\ i.size=T.size e /\ i.bytes=T.bytes e /\ 0 < T.bytes e /\ 0 < T.size e /\ i.zero=some z /\ z.cells.size=T.size e /\
 ∀ X,R T X false (T.enc t (T.dflt t)) z.cells.toList:=by
 simp only [Qcx,Bool.and_eq_true] at h;obtain ⟨⟨h1,h2⟩,h3⟩:=h;refine ⟨⟨Qir h1,Nat.eq_of_beq_eq_true h2⟩,?_⟩;cases hi:P.info? e with
 | none=>simp [hi] at h3
 | some i =>
  simp only [hi,Bool.and_eq_true] at h3;obtain ⟨⟨⟨⟨a1,a2⟩,a3⟩,a4⟩,a5⟩:=h3;cases hz:i.zero with
  | none=>simp [hz] at a5
  | some z =>
   simp only [hz,Bool.and_eq_true] at a5;exact ⟨i,z,rfl,Nat.eq_of_beq_eq_true a1,Nat.eq_of_beq_eq_true a2,by simpa [Nat.blt_eq] using a3,by simpa [Nat.blt_eq] using a4,hz,Nat.eq_of_beq_eq_true a5.1,Qmt a5.2⟩
theorem Qis {e:TypeId} (h:oneB P T e=true):(∀ d,fit T d (.inl e)=true->d.isRow=false) /\ ∃ i z,P.info? e=some i /\ i.size=1 /\ i.zero=some z /\ z.cells.size=1:=by
 simp only [oneB,Bool.and_eq_true] at h;obtain ⟨h1,h2⟩:=h;refine ⟨fun d hf=>?_,?_⟩
 · cases hd:T.ty e <;> simp [hd] at h1 <;> cases d <;> simp_all [fit,D.isRow]
 · cases hi:P.info? e with
   | none=>simp [hi] at h2
   | some i =>
    simp only [hi,Bool.and_eq_true] at h2;cases hz:i.zero with
    | none=>simp [hz] at h2
    | some z=>simp only [hz] at h2;exact ⟨i,z,rfl,Nat.eq_of_beq_eq_true h2.1,hz,Nat.eq_of_beq_eq_true h2.2⟩
theorem Qit {k v:TypeId} {ck cv:C.Ty} (h:mapB P T k v ck cv=true):T.ty k=T.ty (T.ety ck) /\ T.ty v=T.ty (T.ety cv) /\ ((∃ ik,T.ty k=.int ik) \/ T.ty k=.str \/ T.ty k=.bool) /\
 ∃ i z,P.info? v=some i /\ i.zero=some z /\ ∀ X,RV T X (T.enc cv (T.dflt cv)) z:=by
 simp only [mapB,Bool.and_eq_true] at h;obtain ⟨⟨⟨h1,h2⟩,h3⟩,h4⟩:=h;refine ⟨Qir h1,Qir h2,?_,?_⟩
 · cases hd:T.ty k <;> simp [hd] at h3 ⊢
 · cases hi:P.info? v with
   | none=>simp [hi] at h4
   | some i =>
    simp only [hi] at h4;cases hz:i.zero with
    | none=>simp [hz] at h4
    | some z =>
     refine ⟨i,z,rfl,hz,fun X=>?_⟩;cases z with
     | agg cs =>
      simp only [hz,Bool.and_eq_true] at h4;exact .inl ⟨h4.1,cs.toList,Qmt h4.2 X,by simp⟩
     | _ =>
      simp only [hz,Bool.and_eq_true,Bool.not_eq_true'] at h4;exact .inr ⟨h4.1,Qmt h4.2 X⟩
theorem Qrv {sz:Nat} {u:TypeId} (this:Q5 P T u (.bool) sz=true):P.underlying u=some .bool /\ sz=1:=by
 unfold Q5 at this
 split at this <;> simp_all
theorem Qsi {sz:Nat} {u:TypeId} {k:IntKind} (this:Q5 P T u (.int k) sz=true):P.underlying u=some (.int k) /\ sz=1:=by
 unfold Q5 at this
 split at this <;> simp_all
theorem Qsj {sz:Nat} {u:TypeId} (this:Q5 P T u (.str) sz=true):P.underlying u=some .string /\ sz=1:=by
 unfold Q5 at this
 split at this <;> simp_all
theorem Qsk {sz:Nat} {u:TypeId} {e:TypeId} (this:Q5 P T u (.ptr e) sz=true):P.underlying u=some (.pointer e) /\ sz=1:=by
 unfold Q5 at this
 split at this <;> simp_all
theorem sFnB {sz:Nat} {u:TypeId} (this:Q5 P T u (.fn) sz=true):(∃ a b c,P.underlying u=some (.func a b c)) /\ sz=1:=by
 unfold Q5 at this
 split at this <;> simp_all
theorem Qsl {sz:Nat} {u:TypeId} {e:TypeId} (this:Q5 P T u (.dsl e) sz=true):P.underlying u=some (.slice e) /\ sz=1 /\ oneB P T e=true:=by
 unfold Q5 at this
 split at this <;> simp_all
 obtain ⟨⟨e1,_⟩,h⟩:=this;rw [<- e1];exact h
theorem Qsm {sz:Nat} {u:TypeId} {k:TypeId} {v:TypeId} {ck:C.Ty} {cv:C.Ty} (this:Q5 P T u (.map k v ck cv) sz=true):P.underlying u=some (.map k v) /\ sz=1 /\ mapB P T k v ck cv=true:=by
 unfold Q5 at this
 split at this <;> simp_all
 obtain ⟨⟨⟨e1,e2⟩,_⟩,h⟩:=this;rw [<- e1,<- e2];exact h
theorem Qsn {sz:Nat} {u:TypeId} {n:Nat} {e:TypeId} {t:C.Ty} (this:Q5 P T u (.arr n e t) sz=true):P.underlying u=some (.array n e) /\ P.eqGuardType P.depth u=false /\ sz=n * T.size e /\ Qcx P T e t=true:=by
 unfold Q5 at this
 split at this <;> simp_all
 obtain ⟨⟨⟨⟨_,e1⟩,_⟩,_⟩,h⟩:=this;rw [<- e1];exact h
theorem sSlB {sz:Nat} {u:TypeId} {e:TypeId} {t:C.Ty} (this:Q5 P T u (.sl e t) sz=true):P.underlying u=some (.slice e) /\ sz=1 /\ Qcx P T e t=true:=by
 unfold Q5 at this
 split at this <;> simp_all
 obtain ⟨⟨e1,_⟩,h⟩:=this;rw [<- e1];exact h
theorem sStB {sz:Nat} {u:TypeId} {fs:List TypeId} (this:Q5 P T u (.struct false fs) sz=true):∃ fields:Array Field,P.underlying u=some (.struct fields) /\ fields.toList.map (·.type)=fs /\ sz=QM T fs /\ QgG T fields.toList 0=true /\ P.stoodInHeld u=false /\ P.eqGuardType P.depth u=false /\
 (∀ f ∈ fields.toList,f.name ≠ "_") /\ ∀ f ∈ fs,∃ i,P.info? f=some i /\ i.size=T.size f /\ 0 < T.size f:=by
 unfold Q5 at this
 split at this
 case h_4 fs' fields e1 e2 =>
  simp only [GT.struct.injEq,true_and] at e1;subst e1;simp only [Bool.and_eq_true,Bool.not_eq_true',List.all_eq_true] at this;obtain ⟨⟨⟨⟨⟨⟨a1,a2⟩,a3⟩,a4⟩,a5⟩,a6⟩,a7⟩:=this;refine ⟨fields,e2,eq_of_beq a1,Nat.eq_of_beq_eq_true a2,a3,a4,a5,fun f hf=>by simpa using a6 f hf,fun f hf=>?_⟩
  have:=a7 f hf;cases hi:P.info? f with
  | none=>simp [hi] at this
  | some i=>simp only [hi,Bool.and_eq_true] at this;exact ⟨i,rfl,Nat.eq_of_beq_eq_true this.1,by simpa [Nat.blt_eq] using this.2⟩
 all_goals simp_all
theorem Qso {sz:Nat} {u:TypeId} {fs:List TypeId} (this:Q5 P T u (.struct true fs) sz=true):sz=QM T fs /\ ∃ e,P.underlying u=some (.array fs.length e) /\ fs=List.replicate fs.length e /\ 0 < fs.length /\ ∃ i,P.info? e=some i /\ i.size=T.size e:=by
 unfold Q5 at this
 split at this
 case h_5 fs' n e e1 e2 =>
  simp only [GT.struct.injEq,true_and] at e1;subst e1;simp only [Bool.and_eq_true] at this;obtain ⟨⟨⟨⟨a1,a2⟩,a3⟩,a4⟩,a5⟩:=this;have a1:=Nat.eq_of_beq_eq_true a1;refine ⟨Nat.eq_of_beq_eq_true a4,e,by rw [e2,a1],eq_of_beq a2,by simpa [Nat.blt_eq] using a3,?_⟩
  cases hi:P.info? e with
  | none=>simp [hi] at a5
  | some i=>simp only [hi] at a5;exact ⟨i,rfl,Nat.eq_of_beq_eq_true a5⟩
 all_goals simp_all
structure Qrw (T:Tab C):Prop where
 encRefs:∀ t x,(T.enc t x).refs=[]
 encFit:∀ t x,fit T (T.enc t x) (.inl (T.ety t))=true
 decR:∀ X t d x cs,T.dec t d=some x->R T X false d cs->R T X false (T.enc t x) cs
 eqb:∀ t a b r,T.eqb t a b=some r->eqS (T.enc t a) (T.enc t b)=some r
 u8s:∀ t f l,T.u8s t=some f->bytesOf T l=some (f l)
 ofU8s:∀ t g l,T.ofU8s t=some g->(g l).map (T.enc t)=l.map fun b=>.int .u8 (b.toNat:Int)
theorem Qrx {cd:Cod C} {t:Tree (Row C)} {pre:List (Nat × Array Value)} {settle:TypeId->Bool} (h:t.all (rowB P (ZV cd t pre settle))=true) (hc:Qrw (ZV cd t pre settle)) (ho:P.follows .mixedOrders=true):QU P (ZV cd t pre settle):=by
 have row:∀ u,(ZV cd t pre settle).ty u ≠ .none -> ∃ r,t.get u=some r /\ rowB P (ZV cd t pre settle) u r=true /\ (ZV cd t pre settle).ty u=r.g /\ (ZV cd t pre settle).size u=r.size /\ (ZV cd t pre settle).zero u=r.zero:=by
  intro u hu;cases hg:t.get u with
  | none=>exact (hu (by simp [ZV,hg])).elim
  | some r=>exact ⟨r,rfl,Tree.get_all h hg,by simp [ZV,hg],by simp [ZV,hg],by simp [ZV,hg]⟩
 have shape:∀ u,(ZV cd t pre settle).ty u ≠ .none->Q5 P (ZV cd t pre settle) u ((ZV cd t pre settle).ty u) ((ZV cd t pre settle).size u)=true /\ 0 < (ZV cd t pre settle).size u /\ ∃ i,P.info? u=some i /\ i.size=(ZV cd t pre settle).size u:=by
  intro u hu;obtain ⟨r,_,h1,h2,h3,_⟩:=row u hu;simp only [rowB,Bool.and_eq_true] at h1;obtain ⟨⟨a1,a2⟩,a3⟩:=h1;refine ⟨by rw [h2,h3];exact a3,by rw [h3];simpa [Nat.blt_eq] using a1,?_⟩
  cases hi:P.info? u with
  | none=>simp [hi] at a2
  | some i=>simp only [hi,Bool.and_eq_true] at a2;exact ⟨i,rfl,by rw [h3];exact Nat.eq_of_beq_eq_true a2.1⟩
 generalize hT:ZV cd t pre settle=T at *
 have sh:∀ u g,T.ty u=g->g ≠ .none->Q5 P T u g (T.size u)=true:=fun u g hg hn=>by have:=(shape u (by rw [hg];exact hn)).1;rw [hg] at this;exact this
 have sBool:∀ u,T.ty u=.bool->P.underlying u=some .bool /\ T.size u=1:=fun u hu=>Qrv (sh u _ hu (by simp))
 have sInt:∀ u k,T.ty u=.int k->P.underlying u=some (.int k) /\ T.size u=1:=fun u k hu=>Qsi (sh u _ hu (by simp))
 have sStr:∀ u,T.ty u=.str->P.underlying u=some .string /\ T.size u=1:=fun u hu=>Qsj (sh u _ hu (by simp))
 have sPtr:∀ u e,T.ty u=.ptr e->P.underlying u=some (.pointer e) /\ T.size u=1:=fun u k hu=>Qsk (sh u _ hu (by simp))
 have sFn:∀ u,T.ty u=.fn->(∃ a b c,P.underlying u=some (.func a b c)) /\ T.size u=1:=fun u hu=>sFnB (sh u _ hu (by simp))
 have sDsl:∀ u e,T.ty u=.dsl e->P.underlying u=some (.slice e) /\ T.size u=1 /\ oneB P T e=true:=fun u e hu=>Qsl (sh u _ hu (by simp))
 have sMap:∀ u k v ck cv,T.ty u=.map k v ck cv->P.underlying u=some (.map k v) /\ T.size u=1 /\ mapB P T k v ck cv=true:=fun u k v ck cv hu=>Qsm (sh u _ hu (by simp))
 have sArr:∀ u n e t,T.ty u=.arr n e t->P.underlying u=some (.array n e) /\ P.eqGuardType P.depth u=false /\ T.size u=n * T.size e /\ Qcx P T e t=true:=fun u n e t hu=>Qsn (sh u _ hu (by simp))
 have sSl:∀ u e t,T.ty u=.sl e t->P.underlying u=some (.slice e) /\ T.size u=1 /\ Qcx P T e t=true:=fun u e t hu=>sSlB (sh u _ hu (by simp))
 have sSt:∀ u fs,T.ty u=.struct false fs -> ∃ fields:Array Field,P.underlying u=some (.struct fields) /\ fields.toList.map (·.type)=fs /\ T.size u=QM T fs /\ QgG T fields.toList 0=true /\ P.stoodInHeld u=false /\ P.eqGuardType P.depth u=false /\
  (∀ f ∈ fields.toList,f.name ≠ "_") /\ ∀ f ∈ fs,∃ i,P.info? f=some i /\ i.size=T.size f /\ 0 < T.size f:=fun u fs hu=>sStB (sh u _ hu (by simp))
 have sRow:∀ u fs,T.ty u=.struct true fs->T.size u=QM T fs /\ ∃ e,P.underlying u=some (.array fs.length e) /\ fs=List.replicate fs.length e /\ 0 < fs.length /\ ∃ i,P.info? e=some i /\ i.size=T.size e:=fun u fs hu=>Qso (sh u _ hu (by simp))
 refine ⟨⟨hc.encRefs,hc.encFit,hc.decR,hc.u8s,hc.ofU8s,?_,?_,?_,fun u hu=>(sBool u hu).2,fun u k hu=>(sInt u k hu).2,fun u hu=>(sStr u hu).2,fun u e hu=>(sPtr u e hu).2,fun u hu=>(sFn u hu).2,fun u e hu=>(sDsl u e hu).2.1,fun u k v ck cv hu=>(sMap u k v ck cv hu).2.1,fun u hu=>(shape u (fun h=>hu h)).2.1⟩,
  fun u hu=>(sBool u hu).1,fun u k hu=>(sInt u k hu).1,fun u hu=>(sStr u hu).1,?_,?_,fun u fs hu=>(sRow u fs hu).2,?_,fun u e t hu=>(sSl u e t hu).1,?_,fun u e hu=>⟨(sDsl u e hu).1,Qis (sDsl u e hu).2.2⟩,fun u k v ck cv hu=>⟨(sMap u k v ck cv hu).1,Qit (sMap u k v ck cv hu).2.2⟩,fun u e hu=>(sPtr u e hu).1,fun u hu=>(sFn u hu).1,?_,?_,hc.eqb,ho⟩
 · intro u a fs hu;cases a with
   | false=>obtain ⟨_,_,_,h3,_⟩:=sSt u fs hu;exact h3
   | true=>exact (sRow u fs hu).1
 · intro u n e t hu;obtain ⟨_,_,h3,h4⟩:=sArr u n e t hu;exact ⟨h3,(VT h4).1⟩
 · intro u e t hu;obtain ⟨_,h3,h4⟩:=sSl u e t hu;exact ⟨h3,(VT h4).1⟩
 · intro u fs hu;obtain ⟨fields,h1,h2,_,h4,h5,h6,h7,_⟩:=sSt u fs hu;refine ⟨fields,h1,h2,fun i f hf=>?_,h5,h6,h7⟩;have:=QaE fields.toList 0 h4 i f (by rw [Array.getElem?_toList];exact hf)
   rw [this,h2];simp
 · intro u fs f hu hf;obtain ⟨_,_,_,_,_,_,_,_,h8⟩:=sSt u fs hu;exact h8 f hf
 · intro u n e t hu;obtain ⟨h1,h2,_⟩:=sArr u n e t hu;exact ⟨h1,h2⟩
 · rintro u e t (⟨n,hu⟩ | hu)
   · exact (VT (sArr u n e t hu).2.2.2).2
   · exact (VT (sSl u e t hu).2.2).2
 · intro u d hf;refine (shape u (fun hn=>?_)).2.2;cases d <;> simp [fit,hn] at hf
 · intro u z hz;subst hT;cases hg:t.get u with
   | none=>simp [ZV,hg] at hz
   | some r =>
    have hr:=Tree.get_all h hg;have hz':r.zero=some z:=by simpa [ZV,hg] using hz
    simp only [rowB,Bool.and_eq_true] at hr;obtain ⟨⟨a1,a2⟩,a3⟩:=hr;cases hi:P.info? u with
    | none=>simp [hi] at a2
    | some i =>
     simp only [hi,Bool.and_eq_true,hz'] at a2;cases hv:i.zero with
     | none=>simp [hv] at a2
     | some v =>
      simp only [hv,Bool.and_eq_true] at a2;exact ⟨i,v,rfl,hv,List.isEmpty_iff.1 a2.2.1,Qmt a2.2.2⟩
end
structure Zb where
 key:Int
 value:Int
 deriving DecidableEq
structure Item where
 key:Int
 place:Int
 value:Int
 deriving DecidableEq
structure Line where
 offset:Int
 place:Int
 j:Int
 key:Int
 value:Int
 deriving DecidableEq
structure Rec where
 place:Int
 yes:Bool
 writes:List Zb
 deriving DecidableEq
structure St where
 place:Int
 items:List Item
 l0:List Line
 l1:List Line
 l2:List Line
 c0:Int
 c1:Int
 c2:Int
 deriving DecidableEq
structure Sector where
 n:Int
 b:List UInt8
 deriving DecidableEq
structure Frame where
 prog:Int
 at':Int
 r:List Int
 deriving DecidableEq
structure Qb where
 kind:Int
 a:Int
 b:Int
 v:Int
 gen:Int
 text:List UInt8
 args:List Int
 deriving DecidableEq
structure Event where
 client:Int
 act:Qb
 got:Int
 deriving DecidableEq
structure Gone where
 handle:Int
 node:Bool
 epoch:Int
 deriving DecidableEq
structure Try where
 place:Int
 start:Int
 writes:List Zb
 deriving DecidableEq
structure Task where
 client:Int
 stack:List Frame
 got:List Int
 over:Bool
 deriving DecidableEq
structure Txn where
 id:Int
 start:Int
 writes:List Zb
 deriving DecidableEq
section
variable {C:Cdc} {T:Tab C} {X:Cx}
def Qmu (k:IntKind):D C->Option Int
 | .int k' n=>if k'=k then some n else none
 | _=>none
def Qpq:D C->Option Bool
 | .bool b=>some b
 | _=>none
def Kd (t:C.Ty) (n:Nat):D C->Option (List (C.A t))
 | .arr t' m l=>if h:t'=t then (if m=n then some (h ▸ l) else none) else none
 | _=>none
theorem Qpr {k:IntKind} {d:D C} {x:Int} {cs:List Value} (hd:Qmu k d=some x) (hr:R T X false d cs):R T X false (.int k x) cs:=by
 unfold Qmu at hd;split at hd
 · split at hd
   · rename_i h;subst h;cases hd;exact hr
   · cases hd
 · cases hd
theorem Qps {d:D C} {x:Bool} {cs:List Value} (hd:Qpq d=some x) (hr:R T X false d cs):R T X false (.bool x) cs:=by
 unfold Qpq at hd;split at hd
 · cases hd;exact hr
 · cases hd
theorem Qbt {t:C.Ty} {d:D C} {x:List (C.A t)} {cs:List Value} (hd:D.asList t d=some x) (hr:R T X false d cs):R T X false (.sl t false x) cs:=by
 unfold D.asList at hd
 split at hd
 · cases hd;cases hr;exact .sl0 _ _ _
 · rename_i t' cp l
   split at hd
   · rename_i he;cases he;cases hd;cases hr with
     | sl0=>exact .sl0 _ _ _
     | sl a1 a2 a3 a4=>exact .sl a1 a2 a3 (by simp)
   · cases hd
 · cases hd
theorem Qmv {t:C.Ty} {n:Nat} {d:D C} {x:List (C.A t)} {cs:List Value} (hd:Kd t n d=some x) (hr:R T X false d cs):R T X false (.arr t n x) cs:=by
 unfold Kd at hd
 split at hd
 · split at hd
   · rename_i he;cases he
     split at hd
     · rename_i hn;subst hn;cases hd;exact hr
     · cases hd
   · cases hd
 · cases hd
theorem QI {d ds d' ds':D C} {cs:List Value} (hr:R T X false (.acons d ds) cs) (h1:∀ c,R T X false d c->R T X false d' c) (h2:∀ c,R T X false ds c->R T X false ds' c):R T X false (.acons d' ds') cs:=by
 cases hr with
 | acons a b=>exact .acons (h1 _ a) (h2 _ b)
end
structure Pick where
 client:Int
 do_:Int
 key:Int
 value:Int
 place:Int
 many:Int
structure Disk where
 now:List (Sector)
 sure:List (Sector)
structure WorldS where
 c:List (Int)
 d:Disk
inductive RTy | bool | frame | int | item | l_item | pick | sector | task
 deriving DecidableEq
@[reducible] def RA:RTy->Type
 | .bool=>Bool
 | .frame=>Frame
 | .int=>Int
 | .item=>Item
 | .l_item=>List (Item)
 | .pick=>Pick
 | .sector=>Sector
 | .task=>Task
@[reducible] def RC:Cdc:=⟨RTy,inferInstance,RA⟩
def Qiu (x:Pick):D RC:=.acons (.int .i64 (Pick.client x)) (.acons (.int .i64 (Pick.do_ x)) (.acons (.int .i64 (Pick.key x)) (.acons (.int .i64 (Pick.value x)) (.acons (.int .i64 (Pick.place x)) (.acons (.int .i64 (Pick.many x)) (.anil))))))
def Qiv:D RC->Option Pick
 | .acons (.int .i64 a0) (.acons (.int .i64 a1) (.acons (.int .i64 a2) (.acons (.int .i64 a3) (.acons (.int .i64 a4) (.acons (.int .i64 a5) (.anil))))))=>some ⟨a0,a1,a2,a3,a4,a5⟩
 | _=>none
theorem Qpt {T:Tab RC} {X:Cx} {d:D RC} {x:Pick} {cs:List Value} (hd:Qiv d=some x) (hr:R T X false d cs):R T X false (Qiu x) cs:=by
 unfold Qiv at hd
 split at hd
 · skip
   cases hd;exact QI hr (fun _ h=>h) (fun _ hr=>QI hr (fun _ h=>h) (fun _ hr=>QI hr (fun _ h=>h) (fun _ hr=>QI hr (fun _ h=>h) (fun _ hr=>QI hr (fun _ h=>h) (fun _ hr=>QI hr (fun _ h=>h) (fun _ hr=>hr))))))
 · cases hd
def Qiw (x:Item):D RC:=.acons (.int .i64 (Item.key x)) (.acons (.int .i64 (Item.place x)) (.acons (.int .i64 (Item.value x)) (.anil)))
def Qix:D RC->Option Item
 | .acons (.int .i64 a0) (.acons (.int .i64 a1) (.acons (.int .i64 a2) (.anil)))=>some ⟨a0,a1,a2⟩
 | _=>none
theorem Qpu {T:Tab RC} {X:Cx} {d:D RC} {x:Item} {cs:List Value} (hd:Qix d=some x) (hr:R T X false d cs):R T X false (Qiw x) cs:=by
 unfold Qix at hd
 split at hd
 · skip
   cases hd;exact QI hr (fun _ h=>h) (fun _ hr=>QI hr (fun _ h=>h) (fun _ hr=>QI hr (fun _ h=>h) (fun _ hr=>hr)))
 · cases hd
def KR (x:Sector):D RC:=.acons (.int .i64 (Sector.n x)) (.acons (.str (Sector.b x)) (.anil))
def KS:D RC->Option Sector
 | .acons (.int .i64 a0) (.acons (.str a1) (.anil))=>some ⟨a0,a1⟩
 | _=>none
theorem Qiy {T:Tab RC} {X:Cx} {d:D RC} {x:Sector} {cs:List Value} (hd:KS d=some x) (hr:R T X false d cs):R T X false (KR x) cs:=by
 unfold KS at hd
 split at hd
 · skip
   cases hd;exact QI hr (fun _ h=>h) (fun _ hr=>QI hr (fun _ h=>h) (fun _ hr=>hr))
 · cases hd
def Qcy (x:Frame):D RC:=.acons (.int .i8 (Frame.prog x)) (.acons (.int .i64 (Frame.at' x)) (.acons (.arr (C:=RC) .int 96 (Frame.r x)) (.anil)))
def Qcz:D RC->Option Frame
 | .acons (.int .i8 a0) (.acons (.int .i64 a1) (.acons (a2) (.anil)))=>match Kd (C:=RC) .int 96 a2 with | some b2=>(some ⟨a0,a1,b2⟩) | none=>none
 | _=>none
theorem Qmw {T:Tab RC} {X:Cx} {d:D RC} {x:Frame} {cs:List Value} (hd:Qcz d=some x) (hr:R T X false d cs):R T X false (Qcy x) cs:=by
 unfold Qcz at hd
 split at hd
 · skip
   split at hd
   case h_2=>cases hd
   rename_i h2;cases hd;exact QI hr (fun _ h=>h) (fun _ hr=>QI hr (fun _ h=>h) (fun _ hr=>QI hr (fun _ h=>Qmv h2 h) (fun _ hr=>hr)))
 · cases hd
def Qiz (x:Task) (c0 c1:Bool):D RC:=.acons (.int .i64 (Task.client x)) (.acons (.sl (C:=RC) .frame c0 (Task.stack x)) (.acons (.sl (C:=RC) .int c1 (Task.got x)) (.acons (.bool (Task.over x)) (.anil))))
def Qry (x:Task):D RC:=.acons (.int .i64 (Task.client x)) (.acons (.sl (C:=RC) .frame false (Task.stack x)) (.acons (.sl (C:=RC) .int false (Task.got x)) (.acons (.bool (Task.over x)) (.anil))))
def QiA:D RC->Option Task
 | .acons (.int .i64 a0) (.acons (a1) (.acons (a2) (.acons (.bool a3) (.anil))))=>match D.asList (C:=RC) .frame a1 with | some b1=>(match D.asList (C:=RC) .int a2 with | some b2=>(some ⟨a0,b1,b2,a3⟩) | none=>none) | none=>none
 | _=>none
theorem Qpv {T:Tab RC} {X:Cx} {d:D RC} {x:Task} {cs:List Value} (hd:QiA d=some x) (hr:R T X false d cs):R T X false (Qry x) cs:=by
 unfold QiA at hd
 split at hd
 · skip
   split at hd
   case h_2=>cases hd
   rename_i h1
   split at hd
   case h_2=>cases hd
   rename_i h2;cases hd;exact QI hr (fun _ h=>h) (fun _ hr=>QI hr (fun _ h=>Qbt h1 h) (fun _ hr=>QI hr (fun _ h=>Qbt h2 h) (fun _ hr=>QI hr (fun _ h=>h) (fun _ hr=>hr))))
 · cases hd
def rEnc:(t:RTy)->RA t->D RC
 | .bool,x=>.bool (x)
 | .frame,x=>Qcy (x)
 | .int,x=>.int .i64 (x)
 | .item,x=>Qiw (x)
 | .l_item,x=>.sl (C:=RC) .item false (x)
 | .pick,x=>Qiu (x)
 | .sector,x=>KR (x)
 | .task,x=>Qry (x)
def rDec:(t:RTy)->D RC->Option (RA t)
 | .bool=>Qpq
 | .frame=>Qcz
 | .int=>Qmu .i64
 | .item=>Qix
 | .l_item=>D.asList (C:=RC) .item
 | .pick=>Qiv
 | .sector=>KS
 | .task=>QiA
def Zc:(t:RTy)->RA t
 | .bool=>(false:Bool)
 | .frame=>(⟨0,0,List.replicate 96 (0)⟩:Frame)
 | .int=>(0:Int)
 | .item=>(⟨0,0,0⟩:Item)
 | .l_item=>([]:List (Item))
 | .pick=>(⟨0,0,0,0,0,0⟩:Pick)
 | .sector=>(⟨0,[]⟩:Sector)
 | .task=>(⟨0,[],[],false⟩:Task)
def rEqb:(t:RTy)->RA t->RA t->Option Bool
 | .bool=>fun (a b:Bool)=>some (a == b)
 | .frame=>fun _ _=>none
 | .int=>fun (a b:Int)=>some (a == b)
 | .item=>fun _ _=>none
 | .l_item=>fun _ _=>none
 | .pick=>fun _ _=>none
 | .sector=>fun _ _=>none
 | .task=>fun _ _=>none
def rU8s:(t:RTy)->Option (List (RA t)->List UInt8)
 | _=>none
def QiB:(t:RTy)->Option (List UInt8->List (RA t))
 | _=>none
def rCod (ety:RTy->TypeId):Cod RC:=⟨rEnc,rDec,Zc,ety,rEqb,rU8s,QiB⟩
theorem Qsp {T:Tab RC} {X:Cx}:∀ (t:RTy) {d:D RC} {x:RA t} {cs:List Value},rDec t d=some x->R T X false d cs->R T X false (rEnc t x) cs
 | .bool,_,_,_,hd,hr=>Qps hd hr
 | .frame,_,_,_,hd,hr=>Qmw hd hr
 | .int,_,_,_,hd,hr=>Qpr hd hr
 | .item,_,_,_,hd,hr=>Qpu hd hr
 | .l_item,_,_,_,hd,hr=>Qbt hd hr
 | .pick,_,_,_,hd,hr=>Qpt hd hr
 | .sector,_,_,_,hd,hr=>Qiy hd hr
 | .task,_,_,_,hd,hr=>Qpv hd hr
theorem Qsq:∀ {t:RTy} {a b:RA t} {r:Bool},rEqb t a b=some r->eqS (rEnc t a) (rEnc t b)=some r
 | .bool,a,b,r,h=>by
  simp only [rEqb,rEnc,eqS] at h ⊢;simpa using h
 | .frame,_,_,_,h=>absurd (show (none:Option Bool)=some _ from h) (by simp)
 | .int,a,b,r,h=>by
  simp only [rEqb,rEnc,eqS] at h ⊢;simpa using h
 | .item,_,_,_,h=>absurd (show (none:Option Bool)=some _ from h) (by simp)
 | .l_item,_,_,_,h=>absurd (show (none:Option Bool)=some _ from h) (by simp)
 | .pick,_,_,_,h=>absurd (show (none:Option Bool)=some _ from h) (by simp)
 | .sector,_,_,_,h=>absurd (show (none:Option Bool)=some _ from h) (by simp)
 | .task,_,_,_,h=>absurd (show (none:Option Bool)=some _ from h) (by simp)
theorem Qsr (t:RTy) (x:RA t):(rEnc t x).refs=[]:=by cases t <;> rfl
theorem Qss {T:Tab RC} (he:T.enc=rEnc):∀ (t:RTy) (f:List (RA t)->List UInt8) (l:List (RA t)),rU8s t=some f->bytesOf T l=some (f l):=by
 intro t f l h;cases t <;> simp [rU8s] at h
theorem Qpw:∀ (t:RTy) (g:List UInt8->List (RA t)) (l:List UInt8),QiB t=some g->(g l).map (rEnc t)=l.map fun b=>.int .u8 (b.toNat:Int):=by
 intro t g l h;cases t <;> simp [QiB] at h
theorem Qst {ety:RTy->TypeId} {t:Tree (Row RC)} {pre:List (Nat × Array Value)} {settle:TypeId->Bool} (hfit:∀ t' x,fit (ZV (rCod ety) t pre settle) (rEnc t' x) (.inl (ety t'))=true):Qrw (ZV (rCod ety) t pre settle) :=
 ⟨Qsr,hfit,fun X t d x cs hd hr=>Qsp t hd hr,fun t a b r h=>Qsq h,Qss rfl,Qpw⟩
open Go.Proofs
set_option maxRecDepth 100000
def Qop:RTy->TypeId:=fun | .bool=>4 | .frame=>92 | .int=>3 | .item=>39 | .l_item=>33 | .pick=>28 | .sector=>120 | .task=>47
def QiC:Tree (Row RC):=(.node 89 ⟨.fn,1,8,some .nilfn⟩ (.node 48 ⟨(.arr 4 47 .task),16,256,some (.arr .task 4 (List.replicate 4 (Zc .task)))⟩ (.node 31 ⟨(.struct false [25,3,4,3,29,30]),52,416,some (.acons .nilp (.acons (.int .i64 0) (.acons (.bool false) (.acons (.int .i64 0) (.acons (.arr .pick 4 (List.replicate 4 (Zc .pick))) (.acons (.arr .int 24 (List.replicate 24 (Zc .int))) .anil))))))⟩ (.node 22 ⟨(.sl 28 .pick),1,24,some (.sl .pick true [])⟩ (.node 5 ⟨(.int .u8),1,1,some (.int .u8 0)⟩ (.node 3 ⟨(.int .i64),1,8,some (.int .i64 0)⟩ (.node 2 ⟨(.int .i64),1,8,some (.int .i64 0)⟩ (.node 1 ⟨.fn,1,8,some .nilfn⟩ .nil .nil) .nil) (.node 4 ⟨.bool,1,1,some (.bool false)⟩ .nil .nil)) (.node 12 ⟨(.int .u64),1,8,some (.int .u64 0)⟩ (.node 9 ⟨.str,1,16,some (.str [])⟩ .nil .nil) (.node 21 ⟨(.int .i32),1,4,some (.int .i32 0)⟩ .nil .nil))) (.node 27 ⟨(.struct false [3,3,3,3,3,3]),6,48,some (.acons (.int .i64 0) (.acons (.int .i64 0) (.acons (.int .i64 0) (.acons (.int .i64 0) (.acons (.int .i64 0) (.acons (.int .i64 0) .anil))))))⟩ (.node 25 ⟨(.ptr 51),1,8,some .nilp⟩ (.node 24 ⟨(.ptr 32),1,8,some .nilp⟩ (.node 23 ⟨.fn,1,8,some .nilfn⟩ .nil .nil) .nil) (.node 26 ⟨.fn,1,8,some .nilfn⟩ .nil .nil)) (.node 29 ⟨(.arr 4 28 .pick),24,192,some (.arr .pick 4 (List.replicate 4 (Zc .pick)))⟩ (.node 28 ⟨(.struct false [3,3,3,3,3,3]),6,48,some (.acons (.int .i64 0) (.acons (.int .i64 0) (.acons (.int .i64 0) (.acons (.int .i64 0) (.acons (.int .i64 0) (.acons (.int .i64 0) .anil))))))⟩ .nil .nil) (.node 30 ⟨(.arr 24 3 .int),24,192,some (.arr .int 24 (List.replicate 24 (Zc .int)))⟩ .nil .nil)))) (.node 40 ⟨(.sl 120 .sector),1,24,some (.sl .sector true [])⟩ (.node 36 ⟨.fn,1,8,some .nilfn⟩ (.node 34 ⟨(.arr 24 33 .l_item),24,576,some (.arr .l_item 24 (List.replicate 24 (Zc .l_item)))⟩ (.node 33 ⟨(.sl 39 .item),1,24,some (.sl .item true [])⟩ (.node 32 ⟨(.struct false [25,3,4,3,29,30]),52,416,some (.acons .nilp (.acons (.int .i64 0) (.acons (.bool false) (.acons (.int .i64 0) (.acons (.arr .pick 4 (List.replicate 4 (Zc .pick))) (.acons (.arr .int 24 (List.replicate 24 (Zc .int))) .anil))))))⟩ .nil .nil) .nil) (.node 35 ⟨(.sl 3 .int),1,24,some (.sl .int true [])⟩ .nil .nil)) (.node 38 ⟨(.struct false [3,3,3]),3,24,some (.acons (.int .i64 0) (.acons (.int .i64 0) (.acons (.int .i64 0) .anil)))⟩ (.node 37 ⟨.fn,1,8,some .nilfn⟩ .nil .nil) (.node 39 ⟨(.struct false [3,3,3]),3,24,some (.acons (.int .i64 0) (.acons (.int .i64 0) (.acons (.int .i64 0) .anil)))⟩ .nil .nil))) (.node 44 ⟨(.struct false [35,42]),3,72,some (.acons (.sl .int true []) (.acons (.acons (.sl .sector true []) (.acons (.sl .sector true []) .anil)) .anil))⟩ (.node 42 ⟨(.struct false [40,40]),2,48,some (.acons (.sl .sector true []) (.acons (.sl .sector true []) .anil))⟩ (.node 41 ⟨(.struct false [40,40]),2,48,some (.acons (.sl .sector true []) (.acons (.sl .sector true []) .anil))⟩ .nil .nil) (.node 43 ⟨(.struct false [35,42]),3,72,some (.acons (.sl .int true []) (.acons (.acons (.sl .sector true []) (.acons (.sl .sector true []) .anil)) .anil))⟩ .nil .nil)) (.node 46 ⟨(.struct false [3,45,35,4]),4,64,some (.acons (.int .i64 0) (.acons (.sl .frame true []) (.acons (.sl .int true []) (.acons (.bool false) .anil))))⟩ (.node 45 ⟨(.sl 92 .frame),1,24,some (.sl .frame true [])⟩ .nil .nil) (.node 47 ⟨(.struct false [3,45,35,4]),4,64,some (.acons (.int .i64 0) (.acons (.sl .frame true []) (.acons (.sl .int true []) (.acons (.bool false) .anil))))⟩ .nil .nil))))) (.node 69 ⟨.fn,1,8,some .nilfn⟩ (.node 58 ⟨.fn,1,8,some .nilfn⟩ (.node 54 ⟨.fn,1,8,some .nilfn⟩ (.node 51 ⟨(.struct false [44,48,48,49]),39,592,some (.acons (.acons (.sl .int true []) (.acons (.acons (.sl .sector true []) (.acons (.sl .sector true []) .anil)) .anil)) (.acons (.arr .task 4 (List.replicate 4 (Zc .task))) (.acons (.arr .task 4 (List.replicate 4 (Zc .task))) (.acons (.arr .bool 4 (List.replicate 4 (Zc .bool))) .anil))))⟩ (.node 50 ⟨(.struct false [44,48,48,49]),39,592,some (.acons (.acons (.sl .int true []) (.acons (.acons (.sl .sector true []) (.acons (.sl .sector true []) .anil)) .anil)) (.acons (.arr .task 4 (List.replicate 4 (Zc .task))) (.acons (.arr .task 4 (List.replicate 4 (Zc .task))) (.acons (.arr .bool 4 (List.replicate 4 (Zc .bool))) .anil))))⟩ (.node 49 ⟨(.arr 4 4 .bool),4,4,some (.arr .bool 4 (List.replicate 4 (Zc .bool)))⟩ .nil .nil) .nil) (.node 53 ⟨.fn,1,8,some .nilfn⟩ .nil .nil)) (.node 56 ⟨.fn,1,8,some .nilfn⟩ (.node 55 ⟨.fn,1,8,some .nilfn⟩ .nil .nil) (.node 57 ⟨.fn,1,8,some .nilfn⟩ .nil .nil))) (.node 64 ⟨.fn,1,8,some .nilfn⟩ (.node 61 ⟨.fn,1,8,some .nilfn⟩ (.node 60 ⟨.fn,1,8,some .nilfn⟩ (.node 59 ⟨(.int .i8),1,1,some (.int .i8 0)⟩ .nil .nil) .nil) (.node 62 ⟨(.int .i64),1,8,some (.int .i64 0)⟩ .nil .nil)) (.node 67 ⟨.fn,1,8,some .nilfn⟩ (.node 65 ⟨.fn,1,8,some .nilfn⟩ .nil .nil) (.node 68 ⟨.fn,1,8,some .nilfn⟩ .nil .nil)))) (.node 81 ⟨.fn,1,8,some .nilfn⟩ (.node 75 ⟨.fn,1,8,some .nilfn⟩ (.node 73 ⟨.fn,1,8,some .nilfn⟩ (.node 71 ⟨(.struct false [59,3,3,3,3,9,35]),7,80,some (.acons (.int .i8 0) (.acons (.int .i64 0) (.acons (.int .i64 0) (.acons (.int .i64 0) (.acons (.int .i64 0) (.acons (.str []) (.acons (.sl .int true []) .anil)))))))⟩ (.node 70 ⟨(.struct false [59,3,3,3,3,9,35]),7,80,some (.acons (.int .i8 0) (.acons (.int .i64 0) (.acons (.int .i64 0) (.acons (.int .i64 0) (.acons (.int .i64 0) (.acons (.str []) (.acons (.sl .int true []) .anil)))))))⟩ .nil .nil) .nil) (.node 74 ⟨.fn,1,8,some .nilfn⟩ .nil .nil)) (.node 79 ⟨.fn,1,8,some .nilfn⟩ (.node 77 ⟨.fn,1,8,some .nilfn⟩ .nil .nil) (.node 80 ⟨(.map 3 4 .int .bool),1,8,some .nilm⟩ .nil .nil))) (.node 85 ⟨.fn,1,8,some .nilfn⟩ (.node 83 ⟨(.int .u64),1,8,some (.int .u64 0)⟩ (.node 82 ⟨.fn,1,8,some .nilfn⟩ .nil .nil) (.node 84 ⟨.fn,1,8,some .nilfn⟩ .nil .nil)) (.node 87 ⟨.fn,1,8,some .nilfn⟩ (.node 86 ⟨.fn,1,8,some .nilfn⟩ .nil .nil) (.node 88 ⟨.fn,1,8,some .nilfn⟩ .nil .nil)))))) (.node 129 ⟨.fn,1,8,some .nilfn⟩ (.node 111 ⟨.fn,1,8,some .nilfn⟩ (.node 102 ⟨.fn,1,8,some .nilfn⟩ (.node 96 ⟨.fn,1,8,some .nilfn⟩ (.node 92 ⟨(.struct false [59,3,90]),98,784,some (.acons (.int .i8 0) (.acons (.int .i64 0) (.acons (.arr .int 96 (List.replicate 96 (Zc .int))) .anil)))⟩ (.node 91 ⟨(.struct false [59,3,90]),98,784,some (.acons (.int .i8 0) (.acons (.int .i64 0) (.acons (.arr .int 96 (List.replicate 96 (Zc .int))) .anil)))⟩ (.node 90 ⟨(.arr 96 3 .int),96,768,some (.arr .int 96 (List.replicate 96 (Zc .int)))⟩ .nil .nil) .nil) (.node 94 ⟨.fn,1,8,some .nilfn⟩ .nil .nil)) (.node 99 ⟨.fn,1,8,some .nilfn⟩ (.node 98 ⟨.fn,1,8,some .nilfn⟩ .nil .nil) (.node 101 ⟨.fn,1,8,some .nilfn⟩ .nil .nil))) (.node 107 ⟨.fn,1,8,some .nilfn⟩ (.node 105 ⟨.fn,1,8,some .nilfn⟩ (.node 104 ⟨.fn,1,8,some .nilfn⟩ (.node 103 ⟨.fn,1,8,some .nilfn⟩ .nil .nil) .nil) (.node 106 ⟨.fn,1,8,some .nilfn⟩ .nil .nil)) (.node 109 ⟨(.struct false [92,3]),99,792,some (.acons (.acons (.int .i8 0) (.acons (.int .i64 0) (.acons (.arr .int 96 (List.replicate 96 (Zc .int))) .anil))) (.acons (.int .i64 0) .anil))⟩ (.node 108 ⟨(.struct false [92,3]),99,792,some (.acons (.acons (.int .i8 0) (.acons (.int .i64 0) (.acons (.arr .int 96 (List.replicate 96 (Zc .int))) .anil))) (.acons (.int .i64 0) .anil))⟩ .nil .nil) (.node 110 ⟨.fn,1,8,some .nilfn⟩ .nil .nil)))) (.node 120 ⟨(.struct false [3,9]),2,24,some (.acons (.int .i64 0) (.acons (.str []) .anil))⟩ (.node 116 ⟨.fn,1,8,some .nilfn⟩ (.node 114 ⟨.fn,1,8,some .nilfn⟩ (.node 113 ⟨(.struct true [112,112,112]),18,144,some (.acons (.acons .nilfn (.acons .nilfn (.acons .nilfn (.acons .nilfn (.acons .nilfn (.acons .nilfn .anil)))))) (.acons (.acons .nilfn (.acons .nilfn (.acons .nilfn (.acons .nilfn (.acons .nilfn (.acons .nilfn .anil)))))) (.acons (.acons .nilfn (.acons .nilfn (.acons .nilfn (.acons .nilfn (.acons .nilfn (.acons .nilfn .anil)))))) .anil)))⟩ (.node 112 ⟨(.struct true [110,110,110,110,110,110]),6,48,some (.acons .nilfn (.acons .nilfn (.acons .nilfn (.acons .nilfn (.acons .nilfn (.acons .nilfn .anil))))))⟩ .nil .nil) .nil) (.node 115 ⟨.fn,1,8,some .nilfn⟩ .nil .nil)) (.node 118 ⟨.fn,1,8,some .nilfn⟩ (.node 117 ⟨.fn,1,8,some .nilfn⟩ .nil .nil) (.node 119 ⟨(.struct false [3,9]),2,24,some (.acons (.int .i64 0) (.acons (.str []) .anil))⟩ .nil .nil))) (.node 125 ⟨.fn,1,8,some .nilfn⟩ (.node 123 ⟨.fn,1,8,some .nilfn⟩ (.node 121 ⟨.fn,1,8,some .nilfn⟩ .nil .nil) (.node 124 ⟨.fn,1,8,some .nilfn⟩ .nil .nil)) (.node 127 ⟨.fn,1,8,some .nilfn⟩ (.node 126 ⟨.fn,1,8,some .nilfn⟩ .nil .nil) (.node 128 ⟨.fn,1,8,some .nilfn⟩ .nil .nil))))) (.node 146 ⟨(.struct true [145,145,145]),3,24,some (.acons .nilfn (.acons .nilfn (.acons .nilfn .anil)))⟩ (.node 138 ⟨.fn,1,8,some .nilfn⟩ (.node 134 ⟨(.ptr 149),1,8,some .nilp⟩ (.node 132 ⟨.fn,1,8,some .nilfn⟩ (.node 131 ⟨.fn,1,8,some .nilfn⟩ (.node 130 ⟨.fn,1,8,some .nilfn⟩ .nil .nil) .nil) (.node 133 ⟨.fn,1,8,some .nilfn⟩ .nil .nil)) (.node 136 ⟨.fn,1,8,some .nilfn⟩ (.node 135 ⟨(.dsl 133),1,24,some .nils⟩ .nil .nil) (.node 137 ⟨.fn,1,8,some .nilfn⟩ .nil .nil))) (.node 142 ⟨.fn,1,8,some .nilfn⟩ (.node 140 ⟨.fn,1,8,some .nilfn⟩ (.node 139 ⟨.fn,1,8,some .nilfn⟩ .nil .nil) (.node 141 ⟨.fn,1,8,some .nilfn⟩ .nil .nil)) (.node 144 ⟨(.struct false [92,3]),99,792,some (.acons (.acons (.int .i8 0) (.acons (.int .i64 0) (.acons (.arr .int 96 (List.replicate 96 (Zc .int))) .anil))) (.acons (.int .i64 0) .anil))⟩ (.node 143 ⟨(.struct false [92,3]),99,792,some (.acons (.acons (.int .i8 0) (.acons (.int .i64 0) (.acons (.arr .int 96 (List.replicate 96 (Zc .int))) .anil))) (.acons (.int .i64 0) .anil))⟩ .nil .nil) (.node 145 ⟨.fn,1,8,some .nilfn⟩ .nil .nil)))) (.node 155 ⟨.fn,1,8,some .nilfn⟩ (.node 151 ⟨.fn,1,8,some .nilfn⟩ (.node 149 ⟨(.struct false [92,35,3]),100,816,some (.acons (.acons (.int .i8 0) (.acons (.int .i64 0) (.acons (.arr .int 96 (List.replicate 96 (Zc .int))) .anil))) (.acons (.sl .int true []) (.acons (.int .i64 0) .anil)))⟩ (.node 148 ⟨(.struct false [92,35,3]),100,816,some (.acons (.acons (.int .i8 0) (.acons (.int .i64 0) (.acons (.arr .int 96 (List.replicate 96 (Zc .int))) .anil))) (.acons (.sl .int true []) (.acons (.int .i64 0) .anil)))⟩ (.node 147 ⟨(.struct true [145,145]),2,16,some (.acons .nilfn (.acons .nilfn .anil))⟩ .nil .nil) .nil) (.node 150 ⟨.fn,1,8,some .nilfn⟩ .nil .nil)) (.node 153 ⟨(.ptr 158),1,8,some .nilp⟩ (.node 152 ⟨.fn,1,8,some .nilfn⟩ .nil .nil) (.node 154 ⟨(.dsl 152),1,24,some .nils⟩ .nil .nil))) (.node 159 ⟨.fn,1,8,some .nilfn⟩ (.node 157 ⟨(.struct false [92,35,3]),100,816,some (.acons (.acons (.int .i8 0) (.acons (.int .i64 0) (.acons (.arr .int 96 (List.replicate 96 (Zc .int))) .anil))) (.acons (.sl .int true []) (.acons (.int .i64 0) .anil)))⟩ (.node 156 ⟨.fn,1,8,some .nilfn⟩ .nil .nil) (.node 158 ⟨(.struct false [92,35,3]),100,816,some (.acons (.acons (.int .i8 0) (.acons (.int .i64 0) (.acons (.arr .int 96 (List.replicate 96 (Zc .int))) .anil))) (.acons (.sl .int true []) (.acons (.int .i64 0) .anil)))⟩ .nil .nil)) (.node 168 ⟨.fn,1,8,some .nilfn⟩ (.node 165 ⟨(.int .u32),1,4,some (.int .u32 0)⟩ .nil .nil) (.node 169 ⟨(.ptr 5),1,8,some .nilp⟩ .nil .nil)))))))
def s18:Tab RC:=ZV (rCod Qop) QiC [] (fun t => !(Nat.beq t 44))
theorem Qmx:QiC.all (rowB Tryz.prog s18)=true:=by kernel_rfl
theorem QiD:Tryz.prog.follows .mixedOrders=true:=by kernel_rfl
theorem Qpx:∀ t x,fit s18 (rEnc t x) (.inl (Qop t))=true
 | .bool,_=>rfl
 | .frame,_=>rfl
 | .int,_=>rfl
 | .item,_=>rfl
 | .l_item,_=>rfl
 | .pick,_=>rfl
 | .sector,_=>rfl
 | .task,_=>rfl
theorem Qc:QU Tryz.prog s18:=Qrx Qmx (Qst Qpx) QiD
section
variable {C:Cdc} {P:Program} {T:Tab C} {Φ:Fns C}
open Pg (Ex)
def fnB (P:Program) (f:FuncId):Bool:=match P.funcs[f]? with
 | some fn => !(fn.name == "runtime.NumGoroutine") && (match fn.body with
  | some b=>ZH fn.ntmps b
  | none=>true)
 | none=>true
def fnsB (P:Program):Nat->Bool
 | 0=>true
 | n+1=>fnB P n && fnsB P n
theorem QcA:∀ (n f:Nat),fnsB P n=true->f < n->fnB P f=true
 | 0,f,_,h=>by omega
 | n+1,f,h,hf=>by
  simp only [fnsB,Bool.and_eq_true] at h
  by_cases he:f=n
  · subst he;exact h.1
  · exact QcA n f h.2 (by omega)
def QgH (P:Program) (n:Nat) (keeps:FuncId->Bool) (rest:FuncId->List (Nat × List Nat):=fun _=>[]) (total:FuncId->Bool:=fun _=>false) (lend:FuncId->Bool:=fun _=>false):Fns C where
 fn f:=bif Nat.blt f n then P.funcs[f]? else none
 keeps:=keeps
 rest:=rest
 total:=total
 lend:=lend
 ospec _:=none
 spec _:=none
 loop _ _:=none
def Fns.addSpec (Φ:Fns C) (g:FuncId) (s:List (D C)->Option (Bool × D C)):Fns C:={ Φ with spec:=fun f=>bif Nat.beq f g then some s else Φ.spec f }
def Fns.addObj (Φ:Fns C) (g:FuncId) (s:List (D C)->Pg C (D C)):Fns C:={ Φ with ospec:=fun f=>bif Nat.beq f g then some s else Φ.ospec f }
def Fns.addLoop (Φ:Fns C) (g key:Nat) (s:Env C->Pg C (Ev.X × Env C)):Fns C:={ Φ with loop:=fun f k=>bif Nat.beq f g && Nat.beq k key then some s else Φ.loop f k }
theorem QgI {n:Nat} {keeps:FuncId->Bool} {rest:FuncId->List (Nat × List Nat)} {total lend:FuncId->Bool} (h:fnsB P n=true):Qh P T (QgH P n keeps rest total lend) where
 fn f fn hf:=by
  simp only [QgH] at hf;cases hb:Nat.blt f n with
  | false=>simp [hb] at hf
  | true =>
   simp only [hb,cond_true] at hf;have:=QcA n f h (by simpa [Nat.blt_eq] using hb)
   simp only [fnB,hf,Bool.and_eq_true,Bool.not_eq_true'] at this;refine ⟨hf,this.1,fun body hbody=>?_⟩;have h2:=this.2;rw [hbody] at h2;exact h2
 spec g s args d hs:=by simp [QgH] at hs
 ospec g s hs:=by simp [QgH] at hs
 loop f fn body b s _ _ _ hs:=by simp [QgH] at hs
theorem Qh.addSpec (F:Qh P T Φ) {g:FuncId} {s:List (D C)->Option (Bool × D C)}
 (hs:∀ args d,s args=some (true,d)->(∀ a ∈ args,D.refs a=[]) /\ KO P T g args d):Qh P T (Φ.addSpec g s) where
 fn:=F.fn
 spec f s' args d h1 h2:=by
  simp only [Fns.addSpec] at h1;cases hb:Nat.beq f g with
  | false=>simp only [hb,cond_false] at h1;exact F.spec f s' args d h1 h2
  | true =>
   simp only [hb,cond_true,Option.some.injEq] at h1;subst h1;have:=Nat.eq_of_beq_eq_true hb;subst this;exact hs args d h2
 ospec:=F.ospec
 loop:=F.loop
theorem Qh.addEv (K:QU P T) (F:Qh P T Φ) {g:FuncId} {s:List (D C)->Option (Bool × D C)} (hs:∀ args d,s args=some (true,d)->(∀ a ∈ args,D.refs a=[]) /\ ∃ n,evF T Φ n g args=some d):Qh P T (Φ.addSpec g s) :=
 F.addSpec fun args d h=>by
  obtain ⟨h1,n,h2⟩:=hs args d h;exact ⟨h1,Qms K F h2 h1⟩
def QdT (P:Program) (T:Tab C) (g:FuncId) (s:List (D C)->Pg C (D C)):Prop :=
 ∀ args vs X h nx lim e d h' nx' tr,G T X h nx lim->RVs T X args vs->(∀ a ∈ args,∀ id ∈ D.refs a,old nx lim id)->nx' <= lim.top->Ex e (s args) h nx d h' nx' tr ->
  (callFunc g ⟨vs⟩).run P X.w=.ok (.enter g ⟨vs⟩) X.w /\ Calls P g ⟨vs⟩ X.w (Q7 T X nx lim h' nx' d)
theorem Qh.addObj (F:Qh P T Φ) {g:FuncId} {s:List (D C)->Pg C (D C)} (hs:QdT P T g s):Qh P T (Φ.addObj g s) where
 fn:=F.fn
 spec:=F.spec
 ospec f s' h1:=by
  simp only [Fns.addObj] at h1;cases hb:Nat.beq f g with
  | false=>simp only [hb,cond_false] at h1;exact F.ospec f s' h1
  | true =>
   simp only [hb,cond_true,Option.some.injEq] at h1;subst h1;have:=Nat.eq_of_beq_eq_true hb;subst this;exact hs
 loop:=F.loop
def QdU (P:Program) (T:Tab C) (Φ:Fns C) (g key:Nat) (s:Env C->Pg C (Ev.X × Env C)):Prop :=
 ∀ fn body b,Φ.fn g=some fn->fn.body=some body->b ∈ QN body->Qm b=key -> ∀ B,QaD B b -> ∀ X h nx lim e env x env' h' nx' tr a Q,G T X h nx lim->Qi T X nx lim env a.tmps->nx' <= lim.top->fn.ntmps <= a.tmps.size ->
  Ex e (s env) h nx (x,env') h' nx' tr->Qio T B X nx lim h' nx' env' a (Q (Qap x))->(Code.loop b).wp P Q a X.w
theorem Qh.addLoop (F:Qh P T Φ) {g key:Nat} {s:Env C->Pg C (Ev.X × Env C)} (hs:QdU P T Φ g key s):Qh P T (Φ.addLoop g key s) where
 fn:=F.fn
 spec:=F.spec
 ospec:=F.ospec
 loop f fn body b s' h1 h2 h3 h4:=by
  simp only [Fns.addLoop] at h4;cases hb:Nat.beq f g && Nat.beq (Qm b) key with
  | false=>simp only [hb,cond_false] at h4;exact F.loop f fn body b s' h1 h2 h3 h4
  | true =>
   simp only [hb,cond_true,Option.some.injEq] at h4;subst h4;simp only [Bool.and_eq_true] at hb;have e1:=Nat.eq_of_beq_eq_true hb.1;have e2:=Nat.eq_of_beq_eq_true hb.2;subst e1;exact hs fn body b h1 h2 h3 e2
def Sub (env env0:Env C):Prop := ∀ p ∈ env0,eget env p.1=p.2
theorem eget_mem:∀ (env:Env C) (t:Nat),eget env t=.top \/ (t,eget env t) ∈ env
 | [],t=>.inl rfl
 | (j,d)::r,t=>by
  rw [Ql]
  by_cases h:t=j
  · subst h;simp
  · simp only [h,if_false];rcases eget_mem r t with h' | h'
    · exact .inl h'
    · exact .inr (by simp [h'])
theorem Qi.sub {X:Cx} {nx nx':Nat} {lim lim':Lim} {env env0:Env C} {tmps:Array Value} (he:Qi T X nx lim env tmps) (hs:Sub env env0) (hr:∀ p ∈ env0,D.refs p.2=[]):Qi T X nx' lim' env0 tmps:=by
 intro t;rcases eget_mem env0 t with h | h
 · rw [h];exact RO.mk (RV.top _ _ _) rfl
 · refine ⟨?_,?_⟩
   · have:=hs _ h;simp only at this;rw [<- this];exact (he t).1
   · rw [hr _ h];simp
structure QgJ (w w':World):Prop where
 size:w.heap.size <= w'.heap.size
 same:∀ b,b < w.heap.size->w'.heap[b]? = w.heap[b]?
 os:w'.os=w.os
 tape:w'.tape=w.tape
 output:w'.output=w.output
 frz:∀ a:Addr,a.block < w.heap.size->w'.frozen? a=w.frozen? a
theorem QgJ.refl (w:World):QgJ w w:=⟨Nat.le_refl _,fun _ _=>rfl,rfl,rfl,rfl,fun _ _=>rfl⟩
theorem QgJ.trans {w w' w'':World} (h:QgJ w w') (k:QgJ w' w''):QgJ w w'' :=
 ⟨Nat.le_trans h.size k.size,fun b hb=>(k.same b (Nat.lt_of_lt_of_le hb h.size)).trans (h.same b hb),k.os.trans h.os,k.tape.trans h.tape,k.output.trans h.output,fun a ha=>(k.frz a (Nat.lt_of_lt_of_le ha h.size)).trans (h.frz a ha)⟩
theorem Qi.move (L:Laws T) {X X':Cx} {nx nx':Nat} {lim lim':Lim} {env:Env C} {tmps:Array Value} (he:Qi T X nx lim env tmps) (hr:∀ p ∈ env,D.refs p.2=[])
 (hk:Kps X X'):Qi T X' nx' lim' env tmps:=by
 intro t
 have h0:(eget env t).refs=[]:=by
  rcases eget_mem env t with h | h
  · rw [h];rfl
  · exact hr _ h
 refine ⟨(he t).1.mono T L.encOK hk fun id hi=>?_,?_⟩
 · rw [h0] at hi;simp at hi
 · rw [h0];simp
structure LoopSt (C:Cdc) (σ:Type) where
 canon:σ->Env C
 fin:σ->Ev.X × Env C
 Inv:σ->Prop
 μ:σ->Nat
theorem Zd {nt:Nat}:∀ (c:Code),ZH nt c=true -> ∀ b ∈ QN c,ZH nt b=true /\ ∀ b' ∈ QN b,b' ∈ QN c
 | .seq x y,h,b,hb=>by
  simp only [ZH,Bool.and_eq_true] at h;simp only [QN,List.mem_append] at hb ⊢;rcases hb with hb | hb
  · obtain ⟨q1,q2⟩:=Zd x h.1 b hb;exact ⟨q1,fun b' h'=>.inl (q2 b' h')⟩
  · obtain ⟨q1,q2⟩:=Zd y h.2 b hb;exact ⟨q1,fun b' h'=>.inr (q2 b' h')⟩
 | .cond _ x y,h,b,hb=>by
  simp only [ZH,Bool.and_eq_true] at h;simp only [QN,List.mem_append] at hb ⊢;rcases hb with hb | hb
  · obtain ⟨q1,q2⟩:=Zd x h.1 b hb;exact ⟨q1,fun b' h'=>.inl (q2 b' h')⟩
  · obtain ⟨q1,q2⟩:=Zd y h.2 b hb;exact ⟨q1,fun b' h'=>.inr (q2 b' h')⟩
 | .block _ x,h,b,hb=>by
  simp only [ZH] at h;simp only [QN] at hb ⊢;exact Zd x h b hb
 | .loop x,h,b,hb=>by
  simp only [ZH] at h;simp only [QN,List.mem_cons] at hb ⊢;rcases hb with rfl | hb
  · exact ⟨h,fun b' h'=>.inr h'⟩
  · obtain ⟨q1,q2⟩:=Zd x h b hb;exact ⟨q1,fun b' h'=>.inr (q2 b' h')⟩
 | .skip,_,b,hb=>by simp [QN] at hb
 | .region _ _ _,_,b,hb=>by simp [QN] at hb
 | .rangeFunc _ _ _ _,_,b,hb=>by simp [QN] at hb
 | .exit _,_,b,hb=>by simp [QN] at hb
 | .scope x,h,b,hb=>by
  simp only [ZH] at h;simp only [QN] at hb ⊢;exact Zd x h b hb
 | .label _,_,b,hb=>by simp [QN] at hb
 | .goto _,_,b,hb=>by simp [QN] at hb
 | .ret,_,b,hb=>by simp [QN] at hb
end
section
variable {C:Cdc}
def D.ren (f:Nat->Nat):D C->D C
 | .acons d ds=>.acons (d.ren f) (ds.ren f)
 | .tup d=>.tup (d.ren f)
 | .fn g d=>.fn g (d.ren f)
 | .yl n s p a b d=>.yl n s p a b (d.ren f)
 | .cptr d=>.cptr (d.ren f)
 | .dsl n d=>.dsl n (d.ren f)
 | .mp id=>.mp (f id)
 | .vs id n=>.vs (f id) n
 | .ptr id p=>.ptr (f id) p
 | .asl t id p lo n=>.asl t (f id) p lo n
 | .vptr id n p=>.vptr (f id) n p
 | d=>d
def Obj.ren (f:Nat->Nat):Obj C->Obj C
 | .var t d=>.var t (d.ren f)
 | o=>o
theorem D.ren_refs (f:Nat->Nat):∀ d:D C,(d.ren f).refs=d.refs.map f
 | .acons d ds=>by simp [D.ren,D.refs,D.ren_refs f d,D.ren_refs f ds]
 | .tup d=>by simp [D.ren,D.refs,D.ren_refs f d]
 | .fn g d=>by simp [D.ren,D.refs,D.ren_refs f d]
 | .cptr d=>by simp [D.ren,D.refs,D.ren_refs f d]
 | .dsl _ d=>by simp [D.ren,D.refs,D.ren_refs f d]
 | .mp id=>rfl
 | .vs id n=>rfl
 | .ptr id p=>rfl
 | .asl _ id _ _ _=>rfl
 | .vptr id n p=>rfl
 | .bool _=>rfl
 | .int _ _=>rfl
 | .str _=>rfl
 | .anil=>rfl
 | .arr _ _ _=>rfl
 | .nils=>rfl
 | .sl _ _ _=>rfl
 | .nilp=>rfl
 | .nilfn=>rfl
 | .nilm=>rfl
 | .bm _ _ _=>rfl
 | .yl _ _ _ _ _ d=>by simp [D.ren,D.refs,D.ren_refs f d]
 | .top=>rfl
theorem Obj.ren_refs (f:Nat->Nat) (o:Obj C):(o.ren f).refs=o.refs.map f:=by
 cases o with
 | var t d=>exact D.ren_refs f d
 | vec t own l=>rfl
 | map _ _ _=>rfl
theorem D.ren_ren (f g:Nat->Nat):∀ d:D C,(∀ id ∈ d.refs,g (f id)=id)->(d.ren f).ren g=d
 | .acons d ds,h=>by
  simp only [D.refs,List.mem_append] at h;simp [D.ren,D.ren_ren f g d (fun id hi=>h id (.inl hi)),D.ren_ren f g ds (fun id hi=>h id (.inr hi))]
 | .tup d,h=>by simp [D.ren,D.ren_ren f g d (by simpa [D.refs] using h)]
 | .fn _ d,h=>by simp [D.ren,D.ren_ren f g d (by simpa [D.refs] using h)]
 | .yl _ _ _ _ _ d,h=>by simp [D.ren,D.ren_ren f g d (by simpa [D.refs] using h)]
 | .cptr d,h=>by simp [D.ren,D.ren_ren f g d (by simpa [D.refs] using h)]
 | .dsl _ d,h=>by simp [D.ren,D.ren_ren f g d (by simpa [D.refs] using h)]
 | .mp id,h=>by simp [D.ren,h id (by simp [D.refs])]
 | .vs id n,h=>by simp [D.ren,h id (by simp [D.refs])]
 | .ptr id p,h=>by simp [D.ren,h id (by simp [D.refs])]
 | .asl _ id _ _ _,h=>by simp [D.ren,h id (by simp [D.refs])]
 | .vptr id n p,h=>by simp [D.ren,h id (by simp [D.refs])]
 | .bool _,_=>rfl
 | .int _ _,_=>rfl
 | .str _,_=>rfl
 | .anil,_=>rfl
 | .arr _ _ _,_=>rfl
 | .nils,_=>rfl
 | .sl _ _ _,_=>rfl
 | .nilp,_=>rfl
 | .nilfn,_=>rfl
 | .nilm,_=>rfl
 | .bm _ _ _,_=>rfl
 | .top,_=>rfl
theorem D.ren_same (f:Nat->Nat):∀ d:D C,d.refs=[]->d.ren f=d
 | .acons d ds,h=>by
  simp only [D.refs,List.append_eq_nil_iff] at h;simp [D.ren,D.ren_same f d h.1,D.ren_same f ds h.2]
 | .tup d,h=>by simp [D.ren,D.ren_same f d (by simpa [D.refs] using h)]
 | .fn _ d,h=>by simp [D.ren,D.ren_same f d (by simpa [D.refs] using h)]
 | .yl _ _ _ _ _ d,h=>by simp [D.ren,D.ren_same f d (by simpa [D.refs] using h)]
 | .cptr d,h=>by simp [D.ren,D.ren_same f d (by simpa [D.refs] using h)]
 | .dsl _ d,h=>by simp [D.ren,D.ren_same f d (by simpa [D.refs] using h)]
 | .mp id,h=>by simp [D.refs] at h
 | .vs id n,h=>by simp [D.refs] at h
 | .ptr id p,h=>by simp [D.refs] at h
 | .asl _ id _ _ _,h=>by simp [D.refs] at h
 | .vptr id n p,h=>by simp [D.refs] at h
 | .bool _,_=>rfl
 | .int _ _,_=>rfl
 | .str _,_=>rfl
 | .anil,_=>rfl
 | .arr _ _ _,_=>rfl
 | .nils,_=>rfl
 | .sl _ _ _,_=>rfl
 | .nilp,_=>rfl
 | .nilfn,_=>rfl
 | .nilm,_=>rfl
 | .bm _ _ _,_=>rfl
 | .top,_=>rfl
theorem D.ren_noYl (f:Nat->Nat) (d:D C):(d.ren f).noYl=d.noYl:=by
 induction d with
 | acons d ds i1 i2=>simp only [D.ren,D.noYl,i1,i2]
 | tup d ih=>simpa only [D.ren,D.noYl] using ih
 | fn _ d ih=>simpa only [D.ren,D.noYl] using ih
 | cptr d ih=>simpa only [D.ren,D.noYl] using ih
 | dsl _ d ih=>simpa only [D.ren,D.noYl] using ih
 | _=>rfl
theorem D.ren_row (f:Nat->Nat) (d:D C):(d.ren f).isRow=d.isRow:=by cases d <;> rfl
theorem D.ren_ones (f:Nat->Nat) (d:D C):(d.ren f).ones=d.ones:=by
 induction d with
 | acons d ds _ ih=>simp only [D.ren,D.ones,D.ren_row,ih]
 | _=>rfl
variable {T:Tab C}
theorem Vr (f:Nat->Nat):∀ (d:D C) (u:TypeId ⊕ List TypeId),fit T (d.ren f) u=fit T d u
 | .acons d ds,.inl t=>by
  simp only [D.ren,fit]
  split <;> simp [Vr f d,Vr f ds]
 | .acons d ds,.inr []=>by simp [D.ren,fit]
 | .acons d ds,.inr (a::fs)=>by simp [D.ren,fit,Vr f d,Vr f ds]
 | .tup _,.inl _=>rfl
 | .tup _,.inr _=>rfl
 | .fn _ d,.inl _=>by simp only [D.ren,fit,D.ren_noYl]
 | .yl _ _ _ _ _ _,.inl _=>rfl
 | .yl _ _ _ _ _ _,.inr _=>rfl
 | .fn _ _,.inr _=>rfl
 | .cptr d,.inl _=>by simp only [D.ren,fit,D.ren_noYl]
 | .cptr _,.inr _=>rfl
 | .dsl _ d,.inl _=>by simp only [D.ren,fit,D.ren_noYl]
 | .dsl _ _,.inr _=>rfl
 | .mp _,.inl _=>rfl
 | .mp _,.inr _=>rfl
 | .vs _ _,.inl _=>rfl
 | .vs _ _,.inr _=>rfl
 | .ptr _ _,.inl _=>rfl
 | .asl _ _ _ _ _,.inl _=>rfl
 | .asl _ _ _ _ _,.inr _=>rfl
 | .ptr _ _,.inr _=>rfl
 | .vptr _ _ _,.inl _=>rfl
 | .vptr _ _ _,.inr _=>rfl
 | .bool _,_=>rfl
 | .int _ _,_=>rfl
 | .str _,_=>rfl
 | .anil,_=>rfl
 | .arr _ _ _,_=>rfl
 | .nils,_=>rfl
 | .sl _ _ _,_=>rfl
 | .nilp,_=>rfl
 | .nilfn,_=>rfl
 | .nilm,_=>rfl
 | .bm _ _ _,_=>rfl
 | .top,_=>rfl
theorem R.renG {X X':Cx} {y:Bool} (f:Nat->Nat) (he:∀ t x,(T.enc t x).refs=[] /\ (T.enc t x).noYl=true) (hX:∀ b o v,X.w.cell? ⟨b,o,none⟩=some v->X.free b o->X'.w.cell? ⟨b,o,none⟩=some v /\ X'.free b o)
 (hL:y=true -> ∀ l r,X.w.heap[l]? = some (.loop r)->(∀ o,¬ X.mine l o)->X'.w.heap[l]? = some (.loop r) /\ ∀ o,¬ X'.mine l o)
 {m:Bool} {d:D C} {vs:List Value} (h:R T X m d vs):(∀ id ∈ d.refs,Qf (X.ρ id) (X'.ρ (f id)))->(y=true \/ d.noYl=true)->R T X' m (d.ren f) vs:=by
 induction h with
 | bool b=>exact fun _ _=>.bool b
 | int h=>exact fun _ _=>.int h
 | str s=>exact fun _ _=>.str s
 | anil=>exact fun _ _=>.anil
 | acons _ _ i1 i2 =>
  intro hr hy;simp only [D.refs,List.mem_append] at hr;exact .acons (i1 (fun id h=>hr id (.inl h)) (hy.imp id fun h=>by simp only [D.noYl,Bool.and_eq_true] at h;exact h.1)) (i2 (fun id h=>hr id (.inr h)) (hy.imp id fun h=>by simp only [D.noYl,Bool.and_eq_true] at h;exact h.2))
 | arr0 t=>exact fun _ _=>.arr0 t
 | @arrS t n x l c1 c2 _ _ i1 i2 =>
  intro _ hy;have h1:=i1 (by simp [he]) (.inr (he _ _).2)
  rw [D.ren_same f _ (he t x).1] at h1;exact .arrS h1 (i2 (by simp [D.refs]) (.inr rfl))
 | nils=>exact fun _ _=>.nils
 | sl0 t c a=>exact fun _ _=>.sl0 t c a
 | sl ha _ hc hcap ih=>exact fun _ _=>.sl (fun j v hj=>hX _ _ _ (ha j v hj).1 (ha j v hj).2) (ih (by simp [D.refs]) (.inr rfl)) hc hcap
 | @vs id n cp a h =>
  intro hr hy;refine .vs fun v e b lo hi hv=>?_;have hc:=hr id (by simp [D.refs])
  rw [hv] at hc;cases ho:X.ρ id with
  | none=>rw [ho] at hc;simp [Qf] at hc
  | some l =>
   rw [ho] at hc;cases l with
   | var b t=>simp [Qf] at hc
   | map b0=>simp [Qf] at hc
   | vec v0 e0 b0 lo0 hi0 =>
    simp only [Qf] at hc;have:=h _ _ _ _ _ ho;refine ⟨by omega,fun hl=>?_⟩
    have e1:=hc.2.2 (by omega)
    rw [e1];exact this.2 (by omega)
 | @ptr id p a h =>
  intro hr hy;refine .ptr fun b t hv=>?_;have hc:=hr id (by simp [D.refs])
  rw [hv] at hc;cases ho:X.ρ id with
  | none=>rw [ho] at hc;simp [Qf] at hc
  | some l =>
   rw [ho] at hc;cases l with
   | var b0 t0 =>
    simp only [Qf,Loc.var.injEq] at hc;obtain ⟨rfl,rfl⟩:=hc;exact h _ _ ho
   | vec v0 e0 b0 lo0 hi0=>simp [Qf] at hc
   | map b0=>simp [Qf] at hc
 | @asl ta id lo n cp p ao h hs hw =>
  intro hr hy;refine .asl (fun b t hv=>?_) hs (fun v e b lo hi hv=>?_)
  · have hc:=hr id (by simp [D.refs])
    rw [hv] at hc;cases ho:X.ρ id with
    | none=>rw [ho] at hc;simp [Qf] at hc
    | some l =>
     rw [ho] at hc;cases l with
     | var b0 t0 =>
      simp only [Qf,Loc.var.injEq] at hc;obtain ⟨rfl,rfl⟩:=hc;exact h _ _ ho
     | vec v0 e0 b0 lo0 hi0=>simp [Qf] at hc
     | map b0=>simp [Qf] at hc
  · have hc:=hr id (by simp [D.refs])
    rw [hv] at hc;cases ho:X.ρ id with
    | none=>rw [ho] at hc;simp [Qf] at hc
    | some l =>
     rw [ho] at hc;cases l with
     | var b t=>simp [Qf] at hc
     | map b0=>simp [Qf] at hc
     | vec v0 e0 b0 lo0 hi0 =>
      simp only [Qf] at hc;have:=hw _ _ _ _ _ ho;refine ⟨by omega,fun hl=>?_⟩
      have e1:=hc.2.2 (by omega)
      rw [e1,hc.1];exact this.2 (by omega)
 | @vptr id n i p a h =>
  intro hr hy;refine .vptr fun v e b lo hi hv=>?_;have hc:=hr id (by simp [D.refs])
  rw [hv] at hc;cases ho:X.ρ id with
  | none=>rw [ho] at hc;simp [Qf] at hc
  | some l =>
   rw [ho] at hc;cases l with
   | var b t=>simp [Qf] at hc
   | map b0=>simp [Qf] at hc
   | vec v0 e0 b0 lo0 hi0 =>
    simp only [Qf] at hc;have:=h _ _ _ _ _ ho;refine ⟨by omega,fun hl=>?_⟩
    have e1:=hc.2.2 (by omega)
    rw [e1,hc.1];exact this.2 (by omega)
 | cptr ha _ ih =>
  intro hr hy;exact .cptr (fun j v hj=>hX _ _ _ (ha j v hj).1 (ha j v hj).2) (ih (by simpa [D.refs] using hr) hy)
 | nilp=>exact fun _ _=>.nilp
 | dsl ha _ hn h1 ih =>
  intro hr hy;exact .dsl (fun j v hj=>hX _ _ _ (ha j v hj).1 (ha j v hj).2) (ih (by simpa [D.refs] using hr) hy) hn (by rw [D.ren_ones];exact h1)
 | @mp id b h =>
  intro hr hy;refine .mp fun b' hv=>?_;have hc:=hr id (by simp [D.refs])
  rw [hv] at hc;cases ho:X.ρ id with
  | none=>rw [ho] at hc;simp [Qf] at hc
  | some l =>
   rw [ho] at hc;cases l with
   | map b0 =>
    simp only [Qf,Loc.map.injEq] at hc;obtain rfl:=hc;exact h _ ho
   | _=>simp [Qf] at hc
 | fn _ ih=>exact fun hr hy=>.fn (ih (by simpa [D.refs] using hr) hy)
 | nilfn=>exact fun _ _=>.nilfn
 | nilm=>exact fun _ _=>.nilm
 | bm h=>exact fun _ _=>.bm h
 | yl hw hm hs _ ih =>
  intro hr hy;rcases hy with hy | hy
  · obtain ⟨h1,h2⟩:=hL hy _ _ hw hm;exact .yl h1 h2 hs (ih (by simpa [D.refs] using hr) (.inl hy))
  · cases hy
 | tup _ ih=>exact fun hr hy=>.tup (ih (by simpa [D.refs] using hr) hy)
 | top v=>exact fun _ _=>.top v
 | vnil=>exact fun _ _=>.vnil
 | vrow _ hr' _ i1 i2 =>
  intro hr hy;simp only [D.refs,List.mem_append] at hr;exact .vrow (i1 (fun id h=>hr id (.inl h)) (hy.imp id fun h=>by simp only [D.noYl,Bool.and_eq_true] at h;exact h.1)) (by rw [D.ren_row];exact hr') (i2 (fun id h=>hr id (.inr h)) (hy.imp id fun h=>by simp only [D.noYl,Bool.and_eq_true] at h;exact h.2))
 | vone _ hr' _ i1 i2 =>
  intro hr hy;simp only [D.refs,List.mem_append] at hr;exact .vone (i1 (fun id h=>hr id (.inl h)) (hy.imp id fun h=>by simp only [D.noYl,Bool.and_eq_true] at h;exact h.1)) (by rw [D.ren_row];exact hr') (i2 (fun id h=>hr id (.inr h)) (hy.imp id fun h=>by simp only [D.noYl,Bool.and_eq_true] at h;exact h.2))
theorem R.ren {X X':Cx} (f:Nat->Nat) (he:∀ t x,(T.enc t x).refs=[] /\ (T.enc t x).noYl=true) (hX:Kps X X')
 {m:Bool} {d:D C} {vs:List Value} (h:R T X m d vs) (hr:∀ id ∈ d.refs,Qf (X.ρ id) (X'.ρ (f id))):R T X' m (d.ren f) vs :=
 h.renG (y:=true) f he hX.cell (fun _=>hX.loop) hr (.inl rfl)
theorem R.renE {X X':Cx} (f:Nat->Nat) (he:∀ t x,(T.enc t x).refs=[] /\ (T.enc t x).noYl=true) (hX:∀ b o v,X.w.cell? ⟨b,o,none⟩=some v->X.free b o->X'.w.cell? ⟨b,o,none⟩=some v /\ X'.free b o)
 {m:Bool} {d:D C} {vs:List Value} (h:R T X m d vs) (hn:d.noYl=true) (hr:∀ id ∈ d.refs,Qf (X.ρ id) (X'.ρ (f id))):R T X' m (d.ren f) vs :=
 h.renG (y:=false) f he hX (fun h=>by cases h) hr (.inr hn)
theorem RV.ren {X X':Cx} (f:Nat->Nat) (he:∀ t x,(T.enc t x).refs=[] /\ (T.enc t x).noYl=true) (hX:Kps X X')
 {d:D C} {v:Value} (h:RV T X d v) (hr:∀ id ∈ d.refs,Qf (X.ρ id) (X'.ρ (f id))):RV T X' (d.ren f) v:=by
 rcases h with ⟨h1,cs,h2,h3⟩ | ⟨h1,h2⟩
 · exact .inl ⟨by rw [D.ren_row];exact h1,cs,h2.ren f he hX hr,h3⟩
 · exact .inr ⟨by rw [D.ren_row];exact h1,h2.ren f he hX hr⟩
def Cx.part (X:Cx) (k:Nat) (f:Nat->Nat):Cx :=
 ⟨X.w,fun j=>if j < k then X.ρ (f j) else none,fun b o=>X.O b o \/ (X.mine b o /\ ∀ j,j < k -> ∀ l,X.ρ (f j)=some l -> ¬ l.owns b o)⟩
theorem Cx.part_mine {X:Cx} {k:Nat} {f:Nat->Nat} {b o:Nat}:(X.part k f).mine b o ↔ ∃ j l,j < k /\ X.ρ (f j)=some l /\ l.owns b o:=by
 constructor
 · rintro ⟨j,l,h1,h2⟩
   simp only [Cx.part] at h1
   split at h1
   · exact ⟨j,l,by assumption,h1,h2⟩
   · cases h1
 · rintro ⟨j,l,h0,h1,h2⟩
   exact ⟨j,l,by simp [Cx.part,h0,h1],h2⟩
theorem Cx.part_free {X:Cx} {k:Nat} {f:Nat->Nat} {b o:Nat}:(X.part k f).free b o ↔ X.free b o:=by
 constructor
 · rintro ⟨h1,h2⟩
   refine ⟨fun h=>h1 (.inl h),fun hm=>?_⟩
   by_cases hq:∃ j l,j < k /\ X.ρ (f j)=some l /\ l.owns b o
   · exact h2 (Cx.part_mine.2 hq)
   · exact h1 (.inr ⟨hm,fun j hj l hl ho=>hq ⟨j,l,hj,hl,ho⟩⟩)
 · rintro ⟨h1,h2⟩
   refine ⟨fun h=>h.elim h1 fun h=>h2 h.1,fun hm=>?_⟩;obtain ⟨j,l,_,hl,ho⟩:=Cx.part_mine.1 hm;exact h2 ⟨f j,l,hl,ho⟩
def hpOf:Nat->List (Obj C)->Heap C
 | _,[]=>[]
 | n,o::l=>(n,o)::hpOf (n+1) l
theorem Qe3:∀ (l:List (Obj C)) (n id:Nat),(hpOf n l).get id=if n <= id then l[id - n]? else none
 | [],n,id=>by simp [hpOf,Heap.get]
 | o::l,n,id=>by
  rw [hpOf,Qn,Qe3 l (n+1) id]
  by_cases h1:id=n
  · subst h1;simp
  · by_cases h2:n <= id
    · have h3:n+1 <= id:=by omega
      have h4:id - n=(id - (n+1))+1:=by omega
      simp [h1,h2,h3,h4]
    · have h3:¬ n+1 <= id:=by omega
      simp [h1,h2,h3]
theorem Qw (l:List (Obj C)) (id:Nat):(hpOf 0 l).get id=l[id]? := by rw [Qe3];simp
structure Part (h:Heap C) (os:List (Obj C)) (f:Nat->Nat):Prop where
 at':∀ j o,os[j]? = some o->h.get (f j)=some (o.ren f)
 inj:∀ i j,i < os.length->j < os.length->f i=f j->i=j
 refs:∀ o ∈ os,∀ r ∈ Obj.refs o,r < os.length
theorem QaF {f:Nat->Nat} {k:Nat} (hi:∀ i j,i < k->j < k->f i=f j->i=j):∃ g:Nat->Nat,∀ j,j < k->g (f j)=j:=by
 classical
 refine ⟨fun n=>if h:∃ j,j < k /\ f j=n then h.choose else 0,fun j hj=>?_⟩
 have hex:∃ i,i < k /\ f i=f j:=⟨j,hj,rfl⟩;simp only [hex,dif_pos];have h1:=hex.choose_spec;exact hi _ _ h1.1 hj h1.2
theorem Part.ctx (L:Laws T) {X:Cx} {h:Heap C} {nx:Nat} {lim:Lim} (g:G T X h nx lim) {os:List (Obj C)} {f:Nat->Nat} (p:Part h os f) (top:Nat):G T (X.part os.length f) (hpOf 0 os) os.length (lim0 top):=by
 obtain ⟨fi,hfi⟩:=QaF p.inj;have hX:Kps X (X.part os.length f):=⟨fun b o v h1 h2=>⟨h1,Cx.part_free.2 h2⟩,fun l r h1 h2=>⟨h1,fun o hm=>by obtain ⟨j,q,_,hl,ho⟩:=Cx.part_mine.1 hm;exact h2 o ⟨f j,q,hl,ho⟩⟩⟩
 refine ⟨?_,?_,?_,?_,?_,?_,?_,?_,Nat.zero_le _,?_⟩
 · intro id t d ho;rw [Qw] at ho;have hlt:id < os.length:=(List.getElem?_eq_some_iff.1 ho).1;obtain ⟨b,c,h1,h2,h3,h4⟩:=g.var (f id) t (d.ren f) (p.at' id _ ho);have hrefs:∀ r ∈ d.refs,r < os.length:=p.refs _ (List.mem_of_getElem? ho);refine ⟨b,c,by simp [Cx.part,hlt,h1],h2,?_,by rw [Vr] at h4;exact h4⟩
   have h5:=h3.ren (X':=X.part os.length f) fi L.encOK hX (fun r hr=>by
    rw [D.ren_refs,List.mem_map] at hr;obtain ⟨r0,hr0,rfl⟩:=hr;have:=hrefs r0 hr0;simp only [hfi r0 this,Cx.part,this,if_true];exact .refl _)
   rwa [D.ren_ren f fi d (fun r hr=>hfi r (hrefs r hr))] at h5
 · intro id t own l ho;rw [Qw] at ho;have hlt:id < os.length:=(List.getElem?_eq_some_iff.1 ho).1;obtain ⟨v,b,lo,hi,h1,h2⟩:=g.vec (f id) t own l (p.at' id _ ho);refine ⟨v,b,lo,hi,by simp [Cx.part,hlt,h1],?_⟩
   exact h2.move L hX.cell (fun _=>rfl) (L.posE t)
 · intro id ck cv l ho;rw [Qw] at ho;have hlt:id < os.length:=(List.getElem?_eq_some_iff.1 ho).1;obtain ⟨b,es,k,h1,h2,h3⟩:=g.map (f id) ck cv l (p.at' id _ ho);exact ⟨b,es,k,by simp [Cx.part,hlt,h1],h2,h3.move L hX.cell⟩
 · intro id l hr;simp only [Cx.part] at hr
   split at hr
   · rename_i hlt;rw [Qw];simp [hlt]
   · cases hr
 · intro id o ho;rw [Qw] at ho;have hlt:id < os.length:=(List.getElem?_eq_some_iff.1 ho).1;exact ⟨⟨.inl hlt,fun h=>h⟩,fun r hr=>⟨.inl (p.refs _ (List.mem_of_getElem? ho) r hr),fun h=>h⟩⟩
 · intro i j l l' b o o' h1 h2 h3 h4;simp only [Cx.part] at h1 h2
   split at h1
   · split at h2
     · exact p.inj i j (by assumption) (by assumption) (g.apart _ _ _ _ _ _ _ h1 h2 h3 h4)
     · cases h2
   · cases h1
 · intro b o hm;obtain ⟨j,l,hj,hl,ho⟩:=Cx.part_mine.1 hm;have:=g.outer b o ⟨_,l,hl,ho⟩;exact ⟨fun h=>h.elim this.1 fun h=>h.2 j hj l hl ho,this.2⟩
 · intro b o ho;exact ho.elim (g.outs b o) fun h=>(g.outer b o h.1).2
 · exact fun q hq=>⟨(g.pre q hq).1,fun o hm=>by
    obtain ⟨j,l,hj,hl,ho⟩:=Cx.part_mine.1 hm;exact (g.pre q hq).2 o ⟨_,l,hl,ho⟩⟩
theorem Part.back (L:Laws T) {X:Cx} {h h':Heap C} {nx:Nat} {lim:Lim} (g:G T X h nx lim) {os os':List (Obj C)} {f:Nat->Nat} (p:Part h os f) (hlen:os'.length=os.length) (hrefs:∀ o ∈ os',∀ r ∈ Obj.refs o,r < os.length)
 {X1:Cx} {lim1:Lim} (g1:G T X1 (hpOf 0 os') os.length lim1) (s1:Step (X.part os.length f) os.length (lim0 os.length) X1)
 (hin:∀ j o,os'[j]? = some o->h'.get (f j)=some (o.ren f)) (hout:∀ id,(∀ j,j < os.length->f j ≠ id)->h'.get id=h.get id) :
 ∃ X',X'.w=X1.w /\ G T X' h' nx lim /\ Step X nx lim X' /\ (∀ j,j < os.length->X'.ρ (f j)=X1.ρ j) /\ ∀ b o v,X1.w.cell? ⟨b,o,none⟩=some v->X1.free b o->X'.w.cell? ⟨b,o,none⟩=some v /\ X'.free b o:=by
 classical
 obtain ⟨fi,hfi⟩:=QaF p.inj
 let X':Cx:=⟨X1.w,fun id=>if ∃ j,j < os.length /\ f j=id then X1.ρ (fi id) else X.ρ id,X.O⟩
 have hρ1:∀ j,j < os.length->X'.ρ (f j)=X1.ρ j:=fun j hj=>by
  have:∃ i,i < os.length /\ f i=f j:=⟨j,hj,rfl⟩;simp only [X',this,if_true,hfi j hj]
 have hρ2:∀ id,(∀ j,j < os.length->f j ≠ id)->X'.ρ id=X.ρ id:=fun id hid=>by
  have:¬ ∃ j,j < os.length /\ f j=id:=fun ⟨j,hj,e⟩=>hid j hj e;simp only [X',this,if_false]
 have hcase:∀ id,(∃ j,j < os.length /\ f j=id) \/ (∀ j,j < os.length->f j ≠ id):=fun id=>by
  by_cases hq:∃ j,j < os.length /\ f j=id
  · exact .inl hq
  · exact .inr fun j hj e=>hq ⟨j,hj,e⟩
 have gp:=Part.ctx L g p os.length
 -- what the others own
 have hA:∀ id l b o,(∀ j,j < os.length->f j ≠ id)->X.ρ id=some l->l.owns b o->b < X.w.heap.size /\ (X.part os.length f).O b o /\ ∀ o',¬ (X.part os.length f).mine b o':=by
  intro id l b o hid hl ho;have hno:∀ j,j < os.length -> ∀ l',X.ρ (f j)=some l' -> ∀ o',¬ l'.owns b o':=fun j hj l' hl' o' ho'=>hid j hj (g.apart _ _ _ _ _ _ _ hl' hl ho' ho);refine ⟨(g.outer b o ⟨id,l,hl,ho⟩).2,.inr ⟨⟨id,l,hl,ho⟩,fun j hj l' hl'=>hno j hj l' hl' o⟩,fun o' hm=>?_⟩;obtain ⟨j,l',hj,hl',ho'⟩:=Cx.part_mine.1 hm;exact hno j hj l' hl' o' ho'
 have hmine:∀ b o,X'.mine b o->X1.mine b o \/ ∃ id l,(∀ j,j < os.length->f j ≠ id) /\ X.ρ id=some l /\ l.owns b o:=by
  rintro b o ⟨id,l,h1,h2⟩
  rcases hcase id with ⟨j,hj,rfl⟩ | hid
  · rw [hρ1 j hj] at h1;exact .inl ⟨j,l,h1,h2⟩
  · rw [hρ2 id hid] at h1;exact .inr ⟨id,l,hid,h1,h2⟩
 have hB:∀ b o,X1.free b o->X'.free b o:=by
  rintro b o ⟨h1,h2⟩
  have hO:X1.O=(X.part os.length f).O:=s1.O;refine ⟨fun h3=>h1 (by rw [hO];exact .inl h3),fun hm=>?_⟩
  rcases hmine b o hm with h3 | ⟨id,l,h3,h4,h5⟩
  · exact h2 h3
  · exact h1 (by rw [hO];exact (hA id l b o h3 h4 h5).2.1)
 have hBB:∀ b o v,X1.w.cell? ⟨b,o,none⟩=some v->X1.free b o->X'.w.cell? ⟨b,o,none⟩=some v /\ X'.free b o:=fun b o v h1 h2=>⟨h1,hB b o h2⟩
 have hC:∀ b o v,X.w.cell? ⟨b,o,none⟩=some v->X.free b o->X'.w.cell? ⟨b,o,none⟩=some v /\ X'.free b o:=by
  intro b o v h1 h2;have:=s1.keeps.cell b o v h1 (Cx.part_free.2 h2);exact hBB b o v this.1 this.2
 have hold:∀ j,j < os.length->old os.length (lim0 os.length) j:=fun j hj=>⟨.inl hj,fun h=>h⟩
 have hD:∀ id,Qf (X.ρ id) (X'.ρ id):=by
  intro id;rcases hcase id with ⟨j,hj,rfl⟩ | hid
  · rw [hρ1 j hj];have:=s1.ρ j (hold j hj)
    simpa [Cx.part,hj] using this
  · rw [hρ2 id hid];exact .refl _
 have hblk:∀ id l b o,(∀ j,j < os.length->f j ≠ id)->X.ρ id=some l->l.owns b o->X'.w.heap[b]? = X.w.heap[b]? := fun id l b o h1 h2 h3=>by
  obtain ⟨a1,a2,a3⟩:=hA id l b o h1 h2 h3;exact s1.block b a1 a3
 have hsome:∀ j,j < os.length -> ∃ o,h.get (f j)=some o:=fun j hj=>⟨_,p.at' j os[j] (by simp [hj])⟩
 have hs:Step X nx lim X':=by
  refine ⟨rfl,s1.os,s1.tape,s1.output,s1.size,fun id _=>hD id,?_,?_,?_,s1.frz⟩
  · intro b o hb hm;rcases hmine b o hm with h3 | ⟨id,l,h3,h4,h5⟩
    · obtain ⟨j,l,hj,hl,ho⟩:=Cx.part_mine.1 (s1.mine b o hb h3);exact ⟨f j,l,hl,ho⟩
    · exact ⟨id,l,h4,h5⟩
  · intro b o hb hm
    exact s1.cell b o hb fun hq=>by
     obtain ⟨j,l,hj,hl,ho⟩:=Cx.part_mine.1 hq;exact hm ⟨f j,l,hl,ho⟩
  · intro b hb hm
    exact s1.block b hb fun o hq=>by
     obtain ⟨j,l,hj,hl,ho⟩:=Cx.part_mine.1 hq;exact hm o ⟨f j,l,hl,ho⟩
 refine ⟨X',rfl,⟨?_,?_,?_,?_,?_,?_,?_,?_,g.low,g.pre.step hs⟩,hs,hρ1,hBB⟩
 · intro id t d ho;rcases hcase id with ⟨j,hj,rfl⟩ | hid
   · have e1:os'[j]? = some os'[j]:=by simp [hlen,hj]
     have e2:=hin j _ e1;rw [ho] at e2
     have e3:∃ d0,os'[j]=.var t d0 /\ d=d0.ren f:=by
      cases hq:os'[j] with
      | var t0 d0=>rw [hq] at e2;simp [Obj.ren] at e2;exact ⟨d0,by rw [e2.1],e2.2⟩
      | vec t0 own0 l0=>rw [hq] at e2;simp [Obj.ren] at e2
      | map _ _ _=>rw [hq] at e2;simp [Obj.ren] at e2
     obtain ⟨d0,e4,rfl⟩:=e3;rw [e4] at e1;obtain ⟨b,c,h1,h2,h3,h4⟩:=g1.var j t d0 (by rw [Qw];exact e1)
     refine ⟨b,c,by rw [hρ1 j hj];exact h1,h2,?_,by rw [Vr];exact h4⟩
     refine h3.renE f L.encOK hBB (ZN _ _ h4) fun r hr=>?_;rw [hρ1 r (hrefs _ (List.mem_of_getElem? e1) r hr)];exact .refl _
   · rw [hout id hid] at ho;obtain ⟨b,c,h1,h2,h3,h4⟩:=g.var id t d ho;refine ⟨b,c,by rw [hρ2 id hid];exact h1,by rw [hblk id _ b 0 hid h1 rfl];exact h2,h3.monoG T (y:=false) L.encOK hC (fun h=>by cases h) (fun r hr=>hD r) (.inr (ZN _ _ h4)),h4⟩
 · intro id t own l ho;rcases hcase id with ⟨j,hj,rfl⟩ | hid
   · have e1:os'[j]? = some os'[j]:=by simp [hlen,hj]
     have e2:=hin j _ e1;rw [ho] at e2
     have e3:os'[j]=.vec t own l:=by
      cases hq:os'[j] with
      | var t0 d0=>rw [hq] at e2;simp [Obj.ren] at e2
      | vec t0 own0 l0=>rw [hq] at e2;simp only [Obj.ren,Option.some.injEq] at e2;exact e2.symm
      | map _ _ _=>rw [hq] at e2;simp [Obj.ren] at e2
     rw [e3] at e1;obtain ⟨v,b,lo,hi,h1,h2⟩:=g1.vec j t own l (by rw [Qw];exact e1)
     exact ⟨v,b,lo,hi,by rw [hρ1 j hj];exact h1,h2.move L hBB (fun _=>rfl) (L.posE t)⟩
   · rw [hout id hid] at ho;obtain ⟨v,b,lo,hi,h1,h2⟩:=g.vec id t own l ho;exact ⟨v,b,lo,hi,by rw [hρ2 id hid];exact h1,h2.move L hC (fun ⟨o,ho'⟩=>hblk id _ b o hid h1 ho') (L.posE t)⟩
 · intro id ck cv l ho;rcases hcase id with ⟨j,hj,rfl⟩ | hid
   · have e1:os'[j]? = some os'[j]:=by simp [hlen,hj]
     have e2:=hin j _ e1;rw [ho] at e2
     have e3:os'[j]=.map ck cv l:=by
      cases hq:os'[j] with
      | var t0 d0=>rw [hq] at e2;simp [Obj.ren] at e2
      | vec t0 own0 l0=>rw [hq] at e2;simp [Obj.ren] at e2
      | map _ _ _=>rw [hq] at e2;simp only [Obj.ren,Option.some.injEq] at e2;exact e2.symm
     rw [e3] at e1;obtain ⟨b,es,k,h1,h2,h3⟩:=g1.map j ck cv l (by rw [Qw];exact e1)
     exact ⟨b,es,k,by rw [hρ1 j hj];exact h1,h2,h3.move L hBB⟩
   · rw [hout id hid] at ho;obtain ⟨b,es,k,h1,h2,h3⟩:=g.map id ck cv l ho;exact ⟨b,es,k,by rw [hρ2 id hid];exact h1,by rw [hblk id _ b 0 hid h1 rfl];exact h2,h3.move L hC⟩
 · intro id l hr;rcases hcase id with ⟨j,hj,rfl⟩ | hid
   · rw [hin j os'[j] (by simp [hlen,hj])];rfl
   · rw [hρ2 id hid] at hr;rw [hout id hid];exact g.dom id l hr
 · intro id o ho;rcases hcase id with ⟨j,hj,rfl⟩ | hid
   · obtain ⟨o0,h0⟩:=hsome j hj;have e1:os'[j]? = some os'[j]:=by simp [hlen,hj]
     have e2:=hin j _ e1;rw [ho] at e2;simp only [Option.some.injEq] at e2;refine ⟨(g.nums _ _ h0).1,fun r hr=>?_⟩;rw [e2,Obj.ren_refs,List.mem_map] at hr;obtain ⟨r0,hr0,rfl⟩:=hr;obtain ⟨o1,h1⟩:=hsome r0 (hrefs _ (List.mem_of_getElem? e1) r0 hr0);exact (g.nums _ _ h1).1
   · rw [hout id hid] at ho;exact g.nums id o ho
 · intro i i' l l' b o o' h1 h2 h3 h4;rcases hcase i with ⟨j,hj,rfl⟩ | hid
   · rcases hcase i' with ⟨j',hj',rfl⟩ | hid'
     · rw [hρ1 j hj] at h1;rw [hρ1 j' hj'] at h2;rw [g1.apart j j' l l' b o o' h1 h2 h3 h4]
     · rw [hρ1 j hj] at h1;rw [hρ2 i' hid'] at h2;obtain ⟨a1,a2,a3⟩:=hA i' l' b o' hid' h2 h4;exact (a3 o (s1.mine b o a1 ⟨j,l,h1,h3⟩)).elim
   · rcases hcase i' with ⟨j',hj',rfl⟩ | hid'
     · rw [hρ2 i hid] at h1;rw [hρ1 j' hj'] at h2;obtain ⟨a1,a2,a3⟩:=hA i l b o hid h1 h3;exact (a3 o' (s1.mine b o' a1 ⟨j',l',h2,h4⟩)).elim
     · rw [hρ2 i hid] at h1;rw [hρ2 i' hid'] at h2;exact g.apart i i' l l' b o o' h1 h2 h3 h4
 · intro b o hm;rcases hmine b o hm with h3 | ⟨id,l,h3,h4,h5⟩
   · have:=g1.outer b o h3;exact ⟨fun h=>this.1 (by rw [s1.O];exact .inl h),this.2⟩
   · have:=g.outer b o ⟨id,l,h4,h5⟩;exact ⟨this.1,Nat.lt_of_lt_of_le this.2 s1.size⟩
 · intro b o ho;exact Nat.lt_of_lt_of_le (g.outs b o ho) s1.size
def renE (f:Nat->Nat) (env:Env C):Env C:=env.map fun p=>(p.1,p.2.ren f)
theorem Qe4 (f:Nat->Nat):∀ (env:Env C) (t:Nat),eget (renE f env) t=(eget env t).ren f
 | [],t=>rfl
 | (j,d)::r,t=>by
  show eget ((j,d.ren f)::renE f r) t=_;rw [Ql,Ql,Qe4 f r t]
  split <;> rfl
theorem Qi.part (L:Laws T) {X:Cx} {nx:Nat} {lim:Lim} {env env0:Env C} {tmps:Array Value} {k top:Nat} {f:Nat->Nat} (he:Qi T X nx lim env tmps) (hinj:∀ i j,i < k->j < k->f i=f j->i=j)
 (hs:∀ q ∈ env0,eget env q.1=q.2.ren f) (hr:∀ q ∈ env0,∀ r ∈ q.2.refs,r < k):Qi T (X.part k f) k (lim0 top) env0 tmps:=by
 obtain ⟨fi,hfi⟩:=QaF hinj;intro t;rcases eget_mem env0 t with h | h
 · rw [h];exact RO.mk (RV.top _ _ _) rfl
 · have hrt:∀ r ∈ (eget env0 t).refs,r < k:=hr _ h;refine ⟨?_,fun r hh=>⟨.inl (hrt r hh),fun h=>h⟩⟩;have h1:=(he t).1;have h2:=hs _ h;simp only at h2;rw [h2] at h1
   have h3:=RV.ren (X:=X) (X':=X.part k f) fi L.encOK (h:=h1) ⟨fun b o v a1 a2=>⟨a1,Cx.part_free.2 a2⟩,fun l r h1 h2=>⟨h1,fun o hm=>by obtain ⟨j,q,_,hl,ho⟩:=Cx.part_mine.1 hm;exact h2 o ⟨f j,q,hl,ho⟩⟩⟩ (fun r hh=>by
    rw [D.ren_refs,List.mem_map] at hh;obtain ⟨r0,hr0,rfl⟩:=hh;have:=hrt r0 hr0;simp only [hfi r0 this,Cx.part,this,if_true];exact .refl _)
   rwa [D.ren_ren f fi _ (fun r hh=>hfi r (hrt r hh))] at h3
theorem Qi.back (L:Laws T) {X1 X':Cx} {nx k:Nat} {lim lim1:Lim} {env:Env C} {tmps:Array Value} {f:Nat->Nat} (he:Qi T X1 k lim1 env tmps) (hr:∀ q ∈ env,∀ r ∈ q.2.refs,r < k)
 (hρ:∀ j,j < k->X'.ρ (f j)=X1.ρ j) (hB:Kps X1 X') (hold:∀ j,j < k->old nx lim (f j)):Qi T X' nx lim (renE f env) tmps:=by
 intro t;rw [Qe4]
 have hrt:∀ r ∈ (eget env t).refs,r < k:=by
  rcases eget_mem env t with h | h
  · rw [h];simp [D.refs]
  · exact hr _ h
 refine ⟨(he t).1.ren f L.encOK hB fun r hh=>?_,fun r hh=>?_⟩
 · rw [hρ r (hrt r hh)];exact .refl _
 · rw [D.ren_refs,List.mem_map] at hh;obtain ⟨r0,hr0,rfl⟩:=hh;exact hold r0 (hrt r0 hr0)
end
def Leaf {α:Type} (o:Option α) (p:α->Prop):Prop := ∃ r,o=some r /\ p r
theorem QcB {α:Type} {c:Bool} {x y:Option α} {p:α->Prop}:Leaf (cond c x y) p ↔ (c=true->Leaf x p) /\ (c=false->Leaf y p):=by
 cases c <;> simp
theorem Ju {α:Type} {a:α} {p:α->Prop}:Leaf (some a) p ↔ p a:=by simp [Leaf]
section
variable {C:Cdc} {P:Program} {T:Tab C} {Φ:Fns C}
open Pg (Ex)
def Je (Φ:Fns C) (g:FuncId):List Code:=match Φ.fn g with
 | some fn=>match fn.body with
  | some b=>QN b
  | none=>[]
 | none=>[]
def Qe5 (Φ:Fns C) (g key:Nat):Code:=((Je Φ g).find? fun b=>Nat.beq (Qm b) key).getD .skip
def Ko (k:Nat):List Code->Bool
 | []=>true
 | b::l => !(Nat.beq (Qm b) k) && Ko k l
def QdV:List Code->Bool
 | []=>true
 | b::l=>Ko (Qm b) l && QdV l
theorem Jv {k:Nat}:∀ {l:List Code},Ko k l=true -> ∀ b ∈ l,Qm b ≠ k
 | [],_,b,hb=>by simp at hb
 | c::l,h,b,hb=>by
  simp only [Ko,Bool.and_eq_true,Bool.not_eq_true'] at h;simp only [List.mem_cons] at hb;rcases hb with rfl | hb
  · exact Nat.ne_of_beq_eq_false h.1
  · exact Jv h.2 b hb
theorem QaG {k:Nat}:∀ {l:List Code},QdV l=true -> ∀ b ∈ l,Qm b=k->l.find? (fun b=>Nat.beq (Qm b) k)=some b
 | [],_,b,hb,_=>by simp at hb
 | c::l,h,b,hb,hk=>by
  simp only [QdV,Bool.and_eq_true] at h;simp only [List.mem_cons] at hb;rcases hb with rfl | hb
  · simp [hk]
  · have hne:=Jv h.1 b hb;have:Nat.beq (Qm c) k=false:=beqF (by rw [<- hk];exact fun e=>hne e.symm)
    simp only [List.find?_cons,this];exact QaG h.2 b hb hk
theorem QcC {g key:Nat} (hk:QdV (Je Φ g)=true) {fn:Func} {body b:Code} (hf:Φ.fn g=some fn) (hb:fn.body=some body) (hm:b ∈ QN body) (hkey:Qm b=key):Qe5 Φ g key=b:=by
 have:Je Φ g=QN body:=by simp [Je,hf,hb]
 rw [Qe5,this,QaG (by rw [<- this];exact hk) b hm hkey]
 rfl
def sel:List Nat->Env C->Env C
 | [],_=>[]
 | k::l,env=>(k,eget env k)::sel l env
def cut (kc kf:List Nat) (r:Ev.X × Env C):Ev.X × Env C:=match r.1 with
 | .normal=>(.normal,sel kc r.2)
 | x=>(x,sel kf r.2)
theorem KT:∀ (l:List Nat) (env:Env C),Sub env (sel l env)
 | [],env,p,hp=>by simp [sel] at hp
 | k::l,env,p,hp=>by
  simp only [sel,List.mem_cons] at hp;rcases hp with rfl | hp
  · rfl
  · exact KT l env p hp
end
theorem Qq {n:Int} (h1:-9223372036854775808 <= n) (h2:n <= 9223372036854775807):IntKind.i64.wrap n=n:=by
 simp only [IntKind.wrap,IntKind.bits,IntKind.signed];simp;omega
def Qmy {α:Type} (one:α->Bool) (two:α->α->Bool):Option α->List α->Bool
 | _,[]=>true
 | p,x::l=>one x && (match p with | none=>true | some y=>two y x) && Qmy one two (some x) l
def Qsu {α:Type} (l:List α) (i:Nat):Option α:=match i with
 | 0=>none
 | i+1=>l[i]?
section
variable {C:Cdc} {P:Program} {T:Tab C} {Φ:Fns C}
open Pg (Ex)
structure Qbu (C:Cdc) (σ:Type) where
 k:Nat
 canon:σ->Env C
 objs:σ->List (Obj C)
 fin:σ->Ev.X × Env C
 fobjs:σ->List (Obj C)
 Inv:σ->Prop
 μ:σ->Nat
def Qj (k:Nat) (env:Env C) (os:List (Obj C)):Prop:=os.length=k /\ (∀ q ∈ env,∀ r ∈ q.2.refs,r < k) /\ ∀ o ∈ os,∀ r ∈ Obj.refs o,r < k
def Grow (os os':List (Obj C)) (f:Nat->Nat):Prop := ∀ j,j < os.length->f j=j \/ ∃ t own l own' l',os[j]? = some (.vec t own l) /\ os'[j]? = some (.vec t own' l') /\ l.length < l'.length
def Cx.partM (X:Cx) (k:Nat) (f:Nat->Nat):Cx:=⟨X.w,fun j=>if j < k then X.ρ (f j) else none,X.O⟩
theorem Cx.partM_mine {X:Cx} {k:Nat} {f:Nat->Nat} {b o:Nat}:(X.partM k f).mine b o ↔ ∃ j l,j < k /\ X.ρ (f j)=some l /\ l.owns b o:=by
 constructor
 · rintro ⟨j,l,h1,h2⟩
   simp only [Cx.partM] at h1
   split at h1
   · exact ⟨j,l,by assumption,h1,h2⟩
   · cases h1
 · rintro ⟨j,l,h0,h1,h2⟩
   exact ⟨j,l,by simp [Cx.partM,h0,h1],h2⟩
theorem Cx.partM_free {X:Cx} {k:Nat} {f:Nat->Nat} {b o:Nat} (h:X.free b o):(X.partM k f).free b o :=
 ⟨h.1,fun hm=>by obtain ⟨j,l,_,hl,ho⟩:=Cx.partM_mine.1 hm;exact h.2 ⟨f j,l,hl,ho⟩⟩
theorem Part.ctxM (L:Laws T) {X:Cx} {h:Heap C} {nx:Nat} {lim:Lim} (g:G T X h nx lim) {os:List (Obj C)} {f:Nat->Nat} (p:Part h os f) (top:Nat):G T (X.partM os.length f) (hpOf 0 os) os.length (lim0 top):=by
 obtain ⟨fi,hfi⟩:=QaF p.inj;have hX:Kps X (X.partM os.length f):=⟨fun b o v h1 h2=>⟨h1,Cx.partM_free h2⟩,fun l r h1 h2=>⟨h1,fun o hm=>by obtain ⟨j,q,_,hl,ho⟩:=Cx.partM_mine.1 hm;exact h2 o ⟨f j,q,hl,ho⟩⟩⟩
 refine ⟨?_,?_,?_,?_,?_,?_,?_,?_,Nat.zero_le _,?_⟩
 · intro id t d ho;rw [Qw] at ho;have hlt:id < os.length:=(List.getElem?_eq_some_iff.1 ho).1;obtain ⟨b,c,h1,h2,h3,h4⟩:=g.var (f id) t (d.ren f) (p.at' id _ ho);have hrefs:∀ r ∈ d.refs,r < os.length:=p.refs _ (List.mem_of_getElem? ho);refine ⟨b,c,by simp [Cx.partM,hlt,h1],h2,?_,by rw [Vr] at h4;exact h4⟩
   have h5:=h3.ren (X':=X.partM os.length f) fi L.encOK hX (fun r hr=>by
    rw [D.ren_refs,List.mem_map] at hr;obtain ⟨r0,hr0,rfl⟩:=hr;have:=hrefs r0 hr0;simp only [hfi r0 this,Cx.partM,this,if_true];exact .refl _)
   rwa [D.ren_ren f fi d (fun r hr=>hfi r (hrefs r hr))] at h5
 · intro id t own l ho;rw [Qw] at ho;have hlt:id < os.length:=(List.getElem?_eq_some_iff.1 ho).1;obtain ⟨v,b,lo,hi,h1,h2⟩:=g.vec (f id) t own l (p.at' id _ ho);refine ⟨v,b,lo,hi,by simp [Cx.partM,hlt,h1],?_⟩
   exact h2.move L hX.cell (fun _=>rfl) (L.posE t)
 · intro id ck cv l ho;rw [Qw] at ho;have hlt:id < os.length:=(List.getElem?_eq_some_iff.1 ho).1;obtain ⟨b,es,k,h1,h2,h3⟩:=g.map (f id) ck cv l (p.at' id _ ho);exact ⟨b,es,k,by simp [Cx.partM,hlt,h1],h2,h3.move L hX.cell⟩
 · intro id l hr;simp only [Cx.partM] at hr
   split at hr
   · rename_i hlt;rw [Qw];simp [hlt]
   · cases hr
 · intro id o ho;rw [Qw] at ho;have hlt:id < os.length:=(List.getElem?_eq_some_iff.1 ho).1;exact ⟨⟨.inl hlt,fun h=>h⟩,fun r hr=>⟨.inl (p.refs _ (List.mem_of_getElem? ho) r hr),fun h=>h⟩⟩
 · intro i j l l' b o o' h1 h2 h3 h4;simp only [Cx.partM] at h1 h2
   split at h1
   · split at h2
     · exact p.inj i j (by assumption) (by assumption) (g.apart _ _ _ _ _ _ _ h1 h2 h3 h4)
     · cases h2
   · cases h1
 · intro b o hm;obtain ⟨j,l,hj,hl,ho⟩:=Cx.partM_mine.1 hm;exact g.outer b o ⟨_,l,hl,ho⟩
 · intro b o ho;exact g.outs b o ho
 · exact fun q hq=>⟨(g.pre q hq).1,fun o hm=>by
    obtain ⟨j,l,hj,hl,ho⟩:=Cx.partM_mine.1 hm;exact (g.pre q hq).2 o ⟨_,l,hl,ho⟩⟩
theorem Qi.partM (L:Laws T) {X:Cx} {nx:Nat} {lim:Lim} {env env0:Env C} {tmps:Array Value} {k top:Nat} {f:Nat->Nat} (he:Qi T X nx lim env tmps) (hinj:∀ i j,i < k->j < k->f i=f j->i=j)
 (hs:∀ q ∈ env0,eget env q.1=q.2.ren f) (hr:∀ q ∈ env0,∀ r ∈ q.2.refs,r < k):Qi T (X.partM k f) k (lim0 top) env0 tmps:=by
 obtain ⟨fi,hfi⟩:=QaF hinj;intro t;rcases eget_mem env0 t with h | h
 · rw [h];exact RO.mk (RV.top _ _ _) rfl
 · have hrt:∀ r ∈ (eget env0 t).refs,r < k:=hr _ h;refine ⟨?_,fun r hh=>⟨.inl (hrt r hh),fun h=>h⟩⟩;have h1:=(he t).1;have h2:=hs _ h;simp only at h2;rw [h2] at h1
   have h3:=RV.ren (X:=X) (X':=X.partM k f) fi L.encOK (h:=h1) ⟨fun b o v a1 a2=>⟨a1,Cx.partM_free a2⟩,fun l r h1 h2=>⟨h1,fun o hm=>by obtain ⟨j,q,_,hl,ho⟩:=Cx.partM_mine.1 hm;exact h2 o ⟨f j,q,hl,ho⟩⟩⟩ (fun r hh=>by
    rw [D.ren_refs,List.mem_map] at hh;obtain ⟨r0,hr0,rfl⟩:=hh;have:=hrt r0 hr0;simp only [hfi r0 this,Cx.partM,this,if_true];exact .refl _)
   rwa [D.ren_ren f fi _ (fun r hh=>hfi r (hrt r hh))] at h3
theorem ZY.lenV {X:Cx} {t:C.Ty} {own:Bool} {l:List (C.A t)} {v:Value} {b lo hi:Nat} (h:ZY T X t own l v b lo hi):Ev.lenV v=l.length:=by
 rcases h with ⟨⟨a,rfl,_⟩,rfl,_⟩ | ⟨off,cp,rfl,_⟩ <;> rfl
theorem Part.stepM {X X1:Cx} {h':Heap C} {nx':Nat} {os os':List (Obj C)} {f:Nat->Nat} (g:G T X (hpOf 0 os) os.length (lim0 os.length)) (g1:G T X1 h' nx' (lim0 nx')) (s:Step X os.length (lim0 nx') X1) (p:Part h' os' f) (hlen:os'.length=os.length) (hg:Grow os os' f) :
 Step X os.length (lim0 os.length) (X1.partM os.length f):=by
 refine ⟨s.O,s.os,s.tape,s.output,s.size,fun id ho=>?_,fun b o hb hm=>?_,s.cell,s.block,s.frz⟩
 · by_cases hid:id < os.length
   · simp only [Cx.partM,hid,if_true];rcases hg id hid with hf | ⟨t,own,l,own',l',h1,h2,h3⟩
     · rw [hf];exact s.ρ id ⟨.inl hid,fun h=>h⟩
     · obtain ⟨v,b,lo,hi,a1,a2⟩:=g.vec id t own l (by rw [Qw];exact h1)
       obtain ⟨v',b',lo',hi',c1,c2⟩:=g1.vec (f id) t own' l' (p.at' id _ h2);rw [a1,c1];have e1:=a2.lenV;have e2:=c2.lenV;exact ⟨rfl,by omega,fun h=>by omega⟩
   · have:(X1.partM os.length f).ρ id=none:=by simp [Cx.partM,hid]
     rw [this];cases X.ρ id <;> simp [Qf]
 · obtain ⟨j,l,hj,hl,ho⟩:=Cx.partM_mine.1 hm;exact s.mine b o hb ⟨f j,l,hl,ho⟩
def Qoq (T:Tab C) (Φ:Fns C) (g:FuncId) (b:Code) {σ:Type} (S:Qbu C σ):Prop :=
 ∀ s,S.Inv s->Qj S.k (S.canon s) (S.objs s) /\ Qj S.k (S.fin s).2 (S.fobjs s) /\ ∃ n x env' h' nx' tr,Ex (0,0) (evC T Φ n g b (S.canon s)) (hpOf 0 (S.objs s)) S.k (x,env') h' nx' tr /\
  ((x=.normal /\ ∃ s',S.Inv s' /\ S.μ s' < S.μ s /\ S.fin s'=S.fin s /\ S.fobjs s'=S.fobjs s /\ Sub env' (S.canon s') /\ ∀ j,j < S.k->h'.get j=(S.objs s')[j]?) \/
   (x=.normal /\ ∃ s' f,S.Inv s' /\ S.μ s' < S.μ s /\ S.fin s'=S.fin s /\ S.fobjs s'=S.fobjs s /\ (∀ p ∈ S.canon s',eget env' p.1=p.2.ren f) /\ Part h' (S.objs s') f /\ Grow (S.objs s) (S.objs s') f) \/
   (x ≠ .normal /\ x=(S.fin s).1 /\ Sub env' (S.fin s).2 /\ ∀ j,j < S.k->h'.get j=(S.fobjs s)[j]?))
theorem G.relim2 {X:Cx} {h:Heap C} {nx nx' k:Nat} {lim lim':Lim} (g:G T X h nx lim) (hk:∀ id o,h.get id=some o->id < k /\ ∀ r ∈ o.refs,r < k) (hn:k <= nx') (hl:lim'.lo <= nx') (hH:∀ id,¬ lim'.H id):G T X h nx' lim' :=
 ⟨g.var,g.vec,g.map,g.dom,fun id o ho=>⟨⟨.inl (by have:=(hk id o ho).1;omega),hH id⟩,fun r hr=>⟨.inl (by have:=(hk id o ho).2 r hr;omega),hH r⟩⟩,g.apart,g.outer,g.outs,hl,g.pre⟩
theorem YN {os:List (Obj C)} {k:Nat} (hl:os.length=k) (hr:∀ o ∈ os,∀ r ∈ Obj.refs o,r < k):∀ id o,(hpOf 0 os).get id=some o->id < k /\ ∀ r ∈ o.refs,r < k:=by
 intro id o ho;rw [Qw] at ho;exact ⟨by rw [<- hl];exact (List.getElem?_eq_some_iff.1 ho).1,hr o (List.mem_of_getElem? ho)⟩
theorem QgK (K:QU P T) (F:Qh P T Φ) {g:FuncId} {fn:Func} {body b:Code} {σ:Type} {S:Qbu C σ} (hr:Qoq T Φ g b S) (hf:Φ.fn g=some fn) (hb:fn.body=some body) (hcb:ZH fn.ntmps b=true) (hl:∀ b' ∈ QN b,b' ∈ QN body) {B:Nat->Bool} (hB:QaD B b)
 {Q:Exit->Act->World->Prop}:∀ (m:Nat) (s:σ) (X:Cx) (a:Act),S.Inv s->S.μ s < m->G T X (hpOf 0 (S.objs s)) S.k (lim0 S.k)->Qi T X S.k (lim0 S.k) (S.canon s) a.tmps->fn.ntmps <= a.tmps.size ->
  (∀ a' X',G T X' (hpOf 0 (S.fobjs s)) S.k (lim0 S.k)->Step X S.k (lim0 S.k) X'->Qi T X' S.k (lim0 S.k) (S.fin s).2 a'.tmps->a'.tmps.size=a.tmps.size->ZU X X' a'.defers a.defers->Kp B a.tmps a'.tmps->Q (Qap (S.fin s).1) a' X'.w)->Code.rounds P b Q m a X.w:=by
 intro m
 induction m with
 | zero=>intro s X a _ hm;omega
 | succ m ih =>
  intro s X a hI hm hg he hsz hk;obtain ⟨hr1,hr2,n,x,env',h',nx',tr,hx,hcase⟩:=hr s hI;rw [rounds_succ];have hle:S.k <= nx':=hx.le;have g0:G T X (hpOf 0 (S.objs s)) S.k (lim0 nx'):=hg.relim2 (YN hr1.1 hr1.2.2) (Nat.le_refl _) (Nat.zero_le _) (fun _ h=>h)
  have e0:Qi T X S.k (lim0 nx') (S.canon s) a.tmps:=fun t=>⟨(he t).1,fun r hh=>⟨.inl (by
   rcases eget_mem (S.canon s) t with h | h
   · rw [h] at hh;simp [D.refs] at hh
   · exact hr1.2.1 _ h r hh),fun h=>h⟩⟩
  refine (wpIn_wide (n:=0)).1 ((QdS K F n).1 none 0 g fn.ntmps b (.inr ⟨rfl,fn,body,hf,rfl,hb,hl⟩) hcb B hB X (hpOf 0 (S.objs s)) S.k (lim0 nx') (0,0) (S.canon s) x env' h' nx' tr a _ g0 e0 (Nat.le_refl _) hsz hx ?_);intro a1 X1 g1 s1 e1 hs1 hd1 kp1
  -- the objects that are kept
  have key:∀ (os:List (Obj C)) (env0:Env C),Qj S.k env0 os->(∀ j,j < S.k->h'.get j=os[j]?)->Sub env' env0 ->
   ∃ X2,X2.w=X1.w /\ G T X2 (hpOf 0 os) S.k (lim0 S.k) /\ Step X S.k (lim0 S.k) X2 /\ Qi T X2 S.k (lim0 S.k) env0 a1.tmps /\ ZU X X2 a1.defers a.defers:=by
   intro os env0 ⟨q1,q2,q3⟩ hget hsub
   obtain ⟨X2,w2,g2,s2,hρ⟩:=G.drop K.base g1 (h':=hpOf 0 os) (fun id=>by
    rw [Qw]
    by_cases hid:id < S.k
    · exact .inl (hget id hid).symm
    · exact .inr (List.getElem?_eq_none (by omega)))
   have hnone:∀ id,¬ id < S.k->X2.ρ id=none:=fun id hid=>by
    cases hq:X2.ρ id with
    | none=>rfl
    | some l =>
     have:=g2.dom id l hq;rw [Qw,List.getElem?_eq_none (by omega)] at this
     cases this
   have s3:=s1.trans s2 hle;refine ⟨X2,w2,g2.relim2 (YN q1 q3) (Nat.le_refl _) (Nat.zero_le _) (fun _ h=>h),⟨s3.O,s3.os,s3.tape,s3.output,s3.size,fun id ho=>?_,s3.mine,s3.cell,s3.block,s3.frz⟩,fun t=>?_,hd1.sub w2 s2.mine⟩
   · by_cases hid:id < S.k
     · exact s3.ρ id ⟨.inl hid,fun h=>h⟩
     · rw [hnone id hid];cases X.ρ id <;> simp [Qf]
   · rcases eget_mem env0 t with h | h
     · rw [h];exact RO.mk (RV.top _ _ _) rfl
     · have hrt:∀ r ∈ (eget env0 t).refs,r < S.k:=q2 _ h;have h2:=hsub _ h;simp only at h2;have h3:=(e1 t).1;rw [h2] at h3;exact ⟨h3.mono T K.base.encOK s2.keeps fun r hh=>s2.ρ r ⟨.inl (by have:=hrt r hh;omega),fun h=>h⟩,fun r hh=>⟨.inl (hrt r hh),fun h=>h⟩⟩
  rcases hcase with ⟨rfl,s',hI',hmu,hfin,hfo,hsub,hget⟩ | ⟨rfl,s',f,hI',hmu,hfin,hfo,hsub,hpart,hgrow⟩ | ⟨hne,hxf,hsub,hget⟩
  · obtain ⟨hr1',_,_⟩:=hr s' hI';obtain ⟨X2,w2,g2,s2,e2,hd2⟩:=key _ _ hr1' hget hsub;rw [<- w2];refine ih s' X2 a1 hI' (by omega) g2 e2 (by omega) fun a3 X3 g3 s3 e3 hs3 hd3 kp3=>?_
    rw [hfin] at e3 ⊢;rw [hfo] at g3;exact hk a3 X3 g3 (s2.trans s3 (Nat.le_refl _)) e3 (by omega) (hd2.trans s2 s3 hd3) (kp1.trans kp3)
  · obtain ⟨hr1',_,_⟩:=hr s' hI';have hlen':(S.objs s').length=(S.objs s).length:=by rw [hr1'.1,hr1.1]
    have g2:=Part.ctxM K.base g1 hpart (S.objs s').length;have e2:Qi T (X1.partM (S.objs s').length f) (S.objs s').length (lim0 (S.objs s').length) (S.canon s') a1.tmps:=Qi.partM K.base e1 hpart.inj hsub (by rw [hr1'.1];exact hr1'.2.1)
    have s2:=Part.stepM (by rw [hr1.1];exact hg) g1 (by rw [hr1.1];exact s1) hpart hlen' hgrow
    rw [hr1'.1] at g2 e2;rw [hr1.1] at s2;refine ih s' (X1.partM S.k f) a1 hI' (by omega) g2 e2 (by omega) fun a3 X3 g3 s3 e3 hs3 hd3 kp3=>?_
    rw [hfin] at e3 ⊢;rw [hfo] at g3;exact hk a3 X3 g3 (s2.trans s3 (Nat.le_refl _)) e3 (by omega) ((hd1.sub (X2:=X1.partM S.k f) rfl (fun b o _ hm=>by obtain ⟨j,q,_,hl,ho⟩:=Cx.partM_mine.1 hm;exact ⟨f j,q,hl,ho⟩)).trans s2 s3 hd3) (kp1.trans kp3)
  · obtain ⟨X2,w2,g2,s2,e2,hd2⟩:=key _ _ hr2 hget hsub;have hfinal:Q (Qap (S.fin s).1) a1 X2.w:=hk a1 X2 g2 s2 e2 hs1 hd2 kp1;rw [w2,<- hxf] at hfinal;cases x with
    | normal=>exact (hne rfl).elim
    | exit id=>exact hfinal
    | ret=>exact hfinal
theorem QcD {X:Cx} {t:C.Ty} {l:List (C.A t)} {v:Value} (h:R T X false (.sl t true l) [v]):∃ a,v=.slice a l.length l.length /\ ∃ b lo,ZY T X t l.isEmpty l v b lo lo:=by
 have key:∀ a:Option Addr,∃ b lo,ZY T X t true [] (.slice a 0 0) b lo lo:=by
  intro a
  by_cases hq:∃ b off,a=some ⟨b,off,none⟩
  · obtain ⟨b,off,rfl⟩:=hq;exact ⟨b,off,.inr ⟨off,0,rfl,Nat.le_refl _,by simp,.inl ⟨rfl,rfl,.inl rfl⟩⟩⟩
  · exact ⟨0,0,.inl ⟨⟨a,rfl,fun b off e=>hq ⟨b,off,e⟩⟩,rfl,Nat.le_refl _⟩⟩
 cases h with
 | sl0 _ _ a=>exact ⟨a,rfl,key a⟩
 | @sl _ _ _ b off _ _ ha hr hc hcap =>
  have:=hcap rfl;subst this;cases l with
  | nil=>exact ⟨_,rfl,key _⟩
  | cons x l=>exact ⟨_,rfl,b,off+(x::l).length * T.size (T.ety t),.inr ⟨off,(x::l).length,rfl,Nat.le_refl _,rfl,.inr ⟨rfl,rfl,⟨_,ha,hr⟩,.inl rfl⟩⟩⟩
theorem QaH (K:QU P T) {X:Cx} {h:Heap C} {nx t:Nat} {lim:Lim} {env:Env C} {tmps:Array Value} {ty:C.Ty} {l:List (C.A ty)} (g:G T X h nx lim) (he:Qi T X nx lim env tmps) (hn:nx < lim.top) (hs:eget env t=.sl ty true l) :
 ∃ X',X'.w=X.w /\ G T X' ((nx,.vec ty l.isEmpty l)::h) (nx+1) lim /\ Step X nx lim X' /\ Qi T X' (nx+1) lim ((t,.vs nx l.length)::env) tmps:=by
 have h1:=(he t).1;rw [hs] at h1;have h2:=h1.one rfl;obtain ⟨a,hv,b,lo,hV⟩:=QcD h2;obtain ⟨X',w',ρ',g',s'⟩:=G.newRef K g hn (Nat.le_refl _) hV;refine ⟨X',w',g',s',fun u=>?_⟩;rw [Ql]
 by_cases hu:u=t
 · subst hu;simp only [if_true];refine ⟨.inr ⟨rfl,?_⟩,by simpa [D.refs] using g.new hn⟩
   rw [hv];refine .vs fun v e b' lo' hi' hq=>?_;rw [ρ'] at hq;simp only [Option.some.injEq,Loc.vec.injEq] at hq;obtain ⟨rfl,_⟩:=hq;rw [hv];exact ⟨by simp [lenV],fun _=>rfl⟩
 · simp only [hu,if_false];exact (he u).step K.base s' (by omega)
def Va (T:Tab C):TypeId->List Nat->Bool
 | _,[]=>true
 | t,i::p=>match T.ty t with
  | .struct _ fs=>Nat.blt i fs.length && Va T (fs.getD i 0) p
  | .arr n e _=>Nat.blt i n && Va T e p
  | _=>false
theorem Vs:∀ (p:List Nat) (t:TypeId),Va T t p=true->QQ T t p:=by
 intro p
 induction p with
 | nil=>intro t _;trivial
 | cons i p ih =>
  intro t h;simp only [Va] at h;simp only [QQ];cases ht:T.ty t <;> simp only [ht,Bool.and_eq_true,Bool.false_eq_true] at h ⊢
  · exact ⟨by simpa [Nat.blt_eq] using h.1,ih _ h.2⟩
  · exact ⟨by simpa [Nat.blt_eq] using h.1,ih _ h.2⟩
theorem QaI (K:QU P T) {X:Cx} {h:Heap C} {nx id:Nat} {lim:Lim} {env:Env C} {tmps:Array Value} {ty:C.Ty} {l:List (C.A ty)} {u t':TypeId} {d d':D C} {p:List Nat} (g:G T X h nx lim) (he:Qi T X nx lim env tmps) (hn:nx < lim.top)
 (ho:h.get id=some (.var u d)) (hp:Va T u p=true) (hg:getPath T d p=some (.sl ty true l)) (hs:Ev.setPath T d p (.vs nx l.length)=some d') (ht:tyAt T u p=some t') (hf:fit T (.vs nx l.length:D C) (.inl t')=true) :
 ∃ X',X'.w=X.w /\ G T X' (Heap.put id (.var u d') ((nx,.vec ty l.isEmpty l)::h)) (nx+1) lim /\ Step X nx lim X' /\ Qi T X' (nx+1) lim env tmps:=by
 obtain ⟨b0,c0,h1,h2,h3,h4⟩:=g.var id u d ho;obtain ⟨c1,c2,c3,hc,hl,hr,_⟩:=h3.path K.base p (Vs p u hp) h4 hg;have hne:id ≠ nx:=fun e=>by have:=(g.nums id _ ho).1.1;omega
 have hone:∃ v,c2=[v]:=by
  cases hr with
  | sl0=>exact ⟨_,rfl⟩
  | sl=>exact ⟨_,rfl⟩
 obtain ⟨v,rfl⟩:=hone;obtain ⟨a,hv,b,lo,hV⟩:=QcD hr;obtain ⟨X',w',ρ',g',s'⟩:=G.newRef K g hn (Nat.le_refl _) hV
 have hvs:R T X' false (.vs nx l.length) [v]:=by
  rw [hv];refine .vs fun v e b' lo' hi' hq=>?_;rw [ρ'] at hq;simp only [Option.some.injEq,Loc.vec.injEq] at hq;obtain ⟨rfl,_⟩:=hq;rw [hv];exact ⟨by simp [lenV],fun _=>rfl⟩
 have hrefs:∀ r ∈ d.refs,old nx lim r:=(g.nums id _ ho).2;have ho':Heap.get id ((nx,.vec ty l.isEmpty l)::h)=some (.var u d):=by rw [Qn];simp [hne,ho]
 obtain ⟨b1,c1',e1,e2,e3,e4⟩:=g'.var id u d ho';refine ⟨X',w',?_,s',fun t=>(he t).step K.base s' (by omega)⟩
 -- the object is seen otherwise;its cells are as they were
 have hs2:(Heap.get id ((nx,.vec ty l.isEmpty l)::h)).isSome=true:=by rw [ho'];rfl
 obtain ⟨k1,k2,k3,q1,q2,q3,q4,q5⟩:=e3.setPath K.base p (Vs p u hp) e4 hs hvs ht hf;obtain ⟨m1,m2,m3,n1,n2,n3,_⟩:=e3.path K.base p (Vs p u hp) e4 hg
 have hm2:m2.length=1:=by
  cases n3 with
  | sl0=>rfl
  | sl=>rfl
 have hcc:c1'.toList=c0.toList:=by
  have hw:X'.w.heap[b1]? = X.w.heap[b0]? := by
   have:X'.ρ id=X.ρ id \/ True:=.inr trivial;rw [w'];have hρ:Qf (X.ρ id) (X'.ρ id):=s'.ρ id (g.nums id _ ho).1;rw [h1,e1] at hρ;simp only [Qf,Loc.var.injEq] at hρ;rw [hρ.1]
  rw [e2,h2] at hw;simp only [Option.some.injEq,Obj.cells.injEq] at hw;rw [hw.1]
 have heq:k1++[v]++k3=c1'.toList:=by
  have a1:k1=c1:=by
   have:(k1++k2++k3).take (offAt T u p)=(c1++[v]++c3).take (offAt T u p):=by rw [<- q1,<- hc,hcc]
   rw [List.append_assoc,List.append_assoc,List.take_append_of_le_length (by omega),List.take_append_of_le_length (by omega),List.take_of_length_le (by omega),List.take_of_length_le (by omega)] at this
   exact this
  have a2:k2++k3=[v]++c3:=by
   have:k1++(k2++k3)=c1++([v]++c3):=by rw [<- List.append_assoc,<- List.append_assoc,<- q1,<- hc,hcc]
   rw [a1] at this;exact List.append_cancel_left this
  have a3:k3=c3:=by
   simp only [List.length_singleton] at q3;obtain ⟨y,rfl⟩:=List.length_eq_one_iff.1 q3;simp at a2;exact a2.2
  rw [a1,a3,hcc,hc]
 rw [heq] at q4;refine ⟨?_,?_,?_,?_,?_,g'.apart,g'.outer,g'.outs,g'.low,g'.pre⟩
 · intro j t e hj;rw [Qk hs2] at hj
   by_cases hji:j=id
   · simp only [hji,if_true,Option.some.injEq,Ev.Obj.var.injEq] at hj;obtain ⟨rfl,rfl⟩:=hj;exact ⟨b1,c1',by rw [hji];exact e1,e2,q4,q5⟩
   · simp only [hji,if_false] at hj;exact g'.var j t e hj
 · intro j t own l hj;rw [Qk hs2] at hj
   by_cases hji:j=id
   · simp [hji] at hj
   · simp only [hji,if_false] at hj;exact g'.vec j t own l hj
 · intro j ck cv l hj;rw [Qk hs2] at hj
   by_cases hji:j=id
   · simp [hji] at hj
   · simp only [hji,if_false] at hj;exact g'.map j ck cv l hj
 · intro j l hj;rw [Qk hs2]
   by_cases hji:j=id
   · simp [hji]
   · simp only [hji,if_false];exact g'.dom j l hj
 · intro j o hj;rw [Qk hs2] at hj
   by_cases hji:j=id
   · simp only [hji,if_true,Option.some.injEq] at hj;subst hj;refine ⟨by rw [hji];exact (g'.nums id _ ho').1,fun r hr=>?_⟩
     rcases refs_setPath K.base p hs r hr with h5 | h5
     · exact (hrefs r h5).mono (by omega)
     · simp only [D.refs,List.mem_singleton] at h5;rw [h5];exact g.new hn
   · simp only [hji,if_false] at hj;exact g'.nums j o hj
inductive Fnd where
 | slot (t i:Nat)
 | path (j:Nat) (p:List Nat)
def KU {α:Type} (T:Tab C):List Fnd->Env C->List Nat->(Env C->List Nat->Pg C α)->Pg C α
 | [],env,ids,k=>k env ids
 | .slot t i::r,env,ids,k=>match eget env t with
  | .sl ty true []=>.nw (.vec ty true []) fun id=>KU T r ((t,.vs id 0)::env) (ids++[id]) k
  | .sl ty true (x::l)=>.nw (.vec ty false (x::l)) fun id=>KU T r ((t,.vs id (x::l).length)::env) (ids++[id]) k
  | d=>match d.refs[i]? with
   | some id=>KU T r env (ids++[id]) k
   | none=>.fail
 | .path j p::r,env,ids,k=>match ids[j]? with
  | none=>.fail
  | some idj=>.rd idj fun
   | .var u d=>match getPath T d p with
    | some (.sl ty true [])=>match tyAt T u p with
     | some t'=>bif Va T u p && fit T (.vs 0 0:D C) (.inl t') then .nw (.vec ty true []) fun id=>match Ev.setPath T d p (.vs id 0) with
      | some d'=>.wr idj (.var u d') (KU T r env (ids++[id]) k)
      | none=>.fail
      else .fail
     | none=>.fail
    | some (.sl ty true (x::l))=>match tyAt T u p with
     | some t'=>bif Va T u p && fit T (.vs 0 0:D C) (.inl t') then .nw (.vec ty false (x::l)) fun id=>match Ev.setPath T d p (.vs id (x::l).length) with
      | some d'=>.wr idj (.var u d') (KU T r env (ids++[id]) k)
      | none=>.fail
      else .fail
     | none=>.fail
    | some x=>match x.refs with
     | id::_=>KU T r env (ids++[id]) k
     | []=>.fail
    | none=>.fail
   | _=>.fail
theorem Kq (K:QU P T) {α:Type} {e:Pg.Lv} {a:α} {h':Heap C} {nx':Nat} {lim:Lim} (hlim:nx' <= lim.top) {k:Env C->List Nat->Pg C α} {tmps:Array Value}:∀ (l:List Fnd) (X:Cx) (h:Heap C) (nx:Nat) (tr:Tr) (env:Env C) (ids:List Nat),
 G T X h nx lim->Qi T X nx lim env tmps->Ex e (KU T l env ids k) h nx a h' nx' tr ->
 ∃ X1 h1 nx1 env1 ids1 tr1,X1.w=X.w /\ G T X1 h1 nx1 lim /\ Step X nx lim X1 /\ nx <= nx1 /\ Qi T X1 nx1 lim env1 tmps /\ Ex e (k env1 ids1) h1 nx1 a h' nx' tr1:=by
 intro l
 induction l with
 | nil=>intro X h nx tr env ids g he hx;exact ⟨X,h,nx,env,ids,tr,rfl,g,.refl _ _ _,Nat.le_refl _,he,hx⟩
 | cons f l ih =>
  intro X h nx tr env ids g he hx;cases f with
  | slot t i =>
   simp only [KU] at hx
   split at hx
   · rename_i ty hq;obtain ⟨t',hx,_⟩:=Ex.nw hx;have hle:=hx.le;obtain ⟨X1,w1,g1,s1,e1⟩:=QaH K g he (by omega) hq
     obtain ⟨X2,h2,n2,env2,ids2,tr2,w2,g2,s2,hn2,e2,hx2⟩:=ih X1 _ _ _ _ _ g1 e1 hx;exact ⟨X2,h2,n2,env2,ids2,tr2,by rw [w2,w1],g2,s1.trans s2 (by omega),by omega,e2,hx2⟩
   · rename_i ty x l0 hq;obtain ⟨t',hx,_⟩:=Ex.nw hx;have hle:=hx.le;obtain ⟨X1,w1,g1,s1,e1⟩:=QaH K g he (by omega) hq
     obtain ⟨X2,h2,n2,env2,ids2,tr2,w2,g2,s2,hn2,e2,hx2⟩:=ih X1 _ _ _ _ _ g1 e1 hx;exact ⟨X2,h2,n2,env2,ids2,tr2,by rw [w2,w1],g2,s1.trans s2 (by omega),by omega,e2,hx2⟩
   · split at hx
     · exact ih X h nx tr env _ g he hx
     · exact (Ex.fail hx).elim
  | path j p =>
   simp only [KU] at hx
   split at hx
   · exact (Ex.fail hx).elim
   · rename_i idj hj;obtain ⟨o,t',ho,hx,_⟩:=Ex.rd hx;cases o with
     | vec _ _ _=>exact (Ex.fail hx).elim
     | map _ _ _=>exact (Ex.fail hx).elim
     | var u d =>
      simp only at hx
      split at hx
      · rename_i ty hq
        split at hx
        · rename_i t' ht;cases hb:Va T u p && fit T (.vs 0 0:D C) (.inl t') with
          | false=>rw [hb] at hx;exact (Ex.fail hx).elim
          | true =>
           rw [hb] at hx;simp only [cond_true] at hx;simp only [Bool.and_eq_true] at hb;obtain ⟨t1,hx,_⟩:=Ex.nw hx
           split at hx
           · rename_i d' hs;obtain ⟨o',t2,ho',hx,_⟩:=Ex.wr hx;have hle:=hx.le;obtain ⟨X1,w1,g1,s1,e1⟩:=QaI K g he (by omega) ho hb.1 hq hs ht (by simpa [fit] using hb.2)
             obtain ⟨X2,h2,n2,env2,ids2,tr2,w2,g2,s2,hn2,e2,hx2⟩:=ih X1 _ _ _ _ _ g1 e1 hx;exact ⟨X2,h2,n2,env2,ids2,tr2,by rw [w2,w1],g2,s1.trans s2 (by omega),by omega,e2,hx2⟩
           · exact (Ex.fail hx).elim
        · exact (Ex.fail hx).elim
      · rename_i ty x l0 hq
        split at hx
        · rename_i t' ht;cases hb:Va T u p && fit T (.vs 0 0:D C) (.inl t') with
          | false=>rw [hb] at hx;exact (Ex.fail hx).elim
          | true =>
           rw [hb] at hx;simp only [cond_true] at hx;simp only [Bool.and_eq_true] at hb;obtain ⟨t1,hx,_⟩:=Ex.nw hx
           split at hx
           · rename_i d' hs;obtain ⟨o',t2,ho',hx,_⟩:=Ex.wr hx;have hle:=hx.le;obtain ⟨X1,w1,g1,s1,e1⟩:=QaI K g he (by omega) ho hb.1 hq hs ht (by simpa [fit] using hb.2)
             obtain ⟨X2,h2,n2,env2,ids2,tr2,w2,g2,s2,hn2,e2,hx2⟩:=ih X1 _ _ _ _ _ g1 e1 hx;exact ⟨X2,h2,n2,env2,ids2,tr2,by rw [w2,w1],g2,s1.trans s2 (by omega),by omega,e2,hx2⟩
           · exact (Ex.fail hx).elim
        · exact (Ex.fail hx).elim
      · split at hx
        · exact ih X h nx _ env _ g he hx
        · exact (Ex.fail hx).elim
      · exact (Ex.fail hx).elim
def Qmz {α:Type}:List Nat->(List (Obj C)->Pg C α)->Pg C α
 | [],k=>k []
 | id::r,k=>.rd id fun o=>Qmz r fun os=>k (o::os)
theorem Jw {α:Type} {e:Pg.Lv} {a:α} {h h':Heap C} {nx nx':Nat}:∀ (ids:List Nat) (k:List (Obj C)->Pg C α) (tr:Tr),Ex e (Qmz ids k) h nx a h' nx' tr -> ∃ os tr1,os.length=ids.length /\ (∀ (j id:Nat) (o:Obj C),ids[j]? = some id->os[j]? = some o->h.get id=some o) /\ Ex e (k os) h nx a h' nx' tr1
 | [],k,tr,hx=>⟨[],tr,rfl,by simp,hx⟩
 | id::r,k,tr,hx=>by
  obtain ⟨o,t',ho,hx,_⟩:=Ex.rd hx;obtain ⟨os,tr1,h1,h2,h3⟩:=Jw r _ _ hx;refine ⟨o::os,tr1,by simp [h1],fun j i o' hj ho'=>?_,h3⟩
  cases j with
  | zero=>simp at hj ho';rw [<- hj,<- ho'];exact ho
  | succ j=>exact h2 j i o' (by simpa using hj) (by simpa using ho')
def QdW {α:Type}:List Nat->List (Obj C)->Pg C α->Pg C α
 | [],[],k=>k
 | id::r,o::os,k=>.wr id o (QdW r os k)
 | _,_,_=>.fail
theorem Ks {α:Type} {e:Pg.Lv} {a:α} {h':Heap C} {nx nx':Nat} {k:Pg C α}:∀ (ids:List Nat) (os:List (Obj C)) (h:Heap C) (tr:Tr),ids.Nodup->Ex e (QdW ids os k) h nx a h' nx' tr ->
 ∃ h1 tr1,os.length=ids.length /\ (∀ (j id:Nat) (o:Obj C),ids[j]? = some id->os[j]? = some o->h1.get id=some o) /\ (∀ id,id ∉ ids->h1.get id=h.get id) /\ Ex e k h1 nx a h' nx' tr1
 | [],[],h,tr,_,hx=>⟨h,tr,rfl,by simp,fun _ _=>rfl,hx⟩
 | id::r,o::os,h,tr,hn,hx=>by
  obtain ⟨o',t',ho,hx,_⟩:=Ex.wr hx;have hs:(h.get id).isSome=true:=by rw [ho];rfl
  obtain ⟨hn1,hn2⟩:=List.nodup_cons.1 hn;obtain ⟨h1,tr1,q1,q2,q3,q4⟩:=Ks r os _ _ hn2 hx;refine ⟨h1,tr1,by simp [q1],fun j i p hj hp=>?_,fun i hi=>?_,q4⟩
  · cases j with
    | zero =>
     simp at hj hp;subst hj;subst hp;rw [q3 _ hn1,Qk hs];simp
    | succ j=>exact q2 j i p (by simpa using hj) (by simpa using hp)
  · simp only [List.mem_cons,not_or] at hi;rw [q3 i hi.2,Qk hs];simp [hi.1]
 | [],_::_,_,_,_,hx=>(Ex.fail hx).elim
 | _::_,[],_,_,_,hx=>(Ex.fail hx).elim
def idx:List Nat->Nat->Nat
 | [],_=>0
 | a::l,n=>bif Nat.beq a n then 0 else idx l n+1
theorem Yz:∀ (l:List Nat) (n:Nat),n ∈ l->l[idx l n]? = some n
 | [],n,h=>by simp at h
 | a::l,n,h=>by
  rw [idx];cases hb:Nat.beq a n with
  | true=>simp [Nat.eq_of_beq_eq_true hb]
  | false =>
   have hne:=Nat.ne_of_beq_eq_false hb;simp only [List.mem_cons] at h;rcases h with h | h
   · exact absurd h.symm hne
   · simpa using Yz l n h
def Qe6 (n:Nat):List Nat->Bool
 | []=>true
 | a::l => !(Nat.beq a n) && Qe6 n l
theorem KV {n:Nat}:∀ {l:List Nat},Qe6 n l=true->n ∉ l
 | [],_=>by simp
 | a::l,h=>by
  simp only [Qe6,Bool.and_eq_true,Bool.not_eq_true'] at h;simp only [List.mem_cons,not_or];exact ⟨fun e=>Nat.ne_of_beq_eq_false h.1 e.symm,KV h.2⟩
def YO:List Nat->Bool
 | []=>true
 | a::l=>Qe6 a l && YO l
theorem Zq:∀ {l:List Nat},YO l=true->l.Nodup
 | [],_=>List.nodup_nil
 | a::l,h=>by
  simp only [YO,Bool.and_eq_true] at h;exact List.nodup_cons.2 ⟨KV h.1,Zq h.2⟩
def inB (ids l:List Nat):Bool:=l.all fun r=>ids.any (Nat.beq r)
theorem Zm {ids l:List Nat} (h:inB ids l=true):∀ r ∈ l,r ∈ ids:=by
 intro r hr;have:=List.all_eq_true.1 h r hr;obtain ⟨x,hx,e⟩:=List.any_eq_true.1 this;rw [Nat.eq_of_beq_eq_true e];exact hx
inductive RT (C:Cdc) where
 | fail
 | leaf (x:Ev.X) (env:Env C) (os:List (Obj C))
 | br (b:Bool) (l r:RT C)
def RT.val:RT C->Option ((Ev.X × Env C) × List (Obj C))
 | .fail=>none
 | .leaf x env os=>some ((x,env),os)
 | .br b l r=>bif b then l.val else r.val
def RT.pg (ids:List Nat):RT C->Pg C (Ev.X × Env C)
 | .fail=>.fail
 | .leaf x env os=>QdW ids (os.map (Obj.ren fun j=>ids.getD j 0)) (.ret (x,renE (fun j=>ids.getD j 0) env))
 | .br b l r=>.br b (l.pg ids) (r.pg ids)
theorem RT.pg_ok {e:Pg.Lv} {a:Ev.X × Env C} {h h':Heap C} {nx nx':Nat} {ids:List Nat}:∀ (t:RT C) (tr:Tr),Ex e (t.pg ids) h nx a h' nx' tr -> ∃ x env os,t.val=some ((x,env),os) /\ Ex e (QdW ids (os.map (Obj.ren fun j=>ids.getD j 0)) (.ret (x,renE (fun j=>ids.getD j 0) env))) h nx a h' nx' tr
 | .fail,tr,hx=>(Ex.fail hx).elim
 | .leaf x env os,tr,hx=>⟨x,env,os,rfl,hx⟩
 | .br b l r,tr,hx=>by
  rcases Ex.br hx with ⟨rfl,hx⟩ | ⟨rfl,hx⟩
  · exact RT.pg_ok l tr hx
  · exact RT.pg_ok r tr hx
def sumO (T:Tab C) (fs:List Fnd) (slots:List Nat) (res:Env C->List (Obj C)->RT C) (env:Env C):Pg C (Ev.X × Env C) :=
 KU T fs env [] fun env ids=>bif YO ids then Qmz ids fun os =>
  bif inB ids (slots.flatMap fun t=>(eget env t).refs) && inB ids (os.flatMap Obj.refs) then
   (res (slots.map fun t=>(t,(eget env t).ren (idx ids))) (os.map (Obj.ren (idx ids)))).pg ids
  else .fail
 else .fail
theorem Obj.ren_ren (f g:Nat->Nat) (o:Obj C) (h:∀ id ∈ o.refs,g (f id)=id):(o.ren f).ren g=o:=by
 cases o with
 | var t d=>simp only [Obj.ren];rw [D.ren_ren f g d h]
 | vec t own l=>rfl
 | map _ _ _=>rfl
theorem QmA (K:QU P T) (F:Qh P T Φ) {g key:Nat} {fs:List Fnd} {slots:List Nat} {res:Env C->List (Obj C)->RT C} {σ:Type} {S:Qbu C σ}
 (hr:∀ fn body b,Φ.fn g=some fn->fn.body=some body->b ∈ QN body->Qm b=key->Qoq T Φ g b S)
 (hres:∀ env0 os x env' os',(res env0 os).val=some ((x,env'),os') -> ∃ q,S.Inv q /\ (∀ p ∈ S.canon q,p ∈ env0) /\ os=S.objs q /\ S.fin q=(x,env') /\ S.fobjs q=os'):QdU P T Φ g key (sumO T fs slots res):=by
 intro fn body b hf hb hbl hkey B hB X h nx lim e env x env' h' nx' tr a Q gg he hlim hsz hx hk;obtain ⟨f1,f2,f3⟩:=F.fn g fn hf;obtain ⟨c1,c2⟩:=Zd body (f3 body hb) b hbl;have hround:=hr fn body b hf hb hbl hkey;obtain ⟨X1,h1,nx1,env1,ids,tr1,w1,g1,s1,hn1,e1,hx1⟩:=Kq K hlim fs X h nx tr env [] gg he hx;cases hnd:YO ids with
 | false=>rw [hnd] at hx1;exact (Ex.fail hx1).elim
 | true =>
 rw [hnd] at hx1;simp only [cond_true] at hx1;have hnodup:=Zq hnd;obtain ⟨os,tr2,hlen,hos,hx2⟩:=Jw ids _ _ hx1;cases hin:inB ids (slots.flatMap fun t=>(eget env1 t).refs) && inB ids (os.flatMap Obj.refs) with
 | false=>rw [hin] at hx2;exact (Ex.fail hx2).elim
 | true =>
 rw [hin] at hx2;simp only [cond_true] at hx2;simp only [Bool.and_eq_true] at hin;have hin1:=Zm hin.1;have hin2:=Zm hin.2;obtain ⟨xx,ee,os',hq,hx3⟩:=RT.pg_ok _ _ hx2
 · · obtain ⟨q,hI,hsub,hobjs,hfin,hfo⟩:=hres _ _ _ _ _ hq;obtain ⟨hr1,hr2,_⟩:=hround q hI;obtain ⟨h2,tr3,hl2,hw1,hw2,hx4⟩:=Ks ids _ h1 _ hnodup hx3;obtain ⟨hxx,eh,en,_⟩:=Ex.ret hx4;obtain ⟨rfl,rfl⟩:=Prod.mk.inj hxx;subst eh;subst en
     let f:Nat->Nat:=fun j=>ids.getD j 0
     have hfj:∀ j,j < ids.length->ids[j]? = some (f j):=fun j hj=>by simp [f,hj]
     have hk0:ids.length=S.k:=by rw [<- hr1.1,<- hobjs];simp [hlen]
     have hff:∀ r,r ∈ ids->f (idx ids r)=r:=fun r hr=>by
      have:=Yz ids r hr;simp only [f,List.getD_eq_getElem?_getD,this,Option.getD_some]
     have hlenO:(S.objs q).length=ids.length:=by rw [hr1.1,hk0]
     have part:Part h1 (S.objs q) f:=by
      refine ⟨fun j o ho=>?_,fun i j hi hj hij=>?_,fun o ho r hr=>by rw [hr1.1];exact hr1.2.2 o ho r hr⟩
      · rw [<- hobjs,List.getElem?_map] at ho;cases hoj:os[j]? with
        | none=>simp [hoj] at ho
        | some o0 =>
         simp only [hoj,Option.map_some,Option.some.injEq] at ho;have hj:j < ids.length:=by rw [<- hlen];exact (List.getElem?_eq_some_iff.1 hoj).1
         rw [hos j (f j) o0 (hfj j hj) hoj,<- ho,Obj.ren_ren];intro id hid;exact hff id (hin2 id (List.mem_flatMap.2 ⟨o0,List.mem_of_getElem? hoj,hid⟩))
      · rw [hlenO] at hi hj;have:=(List.getElem?_inj hi hnodup (j:=j)).1 (by rw [hfj i hi,hfj j hj];simp only [f] at hij ⊢;rw [hij])
        exact this
     have g2:=Part.ctx K.base g1 part (S.objs q).length
     have e2:Qi T (X1.part (S.objs q).length f) (S.objs q).length (lim0 (S.objs q).length) (S.canon q) a.tmps:=by
      refine Qi.part K.base e1 part.inj (fun p hp=>?_) (fun p hp r hr=>by rw [hr1.1];exact hr1.2.1 p hp r hr)
      have:=hsub p hp;simp only [List.mem_map] at this;obtain ⟨t,ht,rfl⟩:=this;simp only;rw [D.ren_ren];intro id hid;exact hff id (hin1 id (List.mem_flatMap.2 ⟨t,ht,hid⟩))
     rw [hr1.1] at g2 e2;rw [<- w1];show (Code.loop b).wp P Q a (X1.part S.k f).w;refine wp_loop_rounds (S.μ q+1) (QgK K F hround hf hb c1 c2 hB (S.μ q+1) q (X1.part S.k f) a hI (by omega) g2 e2 hsz fun a' X' g' s' e' hs' hd' kp'=>?_)
     rw [hfo] at g';rw [hfin] at e';have hlen':os'.length=(S.objs q).length:=by rw [<- hfo,hr2.1,hr1.1]
     have hrefs':∀ o ∈ os',∀ r ∈ Obj.refs o,r < (S.objs q).length:=fun o ho r hr=>by rw [hr1.1];exact hr2.2.2 o (by rw [hfo];exact ho) r hr
     obtain ⟨X2,w2,g3,s3,hρ,hB2⟩:=Part.back K.base g1 part hlen' hrefs' (X1:=X') (lim1:=lim0 S.k) (h':=h') (by rw [hr1.1];exact g') (by rw [hr1.1];exact s') (fun j o hj=>by
      have hlt:j < ids.length:=by rw [<- hlenO,<- hlen'];exact (List.getElem?_eq_some_iff.1 hj).1
      exact hw1 j (f j) _ (hfj j hlt) (by rw [List.getElem?_map,hj];rfl)) (fun id hid=>by
      refine hw2 id fun hm=>?_;obtain ⟨j,hj,hjj⟩:=List.getElem_of_mem hm;refine hid j (by rw [hlenO];exact hj) ?_
      simp [f,hj,hjj])
     have hold:∀ j,j < S.k->old nx' lim (f j):=fun j hj=>by
      have hj':j < (S.objs q).length:=by rw [hr1.1];exact hj
      exact (g1.nums _ _ (part.at' j (S.objs q)[j] (by simp [hj']))).1
     have e3:=Qi.back (nx:=nx') (lim:=lim) (f:=f) K.base e' (fun p hp r hr=>hr2.2.1 p (by rw [hfin];exact hp) r hr) (fun j hj=>hρ j (by rw [hr1.1];exact hj)) ⟨hB2,fun l r h1 _=>⟨by rw [w2];exact h1,fun o ho=>g3.mine_loop ho (by rw [w2];exact h1)⟩⟩ hold
     have:=hk a' X2 g3 (s1.trans s3 hn1) e3 hs' (hd'.of_g g3 (by show X.w.heap.size <= X1.w.heap.size;rw [w1];exact Nat.le_refl _) w2) kp'
     rw [w2] at this;rw [hfin];exact this
def Qbv:Nat->Nat->Heap C->List (Option (Obj C))
 | _,0,_=>[]
 | n,k+1,h=>h.get n::Qbv (n+1) k h
theorem Vt:∀ (k n:Nat) (h:Heap C) (os:List (Obj C)),Qbv n k h=os.map some -> ∀ j,j < k->h.get (n+j)=os[j]?
 | 0,_,_,_,_,j,hj=>by omega
 | k+1,n,h,[],e,j,hj=>by simp [Qbv] at e
 | k+1,n,h,o::os,e,j,hj=>by
  simp only [Qbv,List.map_cons,List.cons.injEq] at e;cases j with
  | zero=>simpa using e.1
  | succ j =>
   have:=Vt k (n+1) h os e.2 j (by omega)
   rw [show n+(j+1)=n+1+j by omega,this];simp
def movP (T:Tab C) (env:Env C) (h:Heap C):List Fnd->List Nat->Option (List Nat)
 | [],ids=>some ids
 | .slot t i::r,ids=>match (eget env t).refs[i]? with
  | some id=>movP T env h r (ids++[id])
  | none=>none
 | .path j p::r,ids=>match ids[j]? with
  | some idj=>match h.get idj with
   | some (.var _ d)=>match getPath T d p with
    | some x=>match x.refs with
     | id::_=>movP T env h r (ids++[id])
     | []=>none
    | none=>none
   | _=>none
  | none=>none
def QiE:Nat->List Nat->Bool
 | _,[]=>true
 | n,i::l=>Nat.beq i n && QiE (n+1) l
def Qbw (h:Heap C) (g:Nat->Nat):List Nat->Option (List (Obj C))
 | []=>some []
 | i::l=>match h.get i,Qbw h g l with
  | some o,some r=>some (o.ren g::r)
  | _,_=>none
def Qbx {α:Type} (k:Option α):Nat->List Nat->List (Obj C)->List (Obj C)->Option α
 | _,[],_,_=>k
 | n,i::l,o::os,o'::os'=>bif Nat.beq i n then Qbx k (n+1) l os os' else (match o,o' with
  | .vec t _ x,.vec t' _ x'=>bif decide (t'=t) then (bif Nat.blt x.length x'.length then Qbx k (n+1) l os os' else none) else none
  | _,_=>none)
 | _,_,_,_=>none
def settle (T:Tab C) (fs:List Fnd) (k:Nat) (kc:List Nat) (os:List (Obj C)) (env:Env C) (h:Heap C):Option ((Ev.X × Env C) × List (Option (Obj C))) :=
 match movP T env h fs [] with
 | none=>some ((.normal,sel kc env),Qbv 0 k h)
 | some ids=>bif QiE 0 ids then some ((.normal,sel kc env),Qbv 0 k h) else
  bif YO ids && Nat.beq ids.length k && inB ids ((sel kc env).flatMap fun p=>p.2.refs) && inB ids (ids.flatMap fun i=>match h.get i with | some o=>o.refs | none=>[]) then (match Qbw h (idx ids) ids with
   | some os'=>Qbx (some ((.normal,renE (idx ids) (sel kc env)),os'.map some)) 0 ids os os'
   | none=>none) else none
def rndO (T:Tab C) (Φ:Fns C) (g key n k:Nat) (kc kf:List Nat) (fs:List Fnd) (env:Env C) (os:List (Obj C)):Option ((Ev.X × Env C) × List (Option (Obj C))):=(evC T Φ n g (Qe5 Φ g key) env).run (0,0) (hpOf 0 os) k [] fun a h _ _=>match a.1 with
 | .normal=>settle T fs k kc os a.2 h
 | x=>some ((x,sel kf a.2),Qbv 0 k h)
theorem QaJ {α:Type} {k:Option α} {a:α}:∀ (l:List Nat) (n:Nat) (os os':List (Obj C)),Qbx k n l os os'=some a->k=some a /\ ∀ j,j < l.length->l.getD j 0=n+j \/ ∃ t own x own' x',os[j]? = some (.vec t own x) /\ os'[j]? = some (.vec t own' x') /\ x.length < x'.length
 | [],n,os,os',h=>⟨by simpa [Qbx] using h,fun j hj=>by simp at hj⟩
 | i::l,n,[],_,h=>by simp [Qbx] at h
 | i::l,n,o::os,[],h=>by simp [Qbx] at h
 | i::l,n,o::os,o'::os',h=>by
  simp only [Qbx] at h
  have step:Qbx k (n+1) l os os'=some a->(i=n \/ ∃ t own x own' x',o=.vec t own x /\ o'=.vec t own' x' /\ x.length < x'.length)->k=some a /\ ∀ j,j < (i::l).length->(i::l).getD j 0=n+j \/ ∃ t own x own' x',(o::os)[j]? = some (.vec t own x) /\ (o'::os')[j]? = some (.vec t own' x') /\ x.length < x'.length:=by
   intro h1 h2;obtain ⟨h3,h4⟩:=QaJ l (n+1) os os' h1;refine ⟨h3,fun j hj=>?_⟩;cases j with
   | zero=>simpa using h2
   | succ j =>
    have:=h4 j (by simpa using hj)
    simp only [List.getD_cons_succ,List.getElem?_cons_succ];rcases this with h5 | h5
    · left;omega
    · exact .inr h5
  cases hb:Nat.beq i n with
  | true=>rw [hb] at h;exact step h (.inl (Nat.eq_of_beq_eq_true hb))
  | false =>
   rw [hb] at h;simp only [cond_false] at h;cases o with
   | var t d=>simp at h
   | map _ _ _=>simp at h
   | vec t own x =>
    cases o' with
    | var t d=>simp at h
    | map _ _ _=>simp at h
    | vec t' own' x' =>
     simp only at h;cases ht:decide (t'=t) with
     | false=>rw [ht] at h;cases h
     | true =>
      rw [ht] at h;have ht:t'=t:=by simpa using ht
      subst ht;cases hl:Nat.blt x.length x'.length with
      | false=>rw [hl] at h;cases h
      | true =>
       rw [hl] at h;exact step h (.inr ⟨t',own,x,own',x',rfl,rfl,by simpa [Nat.blt_eq] using hl⟩)
theorem JT {h:Heap C} {g:Nat->Nat}:∀ (l:List Nat) (os:List (Obj C)),Qbw h g l=some os->os.length=l.length /\ ∀ (j i:Nat),l[j]? = some i -> ∃ o,h.get i=some o /\ os[j]? = some (o.ren g)
 | [],os,e=>by simp [Qbw] at e;subst e;simp
 | i::l,os,e=>by
  simp only [Qbw] at e;cases h1:h.get i with
  | none=>simp [h1] at e
  | some o =>
   cases h2:Qbw h g l with
   | none=>simp [h1,h2] at e
   | some r =>
    simp only [h1,h2,Option.some.injEq] at e;subst e;obtain ⟨a1,a2⟩:=JT l r h2;refine ⟨by simp [a1],fun j i' hj=>?_⟩
    cases j with
    | zero=>simp at hj;subst hj;exact ⟨o,h1,rfl⟩
    | succ j=>exact a2 j i' (by simpa using hj)
def LedO {σ:Type} (S:Qbu C σ) (s:σ) (r:(Ev.X × Env C) × List (Option (Obj C))):Prop :=
 (r.1.1=.normal /\ ∃ s',S.Inv s' /\ S.μ s' < S.μ s /\ S.fin s'=S.fin s /\ S.fobjs s'=S.fobjs s /\ r.1.2=S.canon s' /\ r.2=(S.objs s').map some) \/ (r.1.1 ≠ .normal /\ r.1=S.fin s /\ r.2=(S.fobjs s).map some)
theorem QiF:∀ (l:List Nat) (env:Env C) (p:Nat × D C),p ∈ sel l env->eget env p.1=p.2:=fun l env p hp=>KT l env p hp
theorem settle_some {fs:List Fnd} {k:Nat} {kc:List Nat} {os:List (Obj C)} {env:Env C} {h:Heap C} {r:(Ev.X × Env C) × List (Option (Obj C))} (hr:settle T fs k kc os env h=some r) (hos:os.length=k) :
 (r=((.normal,sel kc env),Qbv 0 k h)) \/ ∃ env0 os',r=((.normal,env0),os'.map some) /\ ∃ f,(∀ p ∈ env0,eget env p.1=p.2.ren f) /\ (os'.length=k /\ (∀ j o,os'[j]? = some o->h.get (f j)=some (o.ren f)) /\ (∀ i j,i < os'.length->j < os'.length->f i=f j->i=j)) /\ Grow os os' f:=by
 unfold settle at hr;cases hm:movP T env h fs [] with
 | none=>rw [hm] at hr;simp only [Option.some.injEq] at hr;exact .inl hr.symm
 | some ids =>
  rw [hm] at hr;simp only at hr;cases hb:QiE 0 ids with
  | true=>rw [hb] at hr;simp only [cond_true,Option.some.injEq] at hr;exact .inl hr.symm
  | false =>
   rw [hb] at hr;simp only [cond_false] at hr;cases hc:YO ids && Nat.beq ids.length k && inB ids ((sel kc env).flatMap fun p=>p.2.refs) && inB ids (ids.flatMap fun i=>match h.get i with | some o=>o.refs | none=>[]) with
   | false=>rw [hc] at hr;cases hr
   | true =>
    rw [hc] at hr;simp only [cond_true] at hr;simp only [Bool.and_eq_true] at hc;obtain ⟨⟨⟨c1,c2⟩,c3⟩,c4⟩:=hc;have c1:=Zq c1;have c2:=Nat.eq_of_beq_eq_true c2;have c3:=Zm c3;have c4:=Zm c4;cases ho:Qbw h (idx ids) ids with
    | none=>rw [ho] at hr;cases hr
    | some os' =>
     rw [ho] at hr;simp only at hr;obtain ⟨q1,q2⟩:=QaJ _ _ _ _ hr;simp only [Option.some.injEq] at q1;obtain ⟨o1,o2⟩:=JT _ _ ho
     have hff:∀ x,x ∈ ids->ids.getD (idx ids x) 0=x:=fun x hx=>by
      have:=Yz ids x hx;simp only [List.getD_eq_getElem?_getD,this,Option.getD_some]
     refine .inr ⟨_,os',q1.symm,fun j=>ids.getD j 0,fun p hp=>?_,⟨by rw [o1,c2],fun j o hj=>?_,fun i j hi hj hij=>?_⟩,fun j hj=>?_⟩
     · simp only [renE,List.mem_map] at hp;obtain ⟨p0,hp0,rfl⟩:=hp;simp only;rw [QiF kc env p0 hp0,D.ren_ren];intro id hid;exact hff id (c3 id (List.mem_flatMap.2 ⟨p0,hp0,hid⟩))
     · have hjl:j < ids.length:=by rw [<- o1];exact (List.getElem?_eq_some_iff.1 hj).1
       obtain ⟨o0,a1,a2⟩:=o2 j (ids.getD j 0) (by simp [hjl])
       rw [hj] at a2;simp only [Option.some.injEq] at a2;rw [a1,a2,Obj.ren_ren];intro id hid;exact hff id (c4 id (List.mem_flatMap.2 ⟨ids.getD j 0,by rw [List.getD_eq_getElem?_getD];simp [hjl],by rw [a1];exact hid⟩))
     · rw [o1] at hi hj
       exact (List.getElem?_inj hi c1 (j:=j)).1 (by
        simp only [List.getD_eq_getElem?_getD] at hij;simp only [hi,hj,List.getElem?_eq_getElem,Option.getD_some] at hij ⊢;rw [hij])
     · have:=q2 j (by rw [c2,<- hos];exact hj)
       simpa using this
theorem Qh.addRoundsO (K:QU P T) (F:Qh P T Φ) {g key:Nat} (hkeys:QdV (Je Φ g)=true) {σ:Type} (S:Qbu C σ) (n:Nat) (kc kf:List Nat) (fs0:List Fnd) (fs:List Fnd) (slots:List Nat) (res:Env C->List (Obj C)->RT C)
 (hr:∀ q,S.Inv q->Qj S.k (S.canon q) (S.objs q) /\ Qj S.k (S.fin q).2 (S.fobjs q) /\ Leaf (rndO T Φ g key n S.k kc kf fs0 (S.canon q) (S.objs q)) (LedO S q))
 (hres:∀ env0 os x env' os',(res env0 os).val=some ((x,env'),os') -> ∃ q,S.Inv q /\ (∀ p ∈ S.canon q,p ∈ env0) /\ os=S.objs q /\ S.fin q=(x,env') /\ S.fobjs q=os'):Qh P T (Φ.addLoop g key (sumO T fs slots res)):=by
 refine F.addLoop (QmA K F (S:=S) (fun fn body b hf hb hm hkey q hI=>?_) hres);obtain ⟨h1,h2,r,h3,h4⟩:=hr q hI;rw [rndO,QcC hkeys hf hb hm hkey] at h3;obtain ⟨⟨x,env'⟩,h',nx',tr,h5,h6⟩:=Pg.run_some h3;refine ⟨h1,h2,n,x,env',h',nx',tr,h5,?_⟩;cases x with
 | normal =>
  simp only at h6;rcases settle_some h6 h1.1 with hs | ⟨env0,os',hs,f,f1,⟨f2,f3,f4⟩,f5⟩
  · subst hs;rcases h4 with ⟨h4,s',a1,a2,a3,a3b,a4,a5⟩ | ⟨h4,h7,h8⟩
    · have hg:=Vt S.k 0 h' _ a5;simp only [Nat.zero_add] at hg;exact .inl ⟨rfl,s',a1,a2,a3,a3b,by rw [<- a4];exact KT _ _,hg⟩
    · exact (h4 rfl).elim
  · subst hs;rcases h4 with ⟨h4,s',a1,a2,a3,a3b,a4,a5⟩ | ⟨h4,h7,h8⟩
    · simp only at a4 a5;have a5:os'=S.objs s':=List.map_inj_right (fun _ _ h=>Option.some.inj h) |>.1 a5;subst a4;subst a5;obtain ⟨b1,_⟩:=hr s' a1;exact .inr (.inl ⟨rfl,s',f,a1,a2,a3,a3b,f1,⟨f3,f4,by rw [b1.1];exact b1.2.2⟩,f5⟩)
    · exact (h4 rfl).elim
 | exit id =>
  simp only [Option.some.injEq] at h6;subst h6;rcases h4 with ⟨h4,_⟩ | ⟨h4,h7,h8⟩
  · cases h4
  · have hg:=Vt S.k 0 h' _ h8;simp only [Nat.zero_add] at hg;exact .inr (.inr ⟨by simp,by rw [<- h7],by rw [<- h7];exact KT _ _,hg⟩)
 | ret =>
  simp only [Option.some.injEq] at h6;subst h6;rcases h4 with ⟨h4,_⟩ | ⟨h4,h7,h8⟩
  · cases h4
  · have hg:=Vt S.k 0 h' _ h8;simp only [Nat.zero_add] at hg;exact .inr (.inr ⟨by simp,by rw [<- h7],by rw [<- h7];exact KT _ _,hg⟩)
end
section
variable {C:Cdc} {P:Program} {T:Tab C} {Φ:Fns C}
open Pg (Ex)
structure QV (C:Cdc) (σ:Type) where
 k:Nat
 canon:σ->Env C
 objs:σ->List (Obj C)
 fin:σ->RT C
 Inv:σ->Prop
 μ:σ->Nat
def LedR {σ:Type} (S:QV C σ) (s:σ) (r:(Ev.X × Env C) × List (Option (Obj C))):Prop :=
 (r.1.1=.normal /\ ∃ s',S.Inv s' /\ S.μ s' < S.μ s /\ (S.fin s').val=(S.fin s).val /\ r.1.2=S.canon s' /\ r.2=(S.objs s').map some) \/ (r.1.1 ≠ .normal /\ ∃ os,(S.fin s).val=some (r.1,os) /\ r.2=os.map some)
def RT.refsOK (k:Nat):RT C->Prop
 | .fail=>False
 | .leaf _ env os=>Qj k env os
 | .br _ l r=>l.refsOK k /\ r.refsOK k
theorem RT.refsOK_val {k:Nat}:∀ {t:RT C},t.refsOK k -> ∃ x env os,t.val=some ((x,env),os) /\ Qj k env os
 | .leaf x env os,h=>⟨x,env,os,rfl,h⟩
 | .br b l r,h=>by
  cases b with
  | true=>exact RT.refsOK_val (t:=l) h.1
  | false=>exact RT.refsOK_val (t:=r) h.2
def QV.toO {σ:Type} (S:QV C σ):Qbu C σ where
 k:=S.k
 canon:=S.canon
 objs:=S.objs
 fin q:=match (S.fin q).val with
  | some r=>r.1
  | none=>(.ret,[])
 fobjs q:=match (S.fin q).val with
  | some r=>r.2
  | none=>[]
 Inv:=S.Inv
 μ:=S.μ
def resR {σ:Type} (S:QV C σ) (d:Env C->List (Obj C)->Option (Bool × σ)) (env:Env C) (os:List (Obj C)):RT C:=match d env os with
 | some (b,q)=>.br b (S.fin q) .fail
 | none=>.fail
def sumR (T:Tab C) (fs:List Fnd) (slots:List Nat) {σ:Type} (S:QV C σ) (d:Env C->List (Obj C)->Option (Bool × σ)):Env C->Pg C (Ev.X × Env C):=sumO T fs slots (resR S d)
theorem Qh.addRoundsR (K:QU P T) (F:Qh P T Φ) {g key:Nat} (hkeys:QdV (Je Φ g)=true) {σ:Type} (S:QV C σ) (n:Nat) (kc kf:List Nat) (fs:List Fnd) (slots:List Nat) (d:Env C->List (Obj C)->Option (Bool × σ))
 (hr:∀ q,S.Inv q->Qj S.k (S.canon q) (S.objs q) /\ (S.fin q).refsOK S.k /\ Leaf (rndO T Φ g key n S.k kc kf fs (S.canon q) (S.objs q)) (LedR S q))
 (hd:∀ env os b q,d env os=some (b,q)->b=true->S.Inv q /\ S.canon q=env /\ S.objs q=os):Qh P T (Φ.addLoop g key (sumR T fs slots S d)):=by
 refine F.addRoundsO K hkeys S.toO n kc kf fs fs slots (resR S d) (fun q hI=>?_) ?_
 · obtain ⟨h1,h2,r,h3,h4⟩:=hr q hI;obtain ⟨x,env,os,hv,hok⟩:=RT.refsOK_val h2;refine ⟨h1,by simp only [QV.toO,hv];exact hok,r,h3,?_⟩
   rcases h4 with ⟨a1,s',a2,a3,a4,a5,a6⟩ | ⟨a1,os',a2,a3⟩
   · exact .inl ⟨a1,s',a2,a3,by simp only [QV.toO,a4],by simp only [QV.toO,a4],a5,a6⟩
   · exact .inr ⟨a1,by simp only [QV.toO,a2],by simp only [QV.toO,a2];exact a3⟩
 · intro env0 os x env' os' h;unfold resR at h
   split at h
   · rename_i b q hq;cases b with
     | false=>simp [RT.val] at h
     | true =>
      obtain ⟨h1,h2,h3⟩:=hd _ _ _ _ hq rfl;simp only [RT.val,cond_true] at h;exact ⟨q,h1,fun p hp=>by rw [<- h2];exact hp,h3.symm,by simp only [QV.toO,h],by simp only [QV.toO,h]⟩
   · simp [RT.val] at h
def QO {α:Type} (b:Bool) (x:α):Option α:=bif b then some x else none
theorem Qg {α:Type} {b:Bool} {x y:α} (h:QO b x=some y):b=true /\ x=y:=by
 cases b with
 | false=>cases h
 | true=>exact ⟨rfl,Option.some.inj h⟩
theorem QL {σ:Type} {S:QV C σ} {s:σ} {env:Env C} {os:List (Option (Obj C))} (s':σ) (h1:S.Inv s') (h2:S.μ s' < S.μ s) (h3:(S.fin s').val=(S.fin s).val) (h4:env=S.canon s') (h5:os=(S.objs s').map some):Leaf (some ((Ev.X.normal,env),os)) (LedR S s) :=
 Ju.2 (.inl ⟨rfl,s',h1,h2,h3,h4,h5⟩)
theorem QA {σ:Type} {S:QV C σ} {s:σ} {i:Nat} {env:Env C} {os:List (Option (Obj C))} (os':List (Obj C)) (h1:(S.fin s).val=some ((.exit i,env),os')) (h2:os=os'.map some):Leaf (some ((Ev.X.exit i,env),os)) (LedR S s) :=
 Ju.2 (.inr ⟨by simp,os',h1,h2⟩)
theorem Zy {σ:Type} {S:QV C σ} {s:σ} {env:Env C} {os:List (Option (Obj C))} (os':List (Obj C)) (h1:(S.fin s).val=some ((.ret,env),os')) (h2:os=os'.map some):Leaf (some ((Ev.X.ret,env),os)) (LedR S s) :=
 Ju.2 (.inr ⟨by simp,os',h1,h2⟩)
end
theorem Qrz {a b:Int} (h:a=b):(a == b)=true:=by simp [h]
theorem Qpy {a b:Int} (h:¬ a=b):(a == b)=false:=by simp [h]
theorem QmB {a b:Int} (h:¬ a=b):(a != b)=true:=by simp [h]
theorem QiG {a b:Int} (h:a=b):(a != b)=false:=by simp [h]
theorem QcE {a b:Nat} (h:a=b):Nat.beq a b=true:=by simp [h]
theorem QiH {n b:Nat} (h:n * b <= 1099511627776):Qs n b=true:=by simp [Qs,h]
theorem Qaq {n:Int} (h:-9223372036854775808 <= n /\ n <= 9223372036854775807):IntKind.i64.wrap n=n:=Qq h.1 h.2
def QiI (n:Int):UInt8:=UInt8.ofNat (IntKind.u8.wrap n).toNat
def leB (n:Int):Nat->List UInt8
 | 0=>[]
 | w+1=>QiI n::leB (n.fdiv 256) w
def QrA:List UInt8->Nat
 | []=>0
 | x::l=>x.toNat+256 * QrA l
theorem VU:∀ (w:Nat) (n:Int),(leB n w).length=w
 | 0,_=>rfl
 | w+1,n=>by simp [leB,VU w]
def QC (n a b:Int):Bool:=decide (a <= n) && decide (n <= b)
theorem Q8 {x a b:Int}:QC x a b=true ↔ a <= x /\ x <= b:=by simp [QC]
def Qor {α:Type} (one:α->Bool) (two:α->α->Bool) (l:List α) (i:Nat):Bool:=Qmy one two (Qsu l i) (l.drop i)
def QmC (w:Zb):Bool:=QC w.key 0 23 && QC w.value 0 255
def Qsv (x y:Zb):Bool:=decide (x.key < y.key)
def Zn (l:List Zb):Bool:=decide (l.length <= 4) && Qor QmC Qsv l 0
def mayB (r:Rec):Bool:=QC r.place 1 1048575 && Zn r.writes && (r.yes || r.writes.isEmpty)
def fitW (w:Zb):Bool:=QC w.key 0 255 && QC w.value 0 255
def QiJ (w:Zb):List UInt8:=[QiI w.key,QiI w.value]
def Qe7 (r:Rec):List UInt8:=leB r.place 3++leB (bif r.yes then 1 else 0) 1++leB r.writes.length 1++r.writes.flatMap QiJ
theorem QgL (w:Zb):(QiJ w).length=2:=rfl
theorem QmD {w:Zb} (h:QmC w=true):fitW w=true:=by
 simp only [QmC,fitW,Bool.and_eq_true,Q8] at h ⊢;omega
theorem QcF {α:Type} (one:α->Bool) (two:α->α->Bool):∀ (l:List α) (p:Option α),Qmy one two p l=true->l.all one=true
 | [],_,_=>rfl
 | x::l,p,h=>by
  simp only [Qmy,Bool.and_eq_true] at h;simp only [List.all_cons,Bool.and_eq_true];exact ⟨h.1.1,QcF one two l _ h.2⟩
theorem QaK {α:Type} {one:α->Bool} {two:α->α->Bool} {l:List α} (h:Qor one two l 0=true):l.all one=true:=QcF one two _ _ h
theorem Qpz {α:Type} {p q:α->Bool} {l:List α} (h:l.all p=true) (hpq:∀ x,p x=true->q x=true):l.all q=true:=by
 rw [List.all_eq_true] at h ⊢;exact fun x hx=>hpq x (h x hx)
theorem QiK {p:Int} {y:Bool} {l:List Zb} (h:mayB ⟨p,y,l⟩=true):(1 <= p /\ p <= 1048575) /\ l.length <= 4 /\ l.all fitW=true:=by
 simp only [mayB,Bool.and_eq_true,Q8,Zn,decide_eq_true_eq] at h;exact ⟨h.1.1,h.1.2.1,Qpz (QaK h.1.2.2) fun _=>QmD⟩
theorem QdX {α β:Type} (l:List α) (f:α->List β) (n:Nat) (h:∀ x,(f x).length=n):(l.flatMap f).length=n * l.length:=by
 induction l with
 | nil=>rfl
 | cons x l ih=>simp only [List.flatMap_cons,List.length_append,h,ih,List.length_cons,Nat.mul_succ];omega
def lRow (first n many:Int):Int:=if 0 <= n /\ n < many then first+n else -1
def lRing (p w:Int):Int:=if 0 <= p /\ 2 <= w /\ w <= 8 then 13+p % w else -1
def lStream (q o:Int):Int:=if 0 <= q /\ q <= 2 /\ 0 <= o then 51+16 * q+o % 16 else -1
def lField (first slot f many fields:Int):Int:=if 0 <= slot /\ slot < many /\ 0 <= f /\ f < fields then first+slot * fields+f else -1
theorem Zu (n:Int):(BitVec.ofInt IntKind.i64.bits n).toNat=(n % 18446744073709551616).toNat:=by
 rw [BitVec.toNat_ofInt];simp only [IntKind.bits]
 congr 1
theorem Jx {p w:Int} (hw:0 < w):0 <= p % w /\ p % w < w:=⟨Int.emod_nonneg _ (by omega),Int.emod_lt_of_pos _ hw⟩
theorem YP {x a b:Int} (h:QC x a b=false):¬ (a <= x /\ x <= b):=by rw [<- Q8];simp [h]
theorem QdY {p w:Int} (h:0 <= p):p.tmod w=p % w:=Int.tmod_eq_emod_of_nonneg h
theorem Zi {α:Type} {c:Bool} {x y z:α} (h1:c=true->x=z) (h2:c=false->y=z):cond c x y=z:=by cases c;exact h2 rfl;exact h1 rfl
def ZO:List Int:=0::1::List.replicate 289 0++(List.replicate 160 [(0:Int),-1,0]).flatten
theorem QaL {α:Type} [DecidableEq α] (l m:List α) (i:Nat) (d:α) (hlt:i < l.length) (hlen:l.length=m.length) :
 decide (l.drop i=m.drop i)=(decide (l.getD i d=m.getD i d) && decide (l.drop (i+1)=m.drop (i+1))):=by
 have e1:=List.drop_eq_getElem_cons hlt;have e2:=List.drop_eq_getElem_cons (show i < m.length by omega)
 have h1:l.getD i d=l[i]:=by simp [hlt]
 have h2:m.getD i d=m[i]'(by omega):=by simp [show i < m.length by omega]
 rw [h1,h2,e1,e2,Bool.eq_iff_iff];simp only [List.cons.injEq,decide_eq_true_eq,Bool.and_eq_true]
theorem QcG {α:Type} [DecidableEq α] (l m:List α) (i:Nat) (h1:l.length <= i) (h2:m.length <= i):decide (l.drop i=m.drop i)=true:=by
 simp [List.drop_eq_nil_of_le h1,List.drop_eq_nil_of_le h2]
def QpA (a b:Int):Int:=bits .u32 (fun _ u v=>u ^^^ v) a b
def crcS (n:Int):Int:=if n % 2=1 then QpA (n / 2) 3988292384 else n / 2
def QrB:Nat->Int->Int
 | 0,n=>n
 | k+1,n=>QrB k (crcS n)
def crc8 (n:Int):Int:=QrB 8 n
def Qsw (n:Int) (l:List UInt8):Int:=l.foldl (fun n c=>crc8 (QpA n (c.toNat:Int))) n
def Qsx (l:List UInt8):Int:=QpA 4294967295 (Qsw 4294967295 l)
def QpB (b:List UInt8):List UInt8:=b++leB (Qsx b) 4
theorem QiL (b:List UInt8):(QpB b).length=b.length+4:=by simp [QpB,VU]
def QiM (n:Int) (load:List UInt8):List UInt8:=QpB (leB n 6++leB load.length 2++load)
theorem QgM (n:Int) (load:List UInt8):(QiM n load).length=load.length+12:=by
 simp [QiM,QiL,VU];omega
theorem Jf {α:Type} {c:Bool} {x y z:α} (h:c=true) (h2:x=z):cond c x y=z:=by rw [h];exact h2
theorem QpC {α:Type} {c:Bool} {x y z:α} (h:c=false) (h2:y=z):cond c x y=z:=by rw [h];exact h2
theorem Vb {α:Type} {c:Bool} {x y z:α} (h1:c=true->x=z) (h2:c=false->y=z):cond c x y=z:=by cases c;exact h2 rfl;exact h1 rfl
def Zz (s:Sector):Bool:=decide (0 <= s.n) && decide (s.n <= 1048575) && decide (s.b.length <= 640) && (decide (0 < s.n) || s.b == [])
def YQ (l:List Sector):Bool:=decide (l.length=33) && l.all Zz
def Ki (now sure:List Sector) (i:Nat):Bool:=((now.zip sure).drop i).all fun p=>decide (p.2.n <= p.1.n)
def Qx (now sure:List Sector):Bool:=YQ now && YQ sure && Ki now sure 0
theorem QaM {now sure:List Sector} (h:Qx now sure=true):now.length=33 /\ sure.length=33:=by
 simp only [Qx,YQ,Bool.and_eq_true,decide_eq_true_eq] at h;exact ⟨h.1.1.1,h.1.2.1⟩
def sec0:Sector:=⟨0,[]⟩
theorem Vc {α:Type} (l:List α) (p:α->Bool) (i:Nat) (h:i < l.length) (d:α):(l.drop i).all p=(p (l.getD i d) && (l.drop (i+1)).all p):=by
 have e:l.getD i d=l[i]:=by simp [h]
 rw [List.drop_eq_getElem_cons h,e,List.all_cons]
theorem QgN {now sure:List Sector} (i:Nat) (h1:i < now.length) (h2:i < sure.length) (d:Sector):Ki now sure i=(decide ((sure.getD i d).n <= (now.getD i d).n) && Ki now sure (i+1)):=by
 unfold Ki;rw [Vc _ _ i (by simp;omega) (d,d)]
 have e:(now.zip sure).getD i (d,d)=(now.getD i d,sure.getD i d):=by
  have hz:i < (now.zip sure).length:=by simp;omega
  simp [List.getD_eq_getElem?_getD,List.getElem?_eq_getElem hz,h1,h2]
 rw [e]
theorem QiN {now sure:List Sector} (i:Nat) (h:now.length <= i):Ki now sure i=true:=by
 unfold Ki;rw [List.drop_eq_nil_of_le (by simp;omega)];rfl
def Yy (now sure:List Sector) (k n:Int) (b:List UInt8):Bool:=Qx now sure && (decide (0 <= k) && decide (k < 33) && decide (1 <= n) && !(b == []) && Zz ⟨n,b⟩)
def Vu (now:List Sector) (k:Nat) (n:Int) (b:List UInt8):List Sector:=if (now.getD k sec0).n < n then now.set k ⟨n,b⟩ else now
theorem JU (now:List Sector) (k:Nat) (n:Int) (b:List UInt8):(Vu now k n b).length=now.length:=by unfold Vu;split <;> simp
def QP:List Sector:=List.replicate 33 ⟨0,[]⟩
theorem KW {l:List Sector} (h:YQ l=true):l.length=33:=by simp only [YQ,Bool.and_eq_true,decide_eq_true_eq] at h;exact h.1
def pNow (now sure:List Sector) (k n:Int) (b:List UInt8):List Sector:=bif Yy now sure k n b then Vu now k.toNat n b else []
def QcH (now sure:List Sector) (k n:Int) (b:List UInt8):List Sector:=bif Yy now sure k n b then sure else []
def Qr (l:List Sector):Bool:=decide (l.length <= 9223372036854775807) && l.all fun s=>Qe s.b.length
theorem Vv {l:List Sector}:Qr l=true ↔ l.length <= 9223372036854775807 /\ ∀ s ∈ l,Qe s.b.length=true:=by simp [Qr]
theorem QmE {l:List Sector} (h:Qr l=true) (i:Nat) (hi:i < l.length) (d:Sector):Qe (l.getD i d).b.length=true:=by
 have e:l.getD i d=l[i]:=by simp [hi]
 rw [e];exact (Vv.1 h).2 _ (List.getElem_mem hi)
theorem KX {now sure:List Sector} {k n:Int} {b:List UInt8} (h:Yy now sure k n b=true):Qx now sure=true /\ 0 <= k /\ k < 33 /\ 1 <= n /\ b ≠ [] /\ Zz ⟨n,b⟩=true:=by
 simp only [Yy,Bool.and_eq_true,decide_eq_true_eq] at h;obtain ⟨h1,⟨⟨⟨h2,h3⟩,h4⟩,h5⟩,h6⟩:=h;exact ⟨h1,h2,h3,h4,by simpa using h5,h6⟩
theorem Yj {now sure:List Sector} {k n:Int} {b:List UInt8} (h:¬ (Qx now sure=true /\ 0 <= k /\ k < 33 /\ 1 <= n /\ b ≠ [] /\ Zz ⟨n,b⟩=true)):Yy now sure k n b=false:=by
 cases e:Yy now sure k n b
 · rfl
 · exact absurd (KX e) h
def Zv (w:Int):Int:=if 0 <= w /\ w <= 1099510841343 then w else 0
def plc (w:Int):Int:=Zv w / 1048576
def bare (w:Int):Int:=Zv w % 1048576
def OkWord (p h:Int):Prop:=0 <= p /\ p <= 1048575 /\ (256 <= h /\ h <= 262143 \/ h=0 /\ p=0)
instance instOkWord (p h:Int):Decidable (OkWord p h):=by unfold OkWord;infer_instance
def wordN (p h:Int):Int:=if OkWord p h then p * 1048576+h else 0
def QcI (p h:Int):Int:=if OkWord p h then 0 else 2
theorem QcJ (w:Int):0 <= Zv w /\ Zv w <= 1099510841343:=by unfold Zv;split <;> omega
theorem Zj {w:Int} (h:¬ (0 <= w /\ w <= 1099510841343)):Zv w=0:=if_neg h
theorem Q9 {w:Int} (h:0 <= w /\ w <= 1099510841343):Zv w=w:=if_pos h
theorem Qos {w:Int} (h:0 <= w):w.fdiv 1048576=w / 1048576:=Int.fdiv_eq_ediv_of_nonneg _ (by decide)
theorem Qsy {n:Int} (h:0 <= n /\ n < 1099511627776):bits .i64 (fun _ u v=>u &&& v) n 1099511627775=n:=by
 unfold bits;rw [BitVec.toNat_and,Zu,Zu];have e:((1099511627775:Int) % 18446744073709551616).toNat=2 ^ 40 - 1:=by decide
 rw [e,Nat.and_two_pow_sub_one_eq_mod,Qq (by omega) (by omega)]
 omega
theorem QrC (n:Int):bits .i64 (fun _ u v=>u &&& v) n 1048575=n % 1048576:=by
 unfold bits;rw [BitVec.toNat_and,Zu,Zu];have e:((1048575:Int) % 18446744073709551616).toNat=2 ^ 20 - 1:=by decide
 rw [e,Nat.and_two_pow_sub_one_eq_mod,Qq (by omega) (by omega)]
 omega
theorem or20 {p h:Int} (hp:0 <= p /\ p <= 1048575) (hh:0 <= h /\ h < 1048576):bits .i64 (fun _ u v=>u ||| v) (p * 1048576) h=p * 1048576+h:=by
 obtain ⟨p,rfl⟩:∃ n:Nat,p=n:=⟨p.toNat,by omega⟩
 obtain ⟨h,rfl⟩:∃ n:Nat,h=n:=⟨h.toNat,by omega⟩
 unfold bits;have e:(p:Int) * 1048576=((p * 1048576:Nat):Int):=by simp
 rw [e]
 have h1:∀ x:Nat,x < 2 ^ 64->(BitVec.ofInt IntKind.i64.bits (x:Int)).toNat=x:=by
  intro x hx;rw [BitVec.toNat_ofInt];simp only [IntKind.bits];omega
 rw [BitVec.toNat_or,h1 _ (by omega),h1 _ (by omega)]
 have h2:p * 1048576 ||| h=p * 1048576+h:=by
  rw [Nat.mul_comm p 1048576,show (1048576:Nat)=2 ^ 20 from rfl,<- Nat.two_pow_add_eq_or_of_lt (by omega)]
 rw [h2,Qq (by omega) (by omega)]
 simp
theorem QcK {C:Cdc} {p h:Int} (hw:OkWord p h):(D.tup (.acons (.int .i64 (p * 1048576+h)) (.acons (.int .i64 0) .anil)):D C)=.tup (.acons (.int .i64 (wordN p h)) (.acons (.int .i64 (QcI p h)) .anil)):=by
 rw [wordN,QcI,if_pos hw,if_pos hw]
theorem QcL {C:Cdc} {p h:Int} (hw:¬ OkWord p h):(D.tup (.acons (.int .i64 0) (.acons (.int .i64 2) .anil)):D C)=.tup (.acons (.int .i64 (wordN p h)) (.acons (.int .i64 (QcI p h)) .anil)):=by
 rw [wordN,QcI,if_neg hw,if_neg hw]
def Qot (k a b v g:Int) (tl al:Nat):Prop :=
 -1 <= b /\ b <= 1152921504606846976 /\ -1 <= v /\ v <= 1152921504606846976 /\ -1 <= g /\ g <= 1152921504606846976 /\ al <= 96 /\ tl <= 640 /\ 0 <= a /\ a <= 4095 /\
 (k=0 /\ b=0 /\ v=0 /\ tl=0 /\ al=0 \/ k=2 /\ tl=0 /\ al=0 \/ k=7 /\ a=0 /\ b=0 /\ v=0 /\ g=0 /\ tl=0)
instance instMayAct (k a b v g:Int) (tl al:Nat):Decidable (Qot k a b v g tl al):=by unfold Qot;infer_instance
structure GoR where
 st:List Frame
 got:List Int
 over:Bool
 kind:Int
 a:Int
 b:Int
 v:Int
 is:Bool
def gLoad (r got:List Int) (n cell:Int):GoR:=⟨[⟨68,n,r⟩],got,false,0,cell,0,0,true⟩
def gCas (r got:List Int) (n cell b v:Int):GoR:=⟨[⟨68,n,r⟩],got,false,2,cell,b,v,true⟩
def gEnd (l:List Int):GoR:=⟨[],l,true,0,0,0,0,false⟩
def goF (k:Int) (r got:List Int) (x:Int):GoR :=
 if k=0 \/ k=5 then gLoad r got 1 1
 else if k=1 then gLoad (r.set 2 x) got 2 0
 else if k=2 then (if x+r.getD 0 0 < r.getD 2 0 then gEnd [170] else if 1048575 < r.getD 2 0 then gEnd [172] else gLoad r got 3 4)
 else if k=3 then (if x < r.getD 2 0 - 32 then gEnd [171] else gLoad r got 4 (lRing (r.getD 2 0) (r.getD 0 0)))
 else if k=4 then (if plc x=r.getD 2 0 then gCas (r.set 3 x) got 5 1 (r.getD 2 0) (r.getD 2 0+1) else if r.getD 2 0 < plc x then gLoad (r.set 3 x) got 1 1
  else gCas (r.set 3 x) got 6 (lRing (r.getD 2 0) (r.getD 0 0)) x (wordN (r.getD 2 0) (r.getD 1 0)))
 else if k=6 then (if x=0 then gLoad r got 1 1 else gCas r got 7 1 (r.getD 2 0) (r.getD 2 0+1))
 else gEnd [0,r.getD 2 0]
def goR (st:List Frame) (got:List Int):GoR:=match st with
 | [f]=>goF f.at' f.r got (got.headD 0)
 | _=>gEnd []
def OkF (k:Int) (r:List Int) (x:Int):Prop:=1 <= k /\ k <= 7 /\ 0 <= x /\ x <= 1152921504606846976 /\ 2 <= r.getD 0 0 /\ r.getD 0 0 <= 8 /\ 0 <= r.getD 2 0 /\ r.getD 2 0 <= 1099511627776
instance instOkF (k:Int) (r:List Int) (x:Int):Decidable (OkF k r x):=by unfold OkF;infer_instance
def okFr (k:Int) (r got:List Int):Bool:=match got with
 | []=>decide (k=0)
 | [x]=>decide (OkF k r x)
 | _=>false
def okG (c:Int) (st:List Frame) (got:List Int):Bool:=match st with
 | [f]=>decide (0 <= c /\ c <= 3 /\ f.prog=68 /\ f.r.length=96) && okFr f.at' f.r got
 | _=>false
theorem st2 (f:Frame) (l:List Frame):List.take (Int.toNat (IntKind.wrap IntKind.i64 (↑(List.length [f]) - 1))) l=[]:=rfl
theorem Qa {l:List Int} {i j:Nat} {x d:Int} (h:i ≠ j):(l.set i x).getD j d=l.getD j d:=by
 simp [List.getD_eq_getElem?_getD,List.getElem?_set_ne h]
theorem Qby {p w:Int} (hp:0 <= p) (hw:2 <= w /\ w <= 8):13 <= lRing p w /\ lRing p w < 13+w:=by
 have:=Jx (p:=p) (w:=w) (by omega)
 rw [lRing,if_pos ⟨hp,hw.1,hw.2⟩];omega
theorem QmF (p h:Int):0 <= wordN p h /\ wordN p h <= 1099510841343:=by
 unfold wordN
 split
 · rename_i hw;unfold OkWord at hw;omega
 · omega
theorem goF2 (r got:List Int) (x:Int):goF 2 r got x=if x+r.getD 0 0 < r.getD 2 0 then gEnd [170] else if 1048575 < r.getD 2 0 then gEnd [172] else gLoad r got 3 4:=rfl
theorem goF3 (r got:List Int) (x:Int):goF 3 r got x=if x < r.getD 2 0 - 32 then gEnd [171] else gLoad r got 4 (lRing (r.getD 2 0) (r.getD 0 0)):=rfl
theorem goF4 (r got:List Int) (x:Int):goF 4 r got x=if plc x=r.getD 2 0 then gCas (r.set 3 x) got 5 1 (r.getD 2 0) (r.getD 2 0+1) else if r.getD 2 0 < plc x then gLoad (r.set 3 x) got 1 1
 else gCas (r.set 3 x) got 6 (lRing (r.getD 2 0) (r.getD 0 0)) x (wordN (r.getD 2 0) (r.getD 1 0)):=rfl
def KY (n:Int):Bool:=decide (-1152921504606846976 <= n) && decide (n <= 1152921504606846976)
def cellsOK (l:List Int):Bool:=decide (l.length <= 1024) && l.all KY
def OkDo (l:List Int) (k a b v:Int):Prop:=(k=0 /\ b=0 /\ v=0 \/ k=2) /\ 0 <= a /\ a < l.length /\ -1152921504606846976 <= b /\ b <= 1152921504606846976 /\ -1152921504606846976 <= v /\ v <= 1152921504606846976
instance instOkDo (l:List Int) (k a b v:Int):Decidable (OkDo l k a b v):=by unfold OkDo;infer_instance
def doC (l:List Int) (k a b v:Int):List Int:=if k=2 /\ l.getD a.toNat 0=b then l.set a.toNat v else l
def doG (l:List Int) (k a b:Int):Int:=if k=0 then l.getD a.toNat 0 else if l.getD a.toNat 0=b then 1 else 0
def tkC (ts:List Task) (c:Int):Task:=ts.getD c.toNat ⟨0,[],[],false⟩
def stG (t:Task):GoR:=goR t.stack t.got
def stX (cs:List Int) (t:Task):Int:=doG cs (stG t).kind (stG t).a (stG t).b
def stCs (cs:List Int) (t:Task):List Int:=doC cs (stG t).kind (stG t).a (stG t).b (stG t).v
def stE (cs:List Int) (t:Task):GoR:=goR (stG t).st [stX cs t]
def stT (cs:List Int) (t:Task):Task:=⟨t.client,(stG t).st,[stX cs t],(stG t).over⟩
def Qe8 (cs:List Int) (t:Task) (now sure:List Sector):Prop :=
 okG t.client t.stack t.got=true /\ t.over=false /\ (stG t).is=true /\ OkDo cs (stG t).kind (stG t).a (stG t).b (stG t).v /\ cellsOK cs=true /\ Qx now sure=true /\ Qr now=true /\ Qr sure=true /\ okG t.client (stG t).st [stX cs t]=true
instance instOkStep (cs:List Int) (t:Task) (now sure:List Sector):Decidable (Qe8 cs t now sure):=by unfold Qe8;infer_instance
def regs' (w d:Int):List Int:=w::d::List.replicate 94 0
def hnd (c n:Int):Int:=(n % 1000+1) * 256+c
structure GS where
 cs:List Int
 ts:List Task
 busy:List Bool
 n:Int
 has:List Int
 told:List Int
def Vi (s:GS) (c:Int):Bool:=s.busy.getD c.toNat false
def QcM (w:Int) (s:GS) (c h:Int):GS :=
 { s with ts:=s.ts.set c.toNat ⟨c,[⟨68,0,regs' w h⟩],[],false⟩,busy:=s.busy.set c.toNat true }
def Qou (w:Int) (s:GS) (c:Int):GS :=
 if Vi s c then s else QcM w { s with n:=s.n+1,has:=s.has.set c.toNat (hnd c (s.n+1)) } c (hnd c (s.n+1))
def QrD (s:GS) (c:Int):GS :=
 { s with cs:=stCs s.cs (tkC s.ts c),ts:=s.ts.set c.toNat (stT s.cs (tkC s.ts c)),busy:=bif (stE s.cs (tkC s.ts c)).is then s.busy else s.busy.set c.toNat false }
def Jg (s:GS) (c:Int):List Int :=
 if (stE s.cs (tkC s.ts c)).is=false /\ (stE s.cs (tkC s.ts c)).got.length=2 /\ (stE s.cs (tkC s.ts c)).got.getD 0 0=0 then [(stE s.cs (tkC s.ts c)).got.getD 1 0] else []
def QdZ (s:GS) (c:Int):GS:=if Vi s c then { QrD s c with told:=s.told++Jg s c } else s
def frontG (s:GS):Int:=s.cs.getD 0 0
def QrE (w:Int) (s:GS):GS :=
 if plc (s.cs.getD (lRing (frontG s+1) w).toNat 0)=frontG s+1 then { s with cs:=s.cs.set 0 (frontG s+1) } else s
def Qsz (s:GS):GS:={ s with cs:=s.cs.set 4 (frontG s) }
def QpD (w:Int) (s:GS) (x dd:Int):GS :=
 if dd=0 then Qou w s (x % 4) else if dd=1 then QdZ s (x % 4) else if dd=2 then QrE w s else if dd=3 then Qsz s else s
def QrF (w:Int) (s:GS) (now sure:List Sector) (c:Int):Prop :=
 2 <= w /\ w <= 8 /\ s.ts.length=4 /\ s.busy.length=4 /\ s.has.length=4 /\ 0 <= s.n /\ s.n <= 1000000 /\ s.cs.length=771 /\ 0 <= frontG s /\ frontG s <= 1000000000 /\ s.told.length <= 1000000 /\ (Vi s c=true->Qe8 s.cs (tkC s.ts c) now sure)
theorem mod4 (x:Int):Int.tmod (IntKind.i64.wrap (Int.tmod x 4+4)) 4=x % 4:=by
 have h1:-4 < Int.tmod x 4:=Int.lt_tmod_of_pos _ (by decide)
 have h2:Int.tmod x 4 < 4:=Int.tmod_lt_of_pos _ (by decide)
 rw [Qq (by omega) (by omega),Int.tmod_eq_emod_of_nonneg (by omega)]
 have h3:x=4 * (x.tdiv 4)+x.tmod 4:=(Int.mul_tdiv_add_tmod x 4).symm;omega
def wd (p:Int) (hs:List Int):Int:=if p <= 0 then 0 else p * 1048576+hs.getD (p - 1).toNat 0
structure RW (w:Int) (cs hs:List Int):Prop where
 w0:2 <= w
 w1:w <= 8
 lc:cs.length=771
 fit:∀ i,-1152921504606846976 <= cs.getD i 0 /\ cs.getD i 0 <= 1152921504606846976
 q0:0 <= cs.getD 4 0
 qf:cs.getD 4 0 <= cs.getD 0 0
 fT:cs.getD 0 0 <= hs.length
 Tf:(hs.length:Int) <= cs.getD 0 0+w
 Tt:(hs.length:Int) <= cs.getD 1 0
 tT:cs.getD 1 0 <= hs.length+1
 t1:1 <= cs.getD 1 0
 hv:∀ d ∈ hs,256 <= d /\ d <= 262143
 Tk:(hs.length:Int) <= 100000
 TL:(hs.length:Int) - 32 <= cs.getD 4 0
 ring:∀ p:Int,hs.length - w < p->p <= hs.length->cs.getD (13+p % w).toNat 0=wd p hs
theorem QiO {l:List Int} {i:Nat} {d:Int} (h:i < l.length):l.getD i d=l[i]:=by
 rw [List.getD_eq_getElem?_getD,List.getElem?_eq_getElem h];rfl
theorem Qbz {l m:List Int} {i:Nat} {d:Int} (h:i < l.length):(l++m).getD i d=l.getD i d:=by
 rw [List.getD_eq_getElem?_getD,List.getD_eq_getElem?_getD,List.getElem?_append_left h]
theorem Qe9 {l:List Int} {x d:Int}:(l++[x]).getD l.length d=x:=by
 rw [List.getD_eq_getElem?_getD];simp
theorem Qd {l:List Int} {i:Nat} {x d:Int} (h:i < l.length):(l.set i x).getD i d=x:=by
 rw [List.getD_eq_getElem?_getD,List.getElem?_set_self h];rfl
theorem YA (l:List Int) (i j:Nat) (x d:Int) (h:i < l.length):(l.set i x).getD j d=if i=j then x else l.getD j d:=by
 by_cases e:i=j
 · subst e;rw [if_pos rfl];exact Qd h
 · rw [if_neg e];exact Qa e
theorem QsA {p:Int} {hs:List Int} (hv:∀ d ∈ hs,256 <= d /\ d <= 262143) (h1:1 <= p) (h2:p <= hs.length) (h3:(hs.length:Int) <= 100000) :
 wd p hs=p * 1048576+hs.getD (p - 1).toNat 0 /\ 256 <= hs.getD (p - 1).toNat 0 /\ hs.getD (p - 1).toNat 0 <= 262143:=by
 have hlt:(p - 1).toNat < hs.length:=by omega
 have e:hs.getD (p - 1).toNat 0=hs[(p - 1).toNat]:=QiO hlt;refine ⟨by rw [wd,if_neg (by omega)],?_⟩
 rw [e];exact hv _ (List.getElem_mem hlt)
theorem QmG {p d:Int} (h1:0 <= p) (h2:p <= 1048575) (h3:0 <= d) (h4:d <= 262143):plc (p * 1048576+d)=p /\ bare (p * 1048576+d)=d:=by
 unfold plc bare;rw [Q9 (by omega)]
 omega
theorem QiP {p:Int} {hs:List Int} (hv:∀ d ∈ hs,256 <= d /\ d <= 262143) (h2:p <= hs.length) (h3:(hs.length:Int) <= 100000) (h1:0 <= p):plc (wd p hs)=p /\ 0 <= wd p hs /\ wd p hs <= 1099510841343:=by
 by_cases h:1 <= p
 · obtain ⟨e,a,b⟩:=QsA hv h h2 h3;rw [e];exact ⟨(QmG (by omega) (by omega) (by omega) (by omega)).1,by omega,by omega⟩
 · have:p=0:=by omega
   subst this;rw [wd,if_pos (by decide)]
   exact ⟨by decide,by decide,by decide⟩
theorem QrG {p:Int} {hs:List Int} (h:p <= 0):wd p hs=0:=by rw [wd,if_pos h]
theorem QiQ {w T p:Int} (hw:0 < w):T - w < T - (T - p) % w /\ T - (T - p) % w <= T /\ (T - (T - p) % w) % w=p % w:=by
 have h1:0 <= (T - p) % w:=Int.emod_nonneg _ (by omega)
 have h2:(T - p) % w < w:=Int.emod_lt_of_pos _ hw;refine ⟨by omega,by omega,?_⟩
 have e:T - (T - p) % w=p+w * ((T - p) / w):=by
  have:=Int.mul_ediv_add_emod (T - p) w;omega
 rw [e,Int.add_mul_emod_self_left]
theorem RW.read {w:Int} {cs hs:List Int} (h:RW w cs hs) (p:Int):∃ p',hs.length - w < p' /\ p' <= hs.length /\ p' % w=p % w /\ cs.getD (13+p % w).toNat 0=wd p' hs:=by
 have hw:=h.w0;obtain ⟨a,b,c⟩:=QiQ (w:=w) (T:=hs.length) (p:=p) (by omega)
 exact ⟨_,a,b,c,by rw [<- c];exact h.ring _ a b⟩
theorem RW.read_le {w:Int} {cs hs:List Int} (h:RW w cs hs) (p:Int):0 <= cs.getD (13+p % w).toNat 0 /\ cs.getD (13+p % w).toNat 0 <= 1099510841343 /\ plc (cs.getD (13+p % w).toNat 0) <= hs.length:=by
 obtain ⟨p',a,b,c,e⟩:=h.read p;rw [e]
 by_cases h0:0 <= p'
 · obtain ⟨x,y,z⟩:=QiP h.hv b h.Tk h0;exact ⟨y,z,by rw [x];exact b⟩
 · rw [QrG (by omega)]
   refine ⟨by decide,by decide,?_⟩
   have:plc 0=0:=by decide
   omega
theorem RW.cell {w:Int} {cs hs:List Int} (h:RW w cs hs) (p:Int):(13+p % w).toNat < 21 /\ 13 <= (13+p % w).toNat /\ ((13+p % w).toNat:Int)=13+p % w:=by
 have hw:=h.w0;have hw1:=h.w1;have:=Jx (p:=p) (w:=w) (by omega)
 omega
theorem QmH {w T p p':Int} (hw:2 <= w) (h1:T - w < p) (h2:p <= T) (h3:T - w < p') (h4:p' <= T) (he:p % w=p' % w):p=p':=by
 have h5:(p - p') % w=0:=Int.emod_eq_emod_iff_emod_sub_eq_zero.1 he;have h6:w ∣ (p - p'):=Int.dvd_of_emod_eq_zero h5;obtain ⟨k,hk⟩:=h6
 have:k=0:=by
  rcases Int.lt_trichotomy k 0 with h | h | h
  · have:w * k <= w * (-1):=Int.mul_le_mul_of_nonneg_left (by omega) (by omega)
    omega
  · exact h
  · have:w * 1 <= w * k:=Int.mul_le_mul_of_nonneg_left (by omega) (by omega)
    omega
 subst this;omega
theorem RW.tail {w:Int} {cs hs:List Int} (h:RW w cs hs) {t0:Int} (h1:cs.getD 1 0=t0) (h2:t0 <= hs.length):RW w (cs.set 1 (t0+1)) hs:=by
 have hl:=h.lc;have g:∀ j,(cs.set 1 (t0+1)).getD j 0=if 1=j then t0+1 else cs.getD j 0:=fun j=>YA cs 1 j _ _ (by omega)
 have hTk:=h.Tk;have ht1:=h.t1;have hTt:=h.Tt;refine ⟨h.w0,h.w1,by simpa using hl,fun i=>?_,by rw [g];exact h.q0,by rw [g,g];exact h.qf,by rw [g];exact h.fT,by rw [g];exact h.Tf,by rw [g,if_pos rfl];omega,by rw [g,if_pos rfl];omega,by rw [g,if_pos rfl];omega,h.hv,h.Tk,by rw [g];exact h.TL,fun p a b=>?_⟩
 · rw [g]
   split
   · omega
   · exact h.fit i
 · have hc:=h.cell p;rw [g,if_neg (by omega)]
   exact h.ring p a b
theorem RW.give {w:Int} {cs hs:List Int} (h:RW w cs hs) {t0 d:Int} (h1:1 <= t0) (h2:t0 <= cs.getD 1 0) (h3:t0 <= cs.getD 0 0+w) (h4:plc (cs.getD (13+t0 % w).toNat 0) < t0) (hd:256 <= d /\ d <= 262143) (hk:(hs.length:Int) < 100000) (hL:t0 - 32 <= cs.getD 4 0) :
 t0=hs.length+1 /\ RW w (cs.set (13+t0 % w).toNat (t0 * 1048576+d)) (hs++[d]):=by
 have hl:=h.lc;have hw:=h.w0;have htT:=h.tT;have hTf:=h.Tf;have hTt:=h.Tt;have hc:=h.cell t0
 have ht0:t0=hs.length+1:=by
  by_cases hle:t0 <= hs.length
  · exfalso
    by_cases hf:hs.length - w < t0
    · have e:=h.ring t0 hf hle;rw [e,(QiP h.hv hle h.Tk (by omega)).1] at h4
      omega
    · obtain ⟨p',a,b,c,e⟩:=h.read t0;have:0 <= p':=by omega
      rw [e,(QiP h.hv b h.Tk this).1] at h4;omega
  · omega
 have g:∀ j,(cs.set (13+t0 % w).toNat (t0 * 1048576+d)).getD j 0=if (13+t0 % w).toNat=j then t0 * 1048576+d else cs.getD j 0:=fun j=>YA cs _ j _ _ (by omega)
 have hlen:((hs++[d]).length:Int)=hs.length+1:=by simp
 refine ⟨ht0,h.w0,h.w1,by simpa using hl,fun i=>?_,?_,?_,?_,?_,?_,?_,?_,?_,?_,?_,fun p a b=>?_⟩
 · rw [g]
   split
   · omega
   · exact h.fit i
 · rw [g,if_neg (by omega)];exact h.q0
 · rw [g,g,if_neg (by omega),if_neg (by omega)];exact h.qf
 · rw [g,if_neg (by omega),hlen];have:=h.fT;omega
 · rw [g,if_neg (by omega),hlen];omega
 · rw [g,if_neg (by omega),hlen];omega
 · rw [g,if_neg (by omega),hlen];omega
 · rw [g,if_neg (by omega)];exact h.t1
 · intro x hx;simp only [List.mem_append,List.mem_singleton] at hx;rcases hx with hx | rfl
   · exact h.hv x hx
   · exact hd
 · rw [hlen];omega
 · rw [g,if_neg (by omega),hlen];omega
 · rw [hlen] at a b;have hcp:=h.cell p;rw [g]
   by_cases e:p=hs.length+1
   · have e2:p=t0:=by omega
     subst e2;rw [if_pos rfl,wd,if_neg (by omega)]
     have:(p - 1).toNat=hs.length:=by omega
     rw [this,Qe9]
   · have hne:¬ (13+t0 % w).toNat=(13+p % w).toNat:=fun q=>by
      have q2:t0 % w=p % w:=by omega
      have:=QmH (w:=w) (T:=hs.length+1) hw (by omega) (by omega) (p:=t0) (p':=p) (by omega) (by omega) q2
      omega
     rw [if_neg hne,h.ring p (by omega) (by omega)]
     unfold wd
     by_cases hp:p <= 0
     · rw [if_pos hp,if_pos hp]
     · rw [if_neg hp,if_neg hp];have:(p - 1).toNat < hs.length:=by omega
       rw [Qbz this]
theorem RW.set_low {w:Int} {cs hs:List Int} (h:RW w cs hs) {i:Nat} {v:Int} (hi:i=0 \/ i=4) (hv:-1152921504606846976 <= v /\ v <= 1152921504606846976)
 (hq:0 <= (cs.set i v).getD 4 0 /\ (cs.set i v).getD 4 0 <= (cs.set i v).getD 0 0 /\ (cs.set i v).getD 0 0 <= hs.length /\ (hs.length:Int) <= (cs.set i v).getD 0 0+w) (hL:cs.getD 4 0 <= (cs.set i v).getD 4 0):RW w (cs.set i v) hs:=by
 have hl:=h.lc;have g:∀ j,(cs.set i v).getD j 0=if i=j then v else cs.getD j 0:=fun j=>YA cs i j _ _ (by omega)
 refine ⟨h.w0,h.w1,by simpa using hl,fun j=>?_,hq.1,hq.2.1,hq.2.2.1,hq.2.2.2,?_,?_,?_,h.hv,h.Tk,Int.le_trans h.TL hL,fun p a b=>?_⟩
 · rw [g]
   split
   · exact hv
   · exact h.fit j
 · rw [g,if_neg (by omega)];exact h.Tt
 · rw [g,if_neg (by omega)];exact h.tT
 · rw [g,if_neg (by omega)];exact h.t1
 · have hc:=h.cell p;rw [g,if_neg (by omega)]
   exact h.ring p a b
theorem KZ {p w:Int} (h0:0 <= p) (h1:2 <= w) (h2:w <= 8):lRing p w=13+p % w:=by rw [lRing,if_pos ⟨h0,h1,h2⟩]
theorem RW.done {w:Int} {cs hs:List Int} (h:RW w cs hs) (hp:plc (cs.getD (lRing (cs.getD 0 0+1) w).toNat 0)=cs.getD 0 0+1):RW w (cs.set 0 (cs.getD 0 0+1)) hs:=by
 have hl:=h.lc;have hq0:=h.q0;have hqf:=h.qf;have hfT:=h.fT;have hTk:=h.Tk;have hTf:=h.Tf;have g0:(cs.set 0 (cs.getD 0 0+1)).getD 0 0=cs.getD 0 0+1:=Qd (by omega)
 have g4:(cs.set 0 (cs.getD 0 0+1)).getD 4 0=cs.getD 4 0:=Qa (by decide)
 rw [KZ (by omega) h.w0 h.w1] at hp
 have:=(h.read_le (cs.getD 0 0+1)).2.2;rw [hp] at this;exact h.set_low (.inl rfl) (by omega) (by rw [g0,g4];omega) (by rw [g4];omega)
theorem RW.ckpt {w:Int} {cs hs:List Int} (h:RW w cs hs):RW w (cs.set 4 (cs.getD 0 0)) hs:=by
 have hl:=h.lc;have hq0:=h.q0;have hqf:=h.qf;have hfT:=h.fT;have hTf:=h.Tf;have hTk:=h.Tk;have g4:(cs.set 4 (cs.getD 0 0)).getD 4 0=cs.getD 0 0:=Qd (by omega)
 have g0:(cs.set 4 (cs.getD 0 0)).getD 0 0=cs.getD 0 0:=Qa (by decide)
 exact h.set_low (.inr rfl) (by omega) (by rw [g0,g4];omega) (by rw [g4];omega)
theorem RW.cellsOK {w:Int} {cs hs:List Int} (h:RW w cs hs):cellsOK cs=true:=by
 simp only [Go.Ev.cellsOK,Bool.and_eq_true,decide_eq_true_eq];refine ⟨by rw [h.lc];decide,List.all_eq_true.2 fun x hx=>?_⟩
 obtain ⟨i,hi,rfl⟩:=List.getElem_of_mem hx;have:=h.fit i;have e:cs.getD i 0=cs[i]:=by simp [hi]
 rw [e] at this;simp only [KY,Bool.and_eq_true,decide_eq_true_eq];exact this
def MayA (k a b v g:Int) (tl al:Nat):Prop :=
 -1 <= b /\ b <= 1152921504606846976 /\ -1 <= v /\ v <= 1152921504606846976 /\ -1 <= g /\ g <= 1152921504606846976 /\ al <= 96 /\ tl <= 640 /\ 0 <= a /\ a <= 4095 /\
 (k=0 /\ b=0 /\ v=0 /\ tl=0 /\ al=0 \/ k=1 /\ b=0 /\ tl=0 /\ al=0 \/ k=2 /\ tl=0 /\ al=0 \/ k=3 /\ b=0 /\ g=0 /\ tl=0 /\ al=0 \/ k=4 /\ v=0 /\ g=0 /\ al=0 \/
  k=5 /\ a=0 /\ b=0 /\ v=0 /\ g=0 /\ tl=0 /\ al=0 \/ k=6 /\ a <= 127 /\ b=0 /\ v=0 /\ g=0 /\ tl=0 \/ k=7 /\ a=0 /\ b=0 /\ v=0 /\ g=0 /\ tl=0)
instance instMayA (k a b v g:Int) (tl al:Nat):Decidable (MayA k a b v g tl al):=by unfold MayA;infer_instance
def Yc (k a b v g:Int) (tx:List UInt8) (ar:List Int):Bool:=decide (MayA k a b v g tx.length ar.length)
theorem QcN {C:Cdc} {k a b v g:Int} {tx:List UInt8} {ar:List Int} (h:MayA k a b v g tx.length ar.length):(some (D.bool true):Option (D C))=some (.bool (Yc k a b v g tx ar)):=by rw [Yc,decide_eq_true h]
theorem QcO {C:Cdc} {k a b v g:Int} {tx:List UInt8} {ar:List Int} (h:¬ MayA k a b v g tx.length ar.length):(some (D.bool false):Option (D C))=some (.bool (Yc k a b v g tx ar)):=by rw [Yc,decide_eq_false h]
theorem MayA.k0 {a b v g:Int} {tl al:Nat}:MayA 0 a b v g tl al ↔ (-1 <= b /\ b <= 1152921504606846976 /\ -1 <= v /\ v <= 1152921504606846976 /\ -1 <= g /\ g <= 1152921504606846976 /\ al <= 96 /\ tl <= 640 /\ 0 <= a /\ a <= 4095) /\ b=0 /\ v=0 /\ tl=0 /\ al=0:=by
 unfold MayA;refine ⟨fun ⟨q1,q2,q3,q4,q5,q6,q7,q8,q9,q10,h⟩=>⟨⟨q1,q2,q3,q4,q5,q6,q7,q8,q9,q10⟩,?_⟩,fun ⟨⟨q1,q2,q3,q4,q5,q6,q7,q8,q9,q10⟩,h⟩=>⟨q1,q2,q3,q4,q5,q6,q7,q8,q9,q10,.inl ⟨rfl,h⟩⟩⟩;rcases h with ⟨e,h⟩ | ⟨e,h⟩ | ⟨e,h⟩ | ⟨e,h⟩ | ⟨e,h⟩ | ⟨e,h⟩ | ⟨e,h⟩ | ⟨e,h⟩
 · exact h
 · exact absurd e (by decide)
 · exact absurd e (by decide)
 · exact absurd e (by decide)
 · exact absurd e (by decide)
 · exact absurd e (by decide)
 · exact absurd e (by decide)
 · exact absurd e (by decide)
theorem MayA.k1 {a b v g:Int} {tl al:Nat}:MayA 1 a b v g tl al ↔ (-1 <= b /\ b <= 1152921504606846976 /\ -1 <= v /\ v <= 1152921504606846976 /\ -1 <= g /\ g <= 1152921504606846976 /\ al <= 96 /\ tl <= 640 /\ 0 <= a /\ a <= 4095) /\ b=0 /\ tl=0 /\ al=0:=by
 unfold MayA;refine ⟨fun ⟨q1,q2,q3,q4,q5,q6,q7,q8,q9,q10,h⟩=>⟨⟨q1,q2,q3,q4,q5,q6,q7,q8,q9,q10⟩,?_⟩,fun ⟨⟨q1,q2,q3,q4,q5,q6,q7,q8,q9,q10⟩,h⟩=>⟨q1,q2,q3,q4,q5,q6,q7,q8,q9,q10,.inr (.inl ⟨rfl,h⟩)⟩⟩;rcases h with ⟨e,h⟩ | ⟨e,h⟩ | ⟨e,h⟩ | ⟨e,h⟩ | ⟨e,h⟩ | ⟨e,h⟩ | ⟨e,h⟩ | ⟨e,h⟩
 · exact absurd e (by decide)
 · exact h
 · exact absurd e (by decide)
 · exact absurd e (by decide)
 · exact absurd e (by decide)
 · exact absurd e (by decide)
 · exact absurd e (by decide)
 · exact absurd e (by decide)
theorem MayA.k2 {a b v g:Int} {tl al:Nat}:MayA 2 a b v g tl al ↔ (-1 <= b /\ b <= 1152921504606846976 /\ -1 <= v /\ v <= 1152921504606846976 /\ -1 <= g /\ g <= 1152921504606846976 /\ al <= 96 /\ tl <= 640 /\ 0 <= a /\ a <= 4095) /\ tl=0 /\ al=0:=by
 unfold MayA;refine ⟨fun ⟨q1,q2,q3,q4,q5,q6,q7,q8,q9,q10,h⟩=>⟨⟨q1,q2,q3,q4,q5,q6,q7,q8,q9,q10⟩,?_⟩,fun ⟨⟨q1,q2,q3,q4,q5,q6,q7,q8,q9,q10⟩,h⟩=>⟨q1,q2,q3,q4,q5,q6,q7,q8,q9,q10,.inr (.inr (.inl ⟨rfl,h⟩))⟩⟩;rcases h with ⟨e,h⟩ | ⟨e,h⟩ | ⟨e,h⟩ | ⟨e,h⟩ | ⟨e,h⟩ | ⟨e,h⟩ | ⟨e,h⟩ | ⟨e,h⟩
 · exact absurd e (by decide)
 · exact absurd e (by decide)
 · exact h
 · exact absurd e (by decide)
 · exact absurd e (by decide)
 · exact absurd e (by decide)
 · exact absurd e (by decide)
 · exact absurd e (by decide)
theorem MayA.k3 {a b v g:Int} {tl al:Nat}:MayA 3 a b v g tl al ↔ (-1 <= b /\ b <= 1152921504606846976 /\ -1 <= v /\ v <= 1152921504606846976 /\ -1 <= g /\ g <= 1152921504606846976 /\ al <= 96 /\ tl <= 640 /\ 0 <= a /\ a <= 4095) /\ b=0 /\ g=0 /\ tl=0 /\ al=0:=by
 unfold MayA;refine ⟨fun ⟨q1,q2,q3,q4,q5,q6,q7,q8,q9,q10,h⟩=>⟨⟨q1,q2,q3,q4,q5,q6,q7,q8,q9,q10⟩,?_⟩,fun ⟨⟨q1,q2,q3,q4,q5,q6,q7,q8,q9,q10⟩,h⟩=>⟨q1,q2,q3,q4,q5,q6,q7,q8,q9,q10,.inr (.inr (.inr (.inl ⟨rfl,h⟩)))⟩⟩;rcases h with ⟨e,h⟩ | ⟨e,h⟩ | ⟨e,h⟩ | ⟨e,h⟩ | ⟨e,h⟩ | ⟨e,h⟩ | ⟨e,h⟩ | ⟨e,h⟩
 · exact absurd e (by decide)
 · exact absurd e (by decide)
 · exact absurd e (by decide)
 · exact h
 · exact absurd e (by decide)
 · exact absurd e (by decide)
 · exact absurd e (by decide)
 · exact absurd e (by decide)
theorem MayA.k4 {a b v g:Int} {tl al:Nat}:MayA 4 a b v g tl al ↔ (-1 <= b /\ b <= 1152921504606846976 /\ -1 <= v /\ v <= 1152921504606846976 /\ -1 <= g /\ g <= 1152921504606846976 /\ al <= 96 /\ tl <= 640 /\ 0 <= a /\ a <= 4095) /\ v=0 /\ g=0 /\ al=0:=by
 unfold MayA;refine ⟨fun ⟨q1,q2,q3,q4,q5,q6,q7,q8,q9,q10,h⟩=>⟨⟨q1,q2,q3,q4,q5,q6,q7,q8,q9,q10⟩,?_⟩,fun ⟨⟨q1,q2,q3,q4,q5,q6,q7,q8,q9,q10⟩,h⟩=>⟨q1,q2,q3,q4,q5,q6,q7,q8,q9,q10,.inr (.inr (.inr (.inr (.inl ⟨rfl,h⟩))))⟩⟩;rcases h with ⟨e,h⟩ | ⟨e,h⟩ | ⟨e,h⟩ | ⟨e,h⟩ | ⟨e,h⟩ | ⟨e,h⟩ | ⟨e,h⟩ | ⟨e,h⟩
 · exact absurd e (by decide)
 · exact absurd e (by decide)
 · exact absurd e (by decide)
 · exact absurd e (by decide)
 · exact h
 · exact absurd e (by decide)
 · exact absurd e (by decide)
 · exact absurd e (by decide)
theorem MayA.k5 {a b v g:Int} {tl al:Nat}:MayA 5 a b v g tl al ↔ (-1 <= b /\ b <= 1152921504606846976 /\ -1 <= v /\ v <= 1152921504606846976 /\ -1 <= g /\ g <= 1152921504606846976 /\ al <= 96 /\ tl <= 640 /\ 0 <= a /\ a <= 4095) /\ a=0 /\ b=0 /\ v=0 /\ g=0 /\ tl=0 /\ al=0:=by
 unfold MayA;refine ⟨fun ⟨q1,q2,q3,q4,q5,q6,q7,q8,q9,q10,h⟩=>⟨⟨q1,q2,q3,q4,q5,q6,q7,q8,q9,q10⟩,?_⟩,fun ⟨⟨q1,q2,q3,q4,q5,q6,q7,q8,q9,q10⟩,h⟩=>⟨q1,q2,q3,q4,q5,q6,q7,q8,q9,q10,.inr (.inr (.inr (.inr (.inr (.inl ⟨rfl,h⟩)))))⟩⟩;rcases h with ⟨e,h⟩ | ⟨e,h⟩ | ⟨e,h⟩ | ⟨e,h⟩ | ⟨e,h⟩ | ⟨e,h⟩ | ⟨e,h⟩ | ⟨e,h⟩
 · exact absurd e (by decide)
 · exact absurd e (by decide)
 · exact absurd e (by decide)
 · exact absurd e (by decide)
 · exact absurd e (by decide)
 · exact h
 · exact absurd e (by decide)
 · exact absurd e (by decide)
theorem MayA.k6 {a b v g:Int} {tl al:Nat}:MayA 6 a b v g tl al ↔ (-1 <= b /\ b <= 1152921504606846976 /\ -1 <= v /\ v <= 1152921504606846976 /\ -1 <= g /\ g <= 1152921504606846976 /\ al <= 96 /\ tl <= 640 /\ 0 <= a /\ a <= 4095) /\ a <= 127 /\ b=0 /\ v=0 /\ g=0 /\ tl=0:=by
 unfold MayA;refine ⟨fun ⟨q1,q2,q3,q4,q5,q6,q7,q8,q9,q10,h⟩=>⟨⟨q1,q2,q3,q4,q5,q6,q7,q8,q9,q10⟩,?_⟩,fun ⟨⟨q1,q2,q3,q4,q5,q6,q7,q8,q9,q10⟩,h⟩=>⟨q1,q2,q3,q4,q5,q6,q7,q8,q9,q10,.inr (.inr (.inr (.inr (.inr (.inr (.inl ⟨rfl,h⟩))))))⟩⟩;rcases h with ⟨e,h⟩ | ⟨e,h⟩ | ⟨e,h⟩ | ⟨e,h⟩ | ⟨e,h⟩ | ⟨e,h⟩ | ⟨e,h⟩ | ⟨e,h⟩
 · exact absurd e (by decide)
 · exact absurd e (by decide)
 · exact absurd e (by decide)
 · exact absurd e (by decide)
 · exact absurd e (by decide)
 · exact absurd e (by decide)
 · exact h
 · exact absurd e (by decide)
theorem MayA.k7 {a b v g:Int} {tl al:Nat}:MayA 7 a b v g tl al ↔ (-1 <= b /\ b <= 1152921504606846976 /\ -1 <= v /\ v <= 1152921504606846976 /\ -1 <= g /\ g <= 1152921504606846976 /\ al <= 96 /\ tl <= 640 /\ 0 <= a /\ a <= 4095) /\ a=0 /\ b=0 /\ v=0 /\ g=0 /\ tl=0:=by
 unfold MayA;refine ⟨fun ⟨q1,q2,q3,q4,q5,q6,q7,q8,q9,q10,h⟩=>⟨⟨q1,q2,q3,q4,q5,q6,q7,q8,q9,q10⟩,?_⟩,fun ⟨⟨q1,q2,q3,q4,q5,q6,q7,q8,q9,q10⟩,h⟩=>⟨q1,q2,q3,q4,q5,q6,q7,q8,q9,q10,.inr (.inr (.inr (.inr (.inr (.inr (.inr (⟨rfl,h⟩)))))))⟩⟩;rcases h with ⟨e,h⟩ | ⟨e,h⟩ | ⟨e,h⟩ | ⟨e,h⟩ | ⟨e,h⟩ | ⟨e,h⟩ | ⟨e,h⟩ | ⟨e,h⟩
 · exact absurd e (by decide)
 · exact absurd e (by decide)
 · exact absurd e (by decide)
 · exact absurd e (by decide)
 · exact absurd e (by decide)
 · exact absurd e (by decide)
 · exact absurd e (by decide)
 · exact h
theorem cdD {α:Type} {p:Prop} [Decidable p] {x y z:α} (h1:p->x=z) (h2:¬ p->y=z):cond (decide p) x y=z:=by
 by_cases h:p
 · rw [decide_eq_true h];exact h1 h
 · rw [decide_eq_false h];exact h2 h
theorem cdE {α:Type} {a b:Int} {x y z:α} (h1:a=b->x=z) (h2:¬ a=b->y=z):cond (a == b) x y=z:=by
 by_cases h:a=b
 · rw [beq_iff_eq.2 h];exact h1 h
 · rw [beq_eq_false_iff_ne.2 h];exact h2 h
theorem cdS {α:Type} {t:List UInt8} {x y z:α} (h1:t.length=0->x=z) (h2:¬ t.length=0->y=z):cond (t == []) x y=z:=by
 by_cases h:t=[]
 · rw [beq_iff_eq.2 h];exact h1 (by rw [h];rfl)
 · rw [beq_eq_false_iff_ne.2 h];exact h2 (fun q=>h (List.eq_nil_of_length_eq_zero q))
def Vl (l:List Int) (k a b v:Int):Prop:=(k=0 /\ b=0 /\ v=0 \/ k=1 /\ b=0 \/ k=2 \/ k=3 /\ b=0) /\ 0 <= a /\ a < l.length /\ -1152921504606846976 <= b /\ b <= 1152921504606846976 /\ -1152921504606846976 <= v /\ v <= 1152921504606846976
instance instOkDo4 (l:List Int) (k a b v:Int):Decidable (Vl l k a b v):=by unfold Vl;infer_instance
def addC (n v:Int):Int:=max (min (n+v) 1152921504606846976) (-1152921504606846976)
def doC4 (l:List Int) (k a b v:Int):List Int:=if k=1 \/ k=2 /\ l.getD a.toNat 0=b then l.set a.toNat v else if k=3 then l.set a.toNat (addC (l.getD a.toNat 0) v) else l
def doG4 (l:List Int) (k a b:Int):Int:=if k=0 \/ k=3 then l.getD a.toNat 0 else if k=2 /\ l.getD a.toNat 0=b then 1 else 0
structure GoR4 where
 st:List Frame
 got:List Int
 over:Bool
 kind:Int
 a:Int
 b:Int
 v:Int
 g:Int
 is:Bool
def g4 (p n:Int) (r got:List Int) (kind a b v g:Int):GoR4:=⟨[⟨p,n,r⟩],got,false,kind,a,b,v,g,true⟩
def K0 (l:List Int):GoR4:=⟨[],l,true,0,0,0,0,0,false⟩
def regs1 (ar:List Int):List Int:=ar++List.replicate (96 - ar.length) 0
def QgO (l:Line):Bool:=decide (0 <= l.offset /\ l.offset < 4194304 /\ 1 <= l.place /\ l.place <= 1048575 /\ 0 <= l.j /\ l.j <= 3 /\ 0 <= l.key /\ l.key <= 7 /\ 0 <= l.value /\ l.value <= 255)
def QiR (l:Line):Int:=(l.offset+1) * 8589934592+l.place * 8192+l.j * 2048+l.key * 256+l.value
def QiS (w:Int):Line:=⟨w / 8589934592 - 1,w / 8192 % 1048576,w / 2048 % 4,w / 256 % 8,w % 256⟩
def QcP (w:Int):Option Line:=if 0 <= w /\ QgO (QiS w)=true then some (QiS w) else none
def QmI (l:Line):Int:=bif QgO l then QiR l else 0
theorem Qd0 {w:Int} (h0:0 <= w):QiR (QiS w)=w:=by
 unfold QiS QiR;simp only;omega
theorem QgP {w:Int} {l:Line} (h:QcP w=some l):QgO l=true /\ QiR l=w /\ l=QiS w /\ 0 <= w:=by
 unfold QcP at h
 split at h
 · rename_i q;cases h;exact ⟨q.2,Qd0 q.1,rfl,q.1⟩
 · cases h
def Vw (w:Int):Line:=(QcP w).getD ⟨0,0,0,0,0⟩
def flo:Int->List Int->Int
 | n,[]=>n
 | n,s::l=>flo (if 0 < s /\ s - 1 < n then s - 1 else n) l
def oBeg (k:Int) (r got:List Int) (x:Int):GoR4 :=
 if k=0 then g4 92 1 r got 0 0 0 0 0
 else if k=1 then g4 92 2 (r.set 1 x) got 1 (lRow 9 (r.getD 0 0) 4) 0 (x+1) 0
 else if k=2 then g4 92 3 r got 0 3 0 0 0
 else if r.getD 1 0 < x then g4 92 1 r got 0 0 0 0 0 else K0 [r.getD 1 0]
def QrH (k:Int) (r got:List Int) (x:Int):GoR4 :=
 if k=0 then g4 93 1 r got 0 0 0 0 0
 else if k=1 then g4 93 2 (r.set 0 x) got 0 3 0 0 0
 else if k=2 then (if x < r.getD 0 0 then g4 93 3 r got 2 3 x (r.getD 0 0) 0 else g4 93 4 (r.set 1 0) got 0 9 0 0 0)
 else if k=3 then (if x=0 then g4 93 2 r got 0 3 0 0 0 else g4 93 4 (r.set 1 0) got 0 9 0 0 0)
 else if r.getD 1 0=3 then K0 [flo (r.getD 0 0) [r.getD 2 0,r.getD 3 0,r.getD 4 0,x]]
 else g4 93 4 ((r.set (2+(r.getD 1 0).toNat) x).set 1 (r.getD 1 0+1)) got 0 (10+r.getD 1 0) 0 0 0
def QrI (k:Int) (r got:List Int) (x:Int):GoR4 :=
 if k=0 then g4 93 1 r got 0 0 0 0 0
 else if k=1 then g4 93 2 (r.set 0 x) got 0 3 0 0 0
 else if k=2 then (if x < r.getD 0 0 then g4 93 3 (r.set 1 x) got 2 3 x (r.getD 0 0) 0 else g4 93 4 (r.set 2 0) got 0 9 0 0 0)
 else if k=3 then (if x=0 then g4 93 2 r got 0 3 0 0 0 else g4 93 4 (r.set 2 0) got 0 9 0 0 0)
 else if r.getD 2 0=3 then K0 [flo (r.getD 0 0) [r.getD 3 0,r.getD 4 0,r.getD 5 0,x]]
 else g4 93 4 ((r.set (3+(r.getD 2 0).toNat) x).set 2 (r.getD 2 0+1)) got 0 (10+r.getD 2 0) 0 0 0
def goO (own:Bool) (st:List Frame) (got:List Int):GoR4:=match st with
 | [f]=>if f.prog=92 then oBeg f.at' f.r got (got.headD 0) else bif own then QrI f.at' f.r got (got.headD 0) else QrH f.at' f.r got (got.headD 0)
 | _=>K0 []
def okBeg (k:Int) (r got:List Int):Prop :=
 k=0 /\ got=[] \/ ∃ x,got=[x] /\ 1 <= k /\ k <= 3 /\ 0 <= x /\ x <= 1000000000 /\ 0 <= r.getD 0 0 /\ r.getD 0 0 <= 3
def QrJ (own:Bool) (k:Int) (r got:List Int):Prop :=
 k=0 /\ got=[] \/ ∃ x,got=[x] /\ 1 <= k /\ k <= 4 /\ 0 <= x /\ x <= 1000000000 /\ (2 <= k->0 <= r.getD 0 0 /\ r.getD 0 0 <= 1000000000) /\
  (k=4->bif own then 0 <= r.getD 2 0 /\ r.getD 2 0 <= 3 /\ (r.getD 2 0=3->r.getD 3 0 <= 1000000000 /\ r.getD 4 0 <= 1000000000 /\ r.getD 5 0 <= 1000000000)
   else 0 <= r.getD 1 0 /\ r.getD 1 0 <= 3 /\ (r.getD 1 0=3->r.getD 2 0 <= 1000000000 /\ r.getD 3 0 <= 1000000000 /\ r.getD 4 0 <= 1000000000))
def okO (own:Bool) (c:Int) (st:List Frame) (got:List Int):Prop :=
 0 <= c /\ c <= 3 /\ ∃ p k r,st=[⟨p,k,r⟩] /\ r.length=96 /\ (p=92 /\ okBeg k r got \/ p=93 /\ QrJ own k r got)
end Go.Ev
