/-
  A part of the proof of a statement of this seat: the model is run over values by content, proved sound; what the functions come to. No condition beyond the given statements. (text 4)
-/
import Derived.Test.YtkoeniljaccaiaaGreatP2
import Derived.KernelRfl
namespace Go.Ev
set_option linter.unusedVariables false
set_option linter.unusedSimpArgs false
section
variable {C:Cdc} {P:Program} {T:Tab C} {Φ:Fns C}
open Pg (Ex)
structure QdX (C:Cdc) (σ:Type) where
 k:Nat
 canon:σ->Env C
 objs:σ->List (Obj C)
 fin:σ->Ev.X × Env C
 fobjs:σ->List (Obj C)
 Inv:σ->Prop
 μ:σ->Nat
def Qj (k:Nat) (env:Env C) (os:List (Obj C)):Prop:=os.length=k /\ (∀ q ∈ env,∀ r ∈ q.2.refs,r < k) /\ ∀ o ∈ os,∀ r ∈ Obj.refs o,r < k
def Grow (os os':List (Obj C)) (f:Nat->Nat):Prop := ∀ j,j < os.length->f j=j \/ ∃ t own l own' l',os[j]? = some (.vec t own l) /\ os'[j]? = some (.vec t own' l') /\ l.length < l'.length
def Cx.partM (X:Cx) (k:Nat) (f:Nat->Nat):Cx:=⟨X.w,fun j=>if j < k then X.ρ (f j) else none,X.O⟩
theorem Cx.partM_mine {X:Cx} {k:Nat} {f:Nat->Nat} {b o:Nat}:(X.partM k f).mine b o ↔ ∃ j l,j < k /\ X.ρ (f j)=some l /\ l.owns b o:=by
 constructor
 · rintro ⟨j,l,h1,h2⟩
   simp only [Cx.partM] at h1
   split at h1
   · exact ⟨j,l,by assumption,h1,h2⟩
   · cases h1
 · rintro ⟨j,l,h0,h1,h2⟩
   exact ⟨j,l,by simp [Cx.partM,h0,h1],h2⟩
theorem Cx.partM_free {X:Cx} {k:Nat} {f:Nat->Nat} {b o:Nat} (h:X.free b o):(X.partM k f).free b o :=
 ⟨h.1,fun hm=>by obtain ⟨j,l,_,hl,ho⟩:=Cx.partM_mine.1 hm;exact h.2 ⟨f j,l,hl,ho⟩⟩
theorem Part.ctxM (L:Laws T) {X:Cx} {h:Heap C} {nx:Nat} {lim:Lim} (g:G T X h nx lim) {os:List (Obj C)} {f:Nat->Nat} (p:Part h os f) (top:Nat):G T (X.partM os.length f) (hpOf 0 os) os.length (lim0 top):=by
 obtain ⟨fi,hfi⟩:=QdW p.inj;have hX:Kps X (X.partM os.length f):=⟨fun b o v h1 h2=>⟨h1,Cx.partM_free h2⟩⟩;refine ⟨?_,?_,?_,?_,?_,?_,?_,?_,?_,Nat.zero_le _,?_⟩
 · intro id t d ho;rw [QA] at ho;have hlt:id < os.length:=(List.getElem?_eq_some_iff.1 ho).1;obtain ⟨b,c,h1,h2,h3,h4⟩:=g.var (f id) t (d.ren f) (p.at' id _ ho);have hrefs:∀ r ∈ d.refs,r < os.length:=p.refs _ (List.mem_of_getElem? ho);refine ⟨b,c,by simp [Cx.partM,hlt,h1],h2,?_,by rw [JI] at h4;exact h4⟩
   have h5:=h3.ren (X':=X.partM os.length f) fi L.encOK hX (fun r hr=>by
    rw [D.ren_refs,List.mem_map] at hr;obtain ⟨r0,hr0,rfl⟩:=hr;have:=hrefs r0 hr0;simp only [hfi r0 this,Cx.partM,this,if_true];exact .refl _)
   rwa [D.ren_ren f fi d (fun r hr=>hfi r (hrefs r hr))] at h5
 · intro id t own l ho;rw [QA] at ho;have hlt:id < os.length:=(List.getElem?_eq_some_iff.1 ho).1;obtain ⟨v,b,lo,hi,h1,h2⟩:=g.vec (f id) t own l (p.at' id _ ho);refine ⟨v,b,lo,hi,by simp [Cx.partM,hlt,h1],?_⟩
   exact h2.move L hX.cell (fun _=>rfl) (L.posE t)
 · intro id ck cv l ho;rw [QA] at ho;have hlt:id < os.length:=(List.getElem?_eq_some_iff.1 ho).1;obtain ⟨b,es,k,h1,h2,h3⟩:=g.map (f id) ck cv l (p.at' id _ ho);exact ⟨b,es,k,by simp [Cx.partM,hlt,h1],h2,h3.move L hX.cell⟩
 · intro id cc ho;rw [QA] at ho;have hlt:id < os.length:=(List.getElem?_eq_some_iff.1 ho).1;obtain ⟨s,h1,h2⟩:=g.ctl (f id) cc (p.at' id _ ho);exact ⟨s,by simp [Cx.partM,hlt,h1],h2.move L hX.cell fun _ _=>rfl⟩
 · intro id l hr;simp only [Cx.partM] at hr
   split at hr
   · rename_i hlt;rw [QA];simp [hlt]
   · cases hr
 · intro id o ho;rw [QA] at ho;have hlt:id < os.length:=(List.getElem?_eq_some_iff.1 ho).1;exact ⟨⟨.inl hlt,fun h=>h⟩,fun r hr=>⟨.inl (p.refs _ (List.mem_of_getElem? ho) r hr),fun h=>h⟩⟩
 · intro i j l l' b o o' h1 h2 h3 h4;simp only [Cx.partM] at h1 h2
   split at h1
   · split at h2
     · exact p.inj i j (by assumption) (by assumption) (g.apart _ _ _ _ _ _ _ h1 h2 h3 h4)
     · cases h2
   · cases h1
 · intro b o hm;obtain ⟨j,l,hj,hl,ho⟩:=Cx.partM_mine.1 hm;exact g.outer b o ⟨_,l,hl,ho⟩
 · intro b o ho;exact g.outs b o ho
 · exact fun q hq=>⟨(g.pre q hq).1,fun o hm=>by
    obtain ⟨j,l,hj,hl,ho⟩:=Cx.partM_mine.1 hm;exact (g.pre q hq).2 o ⟨_,l,hl,ho⟩⟩
theorem Qu.partM (L:Laws T) {X:Cx} {nx:Nat} {lim:Lim} {env env0:Env C} {tmps:Array Value} {k top:Nat} {f:Nat->Nat} (he:Qu T X nx lim env tmps) (hinj:∀ i j,i < k->j < k->f i=f j->i=j)
 (hs:∀ q ∈ env0,eget env q.1=q.2.ren f) (hr:∀ q ∈ env0,∀ r ∈ q.2.refs,r < k):Qu T (X.partM k f) k (lim0 top) env0 tmps:=by
 obtain ⟨fi,hfi⟩:=QdW hinj;intro t;rcases eget_mem env0 t with h | h
 · rw [h];exact RO.mk (RV.top _ _ _) rfl
 · have hrt:∀ r ∈ (eget env0 t).refs,r < k:=hr _ h;refine ⟨?_,fun r hh=>⟨.inl (hrt r hh),fun h=>h⟩⟩;have h1:=(he t).1;have h2:=hs _ h;simp only at h2;rw [h2] at h1
   have h3:=RV.ren (X:=X) (X':=X.partM k f) fi L.encOK (h:=h1) ⟨fun b o v a1 a2=>⟨a1,Cx.partM_free a2⟩⟩ (fun r hh=>by
    rw [D.ren_refs,List.mem_map] at hh;obtain ⟨r0,hr0,rfl⟩:=hh;have:=hrt r0 hr0;simp only [hfi r0 this,Cx.partM,this,if_true];exact .refl _)
   rwa [D.ren_ren f fi _ (fun r hh=>hfi r (hrt r hh))] at h3
theorem ZZ.lenV {X:Cx} {t:C.Ty} {own:Bool} {l:List (C.A t)} {v:Value} {b lo hi:Nat} (h:ZZ T X t own l v b lo hi):Ev.lenV v=l.length:=by
 rcases h with ⟨⟨a,rfl,_⟩,rfl,_⟩ | ⟨off,cp,rfl,_⟩ <;> rfl
theorem Part.stepM {X X1:Cx} {h':Heap C} {nx':Nat} {os os':List (Obj C)} {f:Nat->Nat} (g:G T X (hpOf 0 os) os.length (lim0 os.length)) (g1:G T X1 h' nx' (lim0 nx')) (s:Step X os.length (lim0 nx') X1) (p:Part h' os' f) (hlen:os'.length=os.length) (hg:Grow os os' f) :
 Step X os.length (lim0 os.length) (X1.partM os.length f):=by
 refine ⟨s.O,s.os,s.tape,s.output,s.size,fun id ho=>?_,fun b o hb hm=>?_,s.cell,s.block,s.frz⟩
 · by_cases hid:id < os.length
   · simp only [Cx.partM,hid,if_true];rcases hg id hid with hf | ⟨t,own,l,own',l',h1,h2,h3⟩
     · rw [hf];exact s.ρ id ⟨.inl hid,fun h=>h⟩
     · obtain ⟨v,b,lo,hi,a1,a2⟩:=g.vec id t own l (by rw [QA];exact h1)
       obtain ⟨v',b',lo',hi',c1,c2⟩:=g1.vec (f id) t own' l' (p.at' id _ h2);rw [a1,c1];have e1:=a2.lenV;have e2:=c2.lenV;exact ⟨rfl,by omega,fun h=>by omega⟩
   · have:(X1.partM os.length f).ρ id=none:=by simp [Cx.partM,hid]
     rw [this];cases X.ρ id <;> simp [Qd]
 · obtain ⟨j,l,hj,hl,ho⟩:=Cx.partM_mine.1 hm;exact s.mine b o hb ⟨f j,l,hl,ho⟩
def Qkj (T:Tab C) (Φ:Fns C) (g:FuncId) (b:Code) {σ:Type} (S:QdX C σ):Prop :=
 ∀ s,S.Inv s->Qj S.k (S.canon s) (S.objs s) /\ Qj S.k (S.fin s).2 (S.fobjs s) /\ ∃ n x env' h' nx' tr,Ex (0,0) (evC T Φ n g b (S.canon s)) (hpOf 0 (S.objs s)) S.k (x,env') h' nx' tr /\
  ((x=.normal /\ ∃ s',S.Inv s' /\ S.μ s' < S.μ s /\ S.fin s'=S.fin s /\ S.fobjs s'=S.fobjs s /\ Sub env' (S.canon s') /\ ∀ j,j < S.k->h'.get j=(S.objs s')[j]?) \/
   (x=.normal /\ ∃ s' f,S.Inv s' /\ S.μ s' < S.μ s /\ S.fin s'=S.fin s /\ S.fobjs s'=S.fobjs s /\ (∀ p ∈ S.canon s',eget env' p.1=p.2.ren f) /\ Part h' (S.objs s') f /\ Grow (S.objs s) (S.objs s') f) \/
   (x ≠ .normal /\ x=(S.fin s).1 /\ Sub env' (S.fin s).2 /\ ∀ j,j < S.k->h'.get j=(S.fobjs s)[j]?))
theorem G.relim2 {X:Cx} {h:Heap C} {nx nx' k:Nat} {lim lim':Lim} (g:G T X h nx lim) (hk:∀ id o,h.get id=some o->id < k /\ ∀ r ∈ o.refs,r < k) (hn:k <= nx') (hl:lim'.lo <= nx') (hH:∀ id,¬ lim'.H id):G T X h nx' lim' :=
 ⟨g.var,g.vec,g.map,g.ctl,g.dom,fun id o ho=>⟨⟨.inl (by have:=(hk id o ho).1;omega),hH id⟩,fun r hr=>⟨.inl (by have:=(hk id o ho).2 r hr;omega),hH r⟩⟩,g.apart,g.outer,g.outs,hl,g.pre⟩
theorem J2 {os:List (Obj C)} {k:Nat} (hl:os.length=k) (hr:∀ o ∈ os,∀ r ∈ Obj.refs o,r < k):∀ id o,(hpOf 0 os).get id=some o->id < k /\ ∀ r ∈ o.refs,r < k:=by
 intro id o ho;rw [QA] at ho;exact ⟨by rw [<- hl];exact (List.getElem?_eq_some_iff.1 ho).1,hr o (List.mem_of_getElem? ho)⟩
theorem QbR (K:QX P T) (F:Qi P T Φ) {g:FuncId} {fn:Func} {body b:Code} {σ:Type} {S:QdX C σ} (hr:Qkj T Φ g b S) (hf:Φ.fn g=some fn) (hb:fn.body=some body) (hcb:Zz fn.ntmps b=true) (hl:∀ b' ∈ QN b,b' ∈ QN body) {B:Nat->Bool} (hB:QaR B b)
 {Q:Exit->Act->World->Prop}:∀ (m:Nat) (s:σ) (X:Cx) (a:Act),S.Inv s->S.μ s < m->G T X (hpOf 0 (S.objs s)) S.k (lim0 S.k)->Qu T X S.k (lim0 S.k) (S.canon s) a.tmps->fn.ntmps <= a.tmps.size ->
  (∀ a' X',G T X' (hpOf 0 (S.fobjs s)) S.k (lim0 S.k)->Step X S.k (lim0 S.k) X'->Qu T X' S.k (lim0 S.k) (S.fin s).2 a'.tmps->a'.tmps.size=a.tmps.size->ZC X X' a'.defers a.defers->Kp B a.tmps a'.tmps->Q (QcK (S.fin s).1) a' X'.w)->Code.rounds P b Q m a X.w:=by
 intro m
 induction m with
 | zero=>intro s X a _ hm;omega
 | succ m ih =>
  intro s X a hI hm hg he hsz hk;obtain ⟨hr1,hr2,n,x,env',h',nx',tr,hx,hcase⟩:=hr s hI;rw [rounds_succ];have hle:S.k <= nx':=hx.le;have g0:G T X (hpOf 0 (S.objs s)) S.k (lim0 nx'):=hg.relim2 (J2 hr1.1 hr1.2.2) (Nat.le_refl _) (Nat.zero_le _) (fun _ h=>h)
  have e0:Qu T X S.k (lim0 nx') (S.canon s) a.tmps:=fun t=>⟨(he t).1,fun r hh=>⟨.inl (by
   rcases eget_mem (S.canon s) t with h | h
   · rw [h] at hh;simp [D.refs] at hh
   · exact hr1.2.1 _ h r hh),fun h=>h⟩⟩
  refine (wpIn_wide (n:=0)).1 ((QcO K F n).1 none 0 g fn.ntmps b (.inr ⟨rfl,fn,body,hf,rfl,hb,hl⟩) hcb B hB X (hpOf 0 (S.objs s)) S.k (lim0 nx') (0,0) (S.canon s) x env' h' nx' tr a _ g0 e0 (Nat.le_refl _) hsz hx ?_);intro a1 X1 g1 s1 e1 hs1 hd1 kp1
  -- the objects that are kept
  have key:∀ (os:List (Obj C)) (env0:Env C),Qj S.k env0 os->(∀ j,j < S.k->h'.get j=os[j]?)->Sub env' env0 ->
   ∃ X2,X2.w=X1.w /\ G T X2 (hpOf 0 os) S.k (lim0 S.k) /\ Step X S.k (lim0 S.k) X2 /\ Qu T X2 S.k (lim0 S.k) env0 a1.tmps /\ ZC X X2 a1.defers a.defers:=by
   intro os env0 ⟨q1,q2,q3⟩ hget hsub
   obtain ⟨X2,w2,g2,s2,hρ⟩:=G.drop K.base g1 (h':=hpOf 0 os) (fun id=>by
    rw [QA]
    by_cases hid:id < S.k
    · exact .inl (hget id hid).symm
    · exact .inr (List.getElem?_eq_none (by omega)))
   have hnone:∀ id,¬ id < S.k->X2.ρ id=none:=fun id hid=>by
    cases hq:X2.ρ id with
    | none=>rfl
    | some l =>
     have:=g2.dom id l hq;rw [QA,List.getElem?_eq_none (by omega)] at this
     cases this
   have s3:=s1.trans s2 hle;refine ⟨X2,w2,g2.relim2 (J2 q1 q3) (Nat.le_refl _) (Nat.zero_le _) (fun _ h=>h),⟨s3.O,s3.os,s3.tape,s3.output,s3.size,fun id ho=>?_,s3.mine,s3.cell,s3.block,s3.frz⟩,fun t=>?_,hd1.sub w2 s2.mine⟩
   · by_cases hid:id < S.k
     · exact s3.ρ id ⟨.inl hid,fun h=>h⟩
     · rw [hnone id hid];cases X.ρ id <;> simp [Qd]
   · rcases eget_mem env0 t with h | h
     · rw [h];exact RO.mk (RV.top _ _ _) rfl
     · have hrt:∀ r ∈ (eget env0 t).refs,r < S.k:=q2 _ h;have h2:=hsub _ h;simp only at h2;have h3:=(e1 t).1;rw [h2] at h3;exact ⟨h3.mono T K.base.encOK s2.keeps fun r hh=>s2.ρ r ⟨.inl (by have:=hrt r hh;omega),fun h=>h⟩,fun r hh=>⟨.inl (hrt r hh),fun h=>h⟩⟩
  rcases hcase with ⟨rfl,s',hI',hmu,hfin,hfo,hsub,hget⟩ | ⟨rfl,s',f,hI',hmu,hfin,hfo,hsub,hpart,hgrow⟩ | ⟨hne,hxf,hsub,hget⟩
  · obtain ⟨hr1',_,_⟩:=hr s' hI';obtain ⟨X2,w2,g2,s2,e2,hd2⟩:=key _ _ hr1' hget hsub;rw [<- w2];refine ih s' X2 a1 hI' (by omega) g2 e2 (by omega) fun a3 X3 g3 s3 e3 hs3 hd3 kp3=>?_
    rw [hfin] at e3 ⊢;rw [hfo] at g3;exact hk a3 X3 g3 (s2.trans s3 (Nat.le_refl _)) e3 (by omega) (hd2.trans s2 s3 hd3) (kp1.trans kp3)
  · obtain ⟨hr1',_,_⟩:=hr s' hI';have hlen':(S.objs s').length=(S.objs s).length:=by rw [hr1'.1,hr1.1]
    have g2:=Part.ctxM K.base g1 hpart (S.objs s').length;have e2:Qu T (X1.partM (S.objs s').length f) (S.objs s').length (lim0 (S.objs s').length) (S.canon s') a1.tmps:=Qu.partM K.base e1 hpart.inj hsub (by rw [hr1'.1];exact hr1'.2.1)
    have s2:=Part.stepM (by rw [hr1.1];exact hg) g1 (by rw [hr1.1];exact s1) hpart hlen' hgrow
    rw [hr1'.1] at g2 e2;rw [hr1.1] at s2;refine ih s' (X1.partM S.k f) a1 hI' (by omega) g2 e2 (by omega) fun a3 X3 g3 s3 e3 hs3 hd3 kp3=>?_
    rw [hfin] at e3 ⊢;rw [hfo] at g3;exact hk a3 X3 g3 (s2.trans s3 (Nat.le_refl _)) e3 (by omega) ((hd1.sub (X2:=X1.partM S.k f) rfl (fun b o _ hm=>by obtain ⟨j,q,_,hl,ho⟩:=Cx.partM_mine.1 hm;exact ⟨f j,q,hl,ho⟩)).trans s2 s3 hd3) (kp1.trans kp3)
  · obtain ⟨X2,w2,g2,s2,e2,hd2⟩:=key _ _ hr2 hget hsub;have hfinal:Q (QcK (S.fin s).1) a1 X2.w:=hk a1 X2 g2 s2 e2 hs1 hd2 kp1;rw [w2,<- hxf] at hfinal;cases x with
    | normal=>exact (hne rfl).elim
    | exit id=>exact hfinal
    | ret=>exact hfinal
theorem QdY {X:Cx} {t:C.Ty} {l:List (C.A t)} {v:Value} (h:R T X false (.sl t true l) [v]):∃ a,v=.slice a l.length l.length /\ ∃ b lo,ZZ T X t l.isEmpty l v b lo lo:=by
 have key:∀ a:Option Addr,∃ b lo,ZZ T X t true [] (.slice a 0 0) b lo lo:=by
  intro a
  by_cases hq:∃ b off,a=some ⟨b,off,none⟩
  · obtain ⟨b,off,rfl⟩:=hq;exact ⟨b,off,.inr ⟨off,0,rfl,Nat.le_refl _,by simp,.inl ⟨rfl,rfl,.inl rfl⟩⟩⟩
  · exact ⟨0,0,.inl ⟨⟨a,rfl,fun b off e=>hq ⟨b,off,e⟩⟩,rfl,Nat.le_refl _⟩⟩
 cases h with
 | sl0 _ _ a=>exact ⟨a,rfl,key a⟩
 | @sl _ _ _ b off _ _ ha hr hc hcap =>
  have:=hcap rfl;subst this;cases l with
  | nil=>exact ⟨_,rfl,key _⟩
  | cons x l=>exact ⟨_,rfl,b,off+(x::l).length * T.size (T.ety t),.inr ⟨off,(x::l).length,rfl,Nat.le_refl _,rfl,.inr ⟨rfl,rfl,⟨_,ha,hr⟩,.inl rfl⟩⟩⟩
theorem Yd (K:QX P T) {X:Cx} {h:Heap C} {nx t:Nat} {lim:Lim} {env:Env C} {tmps:Array Value} {ty:C.Ty} {l:List (C.A ty)} (g:G T X h nx lim) (he:Qu T X nx lim env tmps) (hn:nx < lim.top) (hs:eget env t=.sl ty true l) :
 ∃ X',X'.w=X.w /\ G T X' ((nx,.vec ty l.isEmpty l)::h) (nx+1) lim /\ Step X nx lim X' /\ Qu T X' (nx+1) lim ((t,.vs nx l.length)::env) tmps:=by
 have h1:=(he t).1;rw [hs] at h1;have h2:=h1.one rfl;obtain ⟨a,hv,b,lo,hV⟩:=QdY h2;obtain ⟨X',w',ρ',g',s'⟩:=G.newRef K g hn (Nat.le_refl _) hV;refine ⟨X',w',g',s',fun u=>?_⟩;rw [Qz]
 by_cases hu:u=t
 · subst hu;simp only [if_true];refine ⟨.inr ⟨rfl,?_⟩,by simpa [D.refs] using g.new hn⟩
   rw [hv];refine .vs fun v e b' lo' hi' hq=>?_;rw [ρ'] at hq;simp only [Option.some.injEq,Loc.vec.injEq] at hq;obtain ⟨rfl,_⟩:=hq;rw [hv];exact ⟨by simp [lenV],fun _=>rfl⟩
 · simp only [hu,if_false];exact (he u).step K.base s' (by omega)
def ZE (T:Tab C):TypeId->List Nat->Bool
 | _,[]=>true
 | t,i::p=>match T.ty t with
  | .struct _ fs=>Nat.blt i fs.length && ZE T (fs.getD i 0) p
  | .arr n e _=>Nat.blt i n && ZE T e p
  | _=>false
theorem VC:∀ (p:List Nat) (t:TypeId),ZE T t p=true->QT T t p:=by
 intro p
 induction p with
 | nil=>intro t _;trivial
 | cons i p ih =>
  intro t h;simp only [ZE] at h;simp only [QT];cases ht:T.ty t <;> simp only [ht,Bool.and_eq_true,Bool.false_eq_true] at h ⊢
  · exact ⟨by simpa [Nat.blt_eq] using h.1,ih _ h.2⟩
  · exact ⟨by simpa [Nat.blt_eq] using h.1,ih _ h.2⟩
theorem Je (K:QX P T) {X:Cx} {h:Heap C} {nx id:Nat} {lim:Lim} {env:Env C} {tmps:Array Value} {ty:C.Ty} {l:List (C.A ty)} {u t':TypeId} {d d':D C} {p:List Nat} (g:G T X h nx lim) (he:Qu T X nx lim env tmps) (hn:nx < lim.top)
 (ho:h.get id=some (.var u d)) (hp:ZE T u p=true) (hg:getPath T d p=some (.sl ty true l)) (hs:Ev.setPath T d p (.vs nx l.length)=some d') (ht:tyAt T u p=some t') (hf:fit T (.vs nx l.length:D C) (.inl t')=true) :
 ∃ X',X'.w=X.w /\ G T X' (Heap.put id (.var u d') ((nx,.vec ty l.isEmpty l)::h)) (nx+1) lim /\ Step X nx lim X' /\ Qu T X' (nx+1) lim env tmps:=by
 obtain ⟨b0,c0,h1,h2,h3,h4⟩:=g.var id u d ho;obtain ⟨c1,c2,c3,hc,hl,hr,_⟩:=h3.path K.base p (VC p u hp) h4 hg;have hne:id ≠ nx:=fun e=>by have:=(g.nums id _ ho).1.1;omega
 have hone:∃ v,c2=[v]:=by
  cases hr with
  | sl0=>exact ⟨_,rfl⟩
  | sl=>exact ⟨_,rfl⟩
 obtain ⟨v,rfl⟩:=hone;obtain ⟨a,hv,b,lo,hV⟩:=QdY hr;obtain ⟨X',w',ρ',g',s'⟩:=G.newRef K g hn (Nat.le_refl _) hV
 have hvs:R T X' false (.vs nx l.length) [v]:=by
  rw [hv];refine .vs fun v e b' lo' hi' hq=>?_;rw [ρ'] at hq;simp only [Option.some.injEq,Loc.vec.injEq] at hq;obtain ⟨rfl,_⟩:=hq;rw [hv];exact ⟨by simp [lenV],fun _=>rfl⟩
 have hrefs:∀ r ∈ d.refs,old nx lim r:=(g.nums id _ ho).2;have ho':Heap.get id ((nx,.vec ty l.isEmpty l)::h)=some (.var u d):=by rw [Qn];simp [hne,ho]
 obtain ⟨b1,c1',e1,e2,e3,e4⟩:=g'.var id u d ho';refine ⟨X',w',?_,s',fun t=>(he t).step K.base s' (by omega)⟩
 -- the object is seen otherwise;its cells are as they were
 have hs2:(Heap.get id ((nx,.vec ty l.isEmpty l)::h)).isSome=true:=by rw [ho'];rfl
 obtain ⟨k1,k2,k3,q1,q2,q3,q4,q5⟩:=e3.setPath K.base p (VC p u hp) e4 hs hvs ht hf;obtain ⟨m1,m2,m3,n1,n2,n3,_⟩:=e3.path K.base p (VC p u hp) e4 hg
 have hm2:m2.length=1:=by
  cases n3 with
  | sl0=>rfl
  | sl=>rfl
 have hcc:c1'.toList=c0.toList:=by
  have hw:X'.w.heap[b1]? = X.w.heap[b0]? := by
   have:X'.ρ id=X.ρ id \/ True:=.inr trivial;rw [w'];have hρ:Qd (X.ρ id) (X'.ρ id):=s'.ρ id (g.nums id _ ho).1;rw [h1,e1] at hρ;simp only [Qd,Loc.var.injEq] at hρ;rw [hρ.1]
  rw [e2,h2] at hw;simp only [Option.some.injEq,Obj.cells.injEq] at hw;rw [hw.1]
 have heq:k1++[v]++k3=c1'.toList:=by
  have a1:k1=c1:=by
   have:(k1++k2++k3).take (offAt T u p)=(c1++[v]++c3).take (offAt T u p):=by rw [<- q1,<- hc,hcc]
   rw [List.append_assoc,List.append_assoc,List.take_append_of_le_length (by omega),List.take_append_of_le_length (by omega),List.take_of_length_le (by omega),List.take_of_length_le (by omega)] at this
   exact this
  have a2:k2++k3=[v]++c3:=by
   have:k1++(k2++k3)=c1++([v]++c3):=by rw [<- List.append_assoc,<- List.append_assoc,<- q1,<- hc,hcc]
   rw [a1] at this;exact List.append_cancel_left this
  have a3:k3=c3:=by
   simp only [List.length_singleton] at q3;obtain ⟨y,rfl⟩:=List.length_eq_one_iff.1 q3;simp at a2;exact a2.2
  rw [a1,a3,hcc,hc]
 rw [heq] at q4;refine ⟨?_,?_,?_,?_,?_,?_,g'.apart,g'.outer,g'.outs,g'.low,g'.pre⟩
 · intro j t e hj;rw [Ql hs2] at hj
   by_cases hji:j=id
   · simp only [hji,if_true,Option.some.injEq,Ev.Obj.var.injEq] at hj;obtain ⟨rfl,rfl⟩:=hj;exact ⟨b1,c1',by rw [hji];exact e1,e2,q4,q5⟩
   · simp only [hji,if_false] at hj;exact g'.var j t e hj
 · intro j t own l hj;rw [Ql hs2] at hj
   by_cases hji:j=id
   · simp [hji] at hj
   · simp only [hji,if_false] at hj;exact g'.vec j t own l hj
 · intro j ck cv l hj;rw [Ql hs2] at hj
   by_cases hji:j=id
   · simp [hji] at hj
   · simp only [hji,if_false] at hj;exact g'.map j ck cv l hj
 · intro j cc hj;rw [Ql hs2] at hj
   by_cases hji:j=id
   · simp [hji] at hj
   · simp only [hji,if_false] at hj;exact g'.ctl j cc hj
 · intro j l hj;rw [Ql hs2]
   by_cases hji:j=id
   · simp [hji]
   · simp only [hji,if_false];exact g'.dom j l hj
 · intro j o hj;rw [Ql hs2] at hj
   by_cases hji:j=id
   · simp only [hji,if_true,Option.some.injEq] at hj;subst hj;refine ⟨by rw [hji];exact (g'.nums id _ ho').1,fun r hr=>?_⟩
     rcases refs_setPath K.base p hs r hr with h5 | h5
     · exact (hrefs r h5).mono (by omega)
     · simp only [D.refs,List.mem_singleton] at h5;rw [h5];exact g.new hn
   · simp only [hji,if_false] at hj;exact g'.nums j o hj
inductive Fnd where
 | slot (t i:Nat)
 | path (j:Nat) (p:List Nat)
 | lst (t:Nat)
def Qaf {α:Type} (T:Tab C):List Fnd->Env C->List Nat->(Env C->List Nat->Pg C α)->Pg C α
 | [],env,ids,k=>k env ids
 | .slot t i::r,env,ids,k=>match eget env t with
  | .sl ty true []=>.nw (.vec ty true []) fun id=>Qaf T r ((t,.vs id 0)::env) (ids++[id]) k
  | .sl ty true (x::l)=>.nw (.vec ty false (x::l)) fun id=>Qaf T r ((t,.vs id (x::l).length)::env) (ids++[id]) k
  | d=>match d.refs[i]? with
   | some id=>Qaf T r env (ids++[id]) k
   | none=>.fail
 | .lst t::r,env,ids,k=>match eget env t with
  | .sl ty true l=>.nw (.vec ty l.isEmpty l) fun id=>Qaf T r ((t,.vs id l.length)::env) (ids++[id]) k
  | _=>.fail
 | .path j p::r,env,ids,k=>match ids[j]? with
  | none=>.fail
  | some idj=>.rd idj fun
   | .var u d=>match getPath T d p with
    | some (.sl ty true [])=>match tyAt T u p with
     | some t'=>bif ZE T u p && fit T (.vs 0 0:D C) (.inl t') then .nw (.vec ty true []) fun id=>match Ev.setPath T d p (.vs id 0) with
      | some d'=>.wr idj (.var u d') (Qaf T r env (ids++[id]) k)
      | none=>.fail
      else .fail
     | none=>.fail
    | some (.sl ty true (x::l))=>match tyAt T u p with
     | some t'=>bif ZE T u p && fit T (.vs 0 0:D C) (.inl t') then .nw (.vec ty false (x::l)) fun id=>match Ev.setPath T d p (.vs id (x::l).length) with
      | some d'=>.wr idj (.var u d') (Qaf T r env (ids++[id]) k)
      | none=>.fail
      else .fail
     | none=>.fail
    | some x=>match x.refs with
     | id::_=>Qaf T r env (ids++[id]) k
     | []=>.fail
    | none=>.fail
   | _=>.fail
theorem QgC (K:QX P T) {α:Type} {e:Pg.Lv} {a:α} {h':Heap C} {nx':Nat} {lim:Lim} (hlim:nx' <= lim.top) {k:Env C->List Nat->Pg C α} {tmps:Array Value}:∀ (l:List Fnd) (X:Cx) (h:Heap C) (nx:Nat) (tr:Tr) (env:Env C) (ids:List Nat),
 G T X h nx lim->Qu T X nx lim env tmps->Ex e (Qaf T l env ids k) h nx a h' nx' tr ->
 ∃ X1 h1 nx1 env1 ids1 tr1,X1.w=X.w /\ G T X1 h1 nx1 lim /\ Step X nx lim X1 /\ nx <= nx1 /\ Qu T X1 nx1 lim env1 tmps /\ Ex e (k env1 ids1) h1 nx1 a h' nx' tr1:=by
 intro l
 induction l with
 | nil=>intro X h nx tr env ids g he hx;exact ⟨X,h,nx,env,ids,tr,rfl,g,.refl _ _ _,Nat.le_refl _,he,hx⟩
 | cons f l ih =>
  intro X h nx tr env ids g he hx;cases f with
  | slot t i =>
   simp only [Qaf] at hx
   split at hx
   · rename_i ty hq;obtain ⟨t',hx,_⟩:=Ex.nw hx;have hle:=hx.le;obtain ⟨X1,w1,g1,s1,e1⟩:=Yd K g he (by omega) hq
     obtain ⟨X2,h2,n2,env2,ids2,tr2,w2,g2,s2,hn2,e2,hx2⟩:=ih X1 _ _ _ _ _ g1 e1 hx;exact ⟨X2,h2,n2,env2,ids2,tr2,by rw [w2,w1],g2,s1.trans s2 (by omega),by omega,e2,hx2⟩
   · rename_i ty x l0 hq;obtain ⟨t',hx,_⟩:=Ex.nw hx;have hle:=hx.le;obtain ⟨X1,w1,g1,s1,e1⟩:=Yd K g he (by omega) hq
     obtain ⟨X2,h2,n2,env2,ids2,tr2,w2,g2,s2,hn2,e2,hx2⟩:=ih X1 _ _ _ _ _ g1 e1 hx;exact ⟨X2,h2,n2,env2,ids2,tr2,by rw [w2,w1],g2,s1.trans s2 (by omega),by omega,e2,hx2⟩
   · split at hx
     · exact ih X h nx tr env _ g he hx
     · exact (Ex.fail hx).elim
  | lst t =>
   simp only [Qaf] at hx
   split at hx
   · rename_i ty l0 hq;obtain ⟨t',hx,_⟩:=Ex.nw hx;have hle:=hx.le;obtain ⟨X1,w1,g1,s1,e1⟩:=Yd K g he (by omega) hq
     obtain ⟨X2,h2,n2,env2,ids2,tr2,w2,g2,s2,hn2,e2,hx2⟩:=ih X1 _ _ _ _ _ g1 e1 hx;exact ⟨X2,h2,n2,env2,ids2,tr2,by rw [w2,w1],g2,s1.trans s2 (by omega),by omega,e2,hx2⟩
   · exact (Ex.fail hx).elim
  | path j p =>
   simp only [Qaf] at hx
   split at hx
   · exact (Ex.fail hx).elim
   · rename_i idj hj;obtain ⟨o,t',ho,hx,_⟩:=Ex.rd hx;cases o with
     | vec _ _ _=>exact (Ex.fail hx).elim
     | map _ _ _=>exact (Ex.fail hx).elim
     | ctl _=>exact (Ex.fail hx).elim
     | var u d =>
      simp only at hx
      split at hx
      · rename_i ty hq
        split at hx
        · rename_i t' ht;cases hb:ZE T u p && fit T (.vs 0 0:D C) (.inl t') with
          | false=>rw [hb] at hx;exact (Ex.fail hx).elim
          | true =>
           rw [hb] at hx;simp only [cond_true] at hx;simp only [Bool.and_eq_true] at hb;obtain ⟨t1,hx,_⟩:=Ex.nw hx
           split at hx
           · rename_i d' hs;obtain ⟨o',t2,ho',hx,_⟩:=Ex.wr hx;have hle:=hx.le;obtain ⟨X1,w1,g1,s1,e1⟩:=Je K g he (by omega) ho hb.1 hq hs ht (by simpa [fit] using hb.2)
             obtain ⟨X2,h2,n2,env2,ids2,tr2,w2,g2,s2,hn2,e2,hx2⟩:=ih X1 _ _ _ _ _ g1 e1 hx;exact ⟨X2,h2,n2,env2,ids2,tr2,by rw [w2,w1],g2,s1.trans s2 (by omega),by omega,e2,hx2⟩
           · exact (Ex.fail hx).elim
        · exact (Ex.fail hx).elim
      · rename_i ty x l0 hq
        split at hx
        · rename_i t' ht;cases hb:ZE T u p && fit T (.vs 0 0:D C) (.inl t') with
          | false=>rw [hb] at hx;exact (Ex.fail hx).elim
          | true =>
           rw [hb] at hx;simp only [cond_true] at hx;simp only [Bool.and_eq_true] at hb;obtain ⟨t1,hx,_⟩:=Ex.nw hx
           split at hx
           · rename_i d' hs;obtain ⟨o',t2,ho',hx,_⟩:=Ex.wr hx;have hle:=hx.le;obtain ⟨X1,w1,g1,s1,e1⟩:=Je K g he (by omega) ho hb.1 hq hs ht (by simpa [fit] using hb.2)
             obtain ⟨X2,h2,n2,env2,ids2,tr2,w2,g2,s2,hn2,e2,hx2⟩:=ih X1 _ _ _ _ _ g1 e1 hx;exact ⟨X2,h2,n2,env2,ids2,tr2,by rw [w2,w1],g2,s1.trans s2 (by omega),by omega,e2,hx2⟩
           · exact (Ex.fail hx).elim
        · exact (Ex.fail hx).elim
      · split at hx
        · exact ih X h nx _ env _ g he hx
        · exact (Ex.fail hx).elim
      · exact (Ex.fail hx).elim
def Qph {α:Type}:List Nat->(List (Obj C)->Pg C α)->Pg C α
 | [],k=>k []
 | id::r,k=>.rd id fun o=>Qph r fun os=>k (o::os)
theorem Qal {α:Type} {e:Pg.Lv} {a:α} {h h':Heap C} {nx nx':Nat}:∀ (ids:List Nat) (k:List (Obj C)->Pg C α) (tr:Tr),Ex e (Qph ids k) h nx a h' nx' tr -> ∃ os tr1,os.length=ids.length /\ (∀ (j id:Nat) (o:Obj C),ids[j]? = some id->os[j]? = some o->h.get id=some o) /\ Ex e (k os) h nx a h' nx' tr1
 | [],k,tr,hx=>⟨[],tr,rfl,by simp,hx⟩
 | id::r,k,tr,hx=>by
  obtain ⟨o,t',ho,hx,_⟩:=Ex.rd hx;obtain ⟨os,tr1,h1,h2,h3⟩:=Qal r _ _ hx;refine ⟨o::os,tr1,by simp [h1],fun j i o' hj ho'=>?_,h3⟩
  cases j with
  | zero=>simp at hj ho';rw [<- hj,<- ho'];exact ho
  | succ j=>exact h2 j i o' (by simpa using hj) (by simpa using ho')
def Qii {α:Type}:List Nat->List (Obj C)->Pg C α->Pg C α
 | [],[],k=>k
 | id::r,o::os,k=>.wr id o (Qii r os k)
 | _,_,_=>.fail
theorem Qam {α:Type} {e:Pg.Lv} {a:α} {h':Heap C} {nx nx':Nat} {k:Pg C α}:∀ (ids:List Nat) (os:List (Obj C)) (h:Heap C) (tr:Tr),ids.Nodup->Ex e (Qii ids os k) h nx a h' nx' tr ->
 ∃ h1 tr1,os.length=ids.length /\ (∀ (j id:Nat) (o:Obj C),ids[j]? = some id->os[j]? = some o->h1.get id=some o) /\ (∀ id,id ∉ ids->h1.get id=h.get id) /\ Ex e k h1 nx a h' nx' tr1
 | [],[],h,tr,_,hx=>⟨h,tr,rfl,by simp,fun _ _=>rfl,hx⟩
 | id::r,o::os,h,tr,hn,hx=>by
  obtain ⟨o',t',ho,hx,_⟩:=Ex.wr hx;have hs:(h.get id).isSome=true:=by rw [ho];rfl
  obtain ⟨hn1,hn2⟩:=List.nodup_cons.1 hn;obtain ⟨h1,tr1,q1,q2,q3,q4⟩:=Qam r os _ _ hn2 hx;refine ⟨h1,tr1,by simp [q1],fun j i p hj hp=>?_,fun i hi=>?_,q4⟩
  · cases j with
    | zero =>
     simp at hj hp;subst hj;subst hp;rw [q3 _ hn1,Ql hs];simp
    | succ j=>exact q2 j i p (by simpa using hj) (by simpa using hp)
  · simp only [List.mem_cons,not_or] at hi;rw [q3 i hi.2,Ql hs];simp [hi.1]
 | [],_::_,_,_,_,hx=>(Ex.fail hx).elim
 | _::_,[],_,_,_,hx=>(Ex.fail hx).elim
def idx:List Nat->Nat->Nat
 | [],_=>0
 | a::l,n=>bif Nat.beq a n then 0 else idx l n+1
theorem Jf:∀ (l:List Nat) (n:Nat),n ∈ l->l[idx l n]? = some n
 | [],n,h=>by simp at h
 | a::l,n,h=>by
  rw [idx];cases hb:Nat.beq a n with
  | true=>simp [Nat.eq_of_beq_eq_true hb]
  | false =>
   have hne:=Nat.ne_of_beq_eq_false hb;simp only [List.mem_cons] at h;rcases h with h | h
   · exact absurd h.symm hne
   · simpa using Jf l n h
def QgD (n:Nat):List Nat->Bool
 | []=>true
 | a::l => !(Nat.beq a n) && QgD n l
theorem QaX {n:Nat}:∀ {l:List Nat},QgD n l=true->n ∉ l
 | [],_=>by simp
 | a::l,h=>by
  simp only [QgD,Bool.and_eq_true,Bool.not_eq_true'] at h;simp only [List.mem_cons,not_or];exact ⟨fun e=>Nat.ne_of_beq_eq_false h.1 e.symm,QaX h.2⟩
def Ju:List Nat->Bool
 | []=>true
 | a::l=>QgD a l && Ju l
theorem Yh:∀ {l:List Nat},Ju l=true->l.Nodup
 | [],_=>List.nodup_nil
 | a::l,h=>by
  simp only [Ju,Bool.and_eq_true] at h;exact List.nodup_cons.2 ⟨QaX h.1,Yh h.2⟩
def inB (ids l:List Nat):Bool:=l.all fun r=>ids.any (Nat.beq r)
theorem Yy {ids l:List Nat} (h:inB ids l=true):∀ r ∈ l,r ∈ ids:=by
 intro r hr;have:=List.all_eq_true.1 h r hr;obtain ⟨x,hx,e⟩:=List.any_eq_true.1 this;rw [Nat.eq_of_beq_eq_true e];exact hx
inductive RT (C:Cdc) where
 | fail
 | leaf (x:Ev.X) (env:Env C) (os:List (Obj C))
 | br (b:Bool) (l r:RT C)
def RT.val:RT C->Option ((Ev.X × Env C) × List (Obj C))
 | .fail=>none
 | .leaf x env os=>some ((x,env),os)
 | .br b l r=>bif b then l.val else r.val
def RT.pg (ids:List Nat):RT C->Pg C (Ev.X × Env C)
 | .fail=>.fail
 | .leaf x env os=>Qii ids (os.map (Obj.ren fun j=>ids.getD j 0)) (.ret (x,renE (fun j=>ids.getD j 0) env))
 | .br b l r=>.br b (l.pg ids) (r.pg ids)
theorem RT.pg_ok {e:Pg.Lv} {a:Ev.X × Env C} {h h':Heap C} {nx nx':Nat} {ids:List Nat}:∀ (t:RT C) (tr:Tr),Ex e (t.pg ids) h nx a h' nx' tr -> ∃ x env os,t.val=some ((x,env),os) /\ Ex e (Qii ids (os.map (Obj.ren fun j=>ids.getD j 0)) (.ret (x,renE (fun j=>ids.getD j 0) env))) h nx a h' nx' tr
 | .fail,tr,hx=>(Ex.fail hx).elim
 | .leaf x env os,tr,hx=>⟨x,env,os,rfl,hx⟩
 | .br b l r,tr,hx=>by
  rcases Ex.br hx with ⟨rfl,hx⟩ | ⟨rfl,hx⟩
  · exact RT.pg_ok l tr hx
  · exact RT.pg_ok r tr hx
def sumO (T:Tab C) (fs:List Fnd) (slots:List Nat) (res:Env C->List (Obj C)->RT C) (env:Env C):Pg C (Ev.X × Env C) :=
 Qaf T fs env [] fun env ids=>bif Ju ids then Qph ids fun os =>
  bif inB ids (slots.flatMap fun t=>(eget env t).refs) && inB ids (os.flatMap Obj.refs) then
   (res (slots.map fun t=>(t,(eget env t).ren (idx ids))) (os.map (Obj.ren (idx ids)))).pg ids
  else .fail
 else .fail
theorem Obj.ren_ren (f g:Nat->Nat) (o:Obj C) (h:∀ id ∈ o.refs,g (f id)=id):(o.ren f).ren g=o:=by
 cases o with
 | var t d=>simp only [Obj.ren];rw [D.ren_ren f g d h]
 | vec t own l=>rfl
 | map _ _ _=>rfl
 | ctl _=>rfl
theorem Qpi (K:QX P T) (F:Qi P T Φ) {g key:Nat} {fs:List Fnd} {slots:List Nat} {res:Env C->List (Obj C)->RT C} {σ:Type} {S:QdX C σ}
 (hr:∀ fn body b,Φ.fn g=some fn->fn.body=some body->b ∈ QN body->Qv b=key->Qkj T Φ g b S)
 (hres:∀ env0 os x env' os',(res env0 os).val=some ((x,env'),os') -> ∃ q,S.Inv q /\ (∀ p ∈ S.canon q,p ∈ env0) /\ os=S.objs q /\ S.fin q=(x,env') /\ S.fobjs q=os'):QcP P T Φ g key (sumO T fs slots res):=by
 intro fn body b hf hb hbl hkey B hB X h nx lim e env x env' h' nx' tr a Q gg he hlim hsz hx hk;obtain ⟨f1,f2,f3⟩:=F.fn g fn hf;obtain ⟨c1,c2⟩:=Za body (f3 body hb) b hbl;have hround:=hr fn body b hf hb hbl hkey;obtain ⟨X1,h1,nx1,env1,ids,tr1,w1,g1,s1,hn1,e1,hx1⟩:=QgC K hlim fs X h nx tr env [] gg he hx;cases hnd:Ju ids with
 | false=>rw [hnd] at hx1;exact (Ex.fail hx1).elim
 | true =>
 rw [hnd] at hx1;simp only [cond_true] at hx1;have hnodup:=Yh hnd;obtain ⟨os,tr2,hlen,hos,hx2⟩:=Qal ids _ _ hx1;cases hin:inB ids (slots.flatMap fun t=>(eget env1 t).refs) && inB ids (os.flatMap Obj.refs) with
 | false=>rw [hin] at hx2;exact (Ex.fail hx2).elim
 | true =>
 rw [hin] at hx2;simp only [cond_true] at hx2;simp only [Bool.and_eq_true] at hin;have hin1:=Yy hin.1;have hin2:=Yy hin.2;obtain ⟨xx,ee,os',hq,hx3⟩:=RT.pg_ok _ _ hx2
 · · obtain ⟨q,hI,hsub,hobjs,hfin,hfo⟩:=hres _ _ _ _ _ hq;obtain ⟨hr1,hr2,_⟩:=hround q hI;obtain ⟨h2,tr3,hl2,hw1,hw2,hx4⟩:=Qam ids _ h1 _ hnodup hx3;obtain ⟨hxx,eh,en,_⟩:=Ex.ret hx4;obtain ⟨rfl,rfl⟩:=Prod.mk.inj hxx;subst eh;subst en
     let f:Nat->Nat:=fun j=>ids.getD j 0
     have hfj:∀ j,j < ids.length->ids[j]? = some (f j):=fun j hj=>by simp [f,hj]
     have hk0:ids.length=S.k:=by rw [<- hr1.1,<- hobjs];simp [hlen]
     have hff:∀ r,r ∈ ids->f (idx ids r)=r:=fun r hr=>by
      have:=Jf ids r hr;simp only [f,List.getD_eq_getElem?_getD,this,Option.getD_some]
     have hlenO:(S.objs q).length=ids.length:=by rw [hr1.1,hk0]
     have part:Part h1 (S.objs q) f:=by
      refine ⟨fun j o ho=>?_,fun i j hi hj hij=>?_,fun o ho r hr=>by rw [hr1.1];exact hr1.2.2 o ho r hr⟩
      · rw [<- hobjs,List.getElem?_map] at ho;cases hoj:os[j]? with
        | none=>simp [hoj] at ho
        | some o0 =>
         simp only [hoj,Option.map_some,Option.some.injEq] at ho;have hj:j < ids.length:=by rw [<- hlen];exact (List.getElem?_eq_some_iff.1 hoj).1
         rw [hos j (f j) o0 (hfj j hj) hoj,<- ho,Obj.ren_ren];intro id hid;exact hff id (hin2 id (List.mem_flatMap.2 ⟨o0,List.mem_of_getElem? hoj,hid⟩))
      · rw [hlenO] at hi hj;have:=(List.getElem?_inj hi hnodup (j:=j)).1 (by rw [hfj i hi,hfj j hj];simp only [f] at hij ⊢;rw [hij])
        exact this
     have g2:=Part.ctx K.base g1 part (S.objs q).length
     have e2:Qu T (X1.part (S.objs q).length f) (S.objs q).length (lim0 (S.objs q).length) (S.canon q) a.tmps:=by
      refine Qu.part K.base e1 part.inj (fun p hp=>?_) (fun p hp r hr=>by rw [hr1.1];exact hr1.2.1 p hp r hr)
      have:=hsub p hp;simp only [List.mem_map] at this;obtain ⟨t,ht,rfl⟩:=this;simp only;rw [D.ren_ren];intro id hid;exact hff id (hin1 id (List.mem_flatMap.2 ⟨t,ht,hid⟩))
     rw [hr1.1] at g2 e2;rw [<- w1];show (Code.loop b).wp P Q a (X1.part S.k f).w;refine wp_loop_rounds (S.μ q+1) (QbR K F hround hf hb c1 c2 hB (S.μ q+1) q (X1.part S.k f) a hI (by omega) g2 e2 hsz fun a' X' g' s' e' hs' hd' kp'=>?_)
     rw [hfo] at g';rw [hfin] at e';have hlen':os'.length=(S.objs q).length:=by rw [<- hfo,hr2.1,hr1.1]
     have hrefs':∀ o ∈ os',∀ r ∈ Obj.refs o,r < (S.objs q).length:=fun o ho r hr=>by rw [hr1.1];exact hr2.2.2 o (by rw [hfo];exact ho) r hr
     obtain ⟨X2,w2,g3,s3,hρ,hB2⟩:=Part.back K.base g1 part hlen' hrefs' (X1:=X') (lim1:=lim0 S.k) (h':=h') (by rw [hr1.1];exact g') (by rw [hr1.1];exact s') (fun j o hj=>by
      have hlt:j < ids.length:=by rw [<- hlenO,<- hlen'];exact (List.getElem?_eq_some_iff.1 hj).1
      exact hw1 j (f j) _ (hfj j hlt) (by rw [List.getElem?_map,hj];rfl)) (fun id hid=>by
      refine hw2 id fun hm=>?_;obtain ⟨j,hj,hjj⟩:=List.getElem_of_mem hm;refine hid j (by rw [hlenO];exact hj) ?_
      simp [f,hj,hjj])
     have hold:∀ j,j < S.k->old nx' lim (f j):=fun j hj=>by
      have hj':j < (S.objs q).length:=by rw [hr1.1];exact hj
      exact (g1.nums _ _ (part.at' j (S.objs q)[j] (by simp [hj']))).1
     have e3:=Qu.back (nx:=nx') (lim:=lim) (f:=f) K.base e' (fun p hp r hr=>hr2.2.1 p (by rw [hfin];exact hp) r hr) (fun j hj=>hρ j (by rw [hr1.1];exact hj)) ⟨hB2⟩ hold
     have:=hk a' X2 g3 (s1.trans s3 hn1) e3 hs' (hd'.of_g g3 (by show X.w.heap.size <= X1.w.heap.size;rw [w1];exact Nat.le_refl _) w2) kp'
     rw [w2] at this;rw [hfin];exact this
def QcR:Nat->Nat->Heap C->List (Option (Obj C))
 | _,0,_=>[]
 | n,k+1,h=>h.get n::QcR (n+1) k h
theorem ZT:∀ (k n:Nat) (h:Heap C) (os:List (Obj C)),QcR n k h=os.map some -> ∀ j,j < k->h.get (n+j)=os[j]?
 | 0,_,_,_,_,j,hj=>by omega
 | k+1,n,h,[],e,j,hj=>by simp [QcR] at e
 | k+1,n,h,o::os,e,j,hj=>by
  simp only [QcR,List.map_cons,List.cons.injEq] at e;cases j with
  | zero=>simpa using e.1
  | succ j =>
   have:=ZT k (n+1) h os e.2 j (by omega)
   rw [show n+(j+1)=n+1+j by omega,this];simp
def movP (T:Tab C) (env:Env C) (h:Heap C):List Fnd->List Nat->Option (List Nat)
 | [],ids=>some ids
 | .slot t i::r,ids=>match (eget env t).refs[i]? with
  | some id=>movP T env h r (ids++[id])
  | none=>none
 | .lst t::r,ids=>match (eget env t).refs[0]? with
  | some id=>movP T env h r (ids++[id])
  | none=>none
 | .path j p::r,ids=>match ids[j]? with
  | some idj=>match h.get idj with
   | some (.var _ d)=>match getPath T d p with
    | some x=>match x.refs with
     | id::_=>movP T env h r (ids++[id])
     | []=>none
    | none=>none
   | _=>none
  | none=>none
def Qkk:Nat->List Nat->Bool
 | _,[]=>true
 | n,i::l=>Nat.beq i n && Qkk (n+1) l
def Qfs (h:Heap C) (g:Nat->Nat):List Nat->Option (List (Obj C))
 | []=>some []
 | i::l=>match h.get i,Qfs h g l with
  | some o,some r=>some (o.ren g::r)
  | _,_=>none
def QcS {α:Type} (k:Option α):Nat->List Nat->List (Obj C)->List (Obj C)->Option α
 | _,[],_,_=>k
 | n,i::l,o::os,o'::os'=>bif Nat.beq i n then QcS k (n+1) l os os' else (match o,o' with
  | .vec t _ x,.vec t' _ x'=>bif decide (t'=t) then (bif Nat.blt x.length x'.length then QcS k (n+1) l os os' else none) else none
  | _,_=>none)
 | _,_,_,_=>none
def settle (T:Tab C) (fs:List Fnd) (k:Nat) (kc:List Nat) (os:List (Obj C)) (env:Env C) (h:Heap C):Option ((Ev.X × Env C) × List (Option (Obj C))) :=
 match movP T env h fs [] with
 | none=>some ((.normal,sel kc env),QcR 0 k h)
 | some ids=>bif Qkk 0 ids then some ((.normal,sel kc env),QcR 0 k h) else
  bif Ju ids && Nat.beq ids.length k && inB ids ((sel kc env).flatMap fun p=>p.2.refs) && inB ids (ids.flatMap fun i=>match h.get i with | some o=>o.refs | none=>[]) then (match Qfs h (idx ids) ids with
   | some os'=>QcS (some ((.normal,renE (idx ids) (sel kc env)),os'.map some)) 0 ids os os'
   | none=>none) else none
def rndO (T:Tab C) (Φ:Fns C) (g key n k:Nat) (kc kf:List Nat) (fs:List Fnd) (env:Env C) (os:List (Obj C)):Option ((Ev.X × Env C) × List (Option (Obj C))):=(evC T Φ n g (VA Φ g key) env).run (0,0) (hpOf 0 os) k [] fun a h _ _=>match a.1 with
 | .normal=>settle T fs k kc os a.2 h
 | x=>some ((x,sel kf a.2),QcR 0 k h)
theorem QbS {α:Type} {k:Option α} {a:α}:∀ (l:List Nat) (n:Nat) (os os':List (Obj C)),QcS k n l os os'=some a->k=some a /\ ∀ j,j < l.length->l.getD j 0=n+j \/ ∃ t own x own' x',os[j]? = some (.vec t own x) /\ os'[j]? = some (.vec t own' x') /\ x.length < x'.length
 | [],n,os,os',h=>⟨by simpa [QcS] using h,fun j hj=>by simp at hj⟩
 | i::l,n,[],_,h=>by simp [QcS] at h
 | i::l,n,o::os,[],h=>by simp [QcS] at h
 | i::l,n,o::os,o'::os',h=>by
  simp only [QcS] at h
  have step:QcS k (n+1) l os os'=some a->(i=n \/ ∃ t own x own' x',o=.vec t own x /\ o'=.vec t own' x' /\ x.length < x'.length)->k=some a /\ ∀ j,j < (i::l).length->(i::l).getD j 0=n+j \/ ∃ t own x own' x',(o::os)[j]? = some (.vec t own x) /\ (o'::os')[j]? = some (.vec t own' x') /\ x.length < x'.length:=by
   intro h1 h2;obtain ⟨h3,h4⟩:=QbS l (n+1) os os' h1;refine ⟨h3,fun j hj=>?_⟩;cases j with
   | zero=>simpa using h2
   | succ j =>
    have:=h4 j (by simpa using hj)
    simp only [List.getD_cons_succ,List.getElem?_cons_succ];rcases this with h5 | h5
    · left;omega
    · exact .inr h5
  cases hb:Nat.beq i n with
  | true=>rw [hb] at h;exact step h (.inl (Nat.eq_of_beq_eq_true hb))
  | false =>
   rw [hb] at h;simp only [cond_false] at h;cases o with
   | var t d=>simp at h
   | map _ _ _=>simp at h
   | ctl _=>simp at h
   | vec t own x =>
    cases o' with
    | var t d=>simp at h
    | map _ _ _=>simp at h
    | ctl _=>simp at h
    | vec t' own' x' =>
     simp only at h;cases ht:decide (t'=t) with
     | false=>rw [ht] at h;cases h
     | true =>
      rw [ht] at h;have ht:t'=t:=by simpa using ht
      subst ht;cases hl:Nat.blt x.length x'.length with
      | false=>rw [hl] at h;cases h
      | true =>
       rw [hl] at h;exact step h (.inr ⟨t',own,x,own',x',rfl,rfl,by simpa [Nat.blt_eq] using hl⟩)
theorem QbT {h:Heap C} {g:Nat->Nat}:∀ (l:List Nat) (os:List (Obj C)),Qfs h g l=some os->os.length=l.length /\ ∀ (j i:Nat),l[j]? = some i -> ∃ o,h.get i=some o /\ os[j]? = some (o.ren g)
 | [],os,e=>by simp [Qfs] at e;subst e;simp
 | i::l,os,e=>by
  simp only [Qfs] at e;cases h1:h.get i with
  | none=>simp [h1] at e
  | some o =>
   cases h2:Qfs h g l with
   | none=>simp [h1,h2] at e
   | some r =>
    simp only [h1,h2,Option.some.injEq] at e;subst e;obtain ⟨a1,a2⟩:=QbT l r h2;refine ⟨by simp [a1],fun j i' hj=>?_⟩
    cases j with
    | zero=>simp at hj;subst hj;exact ⟨o,h1,rfl⟩
    | succ j=>exact a2 j i' (by simpa using hj)
def LedO {σ:Type} (S:QdX C σ) (s:σ) (r:(Ev.X × Env C) × List (Option (Obj C))):Prop :=
 (r.1.1=.normal /\ ∃ s',S.Inv s' /\ S.μ s' < S.μ s /\ S.fin s'=S.fin s /\ S.fobjs s'=S.fobjs s /\ r.1.2=S.canon s' /\ r.2=(S.objs s').map some) \/ (r.1.1 ≠ .normal /\ r.1=S.fin s /\ r.2=(S.fobjs s).map some)
theorem Qsw:∀ (l:List Nat) (env:Env C) (p:Nat × D C),p ∈ sel l env->eget env p.1=p.2:=fun l env p hp=>VB l env p hp
theorem settle_some {fs:List Fnd} {k:Nat} {kc:List Nat} {os:List (Obj C)} {env:Env C} {h:Heap C} {r:(Ev.X × Env C) × List (Option (Obj C))} (hr:settle T fs k kc os env h=some r) (hos:os.length=k) :
 (r=((.normal,sel kc env),QcR 0 k h)) \/ ∃ env0 os',r=((.normal,env0),os'.map some) /\ ∃ f,(∀ p ∈ env0,eget env p.1=p.2.ren f) /\ (os'.length=k /\ (∀ j o,os'[j]? = some o->h.get (f j)=some (o.ren f)) /\ (∀ i j,i < os'.length->j < os'.length->f i=f j->i=j)) /\ Grow os os' f:=by
 unfold settle at hr;cases hm:movP T env h fs [] with
 | none=>rw [hm] at hr;simp only [Option.some.injEq] at hr;exact .inl hr.symm
 | some ids =>
  rw [hm] at hr;simp only at hr;cases hb:Qkk 0 ids with
  | true=>rw [hb] at hr;simp only [cond_true,Option.some.injEq] at hr;exact .inl hr.symm
  | false =>
   rw [hb] at hr;simp only [cond_false] at hr;cases hc:Ju ids && Nat.beq ids.length k && inB ids ((sel kc env).flatMap fun p=>p.2.refs) && inB ids (ids.flatMap fun i=>match h.get i with | some o=>o.refs | none=>[]) with
   | false=>rw [hc] at hr;cases hr
   | true =>
    rw [hc] at hr;simp only [cond_true] at hr;simp only [Bool.and_eq_true] at hc;obtain ⟨⟨⟨c1,c2⟩,c3⟩,c4⟩:=hc;have c1:=Yh c1;have c2:=Nat.eq_of_beq_eq_true c2;have c3:=Yy c3;have c4:=Yy c4;cases ho:Qfs h (idx ids) ids with
    | none=>rw [ho] at hr;cases hr
    | some os' =>
     rw [ho] at hr;simp only at hr;obtain ⟨q1,q2⟩:=QbS _ _ _ _ hr;simp only [Option.some.injEq] at q1;obtain ⟨o1,o2⟩:=QbT _ _ ho
     have hff:∀ x,x ∈ ids->ids.getD (idx ids x) 0=x:=fun x hx=>by
      have:=Jf ids x hx;simp only [List.getD_eq_getElem?_getD,this,Option.getD_some]
     refine .inr ⟨_,os',q1.symm,fun j=>ids.getD j 0,fun p hp=>?_,⟨by rw [o1,c2],fun j o hj=>?_,fun i j hi hj hij=>?_⟩,fun j hj=>?_⟩
     · simp only [renE,List.mem_map] at hp;obtain ⟨p0,hp0,rfl⟩:=hp;simp only;rw [Qsw kc env p0 hp0,D.ren_ren];intro id hid;exact hff id (c3 id (List.mem_flatMap.2 ⟨p0,hp0,hid⟩))
     · have hjl:j < ids.length:=by rw [<- o1];exact (List.getElem?_eq_some_iff.1 hj).1
       obtain ⟨o0,a1,a2⟩:=o2 j (ids.getD j 0) (by simp [hjl])
       rw [hj] at a2;simp only [Option.some.injEq] at a2;rw [a1,a2,Obj.ren_ren];intro id hid;exact hff id (c4 id (List.mem_flatMap.2 ⟨ids.getD j 0,by rw [List.getD_eq_getElem?_getD];simp [hjl],by rw [a1];exact hid⟩))
     · rw [o1] at hi hj
       exact (List.getElem?_inj hi c1 (j:=j)).1 (by
        simp only [List.getD_eq_getElem?_getD] at hij;simp only [hi,hj,List.getElem?_eq_getElem,Option.getD_some] at hij ⊢;rw [hij])
     · have:=q2 j (by rw [c2,<- hos];exact hj)
       simpa using this
theorem Qi.addRoundsO (K:QX P T) (F:Qi P T Φ) {g key:Nat} (hkeys:QcQ (Y8 Φ g)=true) {σ:Type} (S:QdX C σ) (n:Nat) (kc kf:List Nat) (fs0:List Fnd) (fs:List Fnd) (slots:List Nat) (res:Env C->List (Obj C)->RT C)
 (hr:∀ q,S.Inv q->Qj S.k (S.canon q) (S.objs q) /\ Qj S.k (S.fin q).2 (S.fobjs q) /\ Leaf (rndO T Φ g key n S.k kc kf fs0 (S.canon q) (S.objs q)) (LedO S q))
 (hres:∀ env0 os x env' os',(res env0 os).val=some ((x,env'),os') -> ∃ q,S.Inv q /\ (∀ p ∈ S.canon q,p ∈ env0) /\ os=S.objs q /\ S.fin q=(x,env') /\ S.fobjs q=os'):Qi P T (Φ.addLoop g key (sumO T fs slots res)):=by
 refine F.addLoop (Qpi K F (S:=S) (fun fn body b hf hb hm hkey q hI=>?_) hres);obtain ⟨h1,h2,r,h3,h4⟩:=hr q hI;rw [rndO,QaW hkeys hf hb hm hkey] at h3;obtain ⟨⟨x,env'⟩,h',nx',tr,h5,h6⟩:=Pg.run_some h3;refine ⟨h1,h2,n,x,env',h',nx',tr,h5,?_⟩;cases x with
 | normal =>
  simp only at h6;rcases settle_some h6 h1.1 with hs | ⟨env0,os',hs,f,f1,⟨f2,f3,f4⟩,f5⟩
  · subst hs;rcases h4 with ⟨h4,s',a1,a2,a3,a3b,a4,a5⟩ | ⟨h4,h7,h8⟩
    · have hg:=ZT S.k 0 h' _ a5;simp only [Nat.zero_add] at hg;exact .inl ⟨rfl,s',a1,a2,a3,a3b,by rw [<- a4];exact VB _ _,hg⟩
    · exact (h4 rfl).elim
  · subst hs;rcases h4 with ⟨h4,s',a1,a2,a3,a3b,a4,a5⟩ | ⟨h4,h7,h8⟩
    · simp only at a4 a5;have a5:os'=S.objs s':=List.map_inj_right (fun _ _ h=>Option.some.inj h) |>.1 a5;subst a4;subst a5;obtain ⟨b1,_⟩:=hr s' a1;exact .inr (.inl ⟨rfl,s',f,a1,a2,a3,a3b,f1,⟨f3,f4,by rw [b1.1];exact b1.2.2⟩,f5⟩)
    · exact (h4 rfl).elim
 | exit id =>
  simp only [Option.some.injEq] at h6;subst h6;rcases h4 with ⟨h4,_⟩ | ⟨h4,h7,h8⟩
  · cases h4
  · have hg:=ZT S.k 0 h' _ h8;simp only [Nat.zero_add] at hg;exact .inr (.inr ⟨by simp,by rw [<- h7],by rw [<- h7];exact VB _ _,hg⟩)
 | ret =>
  simp only [Option.some.injEq] at h6;subst h6;rcases h4 with ⟨h4,_⟩ | ⟨h4,h7,h8⟩
  · cases h4
  · have hg:=ZT S.k 0 h' _ h8;simp only [Nat.zero_add] at hg;exact .inr (.inr ⟨by simp,by rw [<- h7],by rw [<- h7];exact VB _ _,hg⟩)
end
section
variable {C:Cdc} {P:Program} {T:Tab C} {Φ:Fns C}
open Pg (Ex)
structure QI (C:Cdc) (σ:Type) where
 k:Nat
 canon:σ->Env C
 objs:σ->List (Obj C)
 fin:σ->RT C
 Inv:σ->Prop
 μ:σ->Nat
def LedR {σ:Type} (S:QI C σ) (s:σ) (r:(Ev.X × Env C) × List (Option (Obj C))):Prop :=
 (r.1.1=.normal /\ ∃ s',S.Inv s' /\ S.μ s' < S.μ s /\ (S.fin s').val=(S.fin s).val /\ r.1.2=S.canon s' /\ r.2=(S.objs s').map some) \/ (r.1.1 ≠ .normal /\ ∃ os,(S.fin s).val=some (r.1,os) /\ r.2=os.map some)
def RT.refsOK (k:Nat):RT C->Prop
 | .fail=>False
 | .leaf _ env os=>Qj k env os
 | .br _ l r=>l.refsOK k /\ r.refsOK k
theorem RT.refsOK_val {k:Nat}:∀ {t:RT C},t.refsOK k -> ∃ x env os,t.val=some ((x,env),os) /\ Qj k env os
 | .leaf x env os,h=>⟨x,env,os,rfl,h⟩
 | .br b l r,h=>by
  cases b with
  | true=>exact RT.refsOK_val (t:=l) h.1
  | false=>exact RT.refsOK_val (t:=r) h.2
def QI.toO {σ:Type} (S:QI C σ):QdX C σ where
 k:=S.k
 canon:=S.canon
 objs:=S.objs
 fin q:=match (S.fin q).val with
  | some r=>r.1
  | none=>(.ret,[])
 fobjs q:=match (S.fin q).val with
  | some r=>r.2
  | none=>[]
 Inv:=S.Inv
 μ:=S.μ
def resR {σ:Type} (S:QI C σ) (d:Env C->List (Obj C)->Option (Bool × σ)) (env:Env C) (os:List (Obj C)):RT C:=match d env os with
 | some (b,q)=>.br b (S.fin q) .fail
 | none=>.fail
def sumR (T:Tab C) (fs:List Fnd) (slots:List Nat) {σ:Type} (S:QI C σ) (d:Env C->List (Obj C)->Option (Bool × σ)):Env C->Pg C (Ev.X × Env C):=sumO T fs slots (resR S d)
theorem Qi.addRoundsR (K:QX P T) (F:Qi P T Φ) {g key:Nat} (hkeys:QcQ (Y8 Φ g)=true) {σ:Type} (S:QI C σ) (n:Nat) (kc kf:List Nat) (fs:List Fnd) (slots:List Nat) (d:Env C->List (Obj C)->Option (Bool × σ))
 (hr:∀ q,S.Inv q->Qj S.k (S.canon q) (S.objs q) /\ (S.fin q).refsOK S.k /\ Leaf (rndO T Φ g key n S.k kc kf fs (S.canon q) (S.objs q)) (LedR S q))
 (hd:∀ env os b q,d env os=some (b,q)->b=true->S.Inv q /\ S.canon q=env /\ S.objs q=os):Qi P T (Φ.addLoop g key (sumR T fs slots S d)):=by
 refine F.addRoundsO K hkeys S.toO n kc kf fs fs slots (resR S d) (fun q hI=>?_) ?_
 · obtain ⟨h1,h2,r,h3,h4⟩:=hr q hI;obtain ⟨x,env,os,hv,hok⟩:=RT.refsOK_val h2;refine ⟨h1,by simp only [QI.toO,hv];exact hok,r,h3,?_⟩
   rcases h4 with ⟨a1,s',a2,a3,a4,a5,a6⟩ | ⟨a1,os',a2,a3⟩
   · exact .inl ⟨a1,s',a2,a3,by simp only [QI.toO,a4],by simp only [QI.toO,a4],a5,a6⟩
   · exact .inr ⟨a1,by simp only [QI.toO,a2],by simp only [QI.toO,a2];exact a3⟩
 · intro env0 os x env' os' h;unfold resR at h
   split at h
   · rename_i b q hq;cases b with
     | false=>simp [RT.val] at h
     | true =>
      obtain ⟨h1,h2,h3⟩:=hd _ _ _ _ hq rfl;simp only [RT.val,cond_true] at h;exact ⟨q,h1,fun p hp=>by rw [<- h2];exact hp,h3.symm,by simp only [QI.toO,h],by simp only [QI.toO,h]⟩
   · simp [RT.val] at h
def QB {α:Type} (b:Bool) (x:α):Option α:=bif b then some x else none
theorem Qg {α:Type} {b:Bool} {x y:α} (h:QB b x=some y):b=true /\ x=y:=by
 cases b with
 | false=>cases h
 | true=>exact ⟨rfl,Option.some.inj h⟩
theorem Qp {σ:Type} {S:QI C σ} {s:σ} {env:Env C} {os:List (Option (Obj C))} (s':σ) (h1:S.Inv s') (h2:S.μ s' < S.μ s) (h3:(S.fin s').val=(S.fin s).val) (h4:env=S.canon s') (h5:os=(S.objs s').map some):Leaf (some ((Ev.X.normal,env),os)) (LedR S s) :=
 QaV.2 (.inl ⟨rfl,s',h1,h2,h3,h4,h5⟩)
theorem Qm {σ:Type} {S:QI C σ} {s:σ} {i:Nat} {env:Env C} {os:List (Option (Obj C))} (os':List (Obj C)) (h1:(S.fin s).val=some ((.exit i,env),os')) (h2:os=os'.map some):Leaf (some ((Ev.X.exit i,env),os)) (LedR S s) :=
 QaV.2 (.inr ⟨by simp,os',h1,h2⟩)
theorem QO {σ:Type} {S:QI C σ} {s:σ} {env:Env C} {os:List (Option (Obj C))} (os':List (Obj C)) (h1:(S.fin s).val=some ((.ret,env),os')) (h2:os=os'.map some):Leaf (some ((Ev.X.ret,env),os)) (LedR S s) :=
 QaV.2 (.inr ⟨by simp,os',h1,h2⟩)
end
theorem Qkl {a b:Int} (h:a=b):(a == b)=true:=by simp [h]
theorem Qkm {a b:Int} (h:¬ a=b):(a == b)=false:=by simp [h]
theorem Qv1 {a b:Int} (h:¬ a=b):(a != b)=true:=by simp [h]
theorem Qsx {a b:Int} (h:a=b):(a != b)=false:=by simp [h]
theorem Zu {a b:Nat} (h:a=b):Nat.beq a b=true:=by simp [h]
theorem YO {n b:Nat} (h:n * b <= 1099511627776):Qk n b=true:=by simp [Qk,h]
theorem Qpj {n:Int} (h:-9223372036854775808 <= n /\ n <= 9223372036854775807):IntKind.i64.wrap n=n:=wrap_id h.1 h.2
def QG (n:Int):UInt8:=UInt8.ofNat (IntKind.u8.wrap n).toNat
def leB (n:Int):Nat->List UInt8
 | 0=>[]
 | w+1=>QG n::leB (n.fdiv 256) w
def leVal:List UInt8->Nat
 | []=>0
 | x::l=>x.toNat+256 * leVal l
def Q2 (n:Int) (w:Nat):Bool:=decide (0 <= n) && decide (n < 256 ^ w)
def putL (b:List UInt8) (n:Int) (w:Nat):List UInt8:=bif Q2 n w then b++leB n w else []
theorem Zh:∀ (w:Nat) (n:Int),(leB n w).length=w
 | 0,_=>rfl
 | w+1,n=>by simp [leB,Zh w]
theorem QaY (n:Int):IntKind.u8.wrap n=n % 256:=by
 simp [IntKind.wrap,IntKind.bits,IntKind.signed]
theorem Kz (n:Int):((QG n).toNat:Int)=n % 256:=by
 rw [QG,QaY,UInt8.toNat_ofNat',Nat.mod_eq_of_lt (by omega)]
 omega
theorem QgE:∀ l:List UInt8,leVal l < 256 ^ l.length
 | []=>by simp [leVal]
 | x::l=>by
  have h1:=QgE l;have h2:=x.toNat_lt;have h3:256 ^ (x::l).length=256 * 256 ^ l.length:=by simp [Nat.pow_succ,Nat.mul_comm]
  rw [h3,leVal];omega
theorem K6:∀ (l m:List UInt8),leVal (l++m)=leVal l+256 ^ l.length * leVal m
 | [],m=>by simp [leVal]
 | x::l,m=>by
  simp only [List.cons_append,leVal,K6 l m,List.length_cons,Nat.pow_succ];rw [Nat.mul_add,<- Nat.mul_assoc,Nat.mul_comm 256 (256 ^ l.length),Nat.add_assoc]
theorem QaZ {n:Int} (h:0 <= n):0 <= n.fdiv 256 /\ n.fdiv 256=n / 256:=by
 have:n.fdiv 256=n / 256:=Int.fdiv_eq_ediv_of_nonneg n (by omega)
 rw [this];omega
theorem J3:∀ (w:Nat) (n:Int),0 <= n->n < 256 ^ w->(leVal (leB n w):Int)=n
 | 0,n,h0,h1=>by simp at h1;simp [leB,leVal];omega
 | w+1,n,h0,h1=>by
  obtain ⟨h2,h3⟩:=QaZ h0
  have h4:n.fdiv 256 < 256 ^ w:=by
   rw [h3];rw [Int.pow_succ] at h1;omega
  have:=J3 w _ h2 h4;simp only [leB,leVal,Int.natCast_add,Kz];rw [Int.natCast_mul,this,h3];omega
theorem Qa0:∀ (l:List UInt8),leB (leVal l) l.length=l
 | []=>rfl
 | x::l=>by
  simp only [List.length_cons,leB,leVal];have h:=x.toNat_lt
  have h0:((x.toNat+256 * leVal l:Nat):Int).fdiv 256=leVal l:=by
   rw [Int.fdiv_eq_ediv_of_nonneg _ (by omega)];omega
  have h1:QG ((x.toNat+256 * leVal l:Nat):Int)=x:=by
   apply UInt8.toNat_inj.1;have:=Kz ((x.toNat+256 * leVal l:Nat):Int);omega
  rw [h0,h1,Qa0 l]
theorem ZU {n:Int} {w:Nat}:Q2 n w=true ↔ 0 <= n /\ n < 256 ^ w:=by simp [Q2]
theorem _root_.Int.ediv_eq_zero_iff_of_pos' {n m:Int} (h0:0 <= n) (hp:0 < m):n / m=0 ↔ n < m:=by
 constructor
 · intro h;have:=Int.lt_ediv_add_one_mul_self n hp;rw [h] at this;omega
 · intro h;exact Int.ediv_eq_zero_of_lt h0 h
theorem QcT (n i:Nat) (c:UInt8) (hn:n < 256 ^ i) (hi:i < 7) :
 bits .i64 (fun _ u v=>u ||| v) (n:Int) (IntKind.i64.wrap ((c.toNat:Int) * 2 ^ min (IntKind.i64.wrap (8 * (i:Int))).toNat IntKind.i64.bits))=((n+c.toNat * 256 ^ i:Nat):Int):=by
 have hc:=c.toNat_lt;have hw:IntKind.i64.wrap (8 * (i:Int))=((8 * i:Nat):Int):=by rw [wrap_id (by omega) (by omega)];simp
 have hm:min (8 * i) 64=8 * i:=by omega
 have hp:(2:Nat) ^ (8 * i)=256 ^ i:=by rw [Nat.pow_mul]
 have hb:256 ^ i <= 256 ^ 6:=Nat.pow_le_pow_right (by omega) (by omega)
 have hb':(256:Nat) ^ 6=281474976710656:=by decide
 have hmul:c.toNat * 256 ^ i <= 255 * 281474976710656:=Nat.mul_le_mul (by omega) (by omega)
 have e1:((c.toNat:Int) * 2 ^ min (IntKind.i64.wrap (8 * (i:Int))).toNat IntKind.i64.bits)=((c.toNat * 256 ^ i:Nat):Int):=by
  rw [hw];simp only [Int.toNat_natCast,IntKind.bits,hm];rw [<- hp];simp
 rw [e1,wrap_id (by omega) (by omega)]
 unfold bits
 have h1:∀ x:Nat,x < 2 ^ 64->(BitVec.ofInt IntKind.i64.bits (x:Int)).toNat=x:=by
  intro x hx;rw [BitVec.toNat_ofInt];simp only [IntKind.bits];omega
 rw [BitVec.toNat_or,h1 n (by omega),h1 _ (by omega)]
 have h2:n ||| c.toNat * 256 ^ i=n+c.toNat * 256 ^ i:=by
  rw [<- hp] at hn ⊢;rw [Nat.or_comm,Nat.mul_comm,<- Nat.two_pow_add_eq_or_of_lt hn,Nat.add_comm]
 rw [h2,wrap_id (by omega) (by omega)]
theorem Quz (c:UInt8):IntKind.i64.wrap (c.toNat:Int)=(c.toNat:Int):=by
 have:=c.toNat_lt;exact wrap_id (by omega) (by omega)
theorem QbE (n i:Nat) (c:UInt8) (hn:n < 256 ^ i) (hi:i < 7) :
 bits .i64 (fun _ u v=>u ||| v) (n:Int) (IntKind.i64.wrap (IntKind.i64.wrap (c.toNat:Int) * 2 ^ min (IntKind.i64.wrap (8 * (i:Int))).toNat 64))=((n+c.toNat * 256 ^ i:Nat):Int):=by
 rw [Quz];exact QcT n i c hn hi
def getP (b:List UInt8) (at' w:Int):Int × Int :=
 bif decide (1 <= w) && decide (w <= 6) then
  (bif decide (0 <= at') && decide (at'+w <= b.length) then ((leVal ((b.drop at'.toNat).take w.toNat):Int),0) else (0,50))
 else (0,2)
def Qf (n a b:Int):Bool:=decide (a <= n) && decide (n <= b)
theorem Qt {x a b:Int}:Qf x a b=true ↔ a <= x /\ x <= b:=by simp [Qf]
def QK {α:Type} (one:α->Bool) (two:α->α->Bool) (l:List α) (i:Nat):Bool:=Jq one two (Qki l i) (l.drop i)
theorem Y9 {α:Type} (one:α->Bool) (two:α->α->Bool) (l:List α) (i:Nat) (d:α) (hlt:i < l.length) :
 QK one two l i=(one (l.getD i d) && (decide (i=0) || two (l.getD (i - 1) d) (l.getD i d)) && QK one two l (i+1)):=by
 unfold QK;rw [List.drop_eq_getElem_cons hlt];have hi:l.getD i d=l[i]:=by simp [List.getD_eq_getElem?_getD,hlt]
 have hn:Qki l (i+1)=some l[i]:=by simp [Qki,hlt]
 rw [hi,hn];simp only [Jq];cases i with
 | zero=>simp [Qki]
 | succ j =>
  have:j < l.length:=by omega
  simp [Qki,this]
theorem QbU {α:Type} (one:α->Bool) (two:α->α->Bool) (l:List α) (i:Nat) (h:l.length <= i):QK one two l i=true:=by simp [QK,List.drop_eq_nil_of_le h,Jq]
def ZA (w:Qc):Bool:=Qf w.key 0 23 && Qf w.value 0 255
def Yw (x y:Qc):Bool:=decide (x.key < y.key)
def Q8 (l:List Qc):Bool:=decide (l.length <= 4) && QK ZA Yw l 0
def Jr (x y:Item):Bool:=decide (x.key < y.key)
def VD (p:Int) (x:Item):Bool:=Qf x.key 0 23 && Qf x.place 1 p && Qf x.value 0 255
def Vq (x y:Line):Bool:=(y.offset == IntKind.i64.wrap (x.offset+1)) && (decide (x.place < y.place) || (x.place == y.place && decide (x.j < y.j)))
def VE (p:Int) (x:Line):Bool:=Qf x.offset 0 4194303 && Qf x.place 1 p && Qf x.j 0 3 && Qf x.key 0 7 && Qf x.value 0 255
def mayB (r:Rec):Bool:=Qf r.place 1 1048575 && Q8 r.writes && (r.yes || r.writes.isEmpty)
def J4 (p c:Int) (l:List Line):Bool:=Qf c 0 p && decide (l.length <= 16) && (l.isEmpty || decide (c < (l.getD 0 ⟨0,0,0,0,0⟩).place)) && QK (VE p) Vq l 0
def ZK (s:St):Bool:=Qf s.place 0 1048575 && QK (VD s.place) Jr s.items 0 && J4 s.place s.c0 s.l0 && J4 s.place s.c1 s.l1 && J4 s.place s.c2 s.l2
def fitW (w:Qc):Bool:=Qf w.key 0 255 && Qf w.value 0 255
def fitI (x:Item):Bool:=Qf x.key 0 255 && Qf x.place 0 16777215 && Qf x.value 0 255
def Qij (x:Line):Bool:=Qf x.place 0 16777215 && Qf x.key 0 7 && Qf x.j 0 15 && Qf x.value 0 255
def Yz (w:Qc):List UInt8:=[QG w.key,QG w.value]
def Ya (r:Rec):List UInt8:=leB r.place 3++leB (bif r.yes then 1 else 0) 1++leB r.writes.length 1++r.writes.flatMap Yz
def ZL (l:List Line):Int:=(l.getD 0 ⟨0,0,0,0,0⟩).offset
theorem QdZ {b:List UInt8} {n:Int} {w:Nat} (h:Q2 n w=true):putL b n w=b++leB n w:=by simp [putL,h]
theorem Qv2 {n:Int} (h:Qf n 0 16777215=true):Q2 n 3=true:=by
 rw [Qt] at h;rw [ZU];omega
theorem KA {α β:Type} (l:List α) (i:Nat) (f:α->List β) (h:i < l.length) (d:α):(l.drop i).flatMap f=f (l.getD i d)++(l.drop (i+1)).flatMap f:=by
 rw [List.drop_eq_getElem_cons h,List.flatMap_cons];simp [h]
theorem QbV (w:Qc):(Yz w).length=2:=rfl
theorem Qpk {w:Qc} (h:ZA w=true):fitW w=true:=by
 simp only [ZA,fitW,Bool.and_eq_true,Qt] at h ⊢;omega
theorem Qpl {p:Int} {x:Item} (h:VD p x=true) (hp:p <= 1048575):fitI x=true:=by
 simp only [VD,fitI,Bool.and_eq_true,Qt] at h ⊢;omega
theorem Qpm {p:Int} {x:Line} (h:VE p x=true) (hp:p <= 1048575):Qij x=true:=by
 simp only [VE,Qij,Bool.and_eq_true,Qt] at h ⊢;omega
theorem Qd0 {α:Type} (one:α->Bool) (two:α->α->Bool):∀ (l:List α) (p:Option α),Jq one two p l=true->l.all one=true
 | [],_,_=>rfl
 | x::l,p,h=>by
  simp only [Jq,Bool.and_eq_true] at h;simp only [List.all_cons,Bool.and_eq_true];exact ⟨h.1.1,Qd0 one two l _ h.2⟩
theorem Zi {α:Type} {one:α->Bool} {two:α->α->Bool} {l:List α} (h:QK one two l 0=true):l.all one=true:=Qd0 one two _ _ h
theorem Qft {α:Type} {p q:α->Bool} {l:List α} (h:l.all p=true) (hpq:∀ x,p x=true->q x=true):l.all q=true:=by
 rw [List.all_eq_true] at h ⊢;exact fun x hx=>hpq x (h x hx)
theorem QgF {p:Int}:∀ (l:List Item) (k:Int),Jq (VD p) Jr none l=true->(∀ x ∈ l.head?,k <= x.key)->0 <= k->k <= 24->(l.length:Int) <= 24 - k
 | [],k,_,_,h0,h1=>by simp;omega
 | [x],k,h,hk,h0,h1=>by
  simp only [Jq,VD,Bool.and_eq_true,Qt] at h;have:=hk x (by simp)
  simp;omega
 | x::y::l,k,h,hk,h0,h1=>by
  simp only [Jq,Bool.and_eq_true] at h;have hx:=h.1.1;simp only [VD,Bool.and_eq_true,Qt] at hx;have hxy:x.key < y.key:=by have:=h.2.1.2;simpa [Jr] using this
  have hk':=hk x (by simp)
  have:=QgF (y::l) (x.key+1) (by simp only [Jq,Bool.and_eq_true];exact ⟨⟨h.2.1.1,trivial⟩,h.2.2⟩) (by simp;omega) (by omega) (by omega)
  simp only [List.length_cons] at this ⊢;omega
theorem Qkn {p:Int} {l:List Item} (h:QK (VD p) Jr l 0=true):l.length <= 24:=by
 have:=QgF l 0 (p:=p) h (by
  intro x hx;have h1:=Zi h;have:=List.all_eq_true.1 h1 x (List.mem_of_mem_head? hx);simp only [VD,Bool.and_eq_true,Qt] at this;omega) (by omega) (by omega)
 omega
theorem Yi {p:Int} {y:Bool} {l:List Qc} (h:mayB ⟨p,y,l⟩=true):(1 <= p /\ p <= 1048575) /\ l.length <= 4 /\ l.all fitW=true:=by
 simp only [mayB,Bool.and_eq_true,Qt,Q8,decide_eq_true_eq] at h;exact ⟨h.1.1,h.1.2.1,Qft (Zi h.1.2.2) fun _=>Qpk⟩
theorem KC {p c:Int} {l:List Line} (hp:p <= 1048575) (h:J4 p c l=true):(0 <= c /\ c <= 1048575) /\ l.length <= 16 /\ l.all Qij=true /\ (0 <= ZL l /\ ZL l <= 4194303):=by
 simp only [J4,Bool.and_eq_true,Qt,decide_eq_true_eq] at h;refine ⟨by omega,h.1.1.2,Qft (Zi h.2) fun x hx=>Qpm hx hp,?_⟩
 cases l with
 | nil=>simp [ZL]
 | cons x l =>
  have:=List.all_eq_true.1 (Zi h.2) x (by simp)
  simp only [VE,Bool.and_eq_true,Qt] at this;simp only [ZL,List.getD_cons_zero];omega
theorem Qd1 {p:Int} {items:List Item} {l0 l1 l2:List Line} {c0 c1 c2:Int} (h:ZK ⟨p,items,l0,l1,l2,c0,c1,c2⟩=true) :
 (0 <= p /\ p <= 1048575) /\ items.length <= 24 /\ items.all fitI=true /\
 ((0 <= c0 /\ c0 <= 1048575) /\ l0.length <= 16 /\ l0.all Qij=true /\ (0 <= ZL l0 /\ ZL l0 <= 4194303)) /\
 ((0 <= c1 /\ c1 <= 1048575) /\ l1.length <= 16 /\ l1.all Qij=true /\ (0 <= ZL l1 /\ ZL l1 <= 4194303)) /\
 ((0 <= c2 /\ c2 <= 1048575) /\ l2.length <= 16 /\ l2.all Qij=true /\ (0 <= ZL l2 /\ ZL l2 <= 4194303)):=by
 simp only [ZK,Bool.and_eq_true,Qt] at h;obtain ⟨⟨⟨⟨hp,hi⟩,h0⟩,h1⟩,h2⟩:=h;exact ⟨hp,Qkn hi,Qft (Zi hi) fun x hx=>Qpl hx hp.2,KC hp.2 h0,KC hp.2 h1,KC hp.2 h2⟩
theorem Qa1 {α β:Type} (l:List α) (f:α->List β) (n:Nat) (h:∀ x,(f x).length=n):(l.flatMap f).length=n * l.length:=by
 induction l with
 | nil=>rfl
 | cons x l ih=>simp only [List.flatMap_cons,List.length_append,h,ih,List.length_cons,Nat.mul_succ];omega
theorem KD {n:Int} (h:Qf n 0 255=true):((QG n).toNat:Int)=n:=by
 rw [Kz];rw [Qt] at h;omega
open Go.Proofs
abbrev RO_:Type:=Option ((X × Env RC) × List (Option (Obj RC)))
abbrev DO_:Type:=Option (D RC)
set_option maxRecDepth 100000
noncomputable def p0:Fns RC:=Qif Tryz.prog 213 (fun f=>Nat.beq f 166 || Nat.beq f 83 || Nat.beq f 147 || Nat.beq f 60 || Nat.beq f 63 || Nat.beq f 121 || Nat.beq f 169 || Nat.beq f 61 || Nat.beq f 58 || Nat.beq f 59 || Nat.beq f 154 || Nat.beq f 153 || Nat.beq f 171 || Nat.beq f 194)
theorem Qsy:Qi Tryz.prog s28 p0:=Qig (by kernel_rfl)
def QgG (n:Int) (a:Int) (b:Int):Option (Bool × D RC):=some (true,.bool (Qf n a b))
def Qd2:List (D RC)->Option (Bool × D RC)
 | [.int .i64 n,.int .i64 a,.int .i64 b]=>QgG n a b
 | _=>none
noncomputable def QgH (n:Int) (a:Int) (b:Int):=evF s28 p0 20 110 [.int .i64 n,.int .i64 a,.int .i64 b]
theorem Qko (n:Int) (a:Int) (b:Int):QgH n a b=(bif decide (a <= n) then some (D.bool (decide (n <= b))) else some (D.bool false)):=by kernel_rfl
theorem Qkp (n:Int) (a:Int) (b:Int) (h:(true)=true):QgH n a b=some (.bool (Qf n a b)):=by
 rw [Qko];rw [Qf];cases decide (a <= n) <;> simp
noncomputable def ua_1:=p0.addSpec 110 Qd2
theorem Qkq:Qi Tryz.prog s28 ua_1:=Qsy.addEv Qb fun args d h=>by
 unfold Qd2 at h
 split at h
 · unfold QgG at h;have h1:=congrArg Prod.fst (Option.some.inj h);obtain rfl:_=d:=congrArg Prod.snd (Option.some.inj h);exact ⟨by simp [D.refs],20,Qkp _ _ _ h1⟩
 · cases h
def QqM (a:Int) (b:Int):Option (Bool × D RC):=some (true,.bool (ZA ⟨a,b⟩))
def Qkr:List (D RC)->Option (Bool × D RC)
 | [.acons (.int .i64 a) (.acons (.int .i64 b) .anil)]=>QqM a b
 | _=>none
noncomputable def QqN (a:Int) (b:Int):=evF s28 ua_1 20 200 [.acons (.int .i64 a) (.acons (.int .i64 b) .anil)]
theorem Qsz (a:Int) (b:Int):QqN a b=(bif Qf a (0:Int) (23:Int) then some (D.bool (Qf b (0:Int) (255:Int))) else some (D.bool false)):=by kernel_rfl
theorem QsA (a:Int) (b:Int) (h:(true)=true):QqN a b=some (.bool (ZA ⟨a,b⟩)):=by
 rw [Qsz];rw [ZA];cases Qf a 0 23 <;> simp
noncomputable def ua_2:=ua_1.addSpec 200 Qkr
theorem Qks:Qi Tryz.prog s28 ua_2:=Qkq.addEv Qb fun args d h=>by
 unfold Qkr at h
 split at h
 · unfold QqM at h;have h1:=congrArg Prod.fst (Option.some.inj h);obtain rfl:_=d:=congrArg Prod.snd (Option.some.inj h);exact ⟨by simp [D.refs],20,QsA _ _ h1⟩
 · cases h
def QqO (a:Int) (b:Int) (c:Int) (d:Int):Option (Bool × D RC):=some (true,.bool (Yw ⟨a,b⟩ ⟨c,d⟩))
def Qkt:List (D RC)->Option (Bool × D RC)
 | [.acons (.int .i64 a) (.acons (.int .i64 b) .anil),.acons (.int .i64 c) (.acons (.int .i64 d) .anil)]=>QqO a b c d
 | _=>none
noncomputable def QqP (a:Int) (b:Int) (c:Int) (d:Int):=evF s28 ua_2 20 201 [.acons (.int .i64 a) (.acons (.int .i64 b) .anil),.acons (.int .i64 c) (.acons (.int .i64 d) .anil)]
theorem QsB (a:Int) (b:Int) (c:Int) (d:Int):QqP a b c d=(some (D.bool (decide (a < c)))):=by kernel_rfl
theorem QsC (a:Int) (b:Int) (c:Int) (d:Int) (h:(true)=true):QqP a b c d=some (.bool (Yw ⟨a,b⟩ ⟨c,d⟩)):=by
 rw [QsB];rfl
noncomputable def ua_3:=ua_2.addSpec 201 Qkt
theorem Qku:Qi Tryz.prog s28 ua_3:=Qks.addEv Qb fun args d h=>by
 unfold Qkt at h
 split at h
 · unfold QqO at h;have h1:=congrArg Prod.fst (Option.some.inj h);obtain rfl:_=d:=congrArg Prod.snd (Option.some.inj h);exact ⟨by simp [D.refs],20,QsC _ _ _ _ h1⟩
 · cases h
structure QgI where
 c:Bool
 l:List Qc
 i:Nat
def QcU (c:Bool) (l:List Qc) (i:Nat):Env RC:=[(0,.sl (C:=RC) .write c l),(1,.fn 200 .anil),(2,.fn 201 .anil),(6,.bool false),(9,.int .i64 (l.length)),(10,.int .i64 (i:Int))]
def QcV (c:Bool) (l:List Qc) (i:Nat):List (Obj RC):=[]
noncomputable def Qkv (c:Bool) (l:List Qc) (i:Nat):=rndO s28 ua_3 199 2 30 0 [0,1,2,6,9,10] [6] [] (QcU c l i) (QcV c l i)
theorem Qpn (c:Bool) (l:List Qc) (i:Nat):Qkv c l i=(let Z0:Int:=(↑i:Int);let Z1:Int:=(↑l.length:Int);let Z2:Bool:=decide ((0:Int) <= Z0 /\ Z0 < Z1);let Z3:Qc:=Qc.mk (0:Int) (0:Int);let Z4:Qc:=List.getD l Z0.toNat Z3;let Z5:Qc:=Qc.mk (Qc.key Z4) (Qc.value Z4);let Z6:Int:=IntKind.wrap .i64 (Z0 - (1:Int));let Z7:Qc:=List.getD l Z6.toNat Z3;let Z8:RO_:=some ((X.normal,[(0,D.sl RTy.write c l),(1,D.fn (200:Nat) .anil),(2,D.fn (201:Nat) .anil),(6,D.bool false),(9,D.int .i64 Z1),(10,D.int .i64 (IntKind.wrap .i64 (Z0+(1:Int))))]),[]);bif decide (Z0 < Z1) then bif Z2 then bif !ZA Z5 then some ((X.ret,[(6,D.bool false)]),[]) else bif decide ((0:Int) < Z0) then bif decide ((0:Int) <= Z6 /\ Z6 < Z1) then bif Z2 then bif !Yw (Qc.mk (Qc.key Z7) (Qc.value Z7)) Z5 then some ((X.ret,[(6,D.bool false)]),[]) else Z8 else none else none else Z8 else none else some ((X.exit (0:Nat),[(6,D.bool false)]),[])):=by kernel_rfl
def VF (c:Bool) (l:List Qc) (i:Nat):RT RC:=.br (QK ZA Yw l i) (.leaf (.exit 0) [(6,.bool false)] []) (.leaf .ret [(6,.bool false)] [])
def VG (c:Bool) (l:List Qc) (i:Nat):Prop:=i <= l.length /\ l.length <= 9223372036854775807
def Yj:QI RC QgI where
 k:=0
 canon q:=QcU q.c q.l q.i
 objs q:=QcV q.c q.l q.i
 fin q:=VF q.c q.l q.i
 Inv q:=VG q.c q.l q.i
 μ q:=q.l.length - q.i
theorem Qfu (c:Bool) (l:List Qc) (i:Nat) (hI:VG c l i):Leaf (Qkv c l i) (LedR Yj ⟨c,l,i⟩):=by
 (rw [Qpn];conv=>zeta)
 unfold VG at hI;obtain ⟨h1,h2⟩:=hI
 by_cases hlt:i < l.length
 · have w_succ:IntKind.i64.wrap ((i:Int)+1)=((i+1:Nat):Int):=by rw [wrap_id (by omega) (by omega)];simp
   have d_lt:decide ((i:Int) < l.length)=true:=by simp;omega
   have d_in:decide (0 <= (i:Int) /\ (i:Int) < l.length)=true:=by simp;omega
   have t_nat:((i:Int)).toNat=i:=by simp
   have w_pred:IntKind.i64.wrap ((i:Int) - 1)=(i:Int) - 1:=wrap_id (by omega) (by omega)
   have t_natp:((i:Int) - 1).toNat=i - 1:=by omega
   simp only [w_succ,d_lt,d_in,t_nat,w_pred,t_natp,cond_true];have hst:=Y9 ZA Yw l i (⟨0,0⟩:Qc) hlt;generalize l.getD i (⟨0,0⟩:Qc)=x at hst ⊢;generalize l.getD (i - 1) (⟨0,0⟩:Qc)=y at hst ⊢
   have hgo:QK ZA Yw l (i+1)=QK ZA Yw l i->Leaf (some ((X.normal,QcU c l (i+1)),[])) (LedR Yj ⟨c,l,i⟩):=fun he =>
    Qp ⟨c,l,i+1⟩ ⟨hlt,h2⟩ (by simp only [Yj];omega) (by simp only [Yj,VF,he]) rfl rfl
   have hno:QK ZA Yw l i=false->Leaf (some ((X.ret,[(6,D.bool false)]),[])) (LedR Yj ⟨c,l,i⟩):=fun he=>QO [] (by simp [Yj,VF,he,RT.val]) rfl
   rw [hst] at hgo hno;cases a1:ZA x
   · exact hno (by simp [a1])
   by_cases hi:i=0
   · have d0:decide (0 < (i:Int))=false:=by simp;omega
     simp only [d0,cond_false];exact hgo (by simp [hi,a1])
   · have d_pos:decide (0 < (i:Int))=true:=by simp;omega
     have d_inp:decide (0 <= (i:Int) - 1 /\ (i:Int) - 1 < l.length)=true:=by simp;omega
     simp only [d_pos,d_inp,cond_true];cases a4:Yw y x
     · exact hno (by simp [hi,a4])
     · exact hgo (by simp [a4,a1])
 · have hi:i=l.length:=by omega
   have c1:decide ((i:Int) < l.length)=false:=by simp;omega
   rw [c1];exact Qm [] (by simp [Yj,VF,hi,QK,Jq,RT.val]) rfl
def Qfv (env:Env RC) (os:List (Obj RC)):Option (Bool × QgI):=match env,os with
 | [(0,.sl .write c l),(1,.fn 200 .anil),(2,.fn 201 .anil),(6,.bool false),(9,.int .i64 x0),(10,.int .i64 x1)],[]=>QB (true) (decide (x0=l.length) && decide (x1=0) && decide (l.length <= 9223372036854775807),⟨c,l,0⟩)
 | _,_=>none
noncomputable def ua_4:=ua_3.addLoop 199 2 (sumR s28 [] [0,1,2,6,9,10] Yj Qfv)
theorem Qkw:Qi Tryz.prog s28 ua_4:=by
 refine Qku.addRoundsR Qb (by kernel_rfl) Yj 30 [0,1,2,6,9,10] [6] [] [0,1,2,6,9,10] Qfv (fun q hI=>?_) ?_
 · obtain ⟨c,l,i⟩:=q;refine ⟨?_,?_,Qfu c l i hI⟩
   · simp_all [Qj,Yj,QcU,QcV,VG,D.refs,Obj.refs,rEnc]
   · simp_all [Yj,VF,QcV,VG,RT.refsOK,Qj,D.refs,Obj.refs,rEnc]
 · intro env os b q hd_ hb;unfold Qfv at hd_
   split at hd_
   · obtain ⟨hs,hd_⟩:=Qg hd_;cases hd_;simp only [Bool.and_eq_true,decide_eq_true_eq] at hb;obtain ⟨⟨rfl,rfl⟩,hl⟩:=hb;exact ⟨⟨Nat.zero_le _,hl⟩,rfl,rfl⟩
   · cases hd_
def Qd3 (c:Bool) (l:List Qc):Option (Bool × D RC):=some (Qh l.length,.bool (Q8 l))
def QbW:List (D RC)->Option (Bool × D RC)
 | [.sl .write c l]=>Qd3 c l
 | _=>none
noncomputable def Qd4 (c:Bool) (l:List Qc):=evF s28 ua_4 20 187 [.sl (C:=RC) .write c l]
theorem Qik (c:Bool) (l:List Qc):Qd4 c l=(let Z0:Nat:=List.length l;let Z1:Int:=(↑Z0:Int);bif Qh Z0 then bif decide (Z1 <= (4:Int)) then bif Qh Z0 then bif decide (Z1=Z1) && true && decide (Z0 <= (9223372036854775807:Nat)) then bif QK ZA Yw l (0:Nat) then some (D.bool true) else some (D.bool false) else none else none else some (D.bool false) else none):=by kernel_rfl
theorem Qil (c:Bool) (l:List Qc) (h:(Qh l.length)=true):Qd4 c l=some (.bool (Q8 l)):=by
 (rw [Qik];conv=>zeta)
 have h2:l.length <= 9223372036854775807:=V5 h;have h3:(((l.length:Nat):Int) <= 4) ↔ l.length <= 4:=by omega
 rw [Q8,h]
 by_cases h4:l.length <= 4
 · simp [h4,h2,h3];cases QK ZA Yw l 0 <;> rfl
 · simp [h4,h3]
noncomputable def ua_5:=ua_4.addSpec 187 QbW
theorem Qkx:Qi Tryz.prog s28 ua_5:=Qkw.addEv Qb fun args d h=>by
 unfold QbW at h
 split at h
 · unfold Qd3 at h;have h1:=congrArg Prod.fst (Option.some.inj h);obtain rfl:_=d:=congrArg Prod.snd (Option.some.inj h);exact ⟨by simp [D.refs],20,Qil _ _ h1⟩
 · cases h
def QuA (p:Int) (y:Bool) (c:Bool) (l:List Qc):Option (Bool × D RC):=some (Qh l.length,.bool (mayB ⟨p,y,l⟩))
def QqQ:List (D RC)->Option (Bool × D RC)
 | [.acons (.int .i64 p) (.acons (.bool y) (.acons (.sl .write c l) .anil))]=>QuA p y c l
 | _=>none
noncomputable def QuB (p:Int) (y:Bool) (c:Bool) (l:List Qc):=evF s28 ua_5 20 152 [.acons (.int .i64 p) (.acons (.bool y) (.acons (.sl (C:=RC) .write c l) .anil))]
theorem QuC (p:Int) (y:Bool) (c:Bool) (l:List Qc):QuB p y c l=(let Z0:Bool:=Qh l.length;bif Qf p (1:Int) (1048575:Int) then bif Z0 then bif Q8 l then bif y then some (D.bool true) else bif Z0 then some (D.bool ((↑l.length:Int) == (0:Int))) else none else some (D.bool false) else none else some (D.bool false)):=by kernel_rfl
theorem QuD (p:Int) (y:Bool) (c:Bool) (l:List Qc) (h:(Qh l.length)=true):QuB p y c l=some (.bool (mayB ⟨p,y,l⟩)):=by
 (rw [QuC];conv=>zeta)
 have h3:(((l.length:Nat):Int)=0) ↔ l.length=0:=by omega
 simp only [mayB,h];cases Qf p 1 1048575 <;> cases Q8 l <;> cases y <;> simp [h3]
 cases l <;> simp
 omega
noncomputable def ua_6:=ua_5.addSpec 152 QqQ
theorem Qky:Qi Tryz.prog s28 ua_6:=Qkx.addEv Qb fun args d h=>by
 unfold QqQ at h
 split at h
 · unfold QuA at h;have h1:=congrArg Prod.fst (Option.some.inj h);obtain rfl:_=d:=congrArg Prod.snd (Option.some.inj h);exact ⟨by simp [D.refs],20,QuD _ _ _ _ h1⟩
 · cases h
def QqR (a:Int) (b:Int) (c:Int) (d:Int) (e:Int) (f:Int):Option (Bool × D RC):=some (true,.bool (Jr ⟨a,b,c⟩ ⟨d,e,f⟩))
def Qkz:List (D RC)->Option (Bool × D RC)
 | [.acons (.int .i64 a) (.acons (.int .i64 b) (.acons (.int .i64 c) .anil)),.acons (.int .i64 d) (.acons (.int .i64 e) (.acons (.int .i64 f) .anil))]=>QqR a b c d e f
 | _=>none
noncomputable def QqS (a:Int) (b:Int) (c:Int) (d:Int) (e:Int) (f:Int):=evF s28 ua_6 20 113 [.acons (.int .i64 a) (.acons (.int .i64 b) (.acons (.int .i64 c) .anil)),.acons (.int .i64 d) (.acons (.int .i64 e) (.acons (.int .i64 f) .anil))]
theorem QsD (a:Int) (b:Int) (c:Int) (d:Int) (e:Int) (f:Int):QqS a b c d e f=(some (D.bool (decide (a < d)))):=by kernel_rfl
theorem QsE (a:Int) (b:Int) (c:Int) (d:Int) (e:Int) (f:Int) (h:(true)=true):QqS a b c d e f=some (.bool (Jr ⟨a,b,c⟩ ⟨d,e,f⟩)):=by
 rw [QsD];rfl
noncomputable def ua_7:=ua_6.addSpec 113 Qkz
theorem QkA:Qi Tryz.prog s28 ua_7:=Qky.addEv Qb fun args d h=>by
 unfold Qkz at h
 split at h
 · unfold QqR at h;have h1:=congrArg Prod.fst (Option.some.inj h);obtain rfl:_=d:=congrArg Prod.snd (Option.some.inj h);exact ⟨by simp [D.refs],20,QsE _ _ _ _ _ _ h1⟩
 · cases h
def QqT (a:Int) (b:Int) (c:Int) (d:Int) (e:Int) (a':Int) (b':Int) (c':Int) (d':Int) (e':Int):Option (Bool × D RC):=some (true,.bool (Vq ⟨a,b,c,d,e⟩ ⟨a',b',c',d',e'⟩))
def QkB:List (D RC)->Option (Bool × D RC)
 | [.acons (.int .i64 a) (.acons (.int .i64 b) (.acons (.int .i64 c) (.acons (.int .i64 d) (.acons (.int .i64 e) .anil)))),.acons (.int .i64 a') (.acons (.int .i64 b') (.acons (.int .i64 c') (.acons (.int .i64 d') (.acons (.int .i64 e') .anil))))]=>QqT a b c d e a' b' c' d' e'
 | _=>none
noncomputable def QqU (a:Int) (b:Int) (c:Int) (d:Int) (e:Int) (a':Int) (b':Int) (c':Int) (d':Int) (e':Int):=evF s28 ua_7 20 116 [.acons (.int .i64 a) (.acons (.int .i64 b) (.acons (.int .i64 c) (.acons (.int .i64 d) (.acons (.int .i64 e) .anil)))),.acons (.int .i64 a') (.acons (.int .i64 b') (.acons (.int .i64 c') (.acons (.int .i64 d') (.acons (.int .i64 e') .anil))))]
theorem QsF (a:Int) (b:Int) (c:Int) (d:Int) (e:Int) (a':Int) (b':Int) (c':Int) (d':Int) (e':Int):QqU a b c d e a' b' c' d' e'=(bif a' == IntKind.wrap .i64 (a+(1:Int)) then bif decide (b < b') then some (D.bool true) else bif b == b' then some (D.bool (decide (c < c'))) else some (D.bool false) else some (D.bool false)):=by kernel_rfl
theorem QsG (a:Int) (b:Int) (c:Int) (d:Int) (e:Int) (a':Int) (b':Int) (c':Int) (d':Int) (e':Int) (h:(true)=true):QqU a b c d e a' b' c' d' e'=some (.bool (Vq ⟨a,b,c,d,e⟩ ⟨a',b',c',d',e'⟩)):=by
 rw [QsF];simp only [Vq];cases (a' == IntKind.i64.wrap (a+1)) <;> cases decide (b < b') <;> cases (b == b') <;> simp
noncomputable def ua_8:=ua_7.addSpec 116 QkB
theorem QkC:Qi Tryz.prog s28 ua_8:=QkA.addEv Qb fun args d h=>by
 unfold QkB at h
 split at h
 · unfold QqT at h;have h1:=congrArg Prod.fst (Option.some.inj h);obtain rfl:_=d:=congrArg Prod.snd (Option.some.inj h);exact ⟨by simp [D.refs],20,QsG _ _ _ _ _ _ _ _ _ _ h1⟩
 · cases h
structure QgJ where
 p:Int
 r:D RC
 c:Bool
 l:List Item
 i:Nat
def QcW (p:Int) (r:D RC) (c:Bool) (l:List Item) (i:Nat):Env RC:=[(0,.sl (C:=RC) .item c l),(1,.fn 112 (.acons (.ptr 0 []) .anil)),(2,.fn 113 .anil),(6,.bool false),(9,.int .i64 (l.length)),(10,.int .i64 (i:Int))]
def VH (p:Int) (r:D RC) (c:Bool) (l:List Item) (i:Nat):List (Obj RC):=[.var 34 (.acons (.int .i64 p) r)]
noncomputable def QkD (p:Int) (r:D RC) (c:Bool) (l:List Item) (i:Nat):=rndO s28 ua_8 111 2 40 1 [0,1,2,6,9,10] [6] [.slot 1 0] (QcW p r c l i) (VH p r c l i)
theorem Qpo (p:Int) (r:D RC) (c:Bool) (l:List Item) (i:Nat):QkD p r c l i=(let Z0:Int:=(↑i:Int);let Z1:Int:=(↑l.length:Int);let Z2:Bool:=decide ((0:Int) <= Z0 /\ Z0 < Z1);let Z3:Item:=Item.mk (0:Int) (0:Int) (0:Int);let Z4:Item:=List.getD l Z0.toNat Z3;let Z5:List (Option (Obj RC)):=[some (Obj.var 34 (.acons (D.int .i64 p) r))];let Z6:RO_:=some ((X.ret,[(6,D.bool false)]),Z5);let Z7:Int:=IntKind.wrap .i64 (Z0 - (1:Int));let Z8:Item:=List.getD l Z7.toNat Z3;let Z9:RO_:=some ((X.normal,[(0,D.sl RTy.item c l),(1,D.fn (112:Nat) (.acons (D.ptr 0 []) .anil)),(2,D.fn (113:Nat) .anil),(6,D.bool false),(9,D.int .i64 Z1),(10,D.int .i64 (IntKind.wrap .i64 (Z0+(1:Int))))]),Z5);bif decide (Z0 < Z1) then bif Z2 then bif Qf (Item.key Z4) (0:Int) (23:Int) then bif Qf (Item.place Z4) (1:Int) p then bif !Qf (Item.value Z4) (0:Int) (255:Int) then Z6 else bif decide ((0:Int) < Z0) then bif decide ((0:Int) <= Z7 /\ Z7 < Z1) then bif Z2 then bif !Jr (Item.mk (Item.key Z8) (Item.place Z8) (Item.value Z8)) (Item.mk (Item.key Z4) (Item.place Z4) (Item.value Z4)) then Z6 else Z9 else none else none else Z9 else Z6 else Z6 else none else some ((X.exit (0:Nat),[(6,D.bool false)]),Z5)):=by kernel_rfl
def VI (p:Int) (r:D RC) (c:Bool) (l:List Item) (i:Nat):RT RC:=.br (QK (VD p) Jr l i) (.leaf (.exit 0) [(6,.bool false)] (VH p r c l i)) (.leaf .ret [(6,.bool false)] (VH p r c l i))
def VJ (p:Int) (r:D RC) (c:Bool) (l:List Item) (i:Nat):Prop:=r.refs=[] /\ i <= l.length /\ l.length <= 9223372036854775807
def Yk:QI RC QgJ where
 k:=1
 canon q:=QcW q.p q.r q.c q.l q.i
 objs q:=VH q.p q.r q.c q.l q.i
 fin q:=VI q.p q.r q.c q.l q.i
 Inv q:=VJ q.p q.r q.c q.l q.i
 μ q:=q.l.length - q.i
theorem Qfw (p:Int) (r:D RC) (c:Bool) (l:List Item) (i:Nat) (hI:VJ p r c l i):Leaf (QkD p r c l i) (LedR Yk ⟨p,r,c,l,i⟩):=by
 (rw [Qpo];conv=>zeta)
 unfold VJ at hI;obtain ⟨h0,h1,h2⟩:=hI
 by_cases hlt:i < l.length
 · have w_succ:IntKind.i64.wrap ((i:Int)+1)=((i+1:Nat):Int):=by rw [wrap_id (by omega) (by omega)];simp
   have d_lt:decide ((i:Int) < l.length)=true:=by simp;omega
   have d_in:decide (0 <= (i:Int) /\ (i:Int) < l.length)=true:=by simp;omega
   have t_nat:((i:Int)).toNat=i:=by simp
   have w_pred:IntKind.i64.wrap ((i:Int) - 1)=(i:Int) - 1:=wrap_id (by omega) (by omega)
   have t_natp:((i:Int) - 1).toNat=i - 1:=by omega
   simp only [w_succ,d_lt,d_in,t_nat,w_pred,t_natp,cond_true];have hst:=Y9 (VD p) Jr l i (⟨0,0,0⟩:Item) hlt;generalize l.getD i (⟨0,0,0⟩:Item)=x at hst ⊢;generalize l.getD (i - 1) (⟨0,0,0⟩:Item)=y at hst ⊢
   have hgo:QK (VD p) Jr l (i+1)=QK (VD p) Jr l i->Leaf (some ((X.normal,QcW p r c l (i+1)),[some (.var 34 (.acons (.int .i64 p) r))])) (LedR Yk ⟨p,r,c,l,i⟩):=fun he =>
    Qp ⟨p,r,c,l,i+1⟩ ⟨h0,hlt,h2⟩ (by simp only [Yk];omega) (by simp only [Yk,VI,he];rfl) rfl rfl
   have hno:QK (VD p) Jr l i=false->Leaf (some ((X.ret,[(6,D.bool false)]),[some (.var 34 (.acons (.int .i64 p) r))])) (LedR Yk ⟨p,r,c,l,i⟩):=fun he=>QO (VH p r c l i) (by simp [Yk,VI,he,RT.val]) rfl
   rw [hst] at hgo hno;simp only [VD] at hgo hno;have hty:Jr ⟨y.key,y.place,y.value⟩ ⟨x.key,x.place,x.value⟩=Jr y x:=rfl;rw [hty]
   by_cases hi:i=0
   · have d0:decide (0 < (i:Int))=false:=by simp;omega
     simp only [d0,cond_false]
     repeat' (refine Yg.2 ⟨fun _=>?_,fun _=>?_⟩)
     all_goals first | exact hno (by clear hgo hno hst;simp_all) | exact hgo (by clear hgo hno hst;simp_all)
   · have d_pos:decide (0 < (i:Int))=true:=by simp;omega
     have d_inp:decide (0 <= (i:Int) - 1 /\ (i:Int) - 1 < l.length)=true:=by simp;omega
     simp only [d_pos,d_inp,cond_true]
     repeat' (refine Yg.2 ⟨fun _=>?_,fun _=>?_⟩)
     all_goals first | exact hno (by clear hgo hno hst;simp_all) | exact hgo (by clear hgo hno hst;simp_all)
 · have hi:i=l.length:=by omega
   have c1:decide ((i:Int) < l.length)=false:=by simp;omega
   rw [c1];exact Qm (VH p r c l i) (by simp [Yk,VI,hi,QbU,RT.val]) rfl
def Qfx (env:Env RC) (os:List (Obj RC)):Option (Bool × QgJ):=match env,os with
 | [(0,.sl .item c l),(1,.fn 112 (.acons (.ptr 0 []) .anil)),(2,.fn 113 .anil),(6,.bool false),(9,.int .i64 x0),(10,.int .i64 x1)],[.var 34 (.acons (.int .i64 p) r)]=>QB (r.refs.isEmpty) (decide (x0=l.length) && decide (x1=0) && decide (l.length <= 9223372036854775807),⟨p,r,c,l,0⟩)
 | _,_=>none
noncomputable def ua_9:=ua_8.addLoop 111 2 (sumR s28 [.slot 1 0] [0,1,2,6,9,10] Yk Qfx)
theorem QkE:Qi Tryz.prog s28 ua_9:=by
 refine QkC.addRoundsR Qb (by kernel_rfl) Yk 40 [0,1,2,6,9,10] [6] [.slot 1 0] [0,1,2,6,9,10] Qfx (fun q hI=>?_) ?_
 · obtain ⟨p,r,c,l,i⟩:=q;refine ⟨?_,?_,Qfw p r c l i hI⟩
   · simp_all [Qj,Yk,QcW,VH,VJ,D.refs,Obj.refs,rEnc]
   · simp_all [Yk,VI,VH,VJ,RT.refsOK,Qj,D.refs,Obj.refs,rEnc]
 · intro env os b q hd_ hb;unfold Qfx at hd_
   split at hd_
   · obtain ⟨hs,hd_⟩:=Qg hd_;cases hd_;simp only [Bool.and_eq_true,decide_eq_true_eq] at hb;obtain ⟨⟨rfl,rfl⟩,hl⟩:=hb;exact ⟨⟨List.isEmpty_iff.1 hs,Nat.zero_le _,hl⟩,rfl,rfl⟩
   · cases hd_
structure QgK where
 p:Int
 r:D RC
 c:Bool
 l:List Line
 i:Nat
def QcX (p:Int) (r:D RC) (c:Bool) (l:List Line) (i:Nat):Env RC:=[(0,.sl (C:=RC) .line c l),(1,.fn 115 (.acons (.ptr 0 []) .anil)),(2,.fn 116 .anil),(6,.bool false),(9,.int .i64 (l.length)),(10,.int .i64 (i:Int))]
def VK (p:Int) (r:D RC) (c:Bool) (l:List Line) (i:Nat):List (Obj RC):=[.var 34 (.acons (.int .i64 p) r)]
noncomputable def QkF (p:Int) (r:D RC) (c:Bool) (l:List Line) (i:Nat):=rndO s28 ua_9 114 2 40 1 [0,1,2,6,9,10] [6] [.slot 1 0] (QcX p r c l i) (VK p r c l i)
theorem Qpp (p:Int) (r:D RC) (c:Bool) (l:List Line) (i:Nat):QkF p r c l i=(let Z0:Int:=(↑i:Int);let Z1:Int:=(↑l.length:Int);let Z2:Bool:=decide ((0:Int) <= Z0 /\ Z0 < Z1);let Z3:Line:=Line.mk (0:Int) (0:Int) (0:Int) (0:Int) (0:Int);let Z4:Line:=List.getD l Z0.toNat Z3;let Z5:List (Option (Obj RC)):=[some (Obj.var 34 (.acons (D.int .i64 p) r))];let Z6:RO_:=some ((X.ret,[(6,D.bool false)]),Z5);let Z7:Int:=IntKind.wrap .i64 (Z0 - (1:Int));let Z8:Line:=List.getD l Z7.toNat Z3;let Z9:RO_:=some ((X.normal,[(0,D.sl RTy.line c l),(1,D.fn (115:Nat) (.acons (D.ptr 0 []) .anil)),(2,D.fn (116:Nat) .anil),(6,D.bool false),(9,D.int .i64 Z1),(10,D.int .i64 (IntKind.wrap .i64 (Z0+(1:Int))))]),Z5);bif decide (Z0 < Z1) then bif Z2 then bif Qf (Line.offset Z4) (0:Int) (4194303:Int) then bif Qf (Line.place Z4) (1:Int) p then bif Qf (Line.j Z4) (0:Int) (3:Int) then bif Qf (Line.key Z4) (0:Int) (7:Int) then bif !Qf (Line.value Z4) (0:Int) (255:Int) then Z6 else bif decide ((0:Int) < Z0) then bif decide ((0:Int) <= Z7 /\ Z7 < Z1) then bif Z2 then bif !Vq (Line.mk (Line.offset Z8) (Line.place Z8) (Line.j Z8) (Line.key Z8) (Line.value Z8)) (Line.mk (Line.offset Z4) (Line.place Z4) (Line.j Z4) (Line.key Z4) (Line.value Z4)) then Z6 else Z9 else none else none else Z9 else Z6 else Z6 else Z6 else Z6 else none else some ((X.exit (0:Nat),[(6,D.bool false)]),Z5)):=by kernel_rfl
def VL (p:Int) (r:D RC) (c:Bool) (l:List Line) (i:Nat):RT RC:=.br (QK (VE p) Vq l i) (.leaf (.exit 0) [(6,.bool false)] (VK p r c l i)) (.leaf .ret [(6,.bool false)] (VK p r c l i))
def VM (p:Int) (r:D RC) (c:Bool) (l:List Line) (i:Nat):Prop:=r.refs=[] /\ i <= l.length /\ l.length <= 9223372036854775807
def Yl:QI RC QgK where
 k:=1
 canon q:=QcX q.p q.r q.c q.l q.i
 objs q:=VK q.p q.r q.c q.l q.i
 fin q:=VL q.p q.r q.c q.l q.i
 Inv q:=VM q.p q.r q.c q.l q.i
 μ q:=q.l.length - q.i
theorem Qfy (p:Int) (r:D RC) (c:Bool) (l:List Line) (i:Nat) (hI:VM p r c l i):Leaf (QkF p r c l i) (LedR Yl ⟨p,r,c,l,i⟩):=by
 (rw [Qpp];conv=>zeta)
 unfold VM at hI;obtain ⟨h0,h1,h2⟩:=hI
 by_cases hlt:i < l.length
 · have w_succ:IntKind.i64.wrap ((i:Int)+1)=((i+1:Nat):Int):=by rw [wrap_id (by omega) (by omega)];simp
   have d_lt:decide ((i:Int) < l.length)=true:=by simp;omega
   have d_in:decide (0 <= (i:Int) /\ (i:Int) < l.length)=true:=by simp;omega
   have t_nat:((i:Int)).toNat=i:=by simp
   have w_pred:IntKind.i64.wrap ((i:Int) - 1)=(i:Int) - 1:=wrap_id (by omega) (by omega)
   have t_natp:((i:Int) - 1).toNat=i - 1:=by omega
   simp only [w_succ,d_lt,d_in,t_nat,w_pred,t_natp,cond_true];have hst:=Y9 (VE p) Vq l i (⟨0,0,0,0,0⟩:Line) hlt;generalize l.getD i (⟨0,0,0,0,0⟩:Line)=x at hst ⊢;generalize l.getD (i - 1) (⟨0,0,0,0,0⟩:Line)=y at hst ⊢
   have hgo:QK (VE p) Vq l (i+1)=QK (VE p) Vq l i->Leaf (some ((X.normal,QcX p r c l (i+1)),[some (.var 34 (.acons (.int .i64 p) r))])) (LedR Yl ⟨p,r,c,l,i⟩):=fun he =>
    Qp ⟨p,r,c,l,i+1⟩ ⟨h0,hlt,h2⟩ (by simp only [Yl];omega) (by simp only [Yl,VL,he];rfl) rfl rfl
   have hno:QK (VE p) Vq l i=false->Leaf (some ((X.ret,[(6,D.bool false)]),[some (.var 34 (.acons (.int .i64 p) r))])) (LedR Yl ⟨p,r,c,l,i⟩):=fun he=>QO (VK p r c l i) (by simp [Yl,VL,he,RT.val]) rfl
   rw [hst] at hgo hno;simp only [VE] at hgo hno;have hty:Vq ⟨y.offset,y.place,y.j,y.key,y.value⟩ ⟨x.offset,x.place,x.j,x.key,x.value⟩=Vq y x:=rfl;rw [hty]
   by_cases hi:i=0
   · have d0:decide (0 < (i:Int))=false:=by simp;omega
     simp only [d0,cond_false]
     repeat' (refine Yg.2 ⟨fun _=>?_,fun _=>?_⟩)
     all_goals first | exact hno (by clear hgo hno hst;simp_all) | exact hgo (by clear hgo hno hst;simp_all)
   · have d_pos:decide (0 < (i:Int))=true:=by simp;omega
     have d_inp:decide (0 <= (i:Int) - 1 /\ (i:Int) - 1 < l.length)=true:=by simp;omega
     simp only [d_pos,d_inp,cond_true]
     repeat' (refine Yg.2 ⟨fun _=>?_,fun _=>?_⟩)
     all_goals first | exact hno (by clear hgo hno hst;simp_all) | exact hgo (by clear hgo hno hst;simp_all)
 · have hi:i=l.length:=by omega
   have c1:decide ((i:Int) < l.length)=false:=by simp;omega
   rw [c1];exact Qm (VK p r c l i) (by simp [Yl,VL,hi,QbU,RT.val]) rfl
def Qfz (env:Env RC) (os:List (Obj RC)):Option (Bool × QgK):=match env,os with
 | [(0,.sl .line c l),(1,.fn 115 (.acons (.ptr 0 []) .anil)),(2,.fn 116 .anil),(6,.bool false),(9,.int .i64 x0),(10,.int .i64 x1)],[.var 34 (.acons (.int .i64 p) r)]=>QB (r.refs.isEmpty) (decide (x0=l.length) && decide (x1=0) && decide (l.length <= 9223372036854775807),⟨p,r,c,l,0⟩)
 | _,_=>none
noncomputable def QsH:=ua_9.addLoop 114 2 (sumR s28 [.slot 1 0] [0,1,2,6,9,10] Yl Qfz)
theorem Qim:Qi Tryz.prog s28 QsH:=by
 refine QkE.addRoundsR Qb (by kernel_rfl) Yl 40 [0,1,2,6,9,10] [6] [.slot 1 0] [0,1,2,6,9,10] Qfz (fun q hI=>?_) ?_
 · obtain ⟨p,r,c,l,i⟩:=q;refine ⟨?_,?_,Qfy p r c l i hI⟩
   · simp_all [Qj,Yl,QcX,VK,VM,D.refs,Obj.refs,rEnc]
   · simp_all [Yl,VL,VK,VM,RT.refsOK,Qj,D.refs,Obj.refs,rEnc]
 · intro env os b q hd_ hb;unfold Qfz at hd_
   split at hd_
   · obtain ⟨hs,hd_⟩:=Qg hd_;cases hd_;simp only [Bool.and_eq_true,decide_eq_true_eq] at hb;obtain ⟨⟨rfl,rfl⟩,hl⟩:=hb;exact ⟨⟨List.isEmpty_iff.1 hs,Nat.zero_le _,hl⟩,rfl,rfl⟩
   · cases hd_
def QuE (c:Bool) (b:List UInt8) (n:Int) (w:Int):Option (Bool × D RC):=QB (w == 1 || w == 2 || w == 3 || w == 6) (decide (b.length <= 1000000000),.tup (.acons (.sl (C:=RC) .u8 (!Q2 n w.toNat) (putL b n w.toNat)) (.acons (.int .i64 (bif Q2 n w.toNat then 0 else 2)) .anil)))
def QqV:List (D RC)->Option (Bool × D RC)
 | [.sl .u8 c b,.int .i64 n,.int .i64 w]=>QuE c b n w
 | _=>none
noncomputable def QkG (c:Bool) (b:List UInt8) (n:Int) (w:Int):=evF s28 QsH 40 203 [.sl (C:=RC) .u8 c b,.int .i64 n,.int .i64 w]
theorem QsI (c:Bool) (b:List UInt8) (n:Int):QkG c b n 1=(let Z0:DO_:=some (D.tup (D.acons (D.sl RTy.u8 true []) (.acons (D.int .i64 2) .anil)));let Z1:Bool:=Qh b.length;let Z2:Int:=(↑b.length:Int);let Z3:List UInt8:=List.drop (0:Nat) (List.take Z2.toNat b);let Z4:List UInt8:=[UInt8.ofNat (IntKind.wrap IntKind.u8 n).toNat];let Z5:Nat:=List.length Z3+List.length Z4;bif decide ((0:Int) <= n) then bif !Int.fdiv n (256:Int) == (0:Int) then Z0 else bif Z1 then bif Z1 then bif decide ((0:Int) <= (0:Int) /\ (0:Int) <= Z2 /\ Z2 <= Z2 /\ Z2=Z2) then bif Qk Z5 (1:Nat) then bif Nat.beq Z5 (Z3++Z4).length then some (D.tup (D.acons (D.sl RTy.u8 false (Z3++Z4)) (.acons (D.int .i64 0) .anil))) else none else none else none else none else none else Z0):=by kernel_rfl
theorem QsJ (c:Bool) (b:List UInt8) (n:Int):QkG c b n 2=(let Z0:DO_:=some (D.tup (D.acons (D.sl RTy.u8 true []) (.acons (D.int .i64 2) .anil)));let Z1:Bool:=Qh b.length;let Z2:Int:=(↑b.length:Int);let Z3:List UInt8:=List.drop (0:Nat) (List.take Z2.toNat b);let Z4:List UInt8:=[UInt8.ofNat (IntKind.wrap IntKind.u8 n).toNat];let Z5:Nat:=List.length Z3+List.length Z4;let Z6:Nat:=List.length (Z3++Z4);let Z7:List UInt8:=[UInt8.ofNat (IntKind.wrap IntKind.u8 (Int.fdiv n (256:Int))).toNat];bif decide ((0:Int) <= n) then bif !Int.fdiv n (65536:Int) == (0:Int) then Z0 else bif Z1 then bif Z1 then bif decide ((0:Int) <= (0:Int) /\ (0:Int) <= Z2 /\ Z2 <= Z2 /\ Z2=Z2) then bif Qk Z5 (1:Nat) then bif Nat.beq Z5 Z6 && Qk (Z5+List.length Z7) (1:Nat) then bif Nat.beq (Z6+List.length Z7) (Z3++Z4++Z7).length then some (D.tup (D.acons (D.sl RTy.u8 false (Z3++Z4++Z7)) (.acons (D.int .i64 0) .anil))) else none else none else none else none else none else none else Z0):=by kernel_rfl
theorem QsK (c:Bool) (b:List UInt8) (n:Int):QkG c b n 3=(let Z0:DO_:=some (D.tup (D.acons (D.sl RTy.u8 true []) (.acons (D.int .i64 2) .anil)));let Z1:Bool:=Qh b.length;let Z2:Int:=(↑b.length:Int);let Z3:List UInt8:=List.drop (0:Nat) (List.take Z2.toNat b);let Z4:List UInt8:=[UInt8.ofNat (IntKind.wrap IntKind.u8 n).toNat];let Z5:Nat:=List.length Z3+List.length Z4;let Z6:Nat:=List.length (Z3++Z4);let Z7:Int:=Int.fdiv n (256:Int);let Z8:List UInt8:=[UInt8.ofNat (IntKind.wrap IntKind.u8 Z7).toNat];let Z9:Nat:=List.length (Z3++Z4++Z8);let Z10:List UInt8:=[UInt8.ofNat (IntKind.wrap IntKind.u8 (Int.fdiv Z7 (256:Int))).toNat];bif decide ((0:Int) <= n) then bif !Int.fdiv n (16777216:Int) == (0:Int) then Z0 else bif Z1 then bif Z1 then bif decide ((0:Int) <= (0:Int) /\ (0:Int) <= Z2 /\ Z2 <= Z2 /\ Z2=Z2) then bif Qk Z5 (1:Nat) then bif Nat.beq Z5 Z6 && Qk (Z5+List.length Z8) (1:Nat) then bif Nat.beq (Z6+List.length Z8) Z9 && Qk (Z6+List.length Z8+List.length Z10) (1:Nat) then bif Nat.beq (Z9+List.length Z10) (Z3++Z4++Z8++Z10).length then some (D.tup (D.acons (D.sl RTy.u8 false (Z3++Z4++Z8++Z10)) (.acons (D.int .i64 0) .anil))) else none else none else none else none else none else none else none else Z0):=by kernel_rfl
theorem QsL (c:Bool) (b:List UInt8) (n:Int):QkG c b n 6=(let Z0:DO_:=some (D.tup (D.acons (D.sl RTy.u8 true []) (.acons (D.int .i64 2) .anil)));let Z1:Bool:=Qh b.length;let Z2:Int:=(↑b.length:Int);let Z3:List UInt8:=List.drop (0:Nat) (List.take Z2.toNat b);let Z4:List UInt8:=[UInt8.ofNat (IntKind.wrap IntKind.u8 n).toNat];let Z5:Nat:=List.length Z3+List.length Z4;let Z6:Nat:=List.length (Z3++Z4);let Z7:Int:=Int.fdiv n (256:Int);let Z8:List UInt8:=[UInt8.ofNat (IntKind.wrap IntKind.u8 Z7).toNat];let Z9:Nat:=List.length (Z3++Z4++Z8);let Z10:Int:=Int.fdiv Z7 (256:Int);let Z11:List UInt8:=[UInt8.ofNat (IntKind.wrap IntKind.u8 Z10).toNat];let Z12:Nat:=List.length (Z3++Z4++Z8++Z11);let Z13:Int:=Int.fdiv Z10 (256:Int);let Z14:List UInt8:=[UInt8.ofNat (IntKind.wrap IntKind.u8 Z13).toNat];let Z15:Nat:=List.length (Z3++Z4++Z8++Z11++Z14);let Z16:Int:=Int.fdiv Z13 (256:Int);let Z17:List UInt8:=[UInt8.ofNat (IntKind.wrap IntKind.u8 Z16).toNat];let Z18:List UInt8:=Z3++Z4++Z8++Z11++Z14++Z17;let Z19:List UInt8:=[UInt8.ofNat (IntKind.wrap IntKind.u8 (Int.fdiv Z16 (256:Int))).toNat];bif decide ((0:Int) <= n) then bif !Int.fdiv n (281474976710656:Int) == (0:Int) then Z0 else bif Z1 then bif Z1 then bif decide ((0:Int) <= (0:Int) /\ (0:Int) <= Z2 /\ Z2 <= Z2 /\ Z2=Z2) then bif Qk Z5 (1:Nat) then bif Nat.beq Z5 Z6 && Qk (Z5+List.length Z8) (1:Nat) then bif Nat.beq (Z6+List.length Z8) Z9 && Qk (Z6+List.length Z8+List.length Z11) (1:Nat) then bif Nat.beq (Z9+List.length Z11) Z12 && Qk (Z9+List.length Z11+List.length Z14) (1:Nat) then bif Nat.beq (Z12+List.length Z14) Z15 && Qk (Z12+List.length Z14+List.length Z17) (1:Nat) then bif Nat.beq (Z15+List.length Z17) Z18.length && Qk (Z15+List.length Z17+List.length Z19) (1:Nat) then bif Nat.beq (List.length Z18+List.length Z19) (Z18++Z19).length then some (D.tup (D.acons (D.sl RTy.u8 false (Z18++Z19)) (.acons (D.int .i64 0) .anil))) else none else none else none else none else none else none else none else none else none else none else Z0):=by kernel_rfl
theorem QuF (c:Bool) (b:List UInt8) (n:Int) (w:Int) (hs:(w == 1 || w == 2 || w == 3 || w == 6)=true) (h:(decide (b.length <= 1000000000))=true):QkG c b n w=some (.tup (.acons (.sl (C:=RC) .u8 (!Q2 n w.toNat) (putL b n w.toNat)) (.acons (.int .i64 (bif Q2 n w.toNat then 0 else 2)) .anil))):=by
 have hl:=of_decide_eq_true h;have hl':Qh b.length=true:=Qe (by omega)
 have hle:∀ m,1000000000 <= m->(b.length <= m):=fun m hm=>by omega
 have hz:∀ (k:Nat) (m:Int),0 <= n->m=256 ^ k->0 < m->((n.fdiv m == 0)=Q2 n k):=by
  intro k m h0 hm hp;rw [Int.fdiv_eq_ediv_of_nonneg _ (by omega),Q2,<- hm]
  have:(n / m=0) ↔ n < m:=Int.ediv_eq_zero_iff_of_pos' h0 hp;rw [Bool.eq_iff_iff];simp [this,h0]
 simp only [Bool.or_eq_true,beq_iff_eq] at hs;rcases hs with ((rfl | rfl) | rfl) | rfl
 · (rw [QsI];conv=>zeta)
   show _=some (D.tup (.acons (.sl (C:=RC) .u8 (!Q2 n 1) (putL b n 1)) (.acons (.int .i64 (bif Q2 n 1 then 0 else 2)) .anil)))
   by_cases h0:0 <= n
   · simp only [h0,decide_true,cond_true,hz 1 256 h0 (by decide) (by omega)]
     cases hf:Q2 n 1
     · simp [putL,hf]
     · simp [putL,hf,hl',Qk,leB,QG,hle]
   · have hf:Q2 n 1=false:=by simp [Q2,h0]
     simp [h0,hf,putL]
 · (rw [QsJ];conv=>zeta)
   show _=some (D.tup (.acons (.sl (C:=RC) .u8 (!Q2 n 2) (putL b n 2)) (.acons (.int .i64 (bif Q2 n 2 then 0 else 2)) .anil)))
   by_cases h0:0 <= n
   · simp only [h0,decide_true,cond_true,hz 2 65536 h0 (by decide) (by omega)]
     cases hf:Q2 n 2
     · simp [putL,hf]
     · simp [putL,hf,hl',Qk,leB,QG,hle]
   · have hf:Q2 n 2=false:=by simp [Q2,h0]
     simp [h0,hf,putL]
 · (rw [QsK];conv=>zeta)
   show _=some (D.tup (.acons (.sl (C:=RC) .u8 (!Q2 n 3) (putL b n 3)) (.acons (.int .i64 (bif Q2 n 3 then 0 else 2)) .anil)))
   by_cases h0:0 <= n
   · simp only [h0,decide_true,cond_true,hz 3 16777216 h0 (by decide) (by omega)]
     cases hf:Q2 n 3
     · simp [putL,hf]
     · simp [putL,hf,hl',Qk,leB,QG,hle]
   · have hf:Q2 n 3=false:=by simp [Q2,h0]
     simp [h0,hf,putL]
 · (rw [QsL];conv=>zeta)
   show _=some (D.tup (.acons (.sl (C:=RC) .u8 (!Q2 n 6) (putL b n 6)) (.acons (.int .i64 (bif Q2 n 6 then 0 else 2)) .anil)))
   by_cases h0:0 <= n
   · simp only [h0,decide_true,cond_true,hz 6 281474976710656 h0 (by decide) (by omega)]
     cases hf:Q2 n 6
     · simp [putL,hf]
     · simp [putL,hf,hl',Qk,leB,QG,hle]
   · have hf:Q2 n 6=false:=by simp [Q2,h0]
     simp [h0,hf,putL]
noncomputable def QsM:=QsH.addSpec 203 QqV
theorem Qin:Qi Tryz.prog s28 QsM:=Qim.addEv Qb fun args d h=>by
 unfold QqV at h
 split at h
 · unfold QuE at h;obtain ⟨hs,h⟩:=Qg h;obtain ⟨h1,h2⟩:=Prod.mk.inj h;obtain rfl:_=d:=h2;exact ⟨by simp [D.refs],40,QuF _ _ _ _ hs h1⟩
 · cases h
structure QbX where
 c:Bool
 l:List UInt8
 i:Nat
def J5 (c:Bool) (l:List UInt8) (i:Nat):Env RC:=[(40,.sl (C:=RC) .u8 c l),(41,.int .i64 (l.length)),(42,.int .i64 (i:Int)),(8,.int .i64 ((leVal (l.take i):Int)))]
def J6 (c:Bool) (l:List UInt8) (i:Nat):List (Obj RC):=[]
noncomputable def Qd5 (c:Bool) (l:List UInt8) (i:Nat):=rndO s28 QsM 179 7 40 0 [40,41,42,8] [8] [] (J5 c l i) (J6 c l i)
theorem Qio (c:Bool) (l:List UInt8) (i:Nat):Qd5 c l i=(let Z0:Int:=(↑i:Int);let Z1:Int:=(↑l.length:Int);let Z2:Int:=IntKind.wrap .i64 ((8:Int) * Z0);let Z3:Int:=(↑(leVal (List.take i l)):Int);bif decide (Z0 < Z1) then bif decide ((0:Int) <= Z0 /\ Z0 < Z1) then bif decide (Z2 < (0:Int)) then none else some ((X.normal,[(40,D.sl RTy.u8 c l),(41,D.int .i64 Z1),(42,D.int .i64 (IntKind.wrap .i64 (Z0+(1:Int)))),(8,D.int .i64 (bits .i64 (fun (x:Nat) (u v:BitVec x)=>u ||| v) Z3 (IntKind.wrap .i64 (IntKind.wrap .i64 (↑(UInt8.toNat (List.getD l Z0.toNat (UInt8.ofBitVec (BitVec.ofNat (8:Nat) (nat_lit 0))))):Int) * (2:Int) ^ min Z2.toNat (64:Nat)))))]),[]) else none else some ((X.exit (1:Nat),[(8,D.int .i64 Z3)]),[])):=by kernel_rfl
def Va (c:Bool) (l:List UInt8) (i:Nat):RT RC:=.leaf (.exit 1) [(8,.int .i64 (leVal l:Int))] []
def Ym (c:Bool) (l:List UInt8) (i:Nat):Prop:=i <= l.length /\ l.length <= 6
def Zw:QI RC QbX where
 k:=0
 canon q:=J5 q.c q.l q.i
 objs q:=J6 q.c q.l q.i
 fin q:=Va q.c q.l q.i
 Inv q:=Ym q.c q.l q.i
 μ q:=q.l.length - q.i
theorem QcY (c:Bool) (l:List UInt8) (i:Nat) (hI:Ym c l i):Leaf (Qd5 c l i) (LedR Zw ⟨c,l,i⟩):=by
 (rw [Qio];conv=>zeta)
 unfold Ym at hI;obtain ⟨h1,h2⟩:=hI
 by_cases hlt:i < l.length
 · have w_succ:IntKind.i64.wrap ((i:Int)+1)=((i+1:Nat):Int):=by rw [wrap_id (by omega) (by omega)];simp
   have d_lt:decide ((i:Int) < l.length)=true:=by simp;omega
   have d_in:decide (0 <= (i:Int) /\ (i:Int) < l.length)=true:=by simp;omega
   have t_nat:((i:Int)).toNat=i:=by simp
   simp only [w_succ,d_lt,d_in,t_nat,cond_true];have hw8:IntKind.i64.wrap (8 * (i:Int))=8 * (i:Int):=wrap_id (by omega) (by omega)
   have hd8:decide (IntKind.i64.wrap (8 * (i:Int)) < 0)=false:=by rw [hw8];simp;omega
   have hlen:(l.take i).length=i:=by simp;omega
   have hv:leVal (l.take i) < 256 ^ i:=by have:=QgE (l.take i);rwa [hlen] at this
   have hval:leVal (l.take (i+1))=leVal (l.take i)+(l.getD i 0).toNat * 256 ^ i:=by
    rw [List.take_add_one,K6,hlen];simp [hlt,leVal,Nat.mul_comm]
   simp only [hd8,cond_false];refine Qp ⟨c,l,i+1⟩ ⟨hlt,h2⟩ (by simp only [Zw];omega) (by simp only [Zw,Va]) ?_ rfl
   simp only [Zw,J5,hval];exact congrArg (fun z=>[(40,D.sl (C:=RC) .u8 c l),(41,.int .i64 (l.length:Int)),(42,.int .i64 ((i+1:Nat):Int)),(8,.int .i64 z)]) (QbE _ _ _ hv (by omega))
 · have hi:i=l.length:=by omega
   have c1:decide ((i:Int) < l.length)=false:=by simp;omega
   rw [c1];exact Qm [] (by simp [Zw,Va,hi,RT.val]) rfl
def Qa2 (env:Env RC) (os:List (Obj RC)):Option (Bool × QbX):=match env,os with
 | [(40,.sl .u8 c l),(41,.int .i64 x0),(42,.int .i64 x1),(8,.int .i64 x2)],[]=>QB (true) (decide (x0=l.length) && decide (x1=0) && decide (x2=0) && decide (l.length <= 6),⟨c,l,0⟩)
 | _,_=>none
noncomputable def QsN:=QsM.addLoop 179 7 (sumR s28 [] [40,41,42,8] Zw Qa2)
theorem Qip:Qi Tryz.prog s28 QsN:=by
 refine Qin.addRoundsR Qb (by kernel_rfl) Zw 40 [40,41,42,8] [8] [] [40,41,42,8] Qa2 (fun q hI=>?_) ?_
 · obtain ⟨c,l,i⟩:=q;refine ⟨?_,?_,QcY c l i hI⟩
   · simp_all [Qj,Zw,J5,J6,Ym,D.refs,Obj.refs,rEnc]
   · simp_all [Zw,Va,J6,Ym,RT.refsOK,Qj,D.refs,Obj.refs,rEnc]
 · intro env os b q hd_ hb;unfold Qa2 at hd_
   split at hd_
   · obtain ⟨hs,hd_⟩:=Qg hd_;cases hd_;simp only [Bool.and_eq_true,decide_eq_true_eq] at hb;obtain ⟨⟨⟨rfl,rfl⟩,rfl⟩,hl⟩:=hb;exact ⟨⟨Nat.zero_le _,hl⟩,rfl,rfl⟩
   · cases hd_
def QuG (c:Bool) (b:List UInt8) (a:Int) (w:Int):Option (Bool × D RC):=some (decide (b.length <= 1000000000000),.tup (.acons (.int .i64 (getP b a w).1) (.acons (.int .i64 (getP b a w).2) .anil)))
def QqW:List (D RC)->Option (Bool × D RC)
 | [.sl .u8 c b,.int .i64 a,.int .i64 w]=>QuG c b a w
 | _=>none
noncomputable def QuH (c:Bool) (b:List UInt8) (a:Int) (w:Int):=evF s28 QsN 40 179 [.sl (C:=RC) .u8 c b,.int .i64 a,.int .i64 w]
theorem QuI (c:Bool) (b:List UInt8) (a:Int) (w:Int):QuH c b a w=(let Z0:D RC:=D.int .i64 0;let Z1:DO_:=some (D.tup (D.acons Z0 (D.acons (D.int .i64 2) .anil)));let Z2:DO_:=some (D.tup (D.acons Z0 (D.acons (D.int .i64 50) .anil)));let Z3:Bool:=Qh b.length;let Z4:Int:=(↑b.length:Int);let Z5:Int:=IntKind.wrap .i64 (a+w);let Z6:List UInt8:=List.drop a.toNat (List.take Z5.toNat b);let Z7:Nat:=List.length Z6;bif decide (w < (1:Int)) then Z1 else bif decide ((6:Int) < w) then Z1 else bif decide (a < (0:Int)) then Z2 else bif Z3 then bif decide (Z4 < a) then Z2 else bif Z3 then bif decide (IntKind.wrap .i64 (Z4 - a) < w) then Z2 else bif decide ((0:Int) <= a /\ a <= Z5 /\ Z5 <= Z4) then bif Qh Z7 then bif decide ((↑Z7:Int)=(↑Z7:Int)) && true && true && decide (Z7 <= (6:Nat)) then some (D.tup (D.acons (D.int .i64 (↑(leVal Z6):Int)) (.acons Z0 .anil))) else none else none else none else none else none):=by kernel_rfl
theorem QuJ (c:Bool) (b:List UInt8) (a:Int) (w:Int) (h:(decide (b.length <= 1000000000000))=true):QuH c b a w=some (.tup (.acons (.int .i64 (getP b a w).1) (.acons (.int .i64 (getP b a w).2) .anil))):=by
 (rw [QuI];conv=>zeta)
 have hl:=of_decide_eq_true h;have hl':Qh b.length=true:=Qe (by omega)
 rw [hl']
 by_cases hw:1 <= w /\ w <= 6
 · have w1:decide (w < 1)=false:=by simp;omega
   have w2:decide (6 < w)=false:=by simp;omega
   have w3:(decide (1 <= w) && decide (w <= 6))=true:=by simp;omega
   simp only [w1,w2,cond_false,cond_true,getP,w3]
   by_cases ha:0 <= a /\ a+w <= b.length
   · have a1:decide (a < 0)=false:=by simp;omega
     have a2:decide ((b.length:Int) < a)=false:=by simp;omega
     have e1:IntKind.i64.wrap ((b.length:Int) - a)=b.length - a:=wrap_id (by omega) (by omega)
     have e2:IntKind.i64.wrap (a+w)=a+w:=wrap_id (by omega) (by omega)
     have a3:decide ((b.length:Int) - a < w)=false:=by simp;omega
     have a4:decide (0 <= a /\ a <= a+w /\ a+w <= (b.length:Int))=true:=by simp;omega
     have a5:(decide (0 <= a) && decide (a+w <= (b.length:Int)))=true:=by simp;omega
     have e3:(List.drop a.toNat (List.take (a+w).toNat b))=List.take w.toNat (List.drop a.toNat b):=by
      rw [List.drop_take];congr 1;omega
     have e4:(List.take w.toNat (List.drop a.toNat b)).length=w.toNat:=by simp;omega
     simp only [a1,a2,e1,e2,a3,a4,a5,e3,e4,cond_false,cond_true];have a6:Qh w.toNat=true:=Qe (by omega)
     have a7:w.toNat <= 6:=by omega
     simp [a6,a7]
   · have a5:(decide (0 <= a) && decide (a+w <= (b.length:Int)))=false:=by simp;omega
     simp only [a5,cond_false]
     by_cases a1:a < 0
     · simp [a1]
     · by_cases a2:(b.length:Int) < a
       · simp [a1,a2]
       · have e1:IntKind.i64.wrap ((b.length:Int) - a)=b.length - a:=wrap_id (by omega) (by omega)
         have a3:decide ((b.length:Int) - a < w)=true:=by simp;omega
         simp [a1,a2,e1,a3]
 · have w3:(decide (1 <= w) && decide (w <= 6))=false:=by simp;omega
   simp only [getP,w3]
   by_cases w1:w < 1
   · simp [w1]
   · have w2:6 < w:=by omega
     simp [w1,w2]
noncomputable def QsO:=QsN.addSpec 179 QqW
theorem Qiq:Qi Tryz.prog s28 QsO:=Qip.addEv Qb fun args d h=>by
 unfold QqW at h
 split at h
 · unfold QuG at h;have h1:=congrArg Prod.fst (Option.some.inj h);obtain rfl:_=d:=congrArg Prod.snd (Option.some.inj h);exact ⟨by simp [D.refs],40,QuJ _ _ _ _ h1⟩
 · cases h
def QgL (p:Int) (ci:Bool) (items:List Item) (k0:Bool) (k1:Bool) (k2:Bool) (l0:List Line) (l1:List Line) (l2:List Line) (c0:Int) (c1:Int) (c2:Int):Option (Bool × D RC):=some (decide (items.length <= 9223372036854775807 /\ l0.length <= 9223372036854775807 /\ l1.length <= 9223372036854775807 /\ l2.length <= 9223372036854775807),.bool (ZK ⟨p,items,l0,l1,l2,c0,c1,c2⟩))
def Qd6:List (D RC)->Option (Bool × D RC)
 | [.acons (.int .i64 p) (.acons (.sl .item ci items) (.acons (.acons (.sl .line k0 l0) (.acons (.sl .line k1 l1) (.acons (.sl .line k2 l2) .anil))) (.acons (.arr .int 3 [c0,c1,c2]) .anil)))]=>QgL p ci items k0 k1 k2 l0 l1 l2 c0 c1 c2
 | _=>none
noncomputable def QgM (p:Int) (ci:Bool) (items:List Item) (k0:Bool) (k1:Bool) (k2:Bool) (l0:List Line) (l1:List Line) (l2:List Line) (c0:Int) (c1:Int) (c2:Int):=evF s28 QsO 30 57 [.acons (.int .i64 p) (.acons (.sl (C:=RC) .item ci items) (.acons (.acons (.sl (C:=RC) .line k0 l0) (.acons (.sl (C:=RC) .line k1 l1) (.acons (.sl (C:=RC) .line k2 l2) .anil))) (.acons (.arr (C:=RC) .int 3 [c0,c1,c2]) .anil)))]
theorem QkH (p:Int) (ci:Bool) (items:List Item) (k0:Bool) (k1:Bool) (k2:Bool) (l0:List Line) (l1:List Line) (l2:List Line) (c0:Int) (c1:Int) (c2:Int):QgM p ci items k0 k1 k2 l0 l1 l2 c0 c1 c2=(let Z0:DO_:=some (D.bool false);let Z1:Nat:=List.length items;let Z2:Nat:=List.length l0;let Z3:Int:=(↑Z2:Int);let Z4:Line:=Line.mk (0:Int) (0:Int) (0:Int) (0:Int) (0:Int);let Z5:Nat:=List.length l1;let Z6:Int:=(↑Z5:Int);let Z7:Nat:=List.length l2;let Z8:Int:=(↑Z7:Int);let Z9:DO_:=none;let Z10:DO_:=bif Qh Z7 then bif decide (Z8=Z8) && true && decide (Z7 <= (9223372036854775807:Nat)) then bif QK (VE p) Vq l2 (0:Nat) then some (D.bool true) else Z0 else Z9 else Z9;let Z11:DO_:=bif Qh Z5 then bif decide (Z6=Z6) && true && decide (Z5 <= (9223372036854775807:Nat)) then bif QK (VE p) Vq l1 (0:Nat) then bif !Qf c2 (0:Int) p then Z0 else bif Qh Z7 then bif decide ((16:Int) < Z8) then Z0 else bif Qh Z7 then bif decide ((0:Int) < Z8) then bif decide ((0:Int) <= (0:Int) /\ (0:Int) < Z8) then bif decide (Line.place (List.getD l2 (0:Nat) Z4) <= c2) then Z0 else Z10 else Z9 else Z10 else Z9 else Z9 else Z0 else Z9 else Z9;let Z12:DO_:=bif Qh Z2 then bif decide (Z3=Z3) && true && decide (Z2 <= (9223372036854775807:Nat)) then bif QK (VE p) Vq l0 (0:Nat) then bif !Qf c1 (0:Int) p then Z0 else bif Qh Z5 then bif decide ((16:Int) < Z6) then Z0 else bif Qh Z5 then bif decide ((0:Int) < Z6) then bif decide ((0:Int) <= (0:Int) /\ (0:Int) < Z6) then bif decide (Line.place (List.getD l1 (0:Nat) Z4) <= c1) then Z0 else Z11 else Z9 else Z11 else Z9 else Z9 else Z0 else Z9 else Z9;bif !Qf p (0:Int) (1048575:Int) then Z0 else bif Qh Z1 then bif decide ((↑Z1:Int)=(↑Z1:Int)) && true && decide (Z1 <= (9223372036854775807:Nat)) then bif QK (VD p) Jr items (0:Nat) then bif !Qf c0 (0:Int) p then Z0 else bif Qh Z2 then bif decide ((16:Int) < Z3) then Z0 else bif Qh Z2 then bif decide ((0:Int) < Z3) then bif decide ((0:Int) <= (0:Int) /\ (0:Int) < Z3) then bif decide (Line.place (List.getD l0 (0:Nat) Z4) <= c0) then Z0 else Z12 else Z9 else Z12 else Z9 else Z9 else Z0 else Z9 else Z9):=by kernel_rfl
theorem QkI (p:Int) (ci:Bool) (items:List Item) (k0:Bool) (k1:Bool) (k2:Bool) (l0:List Line) (l1:List Line) (l2:List Line) (c0:Int) (c1:Int) (c2:Int) (h:(decide (items.length <= 9223372036854775807 /\ l0.length <= 9223372036854775807 /\ l1.length <= 9223372036854775807 /\ l2.length <= 9223372036854775807))=true):QgM p ci items k0 k1 k2 l0 l1 l2 c0 c1 c2=some (.bool (ZK ⟨p,items,l0,l1,l2,c0,c1,c2⟩)):=by
 (rw [QkH];conv=>zeta)
 obtain ⟨h,h0,h1,h2⟩:=of_decide_eq_true h;have b:=Qe h;have b0:=Qe h0;have b1:=Qe h1;have b2:=Qe h2;have i0:∀ l:List Line,decide (0 <= (0:Int) /\ (0:Int) < l.length) = !l.isEmpty:=fun l=>by cases l <;> simp
 have n0:∀ l:List Line,decide (0 < (l.length:Int)) = !l.isEmpty:=fun l=>by cases l <;> simp
 have n16:∀ l:List Line,decide (16 < (l.length:Int)) = !decide (l.length <= 16):=fun l=>by
  by_cases h:l.length <= 16 <;> simp [h]
  · omega
  · omega
 have nle:∀ a b:Int,decide (a <= b) = !decide (b < a):=fun a b=>by
  by_cases h:b < a <;> simp [h] <;> omega
 simp only [ZK,J4,b,b0,b1,b2,h,h0,h1,h2,decide_true,cond_true,i0,n0,n16,nle (Line.place _)];generalize Qf p 0 1048575=x1;generalize QK (VD p) Jr items 0=x2;generalize Qf c0 0 p=x3;generalize Qf c1 0 p=x4;generalize Qf c2 0 p=x5;generalize QK (VE p) Vq l0 0=x6;generalize QK (VE p) Vq l1 0=x7;generalize QK (VE p) Vq l2 0=x8;generalize decide (l0.length <= 16)=x9;generalize decide (l1.length <= 16)=x10;generalize decide (l2.length <= 16)=x11;generalize decide (c0 < (l0.getD 0 ⟨0,0,0,0,0⟩).place)=x12;generalize decide (c1 < (l1.getD 0 ⟨0,0,0,0,0⟩).place)=x13;generalize decide (c2 < (l2.getD 0 ⟨0,0,0,0,0⟩).place)=x14;generalize l0.isEmpty=x15;generalize l1.isEmpty=x16;generalize l2.isEmpty=x17;cases x1;· rfl
 cases x2;· rfl
 cases x3;· rfl
 cases x9;· rfl
 cases x6
 · cases x15 <;> cases x12 <;> rfl
 cases x4;· cases x15 <;> cases x12 <;> rfl
 cases x10;· cases x15 <;> cases x12 <;> rfl
 cases x7;· cases x15 <;> cases x12 <;> cases x16 <;> cases x13 <;> rfl
 cases x5;· cases x15 <;> cases x12 <;> cases x16 <;> cases x13 <;> rfl
 cases x11;· cases x15 <;> cases x12 <;> cases x16 <;> cases x13 <;> rfl
 cases x15 <;> cases x12 <;> cases x16 <;> cases x13 <;> cases x17 <;> cases x14 <;> cases x8 <;> rfl
noncomputable def QsP:=QsO.addSpec 57 Qd6
theorem Qir:Qi Tryz.prog s28 QsP:=Qiq.addEv Qb fun args d h=>by
 unfold Qd6 at h
 split at h
 · unfold QgL at h;have h1:=congrArg Prod.fst (Option.some.inj h);obtain rfl:_=d:=congrArg Prod.snd (Option.some.inj h);exact ⟨by simp [D.refs],30,QkI _ _ _ _ _ _ _ _ _ _ _ _ h1⟩
 · cases h
theorem putD {n:Int} (h0:0 <= n) (h1:n <= 9223372036854775807):IntKind.i64.wrap (n.tdiv 256)=n.fdiv 256 /\ 0 <= n.fdiv 256 /\ n.fdiv 256 <= 9223372036854775807:=by
 obtain ⟨a,b⟩:=QaZ h0;rw [Int.tdiv_eq_ediv_of_nonneg h0,b];exact ⟨wrap_id (by omega) (by omega),by omega,by omega⟩
theorem putB {n:Int} (h0:0 <= n):UInt8.ofNat (IntKind.u8.wrap (n.tmod 256)).toNat=QG n:=by
 rw [QG,QaY,QaY,Int.tmod_eq_emod_of_nonneg h0,Int.emod_emod_of_dvd _ (by decide)]
theorem leB1 (n:Int):leB n 1=[QG n]:=rfl
theorem leB3 (n:Int):leB n 3=[QG n,QG (n.fdiv 256),QG ((n.fdiv 256).fdiv 256)]:=rfl
open Go.Proofs
structure Qd7 where
 n:Int
 w:Int
 i:Nat
def QcZ (n:Int) (w:Int) (i:Nat):Env RC:=[(0,.int .i64 n),(1,.int .i64 w),(5,.int .i64 (i:Int))]
def Qan (n:Int) (w:Int) (i:Nat):List (Obj RC):=[]
noncomputable def QgN (n:Int) (w:Int) (i:Nat):=rndO s28 QsP 192 4 40 0 [0,1,5] [0] [] (QcZ n w i) (Qan n w i)
theorem QkJ (n:Int) (w:Int) (i:Nat):QgN n w i=(bif decide ((↑i:Int) < w) then some ((X.normal,[(0,D.int .i64 (IntKind.wrap .i64 (Int.tdiv n (256:Int)))),(1,D.int .i64 w),(5,D.int .i64 (IntKind.wrap .i64 ((↑i:Int)+(1:Int))))]),[]) else some ((X.exit (0:Nat),[(0,D.int .i64 n)]),[])):=by kernel_rfl
def Jg (n:Int) (w:Int) (i:Nat):RT RC:=.leaf (.exit 0) [(0,.int .i64 (n / 256 ^ (w.toNat - i)))] []
def ZF (n:Int) (w:Int) (i:Nat):Prop:=0 <= n /\ n <= 9223372036854775807 /\ (i:Int) <= w /\ w <= 6
def ZM:QI RC Qd7 where
 k:=0
 canon q:=QcZ q.n q.w q.i
 objs q:=Qan q.n q.w q.i
 fin q:=Jg q.n q.w q.i
 Inv q:=ZF q.n q.w q.i
 μ q:=q.w.toNat - q.i
theorem Qd8 (n:Int) (w:Int) (i:Nat) (hI:ZF n w i):Leaf (QgN n w i) (LedR ZM ⟨n,w,i⟩):=by
 rw [QkJ];unfold ZF at hI;obtain ⟨h1,h2,h3,h4⟩:=hI
 by_cases hlt:(i:Int) < w
 · have w_succ:IntKind.i64.wrap ((i:Int)+1)=((i+1:Nat):Int):=by rw [wrap_id (by omega) (by omega)];simp
   have hd:IntKind.i64.wrap (n.tdiv 256)=n / 256:=by rw [Int.tdiv_eq_ediv_of_nonneg h1];exact wrap_id (by omega) (by omega)
   simp only [hlt,decide_true,cond_true,w_succ,hd];refine Qp ⟨n / 256,w,i+1⟩ (by simp only [ZM,ZF];omega) (by simp only [ZM];omega) ?_ rfl rfl
   simp only [ZM,Jg];have:w.toNat - i=(w.toNat - (i+1))+1:=by omega
   rw [this,Int.pow_succ',Int.ediv_ediv_of_nonneg (by omega)]
 · have hi:w.toNat - i=0:=by omega
   simp only [hlt,decide_false,cond_false];exact Qm [] (by simp [ZM,Jg,hi,RT.val]) rfl
def Qc0 (env:Env RC) (os:List (Obj RC)):Option (Bool × Qd7):=match env,os with
 | [(0,.int .i64 n),(1,.int .i64 w),(5,.int .i64 x0)],[]=>QB (true) (decide (x0=0) && decide (0 <= n /\ n <= 9223372036854775807 /\ 0 <= w /\ w <= 6),⟨n,w,0⟩)
 | _,_=>none
noncomputable def ub_1:=QsP.addLoop 192 4 (sumR s28 [] [0,1,5] ZM Qc0)
theorem QkK:Qi Tryz.prog s28 ub_1:=by
 refine Qir.addRoundsR Qb (by kernel_rfl) ZM 40 [0,1,5] [0] [] [0,1,5] Qc0 (fun q hI=>?_) ?_
 · obtain ⟨n,w,i⟩:=q;refine ⟨?_,?_,Qd8 n w i hI⟩
   · simp_all [Qj,ZM,QcZ,Qan,ZF,D.refs,Obj.refs,rEnc]
   · simp_all [ZM,Jg,Qan,ZF,RT.refsOK,Qj,D.refs,Obj.refs,rEnc]
 · intro env os b q hd_ hb;unfold Qc0 at hd_
   split at hd_
   · obtain ⟨hs,hd_⟩:=Qg hd_;cases hd_;simp only [Bool.and_eq_true,decide_eq_true_eq] at hb;obtain ⟨rfl,hq⟩:=hb;exact ⟨by simp only [ZM,ZF];omega,rfl,rfl⟩
   · cases hd_
def QgO (n:Int) (w:Int):Option (Bool × D RC):=some (decide (n <= 9223372036854775807 /\ 1 <= w /\ w <= 6) && Q2 n w.toNat,.bool true)
def Qd9:List (D RC)->Option (Bool × D RC)
 | [.int .i64 n,.int .i64 w]=>QgO n w
 | _=>none
noncomputable def QgP (n:Int) (w:Int):=evF s28 ub_1 40 192 [.int .i64 n,.int .i64 w]
theorem QkL (n:Int) (w:Int):QgP n w=(let Z0:DO_:=some (D.bool false);bif decide (w < (1:Int)) then Z0 else bif decide ((6:Int) < w) then Z0 else bif decide (n < (0:Int)) then Z0 else bif decide ((0:Int) <= n /\ n <= (9223372036854775807:Int) /\ (0:Int) <= w /\ w <= (6:Int)) then some (D.bool (n / (256:Int) ^ (Int.toNat w - 0) == (0:Int))) else none):=by kernel_rfl
theorem QkM (n:Int) (w:Int) (h:(decide (n <= 9223372036854775807 /\ 1 <= w /\ w <= 6) && Q2 n w.toNat)=true):QgP n w=some (.bool true):=by
 (rw [QkL];conv=>zeta)
 simp only [Bool.and_eq_true,decide_eq_true_eq] at h;obtain ⟨⟨hn,hw1,hw6⟩,hf⟩:=h;have h0:0 <= n:=(ZU.1 hf).1;have w1:¬ w < 1:=by omega
 have w6:¬ 6 < w:=by omega
 have n0:¬ n < 0:=by omega
 have hc:(0 <= n /\ n <= 9223372036854775807 /\ 0 <= w /\ w <= 6):=by omega
 have hp:(0:Int) < 256 ^ w.toNat:=Int.pow_pos (by decide)
 have hz:n / 256 ^ w.toNat=0:=(Int.ediv_eq_zero_iff_of_pos' h0 hp).2 (ZU.1 hf).2;rw [decide_eq_false w1,decide_eq_false w6,decide_eq_false n0,decide_eq_true hc];simp only [cond_false,cond_true,Nat.sub_zero,hz];rfl
noncomputable def ub_2:=ub_1.addSpec 192 Qd9
theorem QkN:Qi Tryz.prog s28 ub_2:=QkK.addEv Qb fun args d h=>by
 unfold Qd9 at h
 split at h
 · unfold QgO at h;have h1:=congrArg Prod.fst (Option.some.inj h);obtain rfl:_=d:=congrArg Prod.snd (Option.some.inj h);exact ⟨by simp [D.refs],40,QkM _ _ h1⟩
 · cases h
structure Qa3 where
 c:Bool
 l:List Qc
 i:Nat
def Jh (c:Bool) (l:List Qc) (i:Nat):Env RC:=[(0,.sl (C:=RC) .write c l),(2,.bool false),(3,.int .i64 (i:Int))]
def Ji (c:Bool) (l:List Qc) (i:Nat):List (Obj RC):=[]
noncomputable def QbY (c:Bool) (l:List Qc) (i:Nat):=rndO s28 ub_2 52 4 40 0 [0,2,3] [2] [] (Jh c l i) (Ji c l i)
theorem QfA (c:Bool) (l:List Qc) (i:Nat):QbY c l i=(let Z0:Int:=(↑i:Int);let Z1:Int:=(↑l.length:Int);let Z2:Bool:=decide ((0:Int) <= Z0 /\ Z0 < Z1);let Z3:Qc:=Qc.mk (0:Int) (0:Int);let Z4:Qc:=List.getD l Z0.toNat Z3;let Z5:Int:=Qc.key Z4;let Z6:RO_:=some ((X.ret,[(2,D.bool false)]),[]);let Z7:Int:=IntKind.wrap .i64 (Z0 - (1:Int));let Z8:RO_:=some ((X.normal,[(0,D.sl RTy.write c l),(2,D.bool false),(3,D.int .i64 (IntKind.wrap .i64 (Z0+(1:Int))))]),[]);bif Qh l.length then bif decide (Z0 < Z1) then bif Z2 then bif decide (Z5 < (0:Int)) then Z6 else bif Z2 then bif decide ((24:Int) <= Z5) then Z6 else bif Z2 then bif decide (Qc.value Z4 < (0:Int)) then Z6 else bif Z2 then bif decide ((255:Int) < Qc.value Z4) then Z6 else bif decide ((0:Int) < Z0) then bif Z2 then bif decide ((0:Int) <= Z7 /\ Z7 < Z1) then bif decide (Z5 <= Qc.key (List.getD l Z7.toNat Z3)) then Z6 else Z8 else none else none else Z8 else none else none else none else none else some ((X.exit (0:Nat),[(2,D.bool false)]),[]) else none):=by kernel_rfl
def ZV (c:Bool) (l:List Qc) (i:Nat):RT RC:=.br (QK ZA Yw l i) (.leaf (.exit 0) [(2,.bool false)] []) (.leaf .ret [(2,.bool false)] [])
def ZW (c:Bool) (l:List Qc) (i:Nat):Prop:=i <= l.length /\ l.length <= 9223372036854775807
def Q4:QI RC Qa3 where
 k:=0
 canon q:=Jh q.c q.l q.i
 objs q:=Ji q.c q.l q.i
 fin q:=ZV q.c q.l q.i
 Inv q:=ZW q.c q.l q.i
 μ q:=q.l.length - q.i
theorem QbF (c:Bool) (l:List Qc) (i:Nat) (hI:ZW c l i):Leaf (QbY c l i) (LedR Q4 ⟨c,l,i⟩):=by
 (rw [QfA];conv=>zeta)
 unfold ZW at hI;obtain ⟨h1,h2⟩:=hI;have hlk:=Qe h2
 by_cases hlt:i < l.length
 · have w_succ:IntKind.i64.wrap ((i:Int)+1)=((i+1:Nat):Int):=by rw [wrap_id (by omega) (by omega)];simp
   have d_lt:decide ((i:Int) < l.length)=true:=by simp;omega
   have d_in:decide (0 <= (i:Int) /\ (i:Int) < l.length)=true:=by simp;omega
   have t_nat:((i:Int)).toNat=i:=by simp
   have w_pred:IntKind.i64.wrap ((i:Int) - 1)=(i:Int) - 1:=wrap_id (by omega) (by omega)
   have t_natp:((i:Int) - 1).toNat=i - 1:=by omega
   simp only [w_succ,d_lt,d_in,t_nat,w_pred,t_natp,cond_true];simp only [hlk,cond_true];have hst:=Y9 ZA Yw l i (⟨0,0⟩:Qc) hlt;generalize l.getD i (⟨0,0⟩:Qc)=x at hst ⊢;generalize l.getD (i - 1) (⟨0,0⟩:Qc)=y at hst ⊢
   have hgo:ZA x=true->(i=0 \/ Yw y x=true)->Leaf (some ((X.normal,Jh c l (i+1)),[])) (LedR Q4 ⟨c,l,i⟩):=fun a b =>
    Qp ⟨c,l,i+1⟩ ⟨hlt,h2⟩ (by simp only [Q4];omega) (by simp only [Q4,ZV,hst,a];rcases b with b | b <;> simp [b]) rfl rfl
   have hno:¬ (ZA x=true /\ (i=0 \/ Yw y x=true))->Leaf (some ((X.ret,[(2,D.bool false)]),[])) (LedR Q4 ⟨c,l,i⟩):=fun he=>QO [] (by
    have:QK ZA Yw l i=false:=by rw [hst];simp only [Bool.and_eq_false_iff];by_cases a:ZA x=true <;> by_cases b:i=0 <;> simp_all
    simp [Q4,ZV,this,RT.val]) rfl
   simp only [ZA,Yw,Qf,Bool.and_eq_true,decide_eq_true_eq] at hgo hno
   by_cases hi:i=0
   · have d0:decide (0 < (i:Int))=false:=by simp;omega
     simp only [d0,cond_false]
     repeat' (first | (refine Yg.2 ⟨fun hc_=>?_,fun hc_=>?_⟩ <;> simp only [decide_eq_true_eq,decide_eq_false_iff_not,beq_iff_eq,beq_eq_false_iff_ne,bne_iff_ne,ne_eq,Bool.not_eq_true,Bool.not_eq_false,bne_eq_false_iff_eq,decide_eq_decide,Bool.true_eq_false,Bool.false_eq_true] at hc_))
     all_goals first | (exfalso;omega) | exact hno (by omega) | (apply hgo <;> omega)
   · have d_pos:decide (0 < (i:Int))=true:=by simp;omega
     have d_inp:decide (0 <= (i:Int) - 1 /\ (i:Int) - 1 < l.length)=true:=by simp;omega
     simp only [d_pos,d_inp,cond_true]
     repeat' (first | (refine Yg.2 ⟨fun hc_=>?_,fun hc_=>?_⟩ <;> simp only [decide_eq_true_eq,decide_eq_false_iff_not,beq_iff_eq,beq_eq_false_iff_ne,bne_iff_ne,ne_eq,Bool.not_eq_true,Bool.not_eq_false,bne_eq_false_iff_eq,decide_eq_decide,Bool.true_eq_false,Bool.false_eq_true] at hc_))
     all_goals first | (exfalso;omega) | exact hno (by omega) | (apply hgo <;> omega)
 · have hi:i=l.length:=by omega
   have c1:decide ((i:Int) < l.length)=false:=by simp;omega
   simp only [hlk,c1,cond_true,cond_false];exact Qm [] (by simp [Q4,ZV,hi,QK,Jq,RT.val]) rfl
def KE (env:Env RC) (os:List (Obj RC)):Option (Bool × Qa3):=match env,os with
 | [(0,.sl .write c l),(2,.bool false),(3,.int .i64 x0)],[]=>QB (true) (decide (x0=0) && decide (l.length <= 9223372036854775807),⟨c,l,0⟩)
 | _,_=>none
noncomputable def ub_3:=ub_2.addLoop 52 4 (sumR s28 [] [0,2,3] Q4 KE)
theorem QkO:Qi Tryz.prog s28 ub_3:=by
 refine QkN.addRoundsR Qb (by kernel_rfl) Q4 40 [0,2,3] [2] [] [0,2,3] KE (fun q hI=>?_) ?_
 · obtain ⟨c,l,i⟩:=q;refine ⟨?_,?_,QbF c l i hI⟩
   · simp_all [Qj,Q4,Jh,Ji,ZW,D.refs,Obj.refs,rEnc]
   · simp_all [Q4,ZV,Ji,ZW,RT.refsOK,Qj,D.refs,Obj.refs,rEnc]
 · intro env os b q hd_ hb;unfold KE at hd_
   split at hd_
   · obtain ⟨hs,hd_⟩:=Qg hd_;cases hd_;simp only [Bool.and_eq_true,decide_eq_true_eq] at hb;obtain ⟨rfl,hl⟩:=hb;exact ⟨⟨Nat.zero_le _,hl⟩,rfl,rfl⟩
   · cases hd_
def Qa4 (c:Bool) (l:List Qc):Option (Bool × D RC):=some (Qh l.length,.bool (Q8 l))
def K7:List (D RC)->Option (Bool × D RC)
 | [.sl .write c l]=>Qa4 c l
 | _=>none
noncomputable def Qa5 (c:Bool) (l:List Qc):=evF s28 ub_3 40 52 [.sl (C:=RC) .write c l]
theorem Qea (c:Bool) (l:List Qc):Qa5 c l=(let Z0:Nat:=List.length l;bif Qh Z0 then bif decide ((4:Int) < (↑Z0:Int)) then some (D.bool false) else bif decide (Z0 <= (9223372036854775807:Nat)) then bif QK ZA Yw l (0:Nat) then some (D.bool true) else some (D.bool false) else none else none):=by kernel_rfl
theorem Qeb (c:Bool) (l:List Qc) (h:(Qh l.length)=true):Qa5 c l=some (.bool (Q8 l)):=by
 (rw [Qea];conv=>zeta)
 have h2:l.length <= 9223372036854775807:=V5 h;rw [Q8,h]
 by_cases h4:l.length <= 4
 · have:¬ (4:Int) < l.length:=by omega
   simp [h4,h2,this];cases QK ZA Yw l 0 <;> rfl
 · have:(4:Int) < l.length:=by omega
   simp [h4,this]
noncomputable def ub_4:=ub_3.addSpec 52 K7
theorem QkP:Qi Tryz.prog s28 ub_4:=QkO.addEv Qb fun args d h=>by
 unfold K7 at h
 split at h
 · unfold Qa4 at h;have h1:=congrArg Prod.fst (Option.some.inj h);obtain rfl:_=d:=congrArg Prod.snd (Option.some.inj h);exact ⟨by simp [D.refs],40,Qeb _ _ h1⟩
 · cases h
def QqX (p:Int) (y:Bool) (c:Bool) (l:List Qc):Option (Bool × D RC):=some (Qh l.length,.bool (mayB ⟨p,y,l⟩))
def QkQ:List (D RC)->Option (Bool × D RC)
 | [.acons (.int .i64 p) (.acons (.bool y) (.acons (.sl .write c l) .anil))]=>QqX p y c l
 | _=>none
noncomputable def QqY (p:Int) (y:Bool) (c:Bool) (l:List Qc):=evF s28 ub_4 40 18 [.acons (.int .i64 p) (.acons (.bool y) (.acons (.sl (C:=RC) .write c l) .anil))]
theorem QsQ (p:Int) (y:Bool) (c:Bool) (l:List Qc):QqY p y c l=(let Z0:Bool:=Qh l.length;let Z1:DO_:=some (D.bool false);bif decide ((1:Int) <= p) then bif decide (p <= (1048575:Int)) then bif Z0 then bif Q8 l then bif y then some (D.bool true) else bif Z0 then some (D.bool ((↑l.length:Int) == (0:Int))) else none else Z1 else none else Z1 else Z1):=by kernel_rfl
theorem QsR (p:Int) (y:Bool) (c:Bool) (l:List Qc) (h:(Qh l.length)=true):QqY p y c l=some (.bool (mayB ⟨p,y,l⟩)):=by
 (rw [QsQ];conv=>zeta)
 have h3:(((l.length:Nat):Int)=0) ↔ l.length=0:=by omega
 simp only [mayB,h,Qf];cases decide (1 <= p) <;> cases decide (p <= 1048575) <;> cases Q8 l <;> cases y <;> simp [h3]
 cases l <;> simp
 omega
noncomputable def ub_5:=ub_4.addSpec 18 QkQ
theorem QkR:Qi Tryz.prog s28 ub_5:=QkP.addEv Qb fun args d h=>by
 unfold QkQ at h
 split at h
 · unfold QqX at h;have h1:=congrArg Prod.fst (Option.some.inj h);obtain rfl:_=d:=congrArg Prod.snd (Option.some.inj h);exact ⟨by simp [D.refs],40,QsR _ _ _ _ h1⟩
 · cases h
structure Rd where
 c:Bool
 b:List UInt8
 bad:Bool
def rget (w:Nat) (r:Rd):Int × Rd:=if w <= r.b.length then ((leVal (r.b.take w):Int),⟨r.c,r.b.drop w,r.bad⟩) else (0,⟨true,[],true⟩)
def Zc:Nat->Rd->Rd × List Qc
 | 0,r=>(r,[])
 | n+1,r =>
  let k:=rget 1 r
  let v:=rget 1 k.2
  let q:=Zc n v.2
  (q.1,⟨k.1,v.1⟩::q.2)
theorem KF {w:Nat} {c bad:Bool} {b:List UInt8} (h:w <= b.length):rget w ⟨c,b,bad⟩=((leVal (b.take w):Int),⟨c,b.drop w,bad⟩):=by simp [rget,h]
theorem Qc1 {w:Nat} {c bad:Bool} {b:List UInt8} (h:b.length < w):rget w ⟨c,b,bad⟩=(0,⟨true,[],true⟩):=by simp [rget,Nat.not_le.2 h]
theorem Qec (b:List UInt8):((getP b 0 1).2 != 0)=decide (b.length < 1):=by
 by_cases h:b.length < 1
 · have:¬ ((1:Int) <= b.length):=by omega
   simp only [getP,h];simp [this]
 · have:((1:Int) <= b.length):=by omega
   simp only [getP,h];simp [this]
theorem QkS (b:List UInt8):((getP b 0 3).2 != 0)=decide (b.length < 3):=by
 by_cases h:b.length < 3
 · have:¬ ((3:Int) <= b.length):=by omega
   simp only [getP,h];simp [this]
 · have:((3:Int) <= b.length):=by omega
   simp only [getP,h];simp [this]
theorem J7 {b:List UInt8} (h:¬ b.length < 1):(getP b 0 1).1=(leVal (b.take 1):Int):=by
 have:((1:Int) <= b.length):=by omega
 simp only [getP];simp [this]
theorem QkT {b:List UInt8} (h:¬ b.length < 3):(getP b 0 3).1=(leVal (b.take 3):Int):=by
 have:((3:Int) <= b.length):=by omega
 simp only [getP];simp [this]
theorem Vb {b:List UInt8} (h:1 <= b.length):leVal (b.take 1)=(b.getD 0 0).toNat:=by
 cases b with
 | nil=>simp at h
 | cons x t=>simp [leVal]
def YP:Nat->List UInt8->List Qc
 | 0,_=>[]
 | n+1,b=>⟨(b.getD 0 0).toNat,(b.getD 1 0).toNat⟩::YP n (b.drop 2)
theorem QbZ:∀ (n:Nat) (c:Bool) (b:List UInt8) (bad:Bool),2 * n <= b.length->Zc n ⟨c,b,bad⟩=(⟨c,b.drop (2 * n),bad⟩,YP n b)
 | 0,c,b,bad,_=>by simp [Zc,YP]
 | n+1,c,b,bad,h=>by
  have h1:1 <= b.length:=by omega
  have h2:1 <= (b.drop 1).length:=by simp;omega
  have h3:=QbZ n c ((b.drop 1).drop 1) bad (by simp;omega)
  have e:(b.drop 1).getD 0 0=b.getD 1 0:=by simp [List.getElem?_drop]
  have e2:((b.drop 1).drop 1).drop (2 * n)=b.drop (2 * (n+1)):=by rw [List.drop_drop,List.drop_drop];congr 1;omega
  have e3:(b.drop 1).drop 1=b.drop 2:=by rw [List.drop_drop]
  simp only [Zc,KF h1,KF h2,h3,Vb h1,Vb h2,e,YP,e2];rw [e3]
theorem Qc2 {w:Nat} {r:Rd} (h:r.bad=true):(rget w r).2.bad=true:=by
 unfold rget;split <;> simp [h]
theorem JJ:∀ (n:Nat) (r:Rd),r.bad=true->(Zc n r).1.bad=true
 | 0,r,h=>h
 | n+1,r,h=>JJ n _ (Qc2 (Qc2 h))
theorem J8:∀ (n:Nat) (c:Bool) (b:List UInt8) (bad:Bool),b.length < 2 * n->(Zc n ⟨c,b,bad⟩).1.bad=true
 | 0,c,b,bad,h=>by omega
 | n+1,c,b,bad,h=>by
  simp only [Zc]
  by_cases h1:b.length < 1
  · rw [Qc1 h1];exact JJ n _ (Qc2 rfl)
  · rw [KF (show 1 <= b.length by omega)]
    by_cases h2:(b.drop 1).length < 1
    · simp only [Qc1 h2];exact JJ n _ rfl
    · simp only [KF (show 1 <= (b.drop 1).length by omega)]
      exact J8 n _ _ _ (by simp at h2 ⊢;omega)
theorem Qb0:∀ (n:Nat) (b:List UInt8),(YP n b).length=n
 | 0,_=>rfl
 | n+1,b=>by simp [YP,Qb0 n]
def Zd (b:List UInt8):Option Rec :=
 if 5 <= b.length /\ (b.getD 3 0).toNat <= 1 /\ b.length=5+2 * (b.getD 4 0).toNat /\ mayB ⟨leVal (b.take 3),(b.getD 3 0).toNat == 1,YP (b.getD 4 0).toNat (b.drop 5)⟩=true then
  some ⟨leVal (b.take 3),(b.getD 3 0).toNat == 1,YP (b.getD 4 0).toNat (b.drop 5)⟩ else none
def recG (o:Option Rec):Rec:=o.getD ⟨0,false,[]⟩
structure Rdr (σ:Type) where
 get:Nat->σ->Int × σ
 bad:σ->Bool
 rem:σ->List UInt8
structure Qv3 {σ:Type} (R:Rdr σ):Prop where
 ok:∀ w s,1 <= w->R.bad s=false->w <= (R.rem s).length->(R.get w s).1=(leVal ((R.rem s).take w):Int) /\ R.rem (R.get w s).2=(R.rem s).drop w /\ R.bad (R.get w s).2=false
 no:∀ w s,R.bad s=false->(R.rem s).length < w->R.bad (R.get w s).2=true
 stay:∀ w s,R.bad s=true->R.bad (R.get w s).2=true
section
variable {σ:Type} (R:Rdr σ)
variable {R} (K:Qv3 R)
include K
end
structure Rn where
 pos:Nat
 short:Bool
structure QS (σ:Type) where
 r:σ
 l0:List Line
 l1:List Line
 l2:List Line
 c0:Int
 c1:Int
 c2:Int
section
variable {σ:Type} (R:Rdr σ) (stop:Bool) (mark:σ->σ)
end
open Go.Proofs
structure QkU where
 n:Int
 w:Int
 out:List UInt8
 i:Nat
def QgQ (n:Int) (w:Int) (out:List UInt8) (i:Nat):Env RC:=[(1,.int .i64 n),(2,.int .i64 w),(8,.vs 0 (out.length)),(9,.int .i64 (i:Int))]
def Qa6 (n:Int) (w:Int) (out:List UInt8) (i:Nat):List (Obj RC):=[.vec (C:=RC) .u8 true out]
noncomputable def QqZ (n:Int) (w:Int) (out:List UInt8) (i:Nat):=rndO s28 ub_5 166 6 40 1 [1,2,8,9] [8] [.slot 8 0] (QgQ n w out i) (Qa6 n w out i)
theorem QsS (n:Int) (w:Int) (out:List UInt8) (i:Nat):QqZ n w out i=(let Z0:Nat:=List.length out;let Z1:List UInt8:=[UInt8.ofNat (IntKind.wrap IntKind.u8 (Int.tmod n (256:Int))).toNat];bif decide ((↑i:Int) < w) then bif Nat.beq Z0 Z0 && Qk (Z0+List.length Z1) (1:Nat) then some ((X.normal,[(1,D.int .i64 (IntKind.wrap .i64 (Int.tdiv n (256:Int)))),(2,D.int .i64 w),(8,D.vs 0 (Z0+List.length Z1)),(9,D.int .i64 (IntKind.wrap .i64 ((↑i:Int)+(1:Int))))]),[some (Obj.vec RTy.u8 true (out++Z1))]) else none else some ((X.exit (0:Nat),[(8,D.vs 0 Z0)]),[some (Obj.vec RTy.u8 true out)])):=by kernel_rfl
def Qao (n:Int) (w:Int) (out:List UInt8) (i:Nat):RT RC:=.leaf (.exit 0) [(8,.vs 0 (out++leB n (w.toNat - i)).length)] [.vec (C:=RC) .u8 true (out++leB n (w.toNat - i))]
def J9 (n:Int) (w:Int) (out:List UInt8) (i:Nat):Prop:=0 <= n /\ n <= 9223372036854775807 /\ (i:Int) <= w /\ w <= 6 /\ out.length <= 1000000+i
def Jv:QI RC QkU where
 k:=1
 canon q:=QgQ q.n q.w q.out q.i
 objs q:=Qa6 q.n q.w q.out q.i
 fin q:=Qao q.n q.w q.out q.i
 Inv q:=J9 q.n q.w q.out q.i
 μ q:=q.w.toNat - q.i
theorem Qis (n:Int) (w:Int) (out:List UInt8) (i:Nat) (hI:J9 n w out i):Leaf (QqZ n w out i) (LedR Jv ⟨n,w,out,i⟩):=by
 (rw [QsS];conv=>zeta)
 unfold J9 at hI;obtain ⟨h1,h2,h3,h4,h5⟩:=hI
 by_cases hlt:(i:Int) < w
 · have w_succ:IntKind.i64.wrap ((i:Int)+1)=((i+1:Nat):Int):=by rw [wrap_id (by omega) (by omega)];simp
   obtain ⟨d1,d2,d3⟩:=putD h1 h2;have e1:Qk (out.length+1) 1=true:=YO (by omega)
   have eb:∀ n:Nat,n.beq n=true:=fun n=>by simp
   simp only [hlt,decide_true,cond_true,w_succ,d1,putB h1,List.length_cons,List.length_nil,Nat.zero_add,e1,eb,Bool.and_self];refine Qp ⟨n.fdiv 256,w,out++[QG n],i+1⟩ (by refine ⟨d2,d3,hlt,h4,?_⟩;simp;omega) (by simp only [Jv];omega) ?_ (by simp [Jv,QgQ]) (by simp [Jv,Qa6])
   have:w.toNat - i=(w.toNat - (i+1))+1:=by omega
   simp only [Jv,Qao,this,leB,List.append_assoc,List.cons_append,List.nil_append]
 · have hi:w.toNat - i=0:=by omega
   simp only [hlt,decide_false,cond_false];exact Qm (Qa6 n w out i) (by simp only [Jv,Qao,Qa6,hi,leB,RT.val,List.append_nil]) rfl
def QkV (env:Env RC) (os:List (Obj RC)):Option (Bool × QkU):=match env,os with
 | [(1,.int .i64 n),(2,.int .i64 w),(8,.vs 0 x0),(9,.int .i64 x1)],[.vec .u8 true out]=>QB (true) (decide (x0=out.length) && decide (x1=0) && decide (0 <= n /\ n <= 9223372036854775807 /\ 0 <= w /\ w <= 6 /\ out.length <= 1000000),⟨n,w,out,0⟩)
 | _,_=>none
noncomputable def uc_1:=ub_5.addLoop 166 6 (sumR s28 [.slot 8 0] [1,2,8,9] Jv QkV)
theorem QkW:Qi Tryz.prog s28 uc_1:=by
 refine QkR.addRoundsR Qb (by kernel_rfl) Jv 40 [1,2,8,9] [8] [.slot 8 0] [1,2,8,9] QkV (fun q hI=>?_) ?_
 · obtain ⟨n,w,out,i⟩:=q;refine ⟨?_,?_,Qis n w out i hI⟩
   · simp_all [Qj,Jv,QgQ,Qa6,J9,D.refs,Obj.refs,rEnc]
   · simp_all [Jv,Qao,Qa6,J9,RT.refsOK,Qj,D.refs,Obj.refs,rEnc]
 · intro env os b q hd_ hb;unfold QkV at hd_
   split at hd_
   · obtain ⟨hs,hd_⟩:=Qg hd_;cases hd_;simp only [Bool.and_eq_true,decide_eq_true_eq] at hb;obtain ⟨⟨rfl,rfl⟩,hl⟩:=hb;exact ⟨by refine ⟨hl.1,hl.2.1,by simpa using hl.2.2.1,hl.2.2.2.1,by simpa using hl.2.2.2.2⟩,rfl,rfl⟩
   · cases hd_
structure Qb1 where
 p:Int
 y:Bool
 c:Bool
 l:List Qc
 bs:List UInt8
 i:Nat
def Ka (p:Int) (y:Bool) (c:Bool) (l:List Qc) (bs:List UInt8) (i:Nat):Env RC:=[(1,.ptr 0 []),(4,.vs 1 (bs.length)),(7,.int .i64 (i:Int))]
def Yn (p:Int) (y:Bool) (c:Bool) (l:List Qc) (bs:List UInt8) (i:Nat):List (Obj RC):=[.var 51 (.acons (.int .i64 p) (.acons (.bool y) (.acons (.sl (C:=RC) .write c l) .anil))),.vec (C:=RC) .u8 true bs]
noncomputable def Qed (p:Int) (y:Bool) (c:Bool) (l:List Qc) (bs:List UInt8) (i:Nat):=rndO s28 uc_1 109 9 40 2 [1,4,7] [4] [.slot 1 0,.slot 4 0] (Ka p y c l bs i) (Yn p y c l bs i)
theorem Qit (p:Int) (y:Bool) (c:Bool) (l:List Qc) (bs:List UInt8) (i:Nat):Qed p y c l bs i=(let Z0:Int:=(↑i:Int);let Z1:Bool:=decide ((0:Int) <= Z0 /\ Z0 < (↑l.length:Int));let Z2:Nat:=List.length bs;let Z3:Qc:=List.getD l Z0.toNat (Qc.mk (0:Int) (0:Int));let Z4:List UInt8:=[UInt8.ofNat (IntKind.wrap IntKind.u8 (Qc.key Z3)).toNat,UInt8.ofNat (IntKind.wrap IntKind.u8 (Qc.value Z3)).toNat];let Z5:Option (Obj RC):=some (Obj.var 51 (.acons (D.int .i64 p) (.acons (D.bool y) (.acons (D.sl RTy.write c l) .anil))));bif Qh l.length then bif decide (Z0 < (↑l.length:Int)) then bif Z1 then bif Z1 then bif Nat.beq Z2 Z2 && Qk (Z2+List.length Z4) (1:Nat) then some ((X.normal,[(1,D.ptr 0 []),(4,D.vs 1 (Z2+List.length Z4)),(7,D.int .i64 (IntKind.wrap .i64 (Z0+(1:Int))))]),[Z5,some (Obj.vec RTy.u8 true (bs++Z4))]) else none else none else none else some ((X.exit (0:Nat),[(4,D.vs 1 Z2)]),[Z5,some (Obj.vec RTy.u8 true bs)]) else none):=by kernel_rfl
def Vc (p:Int) (y:Bool) (c:Bool) (l:List Qc) (bs:List UInt8) (i:Nat):RT RC:=.leaf (.exit 0) [(4,.vs 1 (bs++(l.drop i).flatMap Yz).length)] [.var 51 (.acons (.int .i64 p) (.acons (.bool y) (.acons (.sl (C:=RC) .write c l) .anil))),.vec (C:=RC) .u8 true (bs++(l.drop i).flatMap Yz)]
def Yo (p:Int) (y:Bool) (c:Bool) (l:List Qc) (bs:List UInt8) (i:Nat):Prop:=i <= l.length /\ l.length <= 1000000 /\ bs.length <= 1000000+2 * i
def Zl:QI RC Qb1 where
 k:=2
 canon q:=Ka q.p q.y q.c q.l q.bs q.i
 objs q:=Yn q.p q.y q.c q.l q.bs q.i
 fin q:=Vc q.p q.y q.c q.l q.bs q.i
 Inv q:=Yo q.p q.y q.c q.l q.bs q.i
 μ q:=q.l.length - q.i
theorem Qc3 (p:Int) (y:Bool) (c:Bool) (l:List Qc) (bs:List UInt8) (i:Nat) (hI:Yo p y c l bs i):Leaf (Qed p y c l bs i) (LedR Zl ⟨p,y,c,l,bs,i⟩):=by
 (rw [Qit];conv=>zeta)
 unfold Yo at hI;obtain ⟨h1,h2,h3⟩:=hI;have hlk:=Qe (show l.length <= 9223372036854775807 by omega)
 by_cases hlt:i < l.length
 · have w_succ:IntKind.i64.wrap ((i:Int)+1)=((i+1:Nat):Int):=by rw [wrap_id (by omega) (by omega)];simp
   have d_lt:decide ((i:Int) < l.length)=true:=by simp;omega
   have d_in:decide (0 <= (i:Int) /\ (i:Int) < l.length)=true:=by simp;omega
   have t_nat:((i:Int)).toNat=i:=by simp
   simp only [w_succ,d_lt,d_in,t_nat,cond_true];have hd:(l.drop i).flatMap Yz=_:=KA l i Yz hlt (⟨0,0⟩:Qc);generalize l.getD i (⟨0,0⟩:Qc)=x at hd ⊢;have e1:Qk (bs.length+2) 1=true:=YO (by omega)
   have e2:bs.length.beq bs.length=true:=by simp
   simp only [hlk,cond_true,List.length_cons,List.length_nil,Nat.zero_add,Nat.reduceAdd,e1,e2,Bool.and_self];refine Qp ⟨p,y,c,l,bs++[QG x.key,QG x.value],i+1⟩ (by refine ⟨hlt,h2,?_⟩;simp;omega) (by simp only [Zl];omega) ?_ (by simp [Zl,Ka,QG]) (by simp [Zl,Yn,QG])
   simp only [Zl,Vc,hd,Yz,List.append_assoc]
 · have hi:i=l.length:=by omega
   have c1:decide ((i:Int) < l.length)=false:=by simp;omega
   simp only [hlk,cond_true,c1,cond_false];have hd0:l.drop i=[]:=List.drop_eq_nil_of_le (by omega)
   exact Qm (Yn p y c l bs i) (by simp only [Zl,Vc,Yn,hd0,RT.val,List.flatMap_nil,List.append_nil]) rfl
def Qa7 (env:Env RC) (os:List (Obj RC)):Option (Bool × Qb1):=match env,os with
 | [(1,.ptr 0 []),(4,.vs 1 x0),(7,.int .i64 x1)],[.var 51 (.acons (.int .i64 p) (.acons (.bool y) (.acons (.sl .write c l) .anil))),.vec .u8 true bs]=>QB (true) (decide (x0=bs.length) && decide (x1=0) && decide (l.length <= 1000000 /\ bs.length <= 1000000),⟨p,y,c,l,bs,0⟩)
 | _,_=>none
noncomputable def uc_2:=uc_1.addLoop 109 9 (sumR s28 [.slot 1 0,.slot 4 0] [1,4,7] Zl Qa7)
theorem QkX:Qi Tryz.prog s28 uc_2:=by
 refine QkW.addRoundsR Qb (by kernel_rfl) Zl 40 [1,4,7] [4] [.slot 1 0,.slot 4 0] [1,4,7] Qa7 (fun q hI=>?_) ?_
 · obtain ⟨p,y,c,l,bs,i⟩:=q;refine ⟨?_,?_,Qc3 p y c l bs i hI⟩
   · simp_all [Qj,Zl,Ka,Yn,Yo,D.refs,Obj.refs,rEnc]
   · simp_all [Zl,Vc,Yn,Yo,RT.refsOK,Qj,D.refs,Obj.refs,rEnc]
 · intro env os b q hd_ hb;unfold Qa7 at hd_
   split at hd_
   · obtain ⟨hs,hd_⟩:=Qg hd_;cases hd_;simp only [Bool.and_eq_true,decide_eq_true_eq] at hb;obtain ⟨⟨rfl,rfl⟩,hl⟩:=hb;exact ⟨⟨Nat.zero_le _,hl.1,hl.2⟩,rfl,rfl⟩
   · cases hd_
def Qee (p:Int) (y:Bool) (c:Bool) (l:List Qc):Option (Bool × D RC):=some (Qh l.length,.tup (.acons (.sl (C:=RC) .u8 (!mayB ⟨p,y,l⟩) (bif mayB ⟨p,y,l⟩ then Ya ⟨p,y,l⟩ else [])) (.acons (.int .i64 (bif mayB ⟨p,y,l⟩ then 0 else 2)) .anil)))
def Qb2:List (D RC)->Option (Bool × D RC)
 | [.acons (.int .i64 p) (.acons (.bool y) (.acons (.sl .write c l) .anil))]=>Qee p y c l
 | _=>none
noncomputable def Qef (p:Int) (y:Bool) (c:Bool) (l:List Qc):=evF s28 uc_2 40 109 [.acons (.int .i64 p) (.acons (.bool y) (.acons (.sl (C:=RC) .write c l) .anil))]
theorem Qiu (p:Int) (y:Bool) (c:Bool) (l:List Qc):Qef p y c l=(let Z0:Nat:=List.length l;let Z1:List UInt8:=[]++[]++leB p (3:Nat);let Z2:List UInt8:=[UInt8.ofNat (bif y then (1:Int) else (0:Int)).toNat,UInt8.ofNat (IntKind.wrap IntKind.u8 (↑Z0:Int)).toNat];let Z3:Nat:=List.length (Z1++Z2);let Z4:List UInt8:=Z1++Z2++List.flatMap Yz (List.drop (0:Nat) l);bif Qh Z0 then bif !mayB (Rec.mk p y l) then some (D.tup (D.acons (D.sl RTy.u8 true []) (.acons (D.int .i64 2) .anil))) else bif decide (p <= (9223372036854775807:Int) /\ (1:Int) <= (3:Int) /\ (3:Int) <= (6:Int)) && Q2 p (3:Nat) then bif decide ((0:Int) <= p /\ p <= (9223372036854775807:Int) /\ (0:Int) <= (3:Int) /\ (3:Int) <= (6:Int) /\ (0:Nat) <= (1000000:Nat)) then bif Qh Z0 then bif decide (List.length Z1+List.length Z2=Z3) && true && decide (Z0 <= (1000000:Nat) /\ Z3 <= (1000000:Nat)) then bif Nat.beq Z4.length Z4.length then some (D.tup (D.acons (D.sl RTy.u8 false Z4) (.acons (D.int .i64 0) .anil))) else none else none else none else none else none else none):=by kernel_rfl
theorem Qiv (p:Int) (y:Bool) (c:Bool) (l:List Qc) (h:(Qh l.length)=true):Qef p y c l=some (.tup (.acons (.sl (C:=RC) .u8 (!mayB ⟨p,y,l⟩) (bif mayB ⟨p,y,l⟩ then Ya ⟨p,y,l⟩ else [])) (.acons (.int .i64 (bif mayB ⟨p,y,l⟩ then 0 else 2)) .anil))):=by
 (rw [Qiu];conv=>zeta)
 rw [h];have hlen:=V5 h;cases hm:mayB ⟨p,y,l⟩
 · rfl
 · obtain ⟨hp,hl,hw⟩:=Yi hm;have f3:=Qv2 (n:=p) (by rw [Qt];omega)
   have hy:UInt8.ofNat (Int.toNat (bif y then 1 else 0))=QG (bif y then 1 else 0):=by cases y <;> rfl
   have hb:UInt8.ofNat (IntKind.u8.wrap (l.length:Int)).toNat=QG l.length:=rfl;have e1:(p <= 9223372036854775807 /\ 1 <= (3:Int) /\ (3:Int) <= 6):=by omega
   have e2:l.length <= 1000000:=by omega
   have e3:0 <= p:=by omega
   have e4:p <= 9223372036854775807:=by omega
   simp [hy,hb,f3,e1,e2,e3,e4,Zh,Ya,leB1]
noncomputable def uc_3:=uc_2.addSpec 109 Qb2
theorem QkY:Qi Tryz.prog s28 uc_3:=QkX.addEv Qb fun args d h=>by
 unfold Qb2 at h
 split at h
 · unfold Qee at h;have h1:=congrArg Prod.fst (Option.some.inj h);obtain rfl:_=d:=congrArg Prod.snd (Option.some.inj h);exact ⟨by simp [D.refs],40,Qiv _ _ _ _ h1⟩
 · cases h
structure QgR where
 c:Bool
 b:List UInt8
 bad:Bool
 pl:Int
 y:Bool
 ws:List Qc
 n:Int
 i:Nat
def KG (c:Bool) (b:List UInt8) (bad:Bool) (pl:Int) (y:Bool) (ws:List Qc) (n:Int) (i:Nat):Env RC:=[(4,.ptr 0 []),(5,.ptr 1 []),(20,.int .i64 n),(21,.int .i64 (i:Int))]
def Vd (c:Bool) (b:List UInt8) (bad:Bool) (pl:Int) (y:Bool) (ws:List Qc) (n:Int) (i:Nat):List (Obj RC):=[.var 171 (.acons (.sl (C:=RC) .u8 c b) (.acons (.bool bad) .anil)),.var 51 (.acons (.int .i64 pl) (.acons (.bool y) (.acons (.vs 2 (ws.length)) .anil))),.vec (C:=RC) .write true ws]
noncomputable def QkZ (c:Bool) (b:List UInt8) (bad:Bool) (pl:Int) (y:Bool) (ws:List Qc) (n:Int) (i:Nat):=rndO s28 uc_3 184 6 40 3 [4,5,20,21] [] [.slot 4 0,.slot 5 0,.path 1 [2]] (KG c b bad pl y ws n i) (Vd c b bad pl y ws n i)
theorem Qpq (c:Bool) (b:List UInt8) (bad:Bool) (pl:Int) (y:Bool) (ws:List Qc) (n:Int) (i:Nat):QkZ c b bad pl y ws n i=(let Z0:Int × Int:=getP b (0:Int) (1:Int);let Z1:Nat:=List.length ws;let Z2:Bool:=Nat.beq Z1 Z1;let Z3:X × Env RC:=(X.normal,[(4,D.ptr 0 []),(5,D.ptr 1 []),(20,D.int .i64 n),(21,D.int .i64 (IntKind.wrap .i64 ((↑i:Int)+(1:Int))))]);let Z4:D RC:=.anil;let Z5:Option (Obj RC):=some (Obj.var 171 (.acons (D.sl RTy.u8 true []) (.acons (D.bool true) Z4)));let Z6:D RC:=D.int .i64 pl;let Z7:D RC:=D.bool y;let Z8:List UInt8:=List.drop (1:Nat) b;let Z9:Int × Int:=getP Z8 (0:Int) (1:Int);let Z10:List Qc:=[Qc.mk Z0.1 (0:Int)];let Z11:List Qc:=[Qc.mk Z0.1 Z9.1];bif decide ((↑i:Int) < n) then bif decide (List.length b <= (1000000000000:Nat)) then bif Prod.snd Z0 != (0:Int) then bif Z2 && Qk (Z1+(1:Nat)) (16:Nat) then some (Z3,[Z5,some (Obj.var 51 (.acons Z6 (D.acons Z7 (D.acons (D.vs 2 (Z1+(1:Nat))) Z4)))),some (Obj.vec RTy.write true (ws++[Qc.mk (0:Int) (0:Int)]))]) else none else bif decide ((0:Int) <= (1:Int) /\ (1:Int) <= (↑b.length:Int)) then bif decide (List.length Z8 <= (1000000000000:Nat)) then bif Prod.snd Z9 != (0:Int) then bif Z2 && Qk (Z1+List.length Z10) (16:Nat) then some (Z3,[Z5,some (Obj.var 51 (.acons Z6 (D.acons Z7 (D.acons (D.vs 2 (Z1+List.length Z10)) Z4)))),some (Obj.vec RTy.write true (ws++Z10))]) else none else bif decide ((0:Int) <= (1:Int) /\ (1:Int) <= (↑Z8.length:Int)) then bif Z2 && Qk (Z1+List.length Z11) (16:Nat) then some (Z3,[some (Obj.var 171 (.acons (D.sl RTy.u8 c (List.drop (1:Nat) Z8)) (.acons (D.bool bad) Z4))),some (Obj.var 51 (.acons Z6 (D.acons Z7 (D.acons (D.vs 2 (Z1+List.length Z11)) Z4)))),some (Obj.vec RTy.write true (ws++Z11))]) else none else none else none else none else none else some ((X.exit (0:Nat),[]),[some (Obj.var 171 (.acons (D.sl RTy.u8 c b) (.acons (D.bool bad) Z4))),some (Obj.var 51 (.acons Z6 (D.acons Z7 (D.acons (D.vs 2 Z1) Z4)))),some (Obj.vec RTy.write true ws)])):=by kernel_rfl
def YQ (c:Bool) (b:List UInt8) (bad:Bool) (pl:Int) (y:Bool) (ws:List Qc) (n:Int) (i:Nat):RT RC:=.leaf (.exit 0) [] [.var 171 (.acons (.sl (C:=RC) .u8 (Zc (n.toNat - i) ⟨c,b,bad⟩).1.c (Zc (n.toNat - i) ⟨c,b,bad⟩).1.b) (.acons (.bool (Zc (n.toNat - i) ⟨c,b,bad⟩).1.bad) .anil)),.var 51 (.acons (.int .i64 pl) (.acons (.bool y) (.acons (.vs 2 (ws++(Zc (n.toNat - i) ⟨c,b,bad⟩).2).length) .anil))),.vec (C:=RC) .write true (ws++(Zc (n.toNat - i) ⟨c,b,bad⟩).2)]
def VN (c:Bool) (b:List UInt8) (bad:Bool) (pl:Int) (y:Bool) (ws:List Qc) (n:Int) (i:Nat):Prop:=(i:Int) <= n /\ n <= 255 /\ b.length <= 1000000 /\ ws.length <= i
def Zb:QI RC QgR where
 k:=3
 canon q:=KG q.c q.b q.bad q.pl q.y q.ws q.n q.i
 objs q:=Vd q.c q.b q.bad q.pl q.y q.ws q.n q.i
 fin q:=YQ q.c q.b q.bad q.pl q.y q.ws q.n q.i
 Inv q:=VN q.c q.b q.bad q.pl q.y q.ws q.n q.i
 μ q:=q.n.toNat - q.i
theorem QfB (c:Bool) (b:List UInt8) (bad:Bool) (pl:Int) (y:Bool) (ws:List Qc) (n:Int) (i:Nat) (hI:VN c b bad pl y ws n i):Leaf (QkZ c b bad pl y ws n i) (LedR Zb ⟨c,b,bad,pl,y,ws,n,i⟩):=by
 (rw [Qpq];conv=>zeta)
 unfold VN at hI;obtain ⟨h1,h2,h3,h4⟩:=hI;have tk:∀ l:List UInt8,List.take (Int.toNat (l.length:Int)) l=l:=fun l=>by simp
 have eb:∀ n:Nat,n.beq n=true:=fun n=>by simp
 have r0:rget 1 ⟨true,[],true⟩=(0,⟨true,[],true⟩):=rfl
 by_cases hlt:(i:Int) < n
 · have w_succ:IntKind.i64.wrap ((i:Int)+1)=((i+1:Nat):Int):=by rw [wrap_id (by omega) (by omega)];simp
   have hn:n.toNat - i=(n.toNat - (i+1))+1:=by omega
   have s1:Qk (ws.length+1) 16=true:=YO (by omega)
   have e0:decide (b.length <= 1000000000000)=true:=decide_eq_true (by omega)
   simp only [hlt,decide_true,cond_true,e0,Qec,show Int.toNat 1=1 from rfl,w_succ,List.length_cons,List.length_nil,Nat.zero_add,s1,eb,Bool.and_self]
   by_cases b1:b.length < 1
   · have r1:rget 1 ⟨c,b,bad⟩=_:=Qc1 b1;simp only [b1,decide_true,cond_true];refine Qp ⟨true,[],true,pl,y,ws++[⟨0,0⟩],n,i+1⟩ (by refine ⟨hlt,h2,by simp,?_⟩;simp;omega) (by simp only [Zb];omega) ?_ (by simp [Zb,KG]) (by simp [Zb,Vd])
     simp only [Zb,YQ,hn,Zc,r1,r0,List.append_assoc,List.cons_append,List.nil_append]
   · have r1:rget 1 ⟨c,b,bad⟩=_:=KF (show 1 <= b.length by omega)
     have d1:decide ((0:Int) <= 1 /\ (1:Int) <= b.length)=true:=by simp;omega
     have e1:decide ((b.drop 1).length <= 1000000000000)=true:=decide_eq_true (by simp;omega)
     simp only [b1,decide_false,cond_false,d1,cond_true,e1,J7 b1]
     by_cases b2:(b.drop 1).length < 1
     · have r2:rget 1 ⟨c,b.drop 1,bad⟩=_:=Qc1 b2;simp only [b2,decide_true,cond_true];refine Qp ⟨true,[],true,pl,y,ws++[⟨leVal (b.take 1),0⟩],n,i+1⟩ (by refine ⟨hlt,h2,by simp,?_⟩;simp;omega) (by simp only [Zb];omega) ?_ (by simp [Zb,KG]) (by simp [Zb,Vd])
       simp only [Zb,YQ,hn,Zc,r1,r2,List.append_assoc,List.cons_append,List.nil_append]
     · have r2:rget 1 ⟨c,b.drop 1,bad⟩=_:=KF (show 1 <= (b.drop 1).length by omega)
       have d2:decide ((0:Int) <= 1 /\ (1:Int) <= (b.drop 1).length)=true:=by simp only [decide_eq_true_eq];omega
       simp only [b2,decide_false,cond_false,d2,cond_true,J7 b2];refine Qp ⟨c,(b.drop 1).drop 1,bad,pl,y,ws++[⟨leVal (b.take 1),leVal ((b.drop 1).take 1)⟩],n,i+1⟩ (by refine ⟨hlt,h2,?_,?_⟩ <;> simp <;> omega) (by simp only [Zb];omega) ?_ (by simp [Zb,KG]) (by simp [Zb,Vd])
       simp only [Zb,YQ,hn,Zc,r1,r2,List.append_assoc,List.cons_append,List.nil_append]
 · have hi:n.toNat - i=0:=by omega
   simp only [hlt,decide_false,cond_false];exact Qm (Vd c b bad pl y ws n i) (by simp only [Zb,YQ,Vd,hi,Zc,RT.val,List.append_nil]) rfl
def QfC (env:Env RC) (os:List (Obj RC)):Option (Bool × QgR):=match env,os with
 | [(4,.ptr 0 []),(5,.ptr 1 []),(20,.int .i64 n),(21,.int .i64 x0)],[.var 171 (.acons (.sl .u8 c b) (.acons (.bool bad) .anil)),.var 51 (.acons (.int .i64 pl) (.acons (.bool y) (.acons (.vs 2 x1) .anil))),.vec .write true ws]=>QB (true) (decide (x0=0) && decide (x1=ws.length) && decide (0 <= n /\ n <= 255 /\ b.length <= 1000000 /\ ws.length=0),⟨c,b,bad,pl,y,ws,n,0⟩)
 | _,_=>none
noncomputable def uc_4:=uc_3.addLoop 184 6 (sumR s28 [.slot 4 0,.slot 5 0,.path 1 [2]] [4,5,20,21] Zb QfC)
theorem Qk0:Qi Tryz.prog s28 uc_4:=by
 refine QkY.addRoundsR Qb (by kernel_rfl) Zb 40 [4,5,20,21] [] [.slot 4 0,.slot 5 0,.path 1 [2]] [4,5,20,21] QfC (fun q hI=>?_) ?_
 · obtain ⟨c,b,bad,pl,y,ws,n,i⟩:=q;refine ⟨?_,?_,QfB c b bad pl y ws n i hI⟩
   · simp_all [Qj,Zb,KG,Vd,VN,D.refs,Obj.refs,rEnc]
   · simp_all [Zb,YQ,Vd,VN,RT.refsOK,Qj,D.refs,Obj.refs,rEnc]
 · intro env os b q hd_ hb;unfold QfC at hd_
   split at hd_
   · obtain ⟨hs,hd_⟩:=Qg hd_;cases hd_;simp only [Bool.and_eq_true,decide_eq_true_eq] at hb;obtain ⟨⟨rfl,rfl⟩,h⟩:=hb;exact ⟨⟨by simpa using h.1,h.2.1,h.2.2.1,by simp [h.2.2.2]⟩,rfl,rfl⟩
   · cases hd_
def Qk1 (c:Bool) (b:List UInt8):Option (Bool × D RC):=some (decide (b.length <= 1000000),.tup (.acons (.acons (.int .i64 (recG (Zd b)).place) (.acons (.bool (recG (Zd b)).yes) (.acons (.sl (C:=RC) .write (Zd b).isNone (recG (Zd b)).writes) .anil))) (.acons (.int .i64 (bif (Zd b).isNone then 50 else 0)) .anil)))
def QgS:List (D RC)->Option (Bool × D RC)
 | [.sl .u8 c b]=>Qk1 c b
 | _=>none
noncomputable def Qk2 (c:Bool) (b:List UInt8):=evF s28 uc_4 40 184 [.sl (C:=RC) .u8 c b]
theorem Qpr (c:Bool) (b:List UInt8):Qk2 c b=(let Z0:Int × Int:=getP b (0:Int) (3:Int);let Z1:D RC:=D.int .i64 0;let Z2:DO_:=some (D.tup (D.acons (D.acons Z1 (D.acons (D.bool false) (.acons (D.sl RTy.write true []) .anil))) (.acons (D.int .i64 50) .anil)));let Z3:List UInt8:=List.drop (3:Nat) b;let Z4:Int × Int:=getP Z3 (0:Int) (1:Int);let Z5:List UInt8:=List.drop (1:Nat) Z3;let Z6:Int × Int:=getP Z5 (0:Int) (1:Int);let Z7:Int:=Prod.fst Z6;let Z8:Rd × List Qc:=Zc (Int.toNat Z7 - 0) (Rd.mk c (List.drop (1:Nat) Z5) false);let Z9:Nat:=List.length Z8.1.b;let Z10:List Qc:=[]++Prod.snd Z8;let Z11:Nat:=List.length Z10;let Z12:Bool:=Prod.fst Z4 == (1:Int);bif decide (List.length b <= (1000000000000:Nat)) then bif Prod.snd Z0 != (0:Int) then Z2 else bif decide ((0:Int) <= (3:Int) /\ (3:Int) <= (↑b.length:Int)) then bif decide (List.length Z3 <= (1000000000000:Nat)) then bif Prod.snd Z4 != (0:Int) then Z2 else bif decide ((0:Int) <= (1:Int) /\ (1:Int) <= (↑Z3.length:Int)) then bif decide (List.length Z5 <= (1000000000000:Nat)) then bif Prod.snd Z6 != (0:Int) then Z2 else bif decide ((0:Int) <= (1:Int) /\ (1:Int) <= (↑Z5.length:Int)) then bif decide ((0:Int) <= Z7 /\ Z7 <= (255:Int) /\ List.length (List.drop (1:Nat) Z5) <= (1000000:Nat) /\ (0:Nat)=(0:Nat)) then bif !Rd.bad Z8.1 then bif Qh Z9 then bif !(↑Z9:Int) == (0:Int) then Z2 else bif decide ((1:Int) < Prod.fst Z4) then Z2 else bif Nat.beq Z11 Z11 then bif Qh Z11 then bif !mayB (Rec.mk Z0.1 Z12 Z10) then Z2 else some (D.tup (D.acons (D.acons (D.int .i64 Z0.1) (.acons (D.bool Z12) (.acons (D.sl RTy.write false Z10) .anil))) (.acons Z1 .anil))) else none else none else none else Z2 else none else none else none else none else none else none else none):=by kernel_rfl
theorem Qps (c:Bool) (b:List UInt8) (h:(decide (b.length <= 1000000))=true):Qk2 c b=some (.tup (.acons (.acons (.int .i64 (recG (Zd b)).place) (.acons (.bool (recG (Zd b)).yes) (.acons (.sl (C:=RC) .write (Zd b).isNone (recG (Zd b)).writes) .anil))) (.acons (.int .i64 (bif (Zd b).isNone then 50 else 0)) .anil))):=by
 (rw [Qpr];conv=>zeta)
 have hl:=of_decide_eq_true h;have e0:decide (b.length <= 1000000000000)=true:=decide_eq_true (by omega)
 have no:Zd b=none->some (D.tup (D.acons (D.acons (D.int IntKind.i64 0) (D.acons (D.bool false) (D.acons (D.sl (C:=RC) RTy.write true []) D.anil))) (D.acons (D.int IntKind.i64 50) D.anil)))=some (.tup (.acons (.acons (.int .i64 (recG (Zd b)).place) (.acons (.bool (recG (Zd b)).yes) (.acons (.sl (C:=RC) .write (Zd b).isNone (recG (Zd b)).writes) .anil))) (.acons (.int .i64 (bif (Zd b).isNone then 50 else 0)) .anil))):=fun e=>by rw [e];rfl
 simp only [e0,cond_true,QkS,Qec]
 by_cases b3:b.length < 3
 · simp only [b3,decide_true,cond_true];exact no (by unfold Zd;rw [if_neg];omega)
 have d3:decide ((0:Int) <= 3 /\ (3:Int) <= b.length)=true:=by simp;omega
 have e1:decide ((b.drop 3).length <= 1000000000000)=true:=decide_eq_true (by simp;omega)
 simp only [b3,decide_false,cond_false,d3,cond_true,e1,QkT b3]
 by_cases b4:(b.drop 3).length < 1
 · simp only [b4,decide_true,cond_true];exact no (by unfold Zd;rw [if_neg];simp at b4;omega)
 have d4:decide ((0:Int) <= 1 /\ (1:Int) <= (b.drop 3).length)=true:=by simp only [decide_eq_true_eq];omega
 have e2:decide (((b.drop 3).drop 1).length <= 1000000000000)=true:=decide_eq_true (by simp;omega)
 simp only [b4,decide_false,cond_false,d4,cond_true,e2,J7 b4]
 by_cases b5:((b.drop 3).drop 1).length < 1
 · simp only [b5,decide_true,cond_true];exact no (by unfold Zd;rw [if_neg];simp at b5;omega)
 have d5:decide ((0:Int) <= 1 /\ (1:Int) <= ((b.drop 3).drop 1).length)=true:=by simp only [decide_eq_true_eq];omega
 have v3:leVal ((b.drop 3).take 1)=(b.getD 3 0).toNat:=by
  rw [Vb (by omega)];simp [List.getElem?_drop]
 have v4:leVal (((b.drop 3).drop 1).take 1)=(b.getD 4 0).toNat:=by
  rw [Vb (by omega)];simp [List.getElem?_drop]
 have dr:((b.drop 3).drop 1).drop 1=b.drop 5:=by rw [List.drop_drop,List.drop_drop]
 simp only [b5,decide_false,cond_false,d5,cond_true,J7 b5,v3,v4,dr];have h4:=(b.getD 4 0).toNat_lt;have dl:(b.drop 5).length=b.length - 5:=by simp
 have hl5:5 <= b.length:=by
  have:((b.drop 3).drop 1).length=b.length - 4:=by rw [List.drop_drop];simp
  omega
 generalize hn:(b.getD 4 0).toNat=n at h4 ⊢;have c1:decide ((0:Int) <= n /\ (n:Int) <= 255 /\ (b.drop 5).length <= 1000000 /\ True)=true:=decide_eq_true ⟨by omega,by omega,by omega,trivial⟩
 have tn:(n:Int).toNat - 0=n:=by omega
 simp only [c1,tn,cond_true,List.nil_append]
 by_cases hs:(b.drop 5).length < 2 * n
 · simp only [J8 n c _ false hs,Bool.not_true,cond_false];exact no (by unfold Zd;rw [if_neg];omega)
 rw [QbZ n c _ false (by omega)]
 have k1:Qh ((b.drop 5).drop (2 * n)).length=true:=Qe (by simp;omega)
 have kp:(YP n (b.drop 5)).length <= 9223372036854775807:=by rw [Qb0];omega
 have eb:∀ n:Nat,n.beq n=true:=fun n=>by simp
 simp only [Bool.not_false,cond_true,k1,eb,Qe kp]
 by_cases he:((b.drop 5).drop (2 * n)).length=0
 · have e5:b.length=5+2 * n:=by simp at he;omega
   have e6:((((b.drop 5).drop (2 * n)).length:Int) == 0)=true:=by simp only [beq_iff_eq];omega
   simp only [e6,Bool.not_true,cond_false]
   by_cases hy:1 < (b.getD 3 0).toNat
   · have:decide (1 < ((b.getD 3 0).toNat:Int))=true:=by simp only [decide_eq_true_eq];omega
     simp only [this,cond_true];exact no (by unfold Zd;rw [if_neg];omega)
   · have y1:decide (1 < ((b.getD 3 0).toNat:Int))=false:=by simp only [decide_eq_false_iff_not];omega
     have y2:(((b.getD 3 0).toNat:Int) == 1)=((b.getD 3 0).toNat == 1):=by rw [Bool.eq_iff_iff];simp only [beq_iff_eq];omega
     simp only [y1,y2,cond_false];cases hm:mayB ⟨(leVal (b.take 3):Int),(b.getD 3 0).toNat == 1,YP n (b.drop 5)⟩
     · simp only [Bool.not_false,cond_true];exact no (by unfold Zd;rw [hn,if_neg];intro q;rw [hm] at q;cases q.2.2.2)
     · have hr:Zd b=some ⟨(leVal (b.take 3):Int),(b.getD 3 0).toNat == 1,YP n (b.drop 5)⟩:=by
        unfold Zd;rw [hn,if_pos ⟨hl5,by omega,e5,hm⟩]
       simp only [Bool.not_true,cond_false,hr,recG,Option.getD_some,Option.isNone_some]
 · have e6:((((b.drop 5).drop (2 * n)).length:Int) == 0)=false:=by simp only [beq_eq_false_iff_ne];omega
   simp only [e6,Bool.not_false,cond_true];exact no (by unfold Zd;rw [hn,if_neg];intro q;simp at he;omega)
noncomputable def uc_5:=uc_4.addSpec 184 QgS
theorem Qk3:Qi Tryz.prog s28 uc_5:=Qk0.addEv Qb fun args d h=>by
 unfold QgS at h
 split at h
 · unfold Qk1 at h;have h1:=congrArg Prod.fst (Option.some.inj h);obtain rfl:_=d:=congrArg Prod.snd (Option.some.inj h);exact ⟨by simp [D.refs],40,Qps _ _ h1⟩
 · cases h
theorem KH (n:Int):(BitVec.ofInt IntKind.u32.bits n).toNat=(n % 4294967296).toNat:=by
 rw [BitVec.toNat_ofInt];simp only [IntKind.bits]
 congr 1
theorem Ve (n:Int):IntKind.u32.wrap n=n % 4294967296:=by
 simp [IntKind.wrap,IntKind.bits,IntKind.signed]
def KJ (a b:Int):Int:=bits .u32 (fun _ u v=>u ^^^ v) a b
theorem JK (a b:Int):0 <= KJ a b /\ KJ a b < 4294967296:=by
 unfold KJ bits;rw [Ve];omega
def crcS (n:Int):Int:=if n % 2=1 then KJ (n / 2) 3988292384 else n / 2
theorem Qiw {n:Int} (h:0 <= n /\ n < 4294967296):0 <= crcS n /\ crcS n < 4294967296:=by
 unfold crcS
 split
 · exact JK _ _
 · omega
theorem and1 {n:Int} (h:0 <= n /\ n < 4294967296):bits .u32 (fun _ u v=>u &&& v) n 1=n % 2:=by
 unfold bits;rw [BitVec.toNat_and,KH,KH];have e:((1:Int) % 4294967296).toNat=2 ^ 1 - 1:=by decide
 rw [e,Nat.and_two_pow_sub_one_eq_mod,Ve];omega
theorem Qix {n:Int} (h:0 <= n /\ n < 4294967296):KJ n 0=n:=by
 unfold KJ bits;rw [BitVec.toNat_xor,KH,KH];have e:((0:Int) % 4294967296).toNat=0:=by decide
 rw [e,Nat.xor_zero,Ve];omega
theorem half {n:Int} (h:0 <= n):n.fdiv 2=n / 2:=Int.fdiv_eq_ediv_of_nonneg _ (by omega)
def QbG:Nat->Int->Int
 | 0,n=>n
 | k+1,n=>QbG k (crcS n)
def crc8 (n:Int):Int:=QbG 8 n
def Vr (n:Int) (l:List UInt8):Int:=l.foldl (fun n c=>crc8 (KJ n (c.toNat:Int))) n
theorem Qiy (n:Int) (c:UInt8) (l:List UInt8):Vr n (c::l)=Vr (crc8 (KJ n (c.toNat:Int))) l:=by
 simp only [Vr,List.foldl_cons]
theorem Qeg (n:Int):Vr n []=n:=by simp only [Vr,List.foldl_nil]
def Yp (l:List UInt8):Int:=KJ 4294967295 (Vr 4294967295 l)
theorem QfD (l:List UInt8):0 <= Yp l /\ Yp l < 4294967296:=JK _ _
def ZG (b:List UInt8):List UInt8:=b++leB (Yp b) 4
theorem Kb (b:List UInt8):(ZG b).length=b.length+4:=by simp [ZG,Zh]
def Zj (b:List UInt8):Option (List UInt8):=if 4 <= b.length /\ ZG (b.take (b.length - 4))=b then some (b.take (b.length - 4)) else none
theorem Qiz (b:List UInt8):Zj (ZG b)=some b:=by
 have e:(ZG b).take ((ZG b).length - 4)=b:=by
  rw [Kb];simp [ZG]
 unfold Zj;rw [e,if_pos ⟨by rw [Kb];omega,rfl⟩]
theorem Qk4 {b x:List UInt8} (h:Zj b=some x):b.length=x.length+4:=by
 unfold Zj at h
 split at h
 · rename_i q;cases h;simp;omega
 · cases h
theorem QiA (b:List UInt8) (h:4 <= b.length):(ZG (b.take (b.length - 4))).drop (b.length - 4)=b.drop (b.length - 4) ↔ ZG (b.take (b.length - 4))=b:=by
 have e:((b.take (b.length - 4))).length=b.length - 4:=by simp
 have e2:(ZG (b.take (b.length - 4))).drop (b.length - 4)=leB (Yp (b.take (b.length - 4))) 4:=by
  unfold ZG;rw [List.drop_left' e]
 rw [e2];constructor
 · intro q;unfold ZG;rw [q,List.take_append_drop]
 · intro q;have:=congrArg (List.drop (b.length - 4)) q;rw [<- e2];exact this
def okF (n:Int) (load:List UInt8):Bool:=decide (1 <= n) && decide (n <= 1048575) && decide (load.length <= 600)
def ZX (n:Int) (load:List UInt8):List UInt8:=ZG (leB n 6++leB load.length 2++load)
def VO (b:List UInt8):Option (Int × List UInt8):=match Zj b with
 | none=>none
 | some x=>if 8 <= x.length /\ leVal ((x.drop 6).take 2)+8=x.length /\ x.length <= 608 /\ 1 <= leVal (x.take 6) /\ leVal (x.take 6) <= 1048575 then some ((leVal (x.take 6):Int),x.drop 8) else none
theorem Jj (n:Int) (load:List UInt8):(ZX n load).length=load.length+12:=by
 simp [ZX,Kb,Zh];omega
theorem QfE {n:Int} {load:List UInt8} (h:okF n load=true):VO (ZX n load)=some (n,load):=by
 simp only [okF,Bool.and_eq_true,decide_eq_true_eq] at h;unfold VO ZX;rw [Qiz];have l6:=Zh 6 n;have l2:=Zh 2 (load.length:Int);have t6:(leB n 6++leB (load.length:Int) 2++load).take 6=leB n 6:=by rw [List.append_assoc,List.take_left' l6]
 have d6:(leB n 6++leB (load.length:Int) 2++load).drop 6=leB (load.length:Int) 2++load:=by rw [List.append_assoc,List.drop_left' l6]
 have d8:(leB n 6++leB (load.length:Int) 2++load).drop 8=load:=by
  rw [show (8:Nat)=6+2 from rfl,<- List.drop_drop,d6,List.drop_left' l2]
 have v6:(leVal (leB n 6):Int)=n:=J3 6 n (by omega) (by omega)
 have v2:(leVal (leB (load.length:Int) 2):Int)=load.length:=J3 2 _ (by omega) (by omega)
 have t2:(leB (load.length:Int) 2++load).take 2=leB (load.length:Int) 2:=List.take_left' l2;simp only [t6,d6,d8,t2];rw [if_pos ⟨by simp [l6,l2];omega,by simp [l6,l2];omega,by simp [l6,l2];omega,by omega,by omega⟩,v6]
theorem Qpt {b:List UInt8} {n:Int} {load:List UInt8} (h:VO b=some (n,load)):okF n load=true /\ ZX n load=b:=by
 unfold VO at h;cases hx:Zj b with
 | none=>simp [hx] at h
 | some x =>
  simp only [hx] at h
  split at h
  · rename_i q;obtain ⟨q1,q2,q3,q4,q5⟩:=q;simp only [Option.some.injEq,Prod.mk.injEq] at h;obtain ⟨rfl,rfl⟩:=h;refine ⟨by simp only [okF,Bool.and_eq_true,decide_eq_true_eq,List.length_drop];omega,?_⟩
    have e6:leB (leVal (x.take 6):Int) 6=x.take 6:=by
     have:=Qa0 (x.take 6);rw [List.length_take,Nat.min_eq_left (by omega)] at this;exact this
    have e2:leB ((x.drop 8).length:Int) 2=(x.drop 6).take 2:=by
     have:=Qa0 ((x.drop 6).take 2);rw [List.length_take,List.length_drop,Nat.min_eq_left (by omega)] at this
     rw [List.length_drop,show x.length - 8=leVal ((x.drop 6).take 2) by omega];exact this
    unfold ZX;rw [e6,e2,List.append_assoc,show x.drop 8=(x.drop 6).drop 2 by rw [List.drop_drop],List.take_append_drop,List.take_append_drop]
    unfold Zj at hx
    split at hx
    · rename_i q;cases hx;exact q.2
    · cases hx
  · cases h
noncomputable def rng (n:Int):Bool := @decide (0 <= n /\ n < 4294967296) (Classical.propDecidable _)
theorem Qa8 {n:Int}:rng n=true ↔ 0 <= n /\ n < 4294967296:=by unfold rng;exact @decide_eq_true_iff _ (Classical.propDecidable _)
theorem QuK (a b:Int):rng (KJ a b)=true:=Qa8.2 (JK a b)
theorem QuL {n:Int} (h:rng n=true):rng (crcS n)=true:=Qa8.2 (Qiw (Qa8.1 h))
theorem Qq0 (c:UInt8):IntKind.u32.wrap (c.toNat:Int)=(c.toNat:Int):=by
 have:=c.toNat_lt;rw [Ve];omega
theorem Qb3 (b:List UInt8) (i:Nat) (n:Int) (h:i < b.length) (d:UInt8):Vr n (b.drop i)=Vr (crc8 (KJ n ((b.getD i d).toNat:Int))) (b.drop (i+1)):=by
 have e:b.getD i d=b[i]:=by simp [h]
 have e2:b.drop i=b[i]::b.drop (i+1):=List.drop_eq_getElem_cons h;rw [e2,e];exact Qiy _ _ _
theorem Qk5 {n:Int} (h:0 <= n /\ n < 4294967296):bits .u32 (fun _ u v=>u &&& v) n 255=n % 256:=by
 unfold bits;rw [BitVec.toNat_and,KH,KH];have e:((255:Int) % 4294967296).toNat=2 ^ 8 - 1:=by decide
 rw [e,Nat.and_two_pow_sub_one_eq_mod,Ve];omega
theorem Qa9 (n:Int):UInt8.ofNat (IntKind.u8.wrap n).toNat=QG n:=rfl
theorem QiB (n:Int):QG (n % 256)=QG n:=by
 unfold QG;rw [QaY,QaY];congr 2;omega
theorem leB4 (n:Int):leB n 4=[QG n,QG (n.fdiv 256),QG ((n.fdiv 256).fdiv 256),QG (((n.fdiv 256).fdiv 256).fdiv 256)]:=rfl
theorem Qa {α:Type} {c:Bool} {x y z:α} (h:c=true) (h2:x=z):cond c x y=z:=by rw [h];exact h2
theorem Qy {α:Type} {c:Bool} {x y z:α} (h:c=false) (h2:y=z):cond c x y=z:=by rw [h];exact h2
theorem QD {α:Type} {c:Bool} {x y z:α} (h1:c=true->x=z) (h2:c=false->y=z):cond c x y=z:=by cases c;exact h2 rfl;exact h1 rfl
open Go.Proofs
noncomputable def Qk6 (n:Int):Option (Bool × D RC):=some (rng n,.int .u32 (crcS n))
noncomputable def QgT:List (D RC)->Option (Bool × D RC)
 | [.int .u32 n]=>Qk6 n
 | _=>none
noncomputable def Qk7 (n:Int):=evF s28 uc_5 40 212 [.int .u32 n]
theorem Qpu (n:Int):Qk7 n=(some (D.int IntKind.u32 (bits IntKind.u32 (fun (x:Nat) (u v:BitVec x)=>u ^^^ v) (Int.fdiv n (2:Int)) (IntKind.wrap IntKind.u32 (bits IntKind.u32 (fun (x:Nat) (u v:BitVec x)=>u &&& v) n (1:Int) * (3988292384:Int)))))):=by kernel_rfl
theorem Qpv (n:Int) (h:(rng n)=true):Qk7 n=some (.int .u32 (crcS n)):=by
 rw [Qpu];have hr:=Qa8.1 h;rw [and1 hr,half hr.1]
 congr 2
 unfold crcS
 split
 · rename_i e;rw [e,Ve];rfl
 · rename_i e;have e0:n % 2=0:=by omega
   rw [e0,Ve];exact Qix (by omega)
noncomputable def ud_1:=uc_5.addSpec 212 QgT
theorem Qk8:Qi Tryz.prog s28 ud_1:=Qk3.addEv Qb fun args d h=>by
 unfold QgT at h
 split at h
 · unfold Qk6 at h;have h1:=congrArg Prod.fst (Option.some.inj h);obtain rfl:_=d:=congrArg Prod.snd (Option.some.inj h);exact ⟨by simp [D.refs],40,Qpv _ h1⟩
 · cases h
noncomputable def Qk9 (n:Int):Option (Bool × D RC):=some (rng n,.int .u32 (crcS n))
noncomputable def QgU:List (D RC)->Option (Bool × D RC)
 | [.int .u32 n]=>Qk9 n
 | _=>none
noncomputable def Qla (n:Int):=evF s28 ud_1 40 209 [.int .u32 n]
theorem Qpw (n:Int):Qla n=(let Z0:Int:=Int.fdiv n (2:Int);bif bits IntKind.u32 (fun (x:Nat) (u v:BitVec x)=>u &&& v) n (1:Int) == (1:Int) then some (D.int IntKind.u32 (bits IntKind.u32 (fun (x:Nat) (u v:BitVec x)=>u ^^^ v) Z0 (3988292384:Int))) else some (D.int IntKind.u32 Z0)):=by kernel_rfl
theorem Qpx (n:Int) (h:(rng n)=true):Qla n=some (.int .u32 (crcS n)):=by
 (rw [Qpw];conv=>zeta)
 have hr:=Qa8.1 h;rw [and1 hr,half hr.1];unfold crcS
 by_cases e:n % 2=1
 · rw [if_pos e,Qkl e];rfl
 · rw [if_neg e,Qkm e];rfl
noncomputable def ud_2:=ud_1.addSpec 209 QgU
theorem Qlb:Qi Tryz.prog s28 ud_2:=Qk8.addEv Qb fun args d h=>by
 unfold QgU at h
 split at h
 · unfold Qk9 at h;have h1:=congrArg Prod.fst (Option.some.inj h);obtain rfl:_=d:=congrArg Prod.snd (Option.some.inj h);exact ⟨by simp [D.refs],40,Qpx _ h1⟩
 · cases h
structure Qlc where
 n:Int
 i:Nat
noncomputable def Qld (n:Int) (i:Nat):Env RC:=[(0,.int .u32 n),(17,.int .i64 (i:Int))]
def QgV (n:Int) (i:Nat):List (Obj RC):=[]
noncomputable def Qq1 (n:Int) (i:Nat):=rndO s28 ud_2 211 6 60 0 [0,17] [0] [] (Qld n i) (QgV n i)
theorem QsT (n:Int) (i:Nat):Qq1 n i=(bif decide ((↑i:Int) < (8:Int)) then bif rng n then some ((X.normal,[(0,D.int IntKind.u32 (crcS n)),(17,D.int .i64 (IntKind.wrap .i64 ((↑i:Int)+(1:Int))))]),[]) else none else some ((X.exit (2:Nat),[(0,D.int IntKind.u32 n)]),[])):=by kernel_rfl
noncomputable def Qap (n:Int) (i:Nat):RT RC:=.leaf (.exit 2) [(0,.int .u32 (QbG (8 - i) n))] []
def Kc (n:Int) (i:Nat):Prop:=i <= 8 /\ rng n=true
noncomputable def K8:QI RC Qlc where
 k:=0
 canon q:=Qld q.n q.i
 objs q:=QgV q.n q.i
 fin q:=Qap q.n q.i
 Inv q:=Kc q.n q.i
 μ q:=8 - q.i
theorem QiC (n:Int) (i:Nat) (hI:Kc n i):Leaf (Qq1 n i) (LedR K8 ⟨n,i⟩):=by
 rw [QsT];unfold Kc at hI;obtain ⟨h1,h2⟩:=hI
 by_cases hlt:i < 8
 · have c1:decide ((i:Int) < 8)=true:=by simp;omega
   have w_succ:IntKind.i64.wrap ((i:Int)+1)=((i+1:Nat):Int):=by rw [wrap_id (by omega) (by omega)];simp
   rw [c1,h2,w_succ];refine Qp ⟨crcS n,i+1⟩ ⟨hlt,QuL h2⟩ (by simp only [K8];omega) ?_ rfl rfl
   simp only [K8,Qap,show 8 - i=(8 - (i+1))+1 by omega,QbG]
 · have hi:i=8:=by omega
   have c1:decide ((i:Int) < 8)=false:=by simp;omega
   rw [c1];exact Qm [] (by simp only [K8,Qap,hi,Nat.sub_self,QbG,RT.val]) rfl
noncomputable def Qle (env:Env RC) (os:List (Obj RC)):Option (Bool × Qlc):=match env,os with
 | [(0,.int .u32 n),(17,.int .i64 x0)],[]=>QB (true) (decide (x0=0) && rng n,⟨n,0⟩)
 | _,_=>none
noncomputable def ud_3:=ud_2.addLoop 211 6 (sumR s28 [] [0,17] K8 Qle)
theorem Qlf:Qi Tryz.prog s28 ud_3:=by
 refine Qlb.addRoundsR Qb (by kernel_rfl) K8 60 [0,17] [0] [] [0,17] Qle (fun q hI=>?_) ?_
 · obtain ⟨n,i⟩:=q;refine ⟨?_,?_,QiC n i hI⟩
   · simp_all [Qj,K8,Qld,QgV,Kc,D.refs,Obj.refs,rEnc]
   · simp_all [K8,Qap,QgV,Kc,RT.refsOK,Qj,D.refs,Obj.refs,rEnc]
 · intro env os b q hd_ hb;unfold Qle at hd_
   split at hd_
   · obtain ⟨hs,hd_⟩:=Qg hd_;cases hd_;simp only [Bool.and_eq_true,decide_eq_true_eq] at hb;obtain ⟨rfl,h⟩:=hb;exact ⟨⟨Nat.zero_le _,h⟩,rfl,rfl⟩
   · cases hd_
structure Qlg where
 n:Int
 i:Nat
noncomputable def Qlh (n:Int) (i:Nat):Env RC:=[(0,.int .u32 n),(6,.int .i64 (i:Int))]
def QgW (n:Int) (i:Nat):List (Obj RC):=[]
noncomputable def Qq2 (n:Int) (i:Nat):=rndO s28 ud_3 206 6 60 0 [0,6] [0] [] (Qlh n i) (QgW n i)
theorem QsU (n:Int) (i:Nat):Qq2 n i=(bif decide ((↑i:Int) < (8:Int)) then bif rng n then some ((X.normal,[(0,D.int IntKind.u32 (crcS n)),(6,D.int .i64 (IntKind.wrap .i64 ((↑i:Int)+(1:Int))))]),[]) else none else some ((X.exit (2:Nat),[(0,D.int IntKind.u32 n)]),[])):=by kernel_rfl
noncomputable def Qaq (n:Int) (i:Nat):RT RC:=.leaf (.exit 2) [(0,.int .u32 (QbG (8 - i) n))] []
def Kd (n:Int) (i:Nat):Prop:=i <= 8 /\ rng n=true
noncomputable def K9:QI RC Qlg where
 k:=0
 canon q:=Qlh q.n q.i
 objs q:=QgW q.n q.i
 fin q:=Qaq q.n q.i
 Inv q:=Kd q.n q.i
 μ q:=8 - q.i
theorem QiD (n:Int) (i:Nat) (hI:Kd n i):Leaf (Qq2 n i) (LedR K9 ⟨n,i⟩):=by
 rw [QsU];unfold Kd at hI;obtain ⟨h1,h2⟩:=hI
 by_cases hlt:i < 8
 · have c1:decide ((i:Int) < 8)=true:=by simp;omega
   have w_succ:IntKind.i64.wrap ((i:Int)+1)=((i+1:Nat):Int):=by rw [wrap_id (by omega) (by omega)];simp
   rw [c1,h2,w_succ];refine Qp ⟨crcS n,i+1⟩ ⟨hlt,QuL h2⟩ (by simp only [K9];omega) ?_ rfl rfl
   simp only [K9,Qaq,show 8 - i=(8 - (i+1))+1 by omega,QbG]
 · have hi:i=8:=by omega
   have c1:decide ((i:Int) < 8)=false:=by simp;omega
   rw [c1];exact Qm [] (by simp only [K9,Qaq,hi,Nat.sub_self,QbG,RT.val]) rfl
noncomputable def Qli (env:Env RC) (os:List (Obj RC)):Option (Bool × Qlg):=match env,os with
 | [(0,.int .u32 n),(6,.int .i64 x0)],[]=>QB (true) (decide (x0=0) && rng n,⟨n,0⟩)
 | _,_=>none
noncomputable def ud_4:=ud_3.addLoop 206 6 (sumR s28 [] [0,6] K9 Qli)
theorem Qlj:Qi Tryz.prog s28 ud_4:=by
 refine Qlf.addRoundsR Qb (by kernel_rfl) K9 60 [0,6] [0] [] [0,6] Qli (fun q hI=>?_) ?_
 · obtain ⟨n,i⟩:=q;refine ⟨?_,?_,QiD n i hI⟩
   · simp_all [Qj,K9,Qlh,QgW,Kd,D.refs,Obj.refs,rEnc]
   · simp_all [K9,Qaq,QgW,Kd,RT.refsOK,Qj,D.refs,Obj.refs,rEnc]
 · intro env os b q hd_ hb;unfold Qli at hd_
   split at hd_
   · obtain ⟨hs,hd_⟩:=Qg hd_;cases hd_;simp only [Bool.and_eq_true,decide_eq_true_eq] at hb;obtain ⟨rfl,h⟩:=hb;exact ⟨⟨Nat.zero_le _,h⟩,rfl,rfl⟩
   · cases hd_
structure Qlk where
 n:Int
 c:Bool
 b:List UInt8
 i:Nat
noncomputable def Qll (n:Int) (c:Bool) (b:List UInt8) (i:Nat):Env RC:=[(0,.int .u32 n),(7,.sl (C:=RC) .u8 c b),(8,.int .i64 (b.length)),(9,.int .i64 (i:Int))]
def QgX (n:Int) (c:Bool) (b:List UInt8) (i:Nat):List (Obj RC):=[]
noncomputable def Qq3 (n:Int) (c:Bool) (b:List UInt8) (i:Nat):=rndO s28 ud_4 211 2 60 0 [0,7,8,9] [0] [] (Qll n c b i) (QgX n c b i)
theorem QsV (n:Int) (c:Bool) (b:List UInt8) (i:Nat):Qq3 n c b i=(let Z0:Int:=(↑i:Int);let Z1:Int:=(↑b.length:Int);let Z2:Int:=bits IntKind.u32 (fun (x:Nat) (u v:BitVec x)=>u ^^^ v) n (IntKind.wrap IntKind.u32 (↑(UInt8.toNat (List.getD b Z0.toNat (UInt8.ofBitVec (BitVec.ofNat (8:Nat) (nat_lit 0))))):Int));bif decide (Z0 < Z1) then bif decide ((0:Int) <= Z0 /\ Z0 < Z1) then bif rng Z2 then some ((X.normal,[(0,D.int IntKind.u32 (QbG (8:Nat) Z2)),(7,D.sl RTy.u8 c b),(8,D.int .i64 Z1),(9,D.int .i64 (IntKind.wrap .i64 (Z0+(1:Int))))]),[]) else none else none else some ((X.exit (0:Nat),[(0,D.int IntKind.u32 n)]),[])):=by kernel_rfl
noncomputable def Qar (n:Int) (c:Bool) (b:List UInt8) (i:Nat):RT RC:=.leaf (.exit 0) [(0,.int .u32 (Vr n (b.drop i)))] []
def Ke (n:Int) (c:Bool) (b:List UInt8) (i:Nat):Prop:=i <= b.length /\ b.length <= 1000000
noncomputable def Qaa:QI RC Qlk where
 k:=0
 canon q:=Qll q.n q.c q.b q.i
 objs q:=QgX q.n q.c q.b q.i
 fin q:=Qar q.n q.c q.b q.i
 Inv q:=Ke q.n q.c q.b q.i
 μ q:=q.b.length - q.i
theorem QiE (n:Int) (c:Bool) (b:List UInt8) (i:Nat) (hI:Ke n c b i):Leaf (Qq3 n c b i) (LedR Qaa ⟨n,c,b,i⟩):=by
 (rw [QsV];conv=>zeta)
 unfold Ke at hI;obtain ⟨h1,h2⟩:=hI
 by_cases hlt:i < b.length
 · have w_succ:IntKind.i64.wrap ((i:Int)+1)=((i+1:Nat):Int):=by rw [wrap_id (by omega) (by omega)];simp
   have d_lt:decide ((i:Int) < b.length)=true:=by simp;omega
   have d_in:decide (0 <= (i:Int) /\ (i:Int) < b.length)=true:=by simp;omega
   have t_nat:((i:Int)).toNat=i:=by simp
   simp only [w_succ,d_lt,d_in,t_nat,cond_true];have hx:∀ x:Int,rng (bits .u32 (fun _ u v=>u ^^^ v) n x)=true:=fun x=>QuK n x;simp only [Qq0,hx,cond_true];refine Qp ⟨crc8 (KJ n ((b.getD i 0).toNat:Int)),c,b,i+1⟩ ⟨hlt,h2⟩ (by simp only [Qaa];omega) ?_ rfl rfl
   simp only [Qaa,Qar,Qb3 b i n hlt 0]
 · have hi:i=b.length:=by omega
   have c1:decide ((i:Int) < b.length)=false:=by simp;omega
   rw [c1];exact Qm [] (by simp only [Qaa,Qar,hi,List.drop_length,Qeg,RT.val]) rfl
noncomputable def Qlm (env:Env RC) (os:List (Obj RC)):Option (Bool × Qlk):=match env,os with
 | [(0,.int .u32 n),(7,.sl .u8 c b),(8,.int .i64 x0),(9,.int .i64 x1)],[]=>QB (true) (decide (x0=b.length) && decide (x1=0) && decide (b.length <= 1000000),⟨n,c,b,0⟩)
 | _,_=>none
noncomputable def ud_5:=ud_4.addLoop 211 2 (sumR s28 [] [0,7,8,9] Qaa Qlm)
theorem Qln:Qi Tryz.prog s28 ud_5:=by
 refine Qlj.addRoundsR Qb (by kernel_rfl) Qaa 60 [0,7,8,9] [0] [] [0,7,8,9] Qlm (fun q hI=>?_) ?_
 · obtain ⟨n,c,b,i⟩:=q;refine ⟨?_,?_,QiE n c b i hI⟩
   · simp_all [Qj,Qaa,Qll,QgX,Ke,D.refs,Obj.refs,rEnc]
   · simp_all [Qaa,Qar,QgX,Ke,RT.refsOK,Qj,D.refs,Obj.refs,rEnc]
 · intro env os b q hd_ hb;unfold Qlm at hd_
   split at hd_
   · obtain ⟨hs,hd_⟩:=Qg hd_;cases hd_;simp only [Bool.and_eq_true,decide_eq_true_eq] at hb;obtain ⟨⟨rfl,rfl⟩,h⟩:=hb;exact ⟨⟨Nat.zero_le _,h⟩,rfl,rfl⟩
   · cases hd_
structure Qlo where
 n:Int
 c:Bool
 b:List UInt8
 i:Nat
noncomputable def Qlp (n:Int) (c:Bool) (b:List UInt8) (i:Nat):Env RC:=[(0,.int .u32 n),(1,.sl (C:=RC) .u8 c b),(5,.int .i64 (i:Int))]
def QgY (n:Int) (c:Bool) (b:List UInt8) (i:Nat):List (Obj RC):=[]
noncomputable def Qq4 (n:Int) (c:Bool) (b:List UInt8) (i:Nat):=rndO s28 ud_5 206 2 60 0 [0,1,5] [0] [] (Qlp n c b i) (QgY n c b i)
theorem QsW (n:Int) (c:Bool) (b:List UInt8) (i:Nat):Qq4 n c b i=(let Z0:Int:=(↑i:Int);let Z1:Int:=bits IntKind.u32 (fun (x:Nat) (u v:BitVec x)=>u ^^^ v) n (IntKind.wrap IntKind.u32 (↑(UInt8.toNat (List.getD b Z0.toNat (UInt8.ofBitVec (BitVec.ofNat (8:Nat) (nat_lit 0))))):Int));bif Qh b.length then bif decide (Z0 < (↑b.length:Int)) then bif decide ((0:Int) <= Z0 /\ Z0 < (↑b.length:Int)) then bif rng Z1 then some ((X.normal,[(0,D.int IntKind.u32 (QbG (8:Nat) Z1)),(1,D.sl RTy.u8 c b),(5,D.int .i64 (IntKind.wrap .i64 (Z0+(1:Int))))]),[]) else none else none else some ((X.exit (0:Nat),[(0,D.int IntKind.u32 n)]),[]) else none):=by kernel_rfl
noncomputable def Qas (n:Int) (c:Bool) (b:List UInt8) (i:Nat):RT RC:=.leaf (.exit 0) [(0,.int .u32 (Vr n (b.drop i)))] []
def Kf (n:Int) (c:Bool) (b:List UInt8) (i:Nat):Prop:=i <= b.length /\ b.length <= 1000000
noncomputable def Qab:QI RC Qlo where
 k:=0
 canon q:=Qlp q.n q.c q.b q.i
 objs q:=QgY q.n q.c q.b q.i
 fin q:=Qas q.n q.c q.b q.i
 Inv q:=Kf q.n q.c q.b q.i
 μ q:=q.b.length - q.i
theorem QiF (n:Int) (c:Bool) (b:List UInt8) (i:Nat) (hI:Kf n c b i):Leaf (Qq4 n c b i) (LedR Qab ⟨n,c,b,i⟩):=by
 (rw [QsW];conv=>zeta)
 unfold Kf at hI;obtain ⟨h1,h2⟩:=hI;have hlk:Qh b.length=true:=Qe (by omega)
 by_cases hlt:i < b.length
 · have w_succ:IntKind.i64.wrap ((i:Int)+1)=((i+1:Nat):Int):=by rw [wrap_id (by omega) (by omega)];simp
   have d_lt:decide ((i:Int) < b.length)=true:=by simp;omega
   have d_in:decide (0 <= (i:Int) /\ (i:Int) < b.length)=true:=by simp;omega
   have t_nat:((i:Int)).toNat=i:=by simp
   simp only [w_succ,d_lt,d_in,t_nat,cond_true];have hx:∀ x:Int,rng (bits .u32 (fun _ u v=>u ^^^ v) n x)=true:=fun x=>QuK n x;simp only [Qq0,hx,hlk,cond_true];refine Qp ⟨crc8 (KJ n ((b.getD i 0).toNat:Int)),c,b,i+1⟩ ⟨hlt,h2⟩ (by simp only [Qab];omega) ?_ rfl rfl
   simp only [Qab,Qas,Qb3 b i n hlt 0]
 · have hi:i=b.length:=by omega
   have c1:decide ((i:Int) < b.length)=false:=by simp;omega
   rw [hlk,c1];exact Qm [] (by simp only [Qab,Qas,hi,List.drop_length,Qeg,RT.val]) rfl
noncomputable def Qlq (env:Env RC) (os:List (Obj RC)):Option (Bool × Qlo):=match env,os with
 | [(0,.int .u32 n),(1,.sl .u8 c b),(5,.int .i64 x0)],[]=>QB (true) (decide (x0=0) && decide (b.length <= 1000000),⟨n,c,b,0⟩)
 | _,_=>none
noncomputable def ud_6:=ud_5.addLoop 206 2 (sumR s28 [] [0,1,5] Qab Qlq)
theorem Qlr:Qi Tryz.prog s28 ud_6:=by
 refine Qln.addRoundsR Qb (by kernel_rfl) Qab 60 [0,1,5] [0] [] [0,1,5] Qlq (fun q hI=>?_) ?_
 · obtain ⟨n,c,b,i⟩:=q;refine ⟨?_,?_,QiF n c b i hI⟩
   · simp_all [Qj,Qab,Qlp,QgY,Kf,D.refs,Obj.refs,rEnc]
   · simp_all [Qab,Qas,QgY,Kf,RT.refsOK,Qj,D.refs,Obj.refs,rEnc]
 · intro env os b q hd_ hb;unfold Qlq at hd_
   split at hd_
   · obtain ⟨hs,hd_⟩:=Qg hd_;cases hd_;simp only [Bool.and_eq_true,decide_eq_true_eq] at hb;obtain ⟨rfl,h⟩:=hb;exact ⟨⟨Nat.zero_le _,h⟩,rfl,rfl⟩
   · cases hd_
def QuM (n:Int) (c:Bool) (b:List UInt8):Option (Bool × D RC):=some (decide (b.length <= 1000000),.int .u32 (Vr n b))
def Qq5:List (D RC)->Option (Bool × D RC)
 | [.int .u32 n,.sl .u8 c b]=>QuM n c b
 | _=>none
noncomputable def QuN (n:Int) (c:Bool) (b:List UInt8):=evF s28 ud_6 60 211 [.int .u32 n,.sl (C:=RC) .u8 c b]
theorem QuO (n:Int) (c:Bool) (b:List UInt8):QuN n c b=(let Z0:Nat:=List.length b;bif Qh Z0 then bif decide ((↑Z0:Int)=(↑Z0:Int)) && true && decide (Z0 <= (1000000:Nat)) then some (D.int IntKind.u32 (Vr n (List.drop (0:Nat) b))) else none else none):=by kernel_rfl
theorem QuP (n:Int) (c:Bool) (b:List UInt8) (h:(decide (b.length <= 1000000))=true):QuN n c b=some (.int .u32 (Vr n b)):=by
 (rw [QuO];conv=>zeta)
 have hl:=of_decide_eq_true h;rw [Qe (by omega),h]
 simp
noncomputable def ud_7:=ud_6.addSpec 211 Qq5
theorem Qls:Qi Tryz.prog s28 ud_7:=Qlr.addEv Qb fun args d h=>by
 unfold Qq5 at h
 split at h
 · unfold QuM at h;have h1:=congrArg Prod.fst (Option.some.inj h);obtain rfl:_=d:=congrArg Prod.snd (Option.some.inj h);exact ⟨by simp [D.refs],60,QuP _ _ _ h1⟩
 · cases h
def QuQ (n:Int) (c:Bool) (b:List UInt8):Option (Bool × D RC):=some (decide (b.length <= 1000000),.int .u32 (Vr n b))
def Qq6:List (D RC)->Option (Bool × D RC)
 | [.int .u32 n,.sl .u8 c b]=>QuQ n c b
 | _=>none
noncomputable def QuR (n:Int) (c:Bool) (b:List UInt8):=evF s28 ud_7 60 206 [.int .u32 n,.sl (C:=RC) .u8 c b]
theorem QuS (n:Int) (c:Bool) (b:List UInt8):QuR n c b=(bif decide (List.length b <= (1000000:Nat)) then some (D.int IntKind.u32 (Vr n (List.drop (0:Nat) b))) else none):=by kernel_rfl
theorem QuT (n:Int) (c:Bool) (b:List UInt8) (h:(decide (b.length <= 1000000))=true):QuR n c b=some (.int .u32 (Vr n b)):=by
 rw [QuS];have hl:=of_decide_eq_true h;rw [h];simp
noncomputable def ud_8:=ud_7.addSpec 206 Qq6
theorem Qlt:Qi Tryz.prog s28 ud_8:=Qls.addEv Qb fun args d h=>by
 unfold Qq6 at h
 split at h
 · unfold QuQ at h;have h1:=congrArg Prod.fst (Option.some.inj h);obtain rfl:_=d:=congrArg Prod.snd (Option.some.inj h);exact ⟨by simp [D.refs],60,QuT _ _ _ h1⟩
 · cases h
def Qq7 (c:Bool) (b:List UInt8):Option (Bool × D RC):=some (decide (b.length <= 1000000),.int .u32 (Yp b))
def Qlu:List (D RC)->Option (Bool × D RC)
 | [.sl .u8 c b]=>Qq7 c b
 | _=>none
noncomputable def Qq8 (c:Bool) (b:List UInt8):=evF s28 ud_8 60 207 [.sl (C:=RC) .u8 c b]
theorem QsX (c:Bool) (b:List UInt8):Qq8 c b=(bif decide (List.length b <= (1000000:Nat)) then some (D.int IntKind.u32 (bits IntKind.u32 (fun (x:Nat) (u v:BitVec x)=>u ^^^ v) (4294967295:Int) (Vr (4294967295:Int) b))) else none):=by kernel_rfl
theorem QsY (c:Bool) (b:List UInt8) (h:(decide (b.length <= 1000000))=true):Qq8 c b=some (.int .u32 (Yp b)):=by
 rw [QsX];rw [h];rfl
noncomputable def ud_9:=ud_8.addSpec 207 Qlu
theorem Qlv:Qi Tryz.prog s28 ud_9:=Qlt.addEv Qb fun args d h=>by
 unfold Qlu at h
 split at h
 · unfold Qq7 at h;have h1:=congrArg Prod.fst (Option.some.inj h);obtain rfl:_=d:=congrArg Prod.snd (Option.some.inj h);exact ⟨by simp [D.refs],60,QsY _ _ h1⟩
 · cases h
def Qq9 (c:Bool) (b:List UInt8):Option (Bool × D RC):=some (decide (b.length <= 1000000),.int .u32 (Yp b))
def Qlw:List (D RC)->Option (Bool × D RC)
 | [.sl .u8 c b]=>Qq9 c b
 | _=>none
noncomputable def Qra (c:Bool) (b:List UInt8):=evF s28 ud_9 60 193 [.sl (C:=RC) .u8 c b]
theorem QsZ (c:Bool) (b:List UInt8):Qra c b=(bif decide (List.length b <= (1000000:Nat)) then some (D.int IntKind.u32 (bits IntKind.u32 (fun (x:Nat) (u v:BitVec x)=>u ^^^ v) (4294967295:Int) (Vr (4294967295:Int) b))) else none):=by kernel_rfl
theorem Qs0 (c:Bool) (b:List UInt8) (h:(decide (b.length <= 1000000))=true):Qra c b=some (.int .u32 (Yp b)):=by
 rw [QsZ];rw [h];rfl
noncomputable def Qs1:=ud_9.addSpec 193 Qlw
theorem QiG:Qi Tryz.prog s28 Qs1:=Qlv.addEv Qb fun args d h=>by
 unfold Qlw at h
 split at h
 · unfold Qq9 at h;have h1:=congrArg Prod.fst (Option.some.inj h);obtain rfl:_=d:=congrArg Prod.snd (Option.some.inj h);exact ⟨by simp [D.refs],60,Qs0 _ _ h1⟩
 · cases h
def Qlx (c:Bool) (b:List UInt8):Option (Bool × D RC):=some (decide (b.length <= 1000000),.sl (C:=RC) .u8 false (ZG b))
def QgZ:List (D RC)->Option (Bool × D RC)
 | [.sl .u8 c b]=>Qlx c b
 | _=>none
noncomputable def Qly (c:Bool) (b:List UInt8):=evF s28 Qs1 60 197 [.sl (C:=RC) .u8 c b]
theorem Qpy (c:Bool) (b:List UInt8):Qly c b=(let Z0:Nat:=List.length b;let Z1:Int:=(↑Z0:Int);let Z2:Int:=IntKind.wrap .i64 (Z1+(4:Int));let Z3:Nat:=Int.toNat Z1;let Z4:List UInt8:=List.replicate Z3 (UInt8.ofBitVec (BitVec.ofNat (8:Nat) (nat_lit 0)));let Z5:List UInt8:=List.take Z4.length b++List.drop Z0 Z4;let Z6:List UInt8:=[UInt8.ofNat (IntKind.wrap IntKind.u8 (Yp b)).toNat];let Z7:Nat:=List.length Z5+List.length Z6;let Z8:Nat:=List.length (Z5++Z6);let Z9:Int:=Int.fdiv (Yp b) (256:Int);let Z10:List UInt8:=[UInt8.ofNat (IntKind.wrap IntKind.u8 Z9).toNat];let Z11:Nat:=List.length (Z5++Z6++Z10);let Z12:Int:=Int.fdiv Z9 (256:Int);let Z13:List UInt8:=[UInt8.ofNat (IntKind.wrap IntKind.u8 Z12).toNat];let Z14:Nat:=List.length (Z5++Z6++Z10++Z13);let Z15:List UInt8:=[UInt8.ofNat (IntKind.wrap IntKind.u8 (Int.fdiv Z12 (256:Int))).toNat];bif Qh Z0 then bif Qh Z0 then bif decide ((0:Int) <= Z1 /\ Z1 <= Z2) && Qk Z2.toNat (1:Nat) then bif Nat.beq Z3 Z4.length && Qh Z3 then bif decide (Z0 <= (1000000:Nat)) then bif Nat.beq Z3 Z5.length && Qk (Z3+List.length Z6) (1:Nat) then bif Nat.beq Z7 Z8 && Qk (Z7+List.length Z10) (1:Nat) then bif Nat.beq (Z8+List.length Z10) Z11 && Qk (Z8+List.length Z10+List.length Z13) (1:Nat) then bif Nat.beq (Z11+List.length Z13) Z14 && Qk (Z11+List.length Z13+List.length Z15) (1:Nat) then bif Nat.beq (Z14+List.length Z15) (Z5++Z6++Z10++Z13++Z15).length then some (D.sl RTy.u8 false (Z5++Z6++Z10++Z13++Z15)) else none else none else none else none else none else none else none else none else none else none):=by kernel_rfl
theorem Qpz (c:Bool) (b:List UInt8) (h:(decide (b.length <= 1000000))=true):Qly c b=some (.sl (C:=RC) .u8 false (ZG b)):=by
 (rw [Qpy];conv=>zeta)
 have hl:=of_decide_eq_true h;have t1:((b.length:Int)).toNat=b.length:=by simp
 have t2:b.take (List.replicate b.length (⟨0#8⟩:UInt8)).length=b:=by simp
 have t3:(List.replicate b.length (⟨0#8⟩:UInt8)).drop b.length=[]:=by simp
 have w4:IntKind.i64.wrap ((b.length:Int)+4)=(b.length:Int)+4:=wrap_id (by omega) (by omega)
 have t4:((b.length:Int)+4).toNat=b.length+4:=by omega
 simp only [t1,t2,t3,t4,w4,List.append_nil,Qa9,List.append_assoc,List.cons_append,List.nil_append,List.length_cons,List.length_nil,List.length_append,List.length_replicate,List.take_length,Nat.zero_add,Nat.reduceAdd,Nat.add_assoc];have eb:∀ n:Nat,n.beq n=true:=fun n=>by simp
 have es:∀ k:Nat,k <= 10->Qk (b.length+k) 1=true:=fun k hk=>YO (by omega)
 simp only [eb,es,Nat.reduceLeDiff,Bool.and_self,Bool.true_and,cond_true]
 repeat (refine Qa (by first | assumption | exact Qe (by omega) | exact YO (by omega) | (simp;done) | (simp;omega) | (simp [Qk];omega)) ?_)
 rfl
noncomputable def Qs2:=Qs1.addSpec 197 QgZ
theorem QiH:Qi Tryz.prog s28 Qs2:=QiG.addEv Qb fun args d h=>by
 unfold QgZ at h
 split at h
 · unfold Qlx at h;have h1:=congrArg Prod.fst (Option.some.inj h);obtain rfl:_=d:=congrArg Prod.snd (Option.some.inj h);exact ⟨by simp [D.refs],60,Qpz _ _ h1⟩
 · cases h
def Qlz (c:Bool) (b:List UInt8):Option (Bool × D RC):=some (decide (b.length <= 1000000),.sl (C:=RC) .u8 false (ZG b))
def Qg0:List (D RC)->Option (Bool × D RC)
 | [.sl .u8 c b]=>Qlz c b
 | _=>none
noncomputable def QlA (c:Bool) (b:List UInt8):=evF s28 Qs2 60 167 [.sl (C:=RC) .u8 c b]
theorem QpA (c:Bool) (b:List UInt8):QlA c b=(let Z0:Nat:=(0:Nat)+List.length b;let Z1:Nat:=List.length ([]++b);let Z2:Int:=Yp b;let Z3:List UInt8:=[UInt8.ofNat (IntKind.wrap IntKind.u8 (bits IntKind.u32 (fun (x:Nat) (u v:BitVec x)=>u &&& v) Z2 (255:Int))).toNat,UInt8.ofNat (IntKind.wrap IntKind.u8 (bits IntKind.u32 (fun (x:Nat) (u v:BitVec x)=>u &&& v) (Int.fdiv Z2 (256:Int)) (255:Int))).toNat,UInt8.ofNat (IntKind.wrap IntKind.u8 (bits IntKind.u32 (fun (x:Nat) (u v:BitVec x)=>u &&& v) (Int.fdiv Z2 (65536:Int)) (255:Int))).toNat,UInt8.ofNat (IntKind.wrap IntKind.u8 (Int.fdiv Z2 (16777216:Int))).toNat];bif decide (List.length b <= (1000000:Nat)) then bif Qk Z0 (1:Nat) then bif Nat.beq Z0 Z1 && Qk (Z0+List.length Z3) (1:Nat) then bif Nat.beq (Z1+List.length Z3) ([]++b++Z3).length then some (D.sl RTy.u8 false ([]++b++Z3)) else none else none else none else none):=by kernel_rfl
theorem QpB (c:Bool) (b:List UInt8) (h:(decide (b.length <= 1000000))=true):QlA c b=some (.sl (C:=RC) .u8 false (ZG b)):=by
 (rw [QpA];conv=>zeta)
 have hl:=of_decide_eq_true h;have hr:=QfD b;have f8:(Yp b).fdiv 256=Yp b / 256:=Int.fdiv_eq_ediv_of_nonneg _ (by omega)
 have f16:(Yp b).fdiv 65536=Yp b / 65536:=Int.fdiv_eq_ediv_of_nonneg _ (by omega)
 have f24:(Yp b).fdiv 16777216=Yp b / 16777216:=Int.fdiv_eq_ediv_of_nonneg _ (by omega)
 have g1:((Yp b).fdiv 256).fdiv 256=Yp b / 65536:=by rw [f8,Int.fdiv_eq_ediv_of_nonneg _ (by omega)];omega
 have g2:(((Yp b).fdiv 256).fdiv 256).fdiv 256=Yp b / 16777216:=by rw [g1,Int.fdiv_eq_ediv_of_nonneg _ (by omega)];omega
 simp only [f8,f16,f24,Qk5 hr,Qk5 (n:=Yp b / 256) (by omega),Qk5 (n:=Yp b / 65536) (by omega),Qa9,QiB,List.nil_append,List.length_cons,List.length_nil,List.length_append]
 iterate 4 refine Qa (by first | exact Qe (by simp;omega) | exact Qe (by omega) | (simp [Qk];done) | (simp [Qk];omega) | omega) ?_
 rw [ZG,leB4,g2,g1,f8]
noncomputable def Qs3:=Qs2.addSpec 167 Qg0
theorem QiI:Qi Tryz.prog s28 Qs3:=QiH.addEv Qb fun args d h=>by
 unfold Qg0 at h
 split at h
 · unfold Qlz at h;have h1:=congrArg Prod.fst (Option.some.inj h);obtain rfl:_=d:=congrArg Prod.snd (Option.some.inj h);exact ⟨by simp [D.refs],60,QpB _ _ h1⟩
 · cases h
def QlB (c:Bool) (b:List UInt8):Option (Bool × D RC):=some (decide (b.length <= 1000000),.tup (.acons (.sl (C:=RC) .u8 (Zj b).isNone ((Zj b).getD [])) (.acons (.int .i64 (bif (Zj b).isNone then 50 else 0)) .anil)))
def Qg1:List (D RC)->Option (Bool × D RC)
 | [.sl .u8 c b]=>QlB c b
 | _=>none
noncomputable def QlC (c:Bool) (b:List UInt8):=evF s28 Qs3 60 178 [.sl (C:=RC) .u8 c b]
theorem QpC (c:Bool) (b:List UInt8):QlC c b=(let Z0:Nat:=List.length b;let Z1:Int:=IntKind.wrap .i64 ((↑Z0:Int) - (4:Int));let Z2:DO_:=some (D.tup (D.acons (D.sl RTy.u8 true []) (.acons (D.int .i64 50) .anil)));let Z3:Nat:=Int.toNat Z1;let Z4:List UInt8:=List.drop (0:Nat) (List.take Z3 b);let Z5:List UInt8:=List.replicate Z3 (UInt8.ofBitVec (BitVec.ofNat (8:Nat) (nat_lit 0)));let Z6:List UInt8:=List.take Z5.length b++List.drop Z0 Z5;bif Qh Z0 then bif decide (Z1 < (0:Int)) then Z2 else bif decide ((0:Int) <= (0:Int) /\ (0:Int) <= Z1 /\ Z1 <= (↑Z0:Int) /\ Z1=Z1) then bif decide (List.length Z4 <= (1000000:Nat)) then bif decide ((0:Int) <= Z1 /\ Z1 <= (↑(ZG Z4).length:Int)) then bif decide ((0:Int) <= Z1 /\ Z1 <= (↑Z0:Int)) then bif !(fun (l:List (RA RTy.u8))=>l) (List.drop Z3 (ZG Z4)) == (fun (l:List (RA RTy.u8))=>l) (List.drop Z3 b) then Z2 else bif decide ((0:Int) <= Z1 /\ Z1 <= Z1) && Qk Z3 (1:Nat) then bif Nat.beq Z3 Z5.length && Qh Z3 then bif Nat.beq Z3 Z6.length then some (D.tup (D.acons (D.sl RTy.u8 false Z6) (.acons (D.int .i64 0) .anil))) else none else none else none else none else none else none else none else none):=by kernel_rfl
theorem QpD (c:Bool) (b:List UInt8) (h:(decide (b.length <= 1000000))=true):QlC c b=some (.tup (.acons (.sl (C:=RC) .u8 (Zj b).isNone ((Zj b).getD [])) (.acons (.int .i64 (bif (Zj b).isNone then 50 else 0)) .anil))):=by
 (rw [QpC];conv=>zeta)
 have hl:=of_decide_eq_true h;have wm:IntKind.i64.wrap ((b.length:Int) - 4)=(b.length:Int) - 4:=wrap_id (by omega) (by omega)
 have tm:((b.length:Int) - 4).toNat=b.length - 4:=by omega
 have ts:(b.take (b.length - 4)).length=b.length - 4:=by simp
 simp only [wm,tm,List.drop_zero];refine Qa (Qe (by omega)) ?_
 refine QD (fun h0=>?_) fun h0=>?_ <;> simp only [decide_eq_true_eq,decide_eq_false_iff_not] at h0
 · have e:Zj b=none:=by unfold Zj;rw [if_neg (by omega)]
   rw [e];rfl
 iterate 2 refine Qa (by first | exact Qe (by simp;omega) | exact Qe (by omega) | (simp [Qk];done) | (simp [Qk];omega) | omega) ?_
 refine Qa (by simp [Kb,ts];omega) ?_
 iterate 1 refine Qa (by first | exact Qe (by simp;omega) | exact Qe (by omega) | (simp [Qk];done) | (simp [Qk];omega) | omega) ?_
 have ht:=QiA b (by omega)
 by_cases hq:ZG (b.take (b.length - 4))=b
 · have e:Zj b=some (b.take (b.length - 4)):=by unfold Zj;rw [if_pos ⟨by omega,hq⟩]
   rw [ht.2 hq,e];have tr:b.take (List.replicate (b.length - 4) (⟨0#8⟩:UInt8)).length=b.take (b.length - 4):=by rw [List.length_replicate]
   have td:(List.replicate (b.length - 4) (⟨0#8⟩:UInt8)).drop b.length=[]:=by simp
   simp only [beq_self_eq_true,Bool.not_true,cond_false,tr,td,List.append_nil,List.length_replicate,ts];have lk:Qh (b.length - 4)=true:=Qe (by omega)
   have eb:∀ n:Nat,n.beq n=true:=fun n=>by simp
   simp only [lk,eb,Bool.and_self,cond_true]
   repeat (refine Qa (by first | assumption | exact Qe (by omega) | exact YO (by omega) | (simp;done) | (simp;omega) | (simp [Qk];omega)) ?_)
   rfl
 · have e:Zj b=none:=by unfold Zj;rw [if_neg (fun q=>hq q.2)]
   rw [e,show ((ZG (b.take (b.length - 4))).drop (b.length - 4) == b.drop (b.length - 4))=false by simpa using fun q=>hq (ht.1 q)]
   rfl
noncomputable def Qs4:=Qs3.addSpec 178 Qg1
theorem QiJ:Qi Tryz.prog s28 Qs4:=QiI.addEv Qb fun args d h=>by
 unfold Qg1 at h
 split at h
 · unfold QlB at h;have h1:=congrArg Prod.fst (Option.some.inj h);obtain rfl:_=d:=congrArg Prod.snd (Option.some.inj h);exact ⟨by simp [D.refs],60,QpD _ _ h1⟩
 · cases h
def QlD (c:Bool) (b:List UInt8):Option (Bool × D RC):=some (decide (b.length <= 1000000),.tup (.acons (.sl (C:=RC) .u8 (Zj b).isNone ((Zj b).getD [])) (.acons (.int .i64 (bif (Zj b).isNone then 50 else 0)) .anil)))
def Qg2:List (D RC)->Option (Bool × D RC)
 | [.sl .u8 c b]=>QlD c b
 | _=>none
noncomputable def QlE (c:Bool) (b:List UInt8):=evF s28 Qs4 60 156 [.sl (C:=RC) .u8 c b]
theorem QpE (c:Bool) (b:List UInt8):QlE c b=(let Z0:Int:=(↑b.length:Int);let Z1:Int:=IntKind.wrap .i64 (Z0 - (4:Int));let Z2:DO_:=some (D.tup (D.acons (D.sl RTy.u8 true []) (.acons (D.int .i64 50) .anil)));let Z3:Bool:=decide ((0:Int) <= (0:Int) /\ (0:Int) <= Z1 /\ Z1 <= Z0);let Z4:List UInt8:=List.drop (0:Nat) (List.take Z1.toNat b);let Z5:Nat:=(0:Nat)+List.length Z4;bif Qh b.length then bif decide (Z1 < (0:Int)) then Z2 else bif Z3 then bif decide (List.length Z4 <= (1000000:Nat)) then bif !(fun (l:List (RA RTy.u8))=>l) (ZG Z4) == (fun (l:List (RA RTy.u8))=>l) b then Z2 else bif Z3 then bif Qk Z5 (1:Nat) then bif Nat.beq Z5 ([]++Z4).length then some (D.tup (D.acons (D.sl RTy.u8 false ([]++Z4)) (.acons (D.int .i64 0) .anil))) else none else none else none else none else none else none):=by kernel_rfl
theorem QpF (c:Bool) (b:List UInt8) (h:(decide (b.length <= 1000000))=true):QlE c b=some (.tup (.acons (.sl (C:=RC) .u8 (Zj b).isNone ((Zj b).getD [])) (.acons (.int .i64 (bif (Zj b).isNone then 50 else 0)) .anil))):=by
 (rw [QpE];conv=>zeta)
 have hl:=of_decide_eq_true h;have wm:IntKind.i64.wrap ((b.length:Int) - 4)=(b.length:Int) - 4:=wrap_id (by omega) (by omega)
 have tm:((b.length:Int) - 4).toNat=b.length - 4:=by omega
 have ts:(b.take (b.length - 4)).length=b.length - 4:=by simp
 simp only [wm,tm,List.drop_zero,List.nil_append];refine Qa (Qe (by omega)) ?_
 refine QD (fun h0=>?_) fun h0=>?_ <;> simp only [decide_eq_true_eq,decide_eq_false_iff_not] at h0
 · have e:Zj b=none:=by unfold Zj;rw [if_neg (by omega)]
   rw [e];rfl
 iterate 2 refine Qa (by first | exact Qe (by simp;omega) | exact Qe (by omega) | (simp [Qk];done) | (simp [Qk];omega) | omega) ?_
 by_cases hq:ZG (b.take (b.length - 4))=b
 · have e:Zj b=some (b.take (b.length - 4)):=by unfold Zj;rw [if_pos ⟨by omega,hq⟩]
   rw [hq,e];simp only [beq_self_eq_true,Bool.not_true,cond_false]
   iterate 3 refine Qa (by first | exact Qe (by simp;omega) | exact Qe (by omega) | (simp [Qk];done) | (simp [Qk];omega) | omega) ?_
   rfl
 · have e:Zj b=none:=by unfold Zj;rw [if_neg (fun q=>hq q.2)]
   rw [e,show (ZG (b.take (b.length - 4)) == b)=false by simpa using hq]
   rfl
noncomputable def Qs5:=Qs4.addSpec 156 Qg2
theorem QiK:Qi Tryz.prog s28 Qs5:=QiJ.addEv Qb fun args d h=>by
 unfold Qg2 at h
 split at h
 · unfold QlD at h;have h1:=congrArg Prod.fst (Option.some.inj h);obtain rfl:_=d:=congrArg Prod.snd (Option.some.inj h);exact ⟨by simp [D.refs],60,QpF _ _ h1⟩
 · cases h
def QM (s:Sector):Bool:=decide (0 <= s.n) && decide (s.n <= 1048575) && decide (s.b.length <= 640) && (decide (0 < s.n) || s.b == [])
def Zm (l:List Sector):Bool:=decide (l.length=33) && l.all QM
def JL (now sure:List Sector) (i:Nat):Bool:=((now.zip sure).drop i).all fun p=>decide (p.2.n <= p.1.n)
def Qq (now sure:List Sector):Bool:=Zm now && Zm sure && JL now sure 0
theorem YR {now sure:List Sector} (h:Qq now sure=true):now.length=33 /\ sure.length=33:=by
 simp only [Qq,Zm,Bool.and_eq_true,decide_eq_true_eq] at h;exact ⟨h.1.1.1,h.1.2.1⟩
def sec0:Sector:=⟨0,[]⟩
theorem Vf {α:Type} (l:List α) (p:α->Bool) (i:Nat) (h:i < l.length) (d:α):(l.drop i).all p=(p (l.getD i d) && (l.drop (i+1)).all p):=by
 have e:l.getD i d=l[i]:=by simp [h]
 rw [List.drop_eq_getElem_cons h,e,List.all_cons]
theorem Qb4 {now sure:List Sector} (i:Nat) (h1:i < now.length) (h2:i < sure.length) (d:Sector):JL now sure i=(decide ((sure.getD i d).n <= (now.getD i d).n) && JL now sure (i+1)):=by
 unfold JL;rw [Vf _ _ i (by simp;omega) (d,d)]
 have e:(now.zip sure).getD i (d,d)=(now.getD i d,sure.getD i d):=by
  have hz:i < (now.zip sure).length:=by simp;omega
  simp [List.getD_eq_getElem?_getD,List.getElem?_eq_getElem hz,h1,h2]
 rw [e]
theorem Qeh {now sure:List Sector} (i:Nat) (h:now.length <= i):JL now sure i=true:=by
 unfold JL;rw [List.drop_eq_nil_of_le (by simp;omega)];rfl
def QiL (l:List Sector) (i:Nat):Nat:=i+(l.drop i).findIdx fun s => !QM s
def Ze (now sure:List Sector) (k n:Int) (b:List UInt8):Bool:=Qq now sure && (decide (0 <= k) && decide (k < 33) && decide (1 <= n) && !(b == []) && QM ⟨n,b⟩)
def VP (now:List Sector) (k:Nat) (n:Int) (b:List UInt8):List Sector:=if (now.getD k sec0).n < n then now.set k ⟨n,b⟩ else now
theorem KK (now:List Sector) (k:Nat) (n:Int) (b:List UInt8):(VP now k n b).length=now.length:=by unfold VP;split <;> simp
def Qo:List Sector:=List.replicate 33 ⟨0,[]⟩
theorem Yq {l:List Sector} (h:Zm l=true):l.length=33:=by simp only [Zm,Bool.and_eq_true,decide_eq_true_eq] at h;exact h.1
theorem QpG (l:List Sector) (i:Nat):i <= QiL l i:=Nat.le_add_right _ _
theorem QiM (l:List Sector) (i:Nat) (h:i < l.length) (d:Sector):QiL l i=if QM (l.getD i d)=true then QiL l (i+1) else i:=by
 have e:l.getD i d=l[i]:=by simp [h]
 unfold QiL;rw [List.drop_eq_getElem_cons h,e,List.findIdx_cons];cases QM l[i] <;> simp;omega
def pNow (now sure:List Sector) (k n:Int) (b:List UInt8):List Sector:=bif Ze now sure k n b then VP now k.toNat n b else []
def Vs (now sure:List Sector) (k n:Int) (b:List UInt8):List Sector:=bif Ze now sure k n b then sure else []
def KL (now sure:List Sector) (k:Int):Bool:=Qq now sure && (decide (0 <= k) && decide (k < 33))
def getS (now sure:List Sector) (k:Int):Sector:=bif KL now sure k then now.getD k.toNat sec0 else sec0
def Qs (l:List Sector):Bool:=decide (l.length <= 9223372036854775807) && l.all fun s=>Qh s.b.length
theorem Zx {l:List Sector}:Qs l=true ↔ l.length <= 9223372036854775807 /\ ∀ s ∈ l,Qh s.b.length=true:=by simp [Qs]
theorem Qg3 {l:List Sector} (h:Qs l=true) (i:Nat) (hi:i < l.length) (d:Sector):Qh (l.getD i d).b.length=true:=by
 have e:l.getD i d=l[i]:=by simp [hi]
 rw [e];exact (Zx.1 h).2 _ (List.getElem_mem hi)
theorem Qba {now sure:List Sector} {k n:Int} {b:List UInt8} (h:Ze now sure k n b=true):Qq now sure=true /\ 0 <= k /\ k < 33 /\ 1 <= n /\ b ≠ [] /\ QM ⟨n,b⟩=true:=by
 simp only [Ze,Bool.and_eq_true,decide_eq_true_eq] at h;obtain ⟨h1,⟨⟨⟨h2,h3⟩,h4⟩,h5⟩,h6⟩:=h;exact ⟨h1,h2,h3,h4,by simpa using h5,h6⟩
theorem Zy {now sure:List Sector} {k n:Int} {b:List UInt8} (h:¬ (Qq now sure=true /\ 0 <= k /\ k < 33 /\ 1 <= n /\ b ≠ [] /\ QM ⟨n,b⟩=true)):Ze now sure k n b=false:=by
 cases e:Ze now sure k n b
 · rfl
 · exact absurd (Qba e) h
open Go.Proofs
def Qrb (n:Int) (b:List UInt8):Option (Bool × D RC):=some (Qh b.length,.bool (QM ⟨n,b⟩))
def QlF:List (D RC)->Option (Bool × D RC)
 | [.acons (.int .i64 n) (.acons (.str b) .anil)]=>Qrb n b
 | _=>none
noncomputable def Qrc (n:Int) (b:List UInt8):=evF s28 Qs5 40 85 [.acons (.int .i64 n) (.acons (.str b) .anil)]
theorem Qs6 (n:Int) (b:List UInt8):Qrc n b=(let Z0:DO_:=some (D.bool false);bif decide ((0:Int) <= n) then bif decide (n <= (1048575:Int)) then bif Qh b.length then bif decide ((↑b.length:Int) <= (640:Int)) then bif decide ((0:Int) < n) then some (D.bool true) else some (D.bool (b == Array.toList #[])) else Z0 else none else Z0 else Z0):=by kernel_rfl
theorem Qs7 (n:Int) (b:List UInt8) (h:(Qh b.length)=true):Qrc n b=some (.bool (QM ⟨n,b⟩)):=by
 (rw [Qs6];conv=>zeta)
 have hb:decide (((b.length:Nat):Int) <= 640)=decide (b.length <= 640):=by rw [decide_eq_decide];omega
 simp only [QM,h,hb,cond_true];cases decide (0 <= n) <;> cases decide (n <= 1048575) <;> cases decide (b.length <= 640) <;> cases decide (0 < n) <;> cases b <;> rfl
noncomputable def ue_1:=Qs5.addSpec 85 QlF
theorem QlG:Qi Tryz.prog s28 ue_1:=QiK.addEv Qb fun args d h=>by
 unfold QlF at h
 split at h
 · unfold Qrb at h;have h1:=congrArg Prod.fst (Option.some.inj h);obtain rfl:_=d:=congrArg Prod.snd (Option.some.inj h);exact ⟨by simp [D.refs],40,Qs7 _ _ h1⟩
 · cases h
structure QlH where
 c:Bool
 l:List Sector
 i:Nat
def QlI (c:Bool) (l:List Sector) (i:Nat):Env RC:=[(0,.sl (C:=RC) .sector c l),(1,.fn 143 (.acons (.ptr 0 []) .anil)),(4,.int .i64 0),(7,.int .i64 (l.length)),(8,.int .i64 (i:Int))]
def Qac (c:Bool) (l:List Sector) (i:Nat):List (Obj RC):=[.var 123 (.fn 85 .anil)]
noncomputable def Qrd (c:Bool) (l:List Sector) (i:Nat):=rndO s28 ue_1 177 2 40 1 [0,1,4,7,8] [4] [.slot 1 0] (QlI c l i) (Qac c l i)
theorem Qs8 (c:Bool) (l:List Sector) (i:Nat):Qrd c l i=(let Z0:Int:=(↑i:Int);let Z1:Int:=(↑l.length:Int);let Z2:Sector:=List.getD l Z0.toNat (Sector.mk (0:Int) []);let Z3:List (Option (Obj RC)):=[some (Obj.var 123 (D.fn (85:Nat) .anil))];let Z4:Nat × D RC:=(4,D.int .i64 0);bif decide (Z0 < Z1) then bif decide ((0:Int) <= Z0 /\ Z0 < Z1) then bif Qh (Sector.b Z2).length then bif !QM (Sector.mk (Sector.n Z2) (Sector.b Z2)) then some ((X.ret,[(4,D.int .i64 Z0)]),Z3) else some ((X.normal,[(0,D.sl RTy.sector c l),(1,D.fn (143:Nat) (.acons (D.ptr 0 []) .anil)),Z4,(7,D.int .i64 Z1),(8,D.int .i64 (IntKind.wrap .i64 (Z0+(1:Int))))]),Z3) else none else none else some ((X.exit (0:Nat),[Z4]),Z3)):=by kernel_rfl
def Kg (c:Bool) (l:List Sector) (i:Nat):RT RC:=.br (l.drop i |>.all QM) (.leaf (.exit 0) [(4,.int .i64 0)] (Qac c l i)) (.leaf .ret [(4,.int .i64 (QiL l i))] (Qac c l i))
def Kh (c:Bool) (l:List Sector) (i:Nat):Prop:=i <= l.length /\ Qs l=true
def Ki:QI RC QlH where
 k:=1
 canon q:=QlI q.c q.l q.i
 objs q:=Qac q.c q.l q.i
 fin q:=Kg q.c q.l q.i
 Inv q:=Kh q.c q.l q.i
 μ q:=q.l.length - q.i
theorem QiN (c:Bool) (l:List Sector) (i:Nat) (hI:Kh c l i):Leaf (Qrd c l i) (LedR Ki ⟨c,l,i⟩):=by
 (rw [Qs8];conv=>zeta)
 unfold Kh at hI;obtain ⟨h1,hg⟩:=hI;have h2:=(Zx.1 hg).1
 by_cases hlt:i < l.length
 · have w_succ:IntKind.i64.wrap ((i:Int)+1)=((i+1:Nat):Int):=by rw [wrap_id (by omega) (by omega)];simp
   have d_lt:decide ((i:Int) < l.length)=true:=by simp;omega
   have d_in:decide (0 <= (i:Int) /\ (i:Int) < l.length)=true:=by simp;omega
   have t_nat:((i:Int)).toNat=i:=by simp
   have w_pred:IntKind.i64.wrap ((i:Int) - 1)=(i:Int) - 1:=wrap_id (by omega) (by omega)
   have t_natp:((i:Int) - 1).toNat=i - 1:=by omega
   simp only [w_succ,d_lt,d_in,t_nat,w_pred,t_natp,cond_true];have hlk:=Qg3 hg i hlt (⟨0,[]⟩:Sector);have hst:=Vf l QM i hlt (⟨0,[]⟩:Sector);have hb:=QiM l i hlt (⟨0,[]⟩:Sector);generalize l.getD i (⟨0,[]⟩:Sector)=x at hst hb hlk ⊢;simp only [hlk,cond_true];cases a1:QM x
   · exact QO (Qac c l i) (by simp [Ki,Kg,hst,hb,a1,RT.val]) rfl
   · exact Qp ⟨c,l,i+1⟩ ⟨hlt,hg⟩ (by simp only [Ki];omega) (by simp [Ki,Kg,hst,hb,a1];rfl) rfl rfl
 · have hi:i=l.length:=by omega
   have c1:decide ((i:Int) < l.length)=false:=by simp;omega
   rw [c1];exact Qm (Qac c l i) (by simp [Ki,Kg,hi,RT.val]) rfl
def QlJ (env:Env RC) (os:List (Obj RC)):Option (Bool × QlH):=match env,os with
 | [(0,.sl .sector c l),(1,.fn 143 (.acons (.ptr 0 []) .anil)),(4,.int .i64 0),(7,.int .i64 x0),(8,.int .i64 x1)],[.var 123 (.fn 85 .anil)]=>QB (true) (decide (x0=l.length) && decide (x1=0) && Qs l,⟨c,l,0⟩)
 | _,_=>none
noncomputable def ue_2:=ue_1.addLoop 177 2 (sumR s28 [.slot 1 0] [0,1,4,7,8] Ki QlJ)
theorem QlK:Qi Tryz.prog s28 ue_2:=by
 refine QlG.addRoundsR Qb (by kernel_rfl) Ki 40 [0,1,4,7,8] [4] [.slot 1 0] [0,1,4,7,8] QlJ (fun q hI=>?_) ?_
 · obtain ⟨c,l,i⟩:=q;refine ⟨?_,?_,QiN c l i hI⟩
   · simp_all [Qj,Ki,QlI,Qac,Kh,D.refs,Obj.refs,rEnc]
   · simp_all [Ki,Kg,Qac,Kh,RT.refsOK,Qj,D.refs,Obj.refs,rEnc]
 · intro env os b q hd_ hb;unfold QlJ at hd_
   split at hd_
   · obtain ⟨hs,hd_⟩:=Qg hd_;cases hd_;simp only [Bool.and_eq_true,decide_eq_true_eq] at hb;obtain ⟨⟨rfl,rfl⟩,hl⟩:=hb;exact ⟨⟨Nat.zero_le _,hl⟩,rfl,rfl⟩
   · cases hd_
def Qre (c:Bool) (l:List Sector):Option (Bool × D RC):=some (Qs l,.bool (Zm l))
def QlL:List (D RC)->Option (Bool × D RC)
 | [.sl .sector c l,.int .i64 33,.fn 85 .anil]=>Qre c l
 | _=>none
noncomputable def Qrf (c:Bool) (l:List Sector):=evF s28 ue_2 40 84 [.sl (C:=RC) .sector c l,.int .i64 33,.fn 85 .anil]
theorem Qs9 (c:Bool) (l:List Sector):Qrf c l=(let Z0:Bool:=Qh l.length;let Z1:Int:=(↑l.length:Int);bif Z0 then bif Z1 == (33:Int) then bif Z0 then bif decide (Z1=Z1) && true && Qs l then bif List.all (List.drop (0:Nat) l) QM then some (D.bool true) else some (D.bool !decide ((0:Int) <= (↑(QiL l (0:Nat)):Int))) else none else none else some (D.bool false) else none):=by kernel_rfl
theorem Qta (c:Bool) (l:List Sector) (h:(Qs l)=true):Qrf c l=some (.bool (Zm l)):=by
 (rw [Qs9];conv=>zeta)
 have hl:=(Zx.1 h).1;have lk:=Qe hl;have hb:=QpG l 0;simp only [h,lk,Zm,cond_true,List.drop_zero]
 by_cases e:l.length=33
 · have e2:((l.length:Int) == 33)=true:=by simp [e]
   cases hm:l.all QM <;> simp [e,hm] <;> omega
 · have e2:((l.length:Int) == 33)=false:=by simp;omega
   simp [e,e2]
noncomputable def ue_3:=ue_2.addSpec 84 QlL
theorem QlM:Qi Tryz.prog s28 ue_3:=QlK.addEv Qb fun args d h=>by
 unfold QlL at h
 split at h
 · unfold Qre at h;have h1:=congrArg Prod.fst (Option.some.inj h);obtain rfl:_=d:=congrArg Prod.snd (Option.some.inj h);exact ⟨by simp [D.refs],40,Qta _ _ h1⟩
 · cases h
structure QlN where
 c:Bool
 now:List Sector
 r:D RC
 d:Bool
 sure:List Sector
 i:Nat
def QlO (c:Bool) (now:List Sector) (r:D RC) (d:Bool) (sure:List Sector) (i:Nat):Env RC:=[(1,.ptr 0 []),(2,.int .i64 0),(16,.sl (C:=RC) .sector c now),(17,.int .i64 (now.length)),(18,.int .i64 (i:Int))]
def Qad (c:Bool) (now:List Sector) (r:D RC) (d:Bool) (sure:List Sector) (i:Nat):List (Obj RC):=[.var 24 (.acons r (.acons (.sl (C:=RC) .sector d sure) .anil))]
noncomputable def Qrg (c:Bool) (now:List Sector) (r:D RC) (d:Bool) (sure:List Sector) (i:Nat):=rndO s28 ue_3 33 4 40 1 [1,2,16,17,18] [2] [.slot 1 0] (QlO c now r d sure i) (Qad c now r d sure i)
theorem Qtb (c:Bool) (now:List Sector) (r:D RC) (d:Bool) (sure:List Sector) (i:Nat):Qrg c now r d sure i=(let Z0:Int:=(↑i:Int);let Z1:Int:=(↑now.length:Int);let Z2:List (Option (Obj RC)):=[some (Obj.var 24 (.acons r (D.acons (D.sl RTy.sector d sure) .anil)))];let Z3:Nat × D RC:=(2,D.int .i64 0);bif decide (Z0 < Z1) then bif decide ((0:Int) <= Z0 /\ Z0 < Z1) then bif decide ((0:Int) <= Z0 /\ Z0 < (↑sure.length:Int)) then bif decide (Sector.n (List.getD now Z0.toNat (Sector.mk (0:Int) [])) < Sector.n (List.getD sure Z0.toNat (Sector.mk (0:Int) []))) then some ((X.ret,[(2,D.int .i64 2)]),Z2) else some ((X.normal,[(1,D.ptr 0 []),Z3,(16,D.sl RTy.sector c now),(17,D.int .i64 Z1),(18,D.int .i64 (IntKind.wrap .i64 (Z0+(1:Int))))]),Z2) else none else none else some ((X.exit (0:Nat),[Z3]),Z2)):=by kernel_rfl
def Kj (c:Bool) (now:List Sector) (r:D RC) (d:Bool) (sure:List Sector) (i:Nat):RT RC:=.br (JL now sure i) (.leaf (.exit 0) [(2,.int .i64 0)] (Qad c now r d sure i)) (.leaf .ret [(2,.int .i64 2)] (Qad c now r d sure i))
def Kk (c:Bool) (now:List Sector) (r:D RC) (d:Bool) (sure:List Sector) (i:Nat):Prop:=r.refs=[] /\ i <= now.length /\ now.length <= 9223372036854775807 /\ now.length=sure.length
def Kl:QI RC QlN where
 k:=1
 canon q:=QlO q.c q.now q.r q.d q.sure q.i
 objs q:=Qad q.c q.now q.r q.d q.sure q.i
 fin q:=Kj q.c q.now q.r q.d q.sure q.i
 Inv q:=Kk q.c q.now q.r q.d q.sure q.i
 μ q:=q.now.length - q.i
theorem QiO (c:Bool) (now:List Sector) (r:D RC) (d:Bool) (sure:List Sector) (i:Nat) (hI:Kk c now r d sure i):Leaf (Qrg c now r d sure i) (LedR Kl ⟨c,now,r,d,sure,i⟩):=by
 (rw [Qtb];conv=>zeta)
 unfold Kk at hI;obtain ⟨h0,h1,h2,h3⟩:=hI
 by_cases hlt:i < now.length
 · have w_succ:IntKind.i64.wrap ((i:Int)+1)=((i+1:Nat):Int):=by rw [wrap_id (by omega) (by omega)];simp
   have d_lt:decide ((i:Int) < now.length)=true:=by simp;omega
   have d_in:decide (0 <= (i:Int) /\ (i:Int) < now.length)=true:=by simp;omega
   have t_nat:((i:Int)).toNat=i:=by simp
   have w_pred:IntKind.i64.wrap ((i:Int) - 1)=(i:Int) - 1:=wrap_id (by omega) (by omega)
   have t_natp:((i:Int) - 1).toNat=i - 1:=by omega
   simp only [w_succ,d_lt,d_in,t_nat,w_pred,t_natp,cond_true];have hlt2:i < sure.length:=by omega
   have d_in2:decide (0 <= (i:Int) /\ (i:Int) < sure.length)=true:=by simp;omega
   simp only [d_in2,cond_true];have hst:=Qb4 (now:=now) (sure:=sure) i hlt (by omega) (⟨0,[]⟩:Sector)
   generalize now.getD i (⟨0,[]⟩:Sector)=x at hst ⊢;generalize sure.getD i (⟨0,[]⟩:Sector)=y at hst ⊢;cases a1:decide (y.n <= x.n)
   · have a2:decide (x.n < y.n)=true:=by simp at a1 ⊢;exact a1
     simp only [a2,cond_true];exact QO (Qad c now r d sure i) (by simp [Kl,Kj,hst,a1,RT.val]) rfl
   · have a2:decide (x.n < y.n)=false:=by simp at a1 ⊢;exact a1
     simp only [a2,cond_false];exact Qp ⟨c,now,r,d,sure,i+1⟩ ⟨h0,hlt,h2,h3⟩ (by simp only [Kl];omega) (by simp [Kl,Kj,hst,a1];rfl) rfl rfl
 · have hi:i=now.length:=by omega
   have c1:decide ((i:Int) < now.length)=false:=by simp;omega
   rw [c1];exact Qm (Qad c now r d sure i) (by simp [Kl,Kj,hi,Qeh,RT.val]) rfl
def QlP (env:Env RC) (os:List (Obj RC)):Option (Bool × QlN):=match env,os with
 | [(1,.ptr 0 []),(2,.int .i64 0),(16,.sl .sector c now),(17,.int .i64 x0),(18,.int .i64 x1)],[.var 24 (.acons r (.acons (.sl .sector d sure) .anil))]=>QB (r.refs.isEmpty) (decide (x0=now.length) && decide (x1=0) && decide (now.length <= 9223372036854775807 /\ now.length=sure.length),⟨c,now,r,d,sure,0⟩)
 | _,_=>none
noncomputable def ue_4:=ue_3.addLoop 33 4 (sumR s28 [.slot 1 0] [1,2,16,17,18] Kl QlP)
theorem QlQ:Qi Tryz.prog s28 ue_4:=by
 refine QlM.addRoundsR Qb (by kernel_rfl) Kl 40 [1,2,16,17,18] [2] [.slot 1 0] [1,2,16,17,18] QlP (fun q hI=>?_) ?_
 · obtain ⟨c,now,r,d,sure,i⟩:=q;refine ⟨?_,?_,QiO c now r d sure i hI⟩
   · simp_all [Qj,Kl,QlO,Qad,Kk,D.refs,Obj.refs,rEnc]
   · simp_all [Kl,Kj,Qad,Kk,RT.refsOK,Qj,D.refs,Obj.refs,rEnc]
 · intro env os b q hd_ hb;unfold QlP at hd_
   split at hd_
   · obtain ⟨hs,hd_⟩:=Qg hd_;cases hd_;simp only [Bool.and_eq_true,decide_eq_true_eq] at hb;obtain ⟨⟨rfl,rfl⟩,hl⟩:=hb;exact ⟨⟨List.isEmpty_iff.1 hs,Nat.zero_le _,hl⟩,rfl,rfl⟩
   · cases hd_
def Qg4 (c:Bool) (now:List Sector) (d:Bool) (sure:List Sector):Option (Bool × D RC):=some (Qs now && Qs sure,.int .i64 (bif Qq now sure then 0 else 2))
def Qei:List (D RC)->Option (Bool × D RC)
 | [.acons (.sl .sector c now) (.acons (.sl .sector d sure) .anil)]=>Qg4 c now d sure
 | _=>none
noncomputable def Qg5 (c:Bool) (now:List Sector) (d:Bool) (sure:List Sector):=evF s28 ue_4 40 33 [.acons (.sl (C:=RC) .sector c now) (.acons (.sl (C:=RC) .sector d sure) .anil)]
theorem QlR (c:Bool) (now:List Sector) (d:Bool) (sure:List Sector):Qg5 c now d sure=(let Z0:DO_:=some (D.int .i64 2);let Z1:Nat:=List.length now;bif Qs now then bif !Zm now then Z0 else bif Qs sure then bif !Zm sure then Z0 else bif Qh Z1 then bif decide ((↑Z1:Int)=(↑Z1:Int)) && true && decide (Z1 <= (9223372036854775807:Nat) /\ Z1=List.length sure) then bif JL now sure (0:Nat) then some (D.int .i64 0) else Z0 else none else none else none else none):=by kernel_rfl
theorem QlS (c:Bool) (now:List Sector) (d:Bool) (sure:List Sector) (h:(Qs now && Qs sure)=true):Qg5 c now d sure=some (.int .i64 (bif Qq now sure then 0 else 2)):=by
 (rw [QlR];conv=>zeta)
 rw [Bool.and_eq_true] at h;obtain ⟨hg,hgs⟩:=h;have hl:=(Zx.1 hg).1;have hs:=(Zx.1 hgs).1;have lk:=Qe hl;simp only [hg,hgs,lk,Bool.and_self,cond_true,Qq];cases h1:Zm now
 · rfl
 cases h2:Zm sure
 · rfl
 have l1:=Yq h1;have l2:=Yq h2;have e:decide (now.length <= 9223372036854775807 /\ now.length=sure.length)=true:=by simp;omega
 cases h3:JL now sure 0 <;> simp [e]
noncomputable def ue_5:=ue_4.addSpec 33 Qei
theorem QlT:Qi Tryz.prog s28 ue_5:=QlQ.addEv Qb fun args d h=>by
 unfold Qei at h
 split at h
 · unfold Qg4 at h;have h1:=congrArg Prod.fst (Option.some.inj h);obtain rfl:_=d:=congrArg Prod.snd (Option.some.inj h);exact ⟨by simp [D.refs],40,QlS _ _ _ _ h1⟩
 · cases h
def Qrh (c:Bool) (now:List Sector) (d:Bool) (sure:List Sector) (k:Int):Option (Bool × D RC):=some (Qs now && Qs sure,.tup (.acons (.acons (.int .i64 (getS now sure k).n) (.acons (.str (getS now sure k).b) .anil)) (.acons (.int .i64 (bif KL now sure k then 0 else 2)) .anil)))
def QlU:List (D RC)->Option (Bool × D RC)
 | [.acons (.sl .sector c now) (.acons (.sl .sector d sure) .anil),.int .i64 k]=>Qrh c now d sure k
 | _=>none
noncomputable def Qri (c:Bool) (now:List Sector) (d:Bool) (sure:List Sector) (k:Int):=evF s28 ue_5 40 86 [.acons (.sl (C:=RC) .sector c now) (.acons (.sl (C:=RC) .sector d sure) .anil),.int .i64 k]
theorem Qtc (c:Bool) (now:List Sector) (d:Bool) (sure:List Sector) (k:Int):Qri c now d sure k=(let Z0:D RC:=D.int .i64 0;let Z1:DO_:=some (D.tup (D.acons (D.acons Z0 (D.acons (D.str []) .anil)) (.acons (D.int .i64 2) .anil)));let Z2:Sector:=List.getD now k.toNat (Sector.mk (0:Int) []);bif Qs now && Qs sure then bif (bif Qq now sure then (0:Int) else (2:Int)) != (0:Int) then Z1 else bif decide (k < (0:Int)) then Z1 else bif decide ((33:Int) <= k) then Z1 else bif decide ((0:Int) <= k /\ k < (↑now.length:Int)) then some (D.tup (D.acons (D.acons (D.int .i64 (Sector.n Z2)) (.acons (D.str (Sector.b Z2)) .anil)) (.acons Z0 .anil))) else none else none):=by kernel_rfl
theorem Qtd (c:Bool) (now:List Sector) (d:Bool) (sure:List Sector) (k:Int) (h:(Qs now && Qs sure)=true):Qri c now d sure k=some (.tup (.acons (.acons (.int .i64 (getS now sure k).n) (.acons (.str (getS now sure k).b) .anil)) (.acons (.int .i64 (bif KL now sure k then 0 else 2)) .anil))):=by
 (rw [Qtc];conv=>zeta)
 have hgg:=h;rw [Bool.and_eq_true] at h;obtain ⟨hg,hgs⟩:=h;have no:KL now sure k=false->some (D.tup (.acons (.acons (.int .i64 0) (.acons (.str []) .anil)) (.acons (.int .i64 2) .anil)))=some (.tup (.acons (.acons (.int .i64 (getS now sure k).n) (.acons (.str (getS now sure k).b) .anil)) (.acons (.int .i64 (bif KL now sure k then 0 else 2)) .anil)):D RC):=fun e=>by simp only [getS,e];rfl
 refine Qa hgg ?_;cases hd:Qq now sure
 · exact Qa rfl (no (by simp [KL,hd]))
 obtain ⟨l1,l2⟩:=YR hd;refine Qy rfl (QD (fun e=>no (by simp only [decide_eq_true_eq] at e;simp [KL];omega)) fun e1=>?_)
 refine (QD (fun e=>no (by simp only [decide_eq_true_eq] at e;simp [KL];omega)) fun e2=>?_)
 simp only [decide_eq_false_iff_not] at e1 e2;have ok:KL now sure k=true:=by simp [KL,hd];omega
 rw [ok];simp only [getS,ok,cond_true,sec0]
 repeat (refine Qa (by first | assumption | exact Qe (by omega) | exact YO (by omega) | (simp;done) | (simp;omega) | (simp [Qk];omega)) ?_)
 rfl
noncomputable def ue_6:=ue_5.addSpec 86 QlU
theorem QlV:Qi Tryz.prog s28 ue_6:=QlT.addEv Qb fun args d h=>by
 unfold QlU at h
 split at h
 · unfold Qrh at h;have h1:=congrArg Prod.fst (Option.some.inj h);obtain rfl:_=d:=congrArg Prod.snd (Option.some.inj h);exact ⟨by simp [D.refs],40,Qtd _ _ _ _ _ h1⟩
 · cases h
structure Qg6 where
 c:Bool
 l:List Sector
 i:Nat
def Qc4 (c:Bool) (l:List Sector) (i:Nat):Env RC:=[(0,.sl (C:=RC) .sector c l),(2,.bool false),(3,.int .i64 (i:Int))]
def Qc5 (c:Bool) (l:List Sector) (i:Nat):List (Obj RC):=[]
noncomputable def QlW (c:Bool) (l:List Sector) (i:Nat):=rndO s28 ue_6 93 4 40 0 [0,2,3] [2] [] (Qc4 c l i) (Qc5 c l i)
theorem QpH (c:Bool) (l:List Sector) (i:Nat):QlW c l i=(let Z0:Int:=(↑i:Int);let Z1:Bool:=decide ((0:Int) <= Z0 /\ Z0 < (↑l.length:Int));let Z2:Sector:=List.getD l Z0.toNat (Sector.mk (0:Int) []);let Z3:Int:=Sector.n Z2;let Z4:RO_:=some ((X.ret,[(2,D.bool false)]),[]);let Z5:Nat:=List.length (Sector.b Z2);let Z6:RO_:=some ((X.normal,[(0,D.sl RTy.sector c l),(2,D.bool false),(3,D.int .i64 (IntKind.wrap .i64 (Z0+(1:Int))))]),[]);bif Qh l.length then bif decide (Z0 < (↑l.length:Int)) then bif Z1 then bif decide (Z3 < (0:Int)) then Z4 else bif Z1 then bif decide ((1048575:Int) < Z3) then Z4 else bif Z1 then bif Qh Z5 then bif decide ((640:Int) < (↑Z5:Int)) then Z4 else bif Z1 then bif Z3 == (0:Int) then bif Z1 then bif !Sector.b Z2 == Array.toList #[] then Z4 else Z6 else none else Z6 else none else none else none else none else none else some ((X.exit (0:Nat),[(2,D.bool false)]),[]) else none):=by kernel_rfl
def VQ (c:Bool) (l:List Sector) (i:Nat):RT RC:=.br (l.drop i |>.all QM) (.leaf (.exit 0) [(2,.bool false)] []) (.leaf .ret [(2,.bool false)] [])
def VR (c:Bool) (l:List Sector) (i:Nat):Prop:=i <= l.length /\ Qs l=true
def Yr:QI RC Qg6 where
 k:=0
 canon q:=Qc4 q.c q.l q.i
 objs q:=Qc5 q.c q.l q.i
 fin q:=VQ q.c q.l q.i
 Inv q:=VR q.c q.l q.i
 μ q:=q.l.length - q.i
theorem QfF (c:Bool) (l:List Sector) (i:Nat) (hI:VR c l i):Leaf (QlW c l i) (LedR Yr ⟨c,l,i⟩):=by
 (rw [QpH];conv=>zeta)
 unfold VR at hI;obtain ⟨h1,hg⟩:=hI;have h2:=(Zx.1 hg).1;have hlk0:Qh l.length=true:=Qe h2
 by_cases hlt:i < l.length
 · have w_succ:IntKind.i64.wrap ((i:Int)+1)=((i+1:Nat):Int):=by rw [wrap_id (by omega) (by omega)];simp
   have d_lt:decide ((i:Int) < l.length)=true:=by simp;omega
   have d_in:decide (0 <= (i:Int) /\ (i:Int) < l.length)=true:=by simp;omega
   have t_nat:((i:Int)).toNat=i:=by simp
   simp only [w_succ,d_lt,d_in,t_nat,cond_true];have hlk:=Qg3 hg i hlt (⟨0,[]⟩:Sector);have hst:=Vf l QM i hlt (⟨0,[]⟩:Sector);generalize l.getD i (⟨0,[]⟩:Sector)=x at hst hlk ⊢;simp only [hlk0,hlk,cond_true]
   have hgo:QM x=true->Leaf (some ((X.normal,Qc4 c l (i+1)),[])) (LedR Yr ⟨c,l,i⟩):=fun e =>
    Qp ⟨c,l,i+1⟩ ⟨hlt,hg⟩ (by simp only [Yr];omega) (by simp [Yr,VQ,hst,e]) rfl rfl
   have hno:QM x=false->Leaf (some ((X.ret,[(2,D.bool false)]),[])) (LedR Yr ⟨c,l,i⟩):=fun e=>QO [] (by simp [Yr,VQ,hst,e,RT.val]) rfl
   have hm:QM x=(decide (0 <= x.n) && decide (x.n <= 1048575) && decide (x.b.length <= 640) && (decide (0 < x.n) || x.b == [])):=rfl;rw [hm] at hgo hno
   repeat' (refine Yg.2 ⟨fun hc_=>?_,fun hc_=>?_⟩)
   all_goals first | exact hno (by clear hgo hno hst hm;simp_all <;> omega) | exact hgo (by clear hgo hno hst hm;simp_all <;> omega)
 · have hi:i=l.length:=by omega
   have c1:decide ((i:Int) < l.length)=false:=by simp;omega
   rw [hlk0,c1];exact Qm [] (by simp [Yr,VQ,hi,RT.val]) rfl
def QfG (env:Env RC) (os:List (Obj RC)):Option (Bool × Qg6):=match env,os with
 | [(0,.sl .sector c l),(2,.bool false),(3,.int .i64 x0)],[]=>QB (true) (decide (x0=0) && Qs l,⟨c,l,0⟩)
 | _,_=>none
noncomputable def ue_7:=ue_6.addLoop 93 4 (sumR s28 [] [0,2,3] Yr QfG)
theorem QlX:Qi Tryz.prog s28 ue_7:=by
 refine QlV.addRoundsR Qb (by kernel_rfl) Yr 40 [0,2,3] [2] [] [0,2,3] QfG (fun q hI=>?_) ?_
 · obtain ⟨c,l,i⟩:=q;refine ⟨?_,?_,QfF c l i hI⟩
   · simp_all [Qj,Yr,Qc4,Qc5,VR,D.refs,Obj.refs,rEnc]
   · simp_all [Yr,VQ,Qc5,VR,RT.refsOK,Qj,D.refs,Obj.refs,rEnc]
 · intro env os b q hd_ hb;unfold QfG at hd_
   split at hd_
   · obtain ⟨hs,hd_⟩:=Qg hd_;cases hd_;simp only [Bool.and_eq_true,decide_eq_true_eq] at hb;obtain ⟨rfl,hl⟩:=hb;exact ⟨⟨Nat.zero_le _,hl⟩,rfl,rfl⟩
   · cases hd_
def QlY (c:Bool) (l:List Sector):Option (Bool × D RC):=some (Qs l,.bool (Zm l))
def Qg7:List (D RC)->Option (Bool × D RC)
 | [.sl .sector c l]=>QlY c l
 | _=>none
noncomputable def QlZ (c:Bool) (l:List Sector):=evF s28 ue_7 40 93 [.sl (C:=RC) .sector c l]
theorem QpI (c:Bool) (l:List Sector):QlZ c l=(bif Qh l.length then bif (↑l.length:Int) != (33:Int) then some (D.bool false) else bif Qs l then bif List.all (List.drop (0:Nat) l) QM then some (D.bool true) else some (D.bool false) else none else none):=by kernel_rfl
theorem QpJ (c:Bool) (l:List Sector) (h:(Qs l)=true):QlZ c l=some (.bool (Zm l)):=by
 rw [QpI];have hl:=(Zx.1 h).1;have lk:=Qe hl;simp only [h,lk,Zm,cond_true,List.drop_zero]
 by_cases e:l.length=33
 · have e2:((l.length:Int) != 33)=false:=by simp [e]
   cases hm:l.all QM <;> simp [e,hm]
 · have e2:((l.length:Int) != 33)=true:=by simp [bne];omega
   simp [e,e2]
noncomputable def ue_8:=ue_7.addSpec 93 Qg7
theorem Ql0:Qi Tryz.prog s28 ue_8:=QlX.addEv Qb fun args d h=>by
 unfold Qg7 at h
 split at h
 · unfold QlY at h;have h1:=congrArg Prod.fst (Option.some.inj h);obtain rfl:_=d:=congrArg Prod.snd (Option.some.inj h);exact ⟨by simp [D.refs],40,QpJ _ _ h1⟩
 · cases h
structure Qg8 where
 c:Bool
 now:List Sector
 d:Bool
 sure:List Sector
 i:Nat
def QfH (c:Bool) (now:List Sector) (d:Bool) (sure:List Sector) (i:Nat):Env RC:=[(1,.ptr 0 []),(2,.int .i64 0),(3,.int .i64 (i:Int))]
def VS (c:Bool) (now:List Sector) (d:Bool) (sure:List Sector) (i:Nat):List (Obj RC):=[.var 24 (.acons (.sl (C:=RC) .sector c now) (.acons (.sl (C:=RC) .sector d sure) .anil))]
noncomputable def Ql1 (c:Bool) (now:List Sector) (d:Bool) (sure:List Sector) (i:Nat):=rndO s28 ue_8 37 4 40 1 [1,2,3] [2] [.slot 1 0] (QfH c now d sure i) (VS c now d sure i)
theorem QpK (c:Bool) (now:List Sector) (d:Bool) (sure:List Sector) (i:Nat):Ql1 c now d sure i=(let Z0:Int:=(↑i:Int);let Z1:List (Option (Obj RC)):=[some (Obj.var 24 (.acons (D.sl RTy.sector c now) (.acons (D.sl RTy.sector d sure) .anil)))];let Z2:Nat × D RC:=(2,D.int .i64 0);bif Qh now.length then bif decide (Z0 < (↑now.length:Int)) then bif decide ((0:Int) <= Z0 /\ Z0 < (↑sure.length:Int)) then bif decide ((0:Int) <= Z0 /\ Z0 < (↑now.length:Int)) then bif decide (Sector.n (List.getD now Z0.toNat (Sector.mk (0:Int) [])) < Sector.n (List.getD sure Z0.toNat (Sector.mk (0:Int) []))) then some ((X.ret,[(2,D.int .i64 2)]),Z1) else some ((X.normal,[(1,D.ptr 0 []),Z2,(3,D.int .i64 (IntKind.wrap .i64 (Z0+(1:Int))))]),Z1) else none else none else some ((X.exit (0:Nat),[Z2]),Z1) else none):=by kernel_rfl
def VT (c:Bool) (now:List Sector) (d:Bool) (sure:List Sector) (i:Nat):RT RC:=.br (JL now sure i) (.leaf (.exit 0) [(2,.int .i64 0)] (VS c now d sure i)) (.leaf .ret [(2,.int .i64 2)] (VS c now d sure i))
def VU (c:Bool) (now:List Sector) (d:Bool) (sure:List Sector) (i:Nat):Prop:=i <= now.length /\ now.length <= 9223372036854775807 /\ now.length=sure.length
def Vg:QI RC Qg8 where
 k:=1
 canon q:=QfH q.c q.now q.d q.sure q.i
 objs q:=VS q.c q.now q.d q.sure q.i
 fin q:=VT q.c q.now q.d q.sure q.i
 Inv q:=VU q.c q.now q.d q.sure q.i
 μ q:=q.now.length - q.i
theorem QfI (c:Bool) (now:List Sector) (d:Bool) (sure:List Sector) (i:Nat) (hI:VU c now d sure i):Leaf (Ql1 c now d sure i) (LedR Vg ⟨c,now,d,sure,i⟩):=by
 (rw [QpK];conv=>zeta)
 unfold VU at hI;obtain ⟨h1,h2,h3⟩:=hI;have hlk0:Qh now.length=true:=Qe h2
 by_cases hlt:i < now.length
 · have w_succ:IntKind.i64.wrap ((i:Int)+1)=((i+1:Nat):Int):=by rw [wrap_id (by omega) (by omega)];simp
   have d_lt:decide ((i:Int) < now.length)=true:=by simp;omega
   have d_in:decide (0 <= (i:Int) /\ (i:Int) < now.length)=true:=by simp;omega
   have t_nat:((i:Int)).toNat=i:=by simp
   simp only [w_succ,d_lt,d_in,t_nat,cond_true];have hlt2:i < sure.length:=by omega
   have d_in2:decide (0 <= (i:Int) /\ (i:Int) < sure.length)=true:=by simp;omega
   simp only [d_in2,hlk0,cond_true];have hst:=Qb4 (now:=now) (sure:=sure) i hlt (by omega) (⟨0,[]⟩:Sector)
   generalize now.getD i (⟨0,[]⟩:Sector)=x at hst ⊢;generalize sure.getD i (⟨0,[]⟩:Sector)=y at hst ⊢;cases a1:decide (y.n <= x.n)
   · have a2:decide (x.n < y.n)=true:=by simp at a1 ⊢;exact a1
     simp only [a2,cond_true];exact QO (VS c now d sure i) (by simp [Vg,VT,hst,a1,RT.val]) rfl
   · have a2:decide (x.n < y.n)=false:=by simp at a1 ⊢;exact a1
     simp only [a2,cond_false];exact Qp ⟨c,now,d,sure,i+1⟩ ⟨hlt,h2,h3⟩ (by simp only [Vg];omega) (by simp [Vg,VT,hst,a1];rfl) rfl rfl
 · have hi:i=now.length:=by omega
   have c1:decide ((i:Int) < now.length)=false:=by simp;omega
   rw [hlk0,c1];exact Qm (VS c now d sure i) (by simp [Vg,VT,hi,Qeh,RT.val]) rfl
def QfJ (env:Env RC) (os:List (Obj RC)):Option (Bool × Qg8):=match env,os with
 | [(1,.ptr 0 []),(2,.int .i64 0),(3,.int .i64 x0)],[.var 24 (.acons (.sl .sector c now) (.acons (.sl .sector d sure) .anil))]=>QB (true) (decide (x0=0) && decide (now.length <= 9223372036854775807 /\ now.length=sure.length),⟨c,now,d,sure,0⟩)
 | _,_=>none
noncomputable def ue_9:=ue_8.addLoop 37 4 (sumR s28 [.slot 1 0] [1,2,3] Vg QfJ)
theorem Ql2:Qi Tryz.prog s28 ue_9:=by
 refine Ql0.addRoundsR Qb (by kernel_rfl) Vg 40 [1,2,3] [2] [.slot 1 0] [1,2,3] QfJ (fun q hI=>?_) ?_
 · obtain ⟨c,now,d,sure,i⟩:=q;refine ⟨?_,?_,QfI c now d sure i hI⟩
   · simp_all [Qj,Vg,QfH,VS,VU,D.refs,Obj.refs,rEnc]
   · simp_all [Vg,VT,VS,VU,RT.refsOK,Qj,D.refs,Obj.refs,rEnc]
 · intro env os b q hd_ hb;unfold QfJ at hd_
   split at hd_
   · obtain ⟨hs,hd_⟩:=Qg hd_;cases hd_;simp only [Bool.and_eq_true,decide_eq_true_eq] at hb;obtain ⟨rfl,hl⟩:=hb;exact ⟨⟨Nat.zero_le _,hl⟩,rfl,rfl⟩
   · cases hd_
def Qg9 (c:Bool) (now:List Sector) (d:Bool) (sure:List Sector):Option (Bool × D RC):=some (Qs now && Qs sure,.int .i64 (bif Qq now sure then 0 else 2))
def Qej:List (D RC)->Option (Bool × D RC)
 | [.acons (.sl .sector c now) (.acons (.sl .sector d sure) .anil)]=>Qg9 c now d sure
 | _=>none
noncomputable def Qha (c:Bool) (now:List Sector) (d:Bool) (sure:List Sector):=evF s28 ue_9 40 37 [.acons (.sl (C:=RC) .sector c now) (.acons (.sl (C:=RC) .sector d sure) .anil)]
theorem Ql3 (c:Bool) (now:List Sector) (d:Bool) (sure:List Sector):Qha c now d sure=(let Z0:DO_:=some (D.int .i64 2);bif Qs now then bif !Zm now then Z0 else bif Qs sure then bif !Zm sure then Z0 else bif decide (List.length now <= (9223372036854775807:Nat) /\ List.length now=List.length sure) then bif JL now sure (0:Nat) then some (D.int .i64 0) else Z0 else none else none else none):=by kernel_rfl
theorem Ql4 (c:Bool) (now:List Sector) (d:Bool) (sure:List Sector) (h:(Qs now && Qs sure)=true):Qha c now d sure=some (.int .i64 (bif Qq now sure then 0 else 2)):=by
 (rw [Ql3];conv=>zeta)
 rw [Bool.and_eq_true] at h;obtain ⟨hg,hgs⟩:=h;have hl:=(Zx.1 hg).1;simp only [hg,hgs,cond_true,Qq];cases h1:Zm now
 · rfl
 cases h2:Zm sure
 · rfl
 have l1:=Yq h1;have l2:=Yq h2;have e:decide (now.length <= 9223372036854775807 /\ now.length=sure.length)=true:=by simp;omega
 cases h3:JL now sure 0 <;> simp [e]
noncomputable def Qte:=ue_9.addSpec 37 Qej
theorem QiP:Qi Tryz.prog s28 Qte:=Ql2.addEv Qb fun args d h=>by
 unfold Qej at h
 split at h
 · unfold Qg9 at h;have h1:=congrArg Prod.fst (Option.some.inj h);obtain rfl:_=d:=congrArg Prod.snd (Option.some.inj h);exact ⟨by simp [D.refs],40,Ql4 _ _ _ _ h1⟩
 · cases h
def Ql5 (c:Bool) (now:List Sector) (d:Bool) (sure:List Sector) (k:Int) (n:Int) (b:List UInt8):Option (Bool × D RC):=some (Qs now && Qs sure && Qh b.length,.tup (.acons (.acons (.sl (C:=RC) .sector (!Ze now sure k n b) (pNow now sure k n b)) (.acons (.sl (C:=RC) .sector (!Ze now sure k n b) (Vs now sure k n b)) .anil)) (.acons (.int .i64 (bif Ze now sure k n b then 0 else 2)) .anil)))
def Qhb:List (D RC)->Option (Bool × D RC)
 | [.acons (.sl .sector c now) (.acons (.sl .sector d sure) .anil),.int .i64 k,.int .i64 n,.str b]=>Ql5 c now d sure k n b
 | _=>none
noncomputable def Ql6 (c:Bool) (now:List Sector) (d:Bool) (sure:List Sector) (k:Int) (n:Int) (b:List UInt8):=evF s28 Qte 40 48 [.acons (.sl (C:=RC) .sector c now) (.acons (.sl (C:=RC) .sector d sure) .anil),.int .i64 k,.int .i64 n,.str b]
theorem QpL (c:Bool) (now:List Sector) (d:Bool) (sure:List Sector) (k:Int) (n:Int) (b:List UInt8):Ql6 c now d sure k n b=(let Z0:D RC:=D.sl RTy.sector true [];let Z1:DO_:=some (D.tup (D.acons (D.acons Z0 (D.acons Z0 .anil)) (.acons (D.int .i64 2) .anil)));let Z2:Nat:=(0:Nat)+List.length now;let Z3:Nat:=(0:Nat)+List.length sure;let Z4:List Sector:=List.replicate (0:Nat) (Sector.mk (0:Int) []);let Z5:Nat:=List.length (Z4++now);let Z6:Bool:=Nat.beq Z2 Z5;let Z7:Bool:=Z6 && decide ((0:Int) <= k /\ k < (↑Z5:Int));let Z8:List Sector:=List.set (Z4++now) k.toNat (Sector.mk n b);let Z9:Bool:=Nat.beq Z3 (Z4++sure).length;let Z10:D RC:=D.acons (D.sl RTy.sector false (Z4++sure)) .anil;let Z11:D RC:=D.acons (D.int .i64 0) .anil;let Z12:DO_:=none;bif Qs now && Qs sure then bif (bif Qq now sure then (0:Int) else (2:Int)) != (0:Int) then Z1 else bif decide (k < (0:Int)) then Z1 else bif decide ((33:Int) <= k) then Z1 else bif decide (n < (1:Int)) then Z1 else bif decide ((1048575:Int) < n) then Z1 else bif b == Array.toList #[] then Z1 else bif Qh b.length then bif decide ((640:Int) < (↑b.length:Int)) then Z1 else bif Qk Z2 (24:Nat) then bif Qk Z3 (24:Nat) then bif Z7 then bif Z6 then bif Z6 then bif decide (Sector.n (List.getD (Z4++now) k.toNat (Sector.mk (0:Int) [])) < n) then bif Z7 then bif Z6 then bif Nat.beq Z2 Z8.length then bif Z9 then some (D.tup (D.acons (D.acons (D.sl RTy.sector false Z8) Z10) Z11)) else Z12 else Z12 else Z12 else Z12 else bif Z6 then bif Z9 then some (D.tup (D.acons (D.acons (D.sl RTy.sector false (Z4++now)) Z10) Z11)) else Z12 else Z12 else Z12 else Z12 else Z12 else Z12 else Z12 else Z12 else Z12):=by kernel_rfl
theorem QpM (c:Bool) (now:List Sector) (d:Bool) (sure:List Sector) (k:Int) (n:Int) (b:List UInt8) (h:(Qs now && Qs sure && Qh b.length)=true):Ql6 c now d sure k n b=some (.tup (.acons (.acons (.sl (C:=RC) .sector (!Ze now sure k n b) (pNow now sure k n b)) (.acons (.sl (C:=RC) .sector (!Ze now sure k n b) (Vs now sure k n b)) .anil)) (.acons (.int .i64 (bif Ze now sure k n b then 0 else 2)) .anil))):=by
 (rw [QpL];conv=>zeta)
 simp only [Bool.and_eq_true] at h;obtain ⟨⟨hg,hgs⟩,hb⟩:=h;have hgg:(Qs now && Qs sure)=true:=by rw [hg,hgs];rfl
 have no:Ze now sure k n b=false->some (D.tup (.acons (.acons (.sl (C:=RC) .sector true []) (.acons (.sl (C:=RC) .sector true []) .anil)) (.acons (.int .i64 2) .anil)))=some (.tup (.acons (.acons (.sl (C:=RC) .sector (!Ze now sure k n b) (pNow now sure k n b)) (.acons (.sl (C:=RC) .sector (!Ze now sure k n b) (Vs now sure k n b)) .anil)) (.acons (.int .i64 (bif Ze now sure k n b then 0 else 2)) .anil))):=fun e=>by simp only [e,pNow,Vs];rfl
 refine Qa hgg ?_;cases hd:Qq now sure
 · exact Qa rfl (no (Zy fun f=>by rw [hd] at f;cases f.1))
 obtain ⟨l1,l2⟩:=YR hd;refine Qy rfl (QD (fun e=>no (Zy fun f=>by simp only [decide_eq_true_eq] at e;omega)) fun e1=>?_)
 refine (QD (fun e=>no (Zy fun f=>by simp only [decide_eq_true_eq] at e;omega)) fun e2=>?_)
 refine (QD (fun e=>no (Zy fun f=>by simp only [decide_eq_true_eq] at e;omega)) fun e3=>?_)
 have mf:QM ⟨n,b⟩=true->n <= 1048575 /\ b.length <= 640:=fun e=>by simp only [QM,Bool.and_eq_true,decide_eq_true_eq] at e;exact ⟨e.1.1.2,e.1.2⟩
 refine (QD (fun e=>no (Zy fun f=>by have:=mf f.2.2.2.2.2;simp only [decide_eq_true_eq] at e;omega)) fun e4=>?_)
 refine (QD (fun e=>no (Zy fun f=>f.2.2.2.2.1 (by simpa using e))) fun e5=>?_)
 refine Qa hb ?_;refine (QD (fun e=>no (Zy fun f=>by have:=mf f.2.2.2.2.2;simp only [decide_eq_true_eq] at e;omega)) fun e6=>?_)
 simp only [decide_eq_false_iff_not] at e1 e2 e3 e4 e6
 have ok:Ze now sure k n b=true:=by
  have d1:0 < n:=by omega
  simp only [Ze,hd,QM,Bool.true_and,Bool.and_eq_true,decide_eq_true_eq,d1,decide_true,Bool.true_or];exact ⟨⟨⟨⟨by omega,by omega⟩,by omega⟩,by simpa using e5⟩,⟨⟨by omega,by omega⟩,by omega⟩,trivial⟩
 rw [ok];have r0:∀ l:List Sector,List.replicate 0 (⟨0,[]⟩:Sector)++l=l:=fun l=>rfl;have eb:∀ n:Nat,n.beq n=true:=fun n=>by simp
 have s1:Qk now.length 24=true:=by simp [Qk];omega
 have s2:Qk sure.length 24=true:=by simp [Qk];omega
 have dk:decide (0 <= k /\ k < (now.length:Int))=true:=by simp;omega
 simp only [pNow,Vs,ok,cond_true,Bool.not_true,r0,Nat.zero_add,List.length_set,eb,s1,s2,dk,Bool.and_self];refine QD (fun e=>?_) fun e=>?_ <;> simp only [decide_eq_true_eq,decide_eq_false_iff_not] at e
 · have pn:VP now k.toNat n b=now.set k.toNat ⟨n,b⟩:=if_pos e;rw [pn]
 · have pn:VP now k.toNat n b=now:=if_neg e;rw [pn]
noncomputable def Qtf:=Qte.addSpec 48 Qhb
theorem QiQ:Qi Tryz.prog s28 Qtf:=QiP.addEv Qb fun args d h=>by
 unfold Qhb at h
 split at h
 · unfold Ql5 at h;have h1:=congrArg Prod.fst (Option.some.inj h);obtain rfl:_=d:=congrArg Prod.snd (Option.some.inj h);exact ⟨by simp [D.refs],40,QpM _ _ _ _ _ _ _ h1⟩
 · cases h
theorem Ql7 {b:List UInt8} {r:Rec} (h:Zd b=some r):mayB r=true:=by
 unfold Zd at h
 split at h
 · rename_i q;cases h;exact q.2.2.2
 · cases h
theorem Qek:∀ (l:List Qc),l.all fitW=true->YP l.length (l.flatMap Yz)=l
 | [],_=>rfl
 | w::l,h=>by
  simp only [List.all_cons,Bool.and_eq_true] at h;have hw:=h.1;simp only [fitW,Bool.and_eq_true] at hw;simp [YP,Yz,KD hw.1,KD hw.2,Qek l h.2]
theorem Qel {r:Rec} (h:mayB r=true):Zd (Ya r)=some r:=by
 obtain ⟨p,y,l⟩:=r;obtain ⟨hp,hl,hw⟩:=Yi h;have e0:Ya ⟨p,y,l⟩=QG p::QG (p.fdiv 256)::QG ((p.fdiv 256).fdiv 256)::QG (bif y then 1 else 0)::QG l.length::l.flatMap Yz:=by simp [Ya,leB3,leB1]
 have e1:(leVal [QG p,QG (p.fdiv 256),QG ((p.fdiv 256).fdiv 256)]:Int)=p:=J3 3 p (by omega) (by omega)
 have e2:((QG (l.length:Int)).toNat:Int)=l.length:=KD (by rw [Qt];omega)
 have e3:(QG (l.length:Int)).toNat=l.length:=by omega
 have e4:(QG (bif y then 1 else 0)).toNat=bif y then 1 else 0:=by cases y <;> decide
 have e5:((bif y then 1 else 0) == 1)=y:=by cases y <;> rfl
 have e6:(bif y then 1 else 0) <= 1:=by cases y <;> decide
 have e7:(l.flatMap Yz).length=2 * l.length:=Qa1 l Yz 2 QbV;rw [e0,Zd];have t3:∀ (a b c d e:UInt8) (t:List UInt8),(a::b::c::d::e::t).take 3=[a,b,c]:=fun _ _ _ _ _ _=>rfl;have d5:∀ (a b c d e:UInt8) (t:List UInt8),(a::b::c::d::e::t).drop 5=t:=fun _ _ _ _ _ _=>rfl;have g3:∀ (a b c d e:UInt8) (t:List UInt8),(a::b::c::d::e::t).getD 3 0=d:=fun _ _ _ _ _ _=>rfl;have g4:∀ (a b c d e:UInt8) (t:List UInt8),(a::b::c::d::e::t).getD 4 0=e:=fun _ _ _ _ _ _=>rfl;simp only [t3,d5,g3,g4,e1,e3,e4,e5,Qek l hw,h,List.length_cons,e7];rw [if_pos ⟨by omega,e6,by omega,trivial⟩]
theorem Qb5 {r:Rec} (h:mayB r=true):(Ya r).length <= 13:=by
 obtain ⟨p,y,l⟩:=r;obtain ⟨hp,hl,hw⟩:=Yi h;simp only [Ya,List.length_append,Zh,Qa1 l Yz 2 QbV];omega
def frN (b:List UInt8):Int:=((VO b).getD (0,[])).1
def frL (b:List UInt8):List UInt8:=((VO b).getD (0,[])).2
theorem Ql8 {b:List UInt8} {a w:Int} (h1:1 <= w) (h2:w <= 6) (h3:0 <= a) (h4:a+w <= b.length):getP b a w=((leVal ((b.drop a.toNat).take w.toNat):Int),0):=by simp [getP,h1,h2,h3,h4]
theorem QpN {b:List UInt8} {a w:Int} (h1:1 <= w) (h2:w <= 6) (h4:b.length < a+w):getP b a w=(0,50):=by
 have:¬ a+w <= (b.length:Int):=by omega
 simp [getP,h1,h2,this]
theorem JN {n:Int} {l:List UInt8} (h:¬ (1 <= n /\ n <= 1048575 /\ l.length <= 600)):okF n l=false:=by
 cases e:okF n l
 · rfl
 · simp only [okF,Bool.and_eq_true,decide_eq_true_eq] at e;exact absurd ⟨e.1.1,e.1.2,e.2⟩ h
def ofF (s:Sector):Option (List UInt8):=(VO s.b).bind fun p=>if p.1=s.n then some p.2 else none
theorem Qem {n:Int} {l:List UInt8} (h:okF n l=true):ofF ⟨n,ZX n l⟩=some l:=by
 simp [ofF,QfE h]
theorem Qtg (s:Sector):((ofF s).getD []).length <= s.b.length:=by
 unfold ofF;cases h:VO s.b with
 | none=>simp
 | some p =>
  obtain ⟨n,l⟩:=p;have h2:=congrArg List.length (Qpt h).2;rw [Jj] at h2
  by_cases e:n=s.n
  · simp [e];omega
  · simp [e]
end Go.Ev
