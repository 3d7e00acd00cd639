/-
  A part of the proof of a statement of this seat: the model is run over values by content, proved sound; what the functions come to. No condition beyond the given statements. (text 4)
-/
import Derived.Test.YtkoeniljaccaiaaGreatP2
import Derived.KernelRfl
namespace Go.Ev
set_option linter.unusedVariables false
set_option linter.unusedSimpArgs false
section
variable {C:Cdc} {P:Program} {T:Tab C} {Φ:Fns C}
open Pg (Ex)
structure Qdi (C:Cdc) (σ:Type) where
 k:Nat
 canon:σ->Env C
 objs:σ->List (Obj C)
 fin:σ->Ev.X × Env C
 fobjs:σ->List (Obj C)
 Inv:σ->Prop
 μ:σ->Nat
def Qk (k:Nat) (env:Env C) (os:List (Obj C)):Prop:=os.length=k /\ (∀ q ∈ env,∀ r ∈ q.2.refs,r < k) /\ ∀ o ∈ os,∀ r ∈ Obj.refs o,r < k
def Grow (os os':List (Obj C)) (f:Nat->Nat):Prop := ∀ j,j < os.length->f j=j \/ ∃ t own l own' l',os[j]? = some (.vec t own l) /\ os'[j]? = some (.vec t own' l') /\ l.length < l'.length
def Cx.partM (X:Cx) (k:Nat) (f:Nat->Nat):Cx:=⟨X.w,fun j=>if j < k then X.ρ (f j) else none,X.O⟩
theorem Cx.partM_mine {X:Cx} {k:Nat} {f:Nat->Nat} {b o:Nat}:(X.partM k f).mine b o ↔ ∃ j l,j < k /\ X.ρ (f j)=some l /\ l.owns b o:=by
 constructor
 · rintro ⟨j,l,h1,h2⟩
   simp only [Cx.partM] at h1
   split at h1
   · exact ⟨j,l,by assumption,h1,h2⟩
   · cases h1
 · rintro ⟨j,l,h0,h1,h2⟩
   exact ⟨j,l,by simp [Cx.partM,h0,h1],h2⟩
theorem Cx.partM_free {X:Cx} {k:Nat} {f:Nat->Nat} {b o:Nat} (h:X.free b o):(X.partM k f).free b o :=
 ⟨h.1,fun hm=>by obtain ⟨j,l,_,hl,ho⟩:=Cx.partM_mine.1 hm;exact h.2 ⟨f j,l,hl,ho⟩⟩
theorem Part.ctxM (L:Laws T) {X:Cx} {h:Heap C} {nx:Nat} {lim:Lim} (g:G T X h nx lim) {os:List (Obj C)} {f:Nat->Nat} (p:Part h os f) (top:Nat):G T (X.partM os.length f) (hpOf 0 os) os.length (lim0 top):=by
 obtain ⟨fi,hfi⟩:=Qdh p.inj;have hX:Kps X (X.partM os.length f):=⟨fun b o v h1 h2=>⟨h1,Cx.partM_free h2⟩⟩;refine ⟨?_,?_,?_,?_,?_,?_,?_,?_,?_,Nat.zero_le _,?_⟩
 · intro id t d ho;rw [Qr] at ho;have hlt:id < os.length:=(List.getElem?_eq_some_iff.1 ho).1;obtain ⟨b,c,h1,h2,h3,h4⟩:=g.var (f id) t (d.ren f) (p.at' id _ ho);have hrefs:∀ r ∈ d.refs,r < os.length:=p.refs _ (List.mem_of_getElem? ho);refine ⟨b,c,by simp [Cx.partM,hlt,h1],h2,?_,by rw [JG] at h4;exact h4⟩
   have h5:=h3.ren (X':=X.partM os.length f) fi L.encOK hX (fun r hr=>by
    rw [D.ren_refs,List.mem_map] at hr;obtain ⟨r0,hr0,rfl⟩:=hr;have:=hrefs r0 hr0;simp only [hfi r0 this,Cx.partM,this,if_true];exact .refl _)
   rwa [D.ren_ren f fi d (fun r hr=>hfi r (hrefs r hr))] at h5
 · intro id t own l ho;rw [Qr] at ho;have hlt:id < os.length:=(List.getElem?_eq_some_iff.1 ho).1;obtain ⟨v,b,lo,hi,h1,h2⟩:=g.vec (f id) t own l (p.at' id _ ho);refine ⟨v,b,lo,hi,by simp [Cx.partM,hlt,h1],?_⟩
   exact h2.move L hX.cell (fun _=>rfl) (L.posE t)
 · intro id ck cv l ho;rw [Qr] at ho;have hlt:id < os.length:=(List.getElem?_eq_some_iff.1 ho).1;obtain ⟨b,es,k,h1,h2,h3⟩:=g.map (f id) ck cv l (p.at' id _ ho);exact ⟨b,es,k,by simp [Cx.partM,hlt,h1],h2,h3.move L hX.cell⟩
 · intro id cc ho;rw [Qr] at ho;have hlt:id < os.length:=(List.getElem?_eq_some_iff.1 ho).1;obtain ⟨s,h1,h2⟩:=g.ctl (f id) cc (p.at' id _ ho);exact ⟨s,by simp [Cx.partM,hlt,h1],h2.move L hX.cell fun _ _=>rfl⟩
 · intro id l hr;simp only [Cx.partM] at hr
   split at hr
   · rename_i hlt;rw [Qr];simp [hlt]
   · cases hr
 · intro id o ho;rw [Qr] at ho;have hlt:id < os.length:=(List.getElem?_eq_some_iff.1 ho).1;exact ⟨⟨.inl hlt,fun h=>h⟩,fun r hr=>⟨.inl (p.refs _ (List.mem_of_getElem? ho) r hr),fun h=>h⟩⟩
 · intro i j l l' b o o' h1 h2 h3 h4;simp only [Cx.partM] at h1 h2
   split at h1
   · split at h2
     · exact p.inj i j (by assumption) (by assumption) (g.apart _ _ _ _ _ _ _ h1 h2 h3 h4)
     · cases h2
   · cases h1
 · intro b o hm;obtain ⟨j,l,hj,hl,ho⟩:=Cx.partM_mine.1 hm;exact g.outer b o ⟨_,l,hl,ho⟩
 · intro b o ho;exact g.outs b o ho
 · exact fun q hq=>⟨(g.pre q hq).1,fun o hm=>by
    obtain ⟨j,l,hj,hl,ho⟩:=Cx.partM_mine.1 hm;exact (g.pre q hq).2 o ⟨_,l,hl,ho⟩⟩
theorem Qn.partM (L:Laws T) {X:Cx} {nx:Nat} {lim:Lim} {env env0:Env C} {tmps:Array Value} {k top:Nat} {f:Nat->Nat} (he:Qn T X nx lim env tmps) (hinj:∀ i j,i < k->j < k->f i=f j->i=j)
 (hs:∀ q ∈ env0,eget env q.1=q.2.ren f) (hr:∀ q ∈ env0,∀ r ∈ q.2.refs,r < k):Qn T (X.partM k f) k (lim0 top) env0 tmps:=by
 obtain ⟨fi,hfi⟩:=Qdh hinj;intro t;rcases eget_mem env0 t with h | h
 · rw [h];exact RO.mk (RV.top _ _ _) rfl
 · have hrt:∀ r ∈ (eget env0 t).refs,r < k:=hr _ h;refine ⟨?_,fun r hh=>⟨.inl (hrt r hh),fun h=>h⟩⟩;have h1:=(he t).1;have h2:=hs _ h;simp only at h2;rw [h2] at h1
   have h3:=RV.ren (X:=X) (X':=X.partM k f) fi L.encOK (h:=h1) ⟨fun b o v a1 a2=>⟨a1,Cx.partM_free a2⟩⟩ (fun r hh=>by
    rw [D.ren_refs,List.mem_map] at hh;obtain ⟨r0,hr0,rfl⟩:=hh;have:=hrt r0 hr0;simp only [hfi r0 this,Cx.partM,this,if_true];exact .refl _)
   rwa [D.ren_ren f fi _ (fun r hh=>hfi r (hrt r hh))] at h3
theorem Ye.lenV {X:Cx} {t:C.Ty} {own:Bool} {l:List (C.A t)} {v:Value} {b lo hi:Nat} (h:Ye T X t own l v b lo hi):Ev.lenV v=l.length:=by
 rcases h with ⟨⟨a,rfl,_⟩,rfl,_⟩ | ⟨off,cp,rfl,_⟩ <;> rfl
theorem Part.stepM {X X1:Cx} {h':Heap C} {nx':Nat} {os os':List (Obj C)} {f:Nat->Nat} (g:G T X (hpOf 0 os) os.length (lim0 os.length)) (g1:G T X1 h' nx' (lim0 nx')) (s:Step X os.length (lim0 nx') X1) (p:Part h' os' f) (hlen:os'.length=os.length) (hg:Grow os os' f) :
 Step X os.length (lim0 os.length) (X1.partM os.length f):=by
 refine ⟨s.O,s.os,s.tape,s.output,s.size,fun id ho=>?_,fun b o hb hm=>?_,s.cell,s.block,s.frz⟩
 · by_cases hid:id < os.length
   · simp only [Cx.partM,hid,if_true];rcases hg id hid with hf | ⟨t,own,l,own',l',h1,h2,h3⟩
     · rw [hf];exact s.ρ id ⟨.inl hid,fun h=>h⟩
     · obtain ⟨v,b,lo,hi,a1,a2⟩:=g.vec id t own l (by rw [Qr];exact h1)
       obtain ⟨v',b',lo',hi',c1,c2⟩:=g1.vec (f id) t own' l' (p.at' id _ h2);rw [a1,c1];have e1:=a2.lenV;have e2:=c2.lenV;exact ⟨rfl,by omega,fun h=>by omega⟩
   · have:(X1.partM os.length f).ρ id=none:=by simp [Cx.partM,hid]
     rw [this];cases X.ρ id <;> simp [Qe]
 · obtain ⟨j,l,hj,hl,ho⟩:=Cx.partM_mine.1 hm;exact s.mine b o hb ⟨f j,l,hl,ho⟩
def QjP (T:Tab C) (Φ:Fns C) (g:FuncId) (b:Code) {σ:Type} (S:Qdi C σ):Prop :=
 ∀ s,S.Inv s->Qk S.k (S.canon s) (S.objs s) /\ Qk S.k (S.fin s).2 (S.fobjs s) /\ ∃ n x env' h' nx' tr,Ex (0,0) (evC T Φ n g b (S.canon s)) (hpOf 0 (S.objs s)) S.k (x,env') h' nx' tr /\
  ((x=.normal /\ ∃ s',S.Inv s' /\ S.μ s' < S.μ s /\ S.fin s'=S.fin s /\ S.fobjs s'=S.fobjs s /\ Sub env' (S.canon s') /\ ∀ j,j < S.k->h'.get j=(S.objs s')[j]?) \/
   (x=.normal /\ ∃ s' f,S.Inv s' /\ S.μ s' < S.μ s /\ S.fin s'=S.fin s /\ S.fobjs s'=S.fobjs s /\ (∀ p ∈ S.canon s',eget env' p.1=p.2.ren f) /\ Part h' (S.objs s') f /\ Grow (S.objs s) (S.objs s') f) \/
   (x ≠ .normal /\ x=(S.fin s).1 /\ Sub env' (S.fin s).2 /\ ∀ j,j < S.k->h'.get j=(S.fobjs s)[j]?))
theorem G.relim2 {X:Cx} {h:Heap C} {nx nx' k:Nat} {lim lim':Lim} (g:G T X h nx lim) (hk:∀ id o,h.get id=some o->id < k /\ ∀ r ∈ o.refs,r < k) (hn:k <= nx') (hl:lim'.lo <= nx') (hH:∀ id,¬ lim'.H id):G T X h nx' lim' :=
 ⟨g.var,g.vec,g.map,g.ctl,g.dom,fun id o ho=>⟨⟨.inl (by have:=(hk id o ho).1;omega),hH id⟩,fun r hr=>⟨.inl (by have:=(hk id o ho).2 r hr;omega),hH r⟩⟩,g.apart,g.outer,g.outs,hl,g.pre⟩
theorem YR {os:List (Obj C)} {k:Nat} (hl:os.length=k) (hr:∀ o ∈ os,∀ r ∈ Obj.refs o,r < k):∀ id o,(hpOf 0 os).get id=some o->id < k /\ ∀ r ∈ o.refs,r < k:=by
 intro id o ho;rw [Qr] at ho;exact ⟨by rw [<- hl];exact (List.getElem?_eq_some_iff.1 ho).1,hr o (List.mem_of_getElem? ho)⟩
theorem Qbt (K:QN P T) (F:Qh P T Φ) {g:FuncId} {fn:Func} {body b:Code} {σ:Type} {S:Qdi C σ} (hr:QjP T Φ g b S) (hf:Φ.fn g=some fn) (hb:fn.body=some body) (hcb:ZE fn.ntmps b=true) (hl:∀ b' ∈ QJ b,b' ∈ QJ body) {B:Nat->Bool} (hB:QaF B b)
 {Q:Exit->Act->World->Prop}:∀ (m:Nat) (s:σ) (X:Cx) (a:Act),S.Inv s->S.μ s < m->G T X (hpOf 0 (S.objs s)) S.k (lim0 S.k)->Qn T X S.k (lim0 S.k) (S.canon s) a.tmps->fn.ntmps <= a.tmps.size ->
  (∀ a' X',G T X' (hpOf 0 (S.fobjs s)) S.k (lim0 S.k)->Step X S.k (lim0 S.k) X'->Qn T X' S.k (lim0 S.k) (S.fin s).2 a'.tmps->a'.tmps.size=a.tmps.size->ZJ X X' a'.defers a.defers->Kp B a.tmps a'.tmps->Q (Qcg (S.fin s).1) a' X'.w)->Code.rounds P b Q m a X.w:=by
 intro m
 induction m with
 | zero=>intro s X a _ hm;omega
 | succ m ih =>
  intro s X a hI hm hg he hsz hk;obtain ⟨hr1,hr2,n,x,env',h',nx',tr,hx,hcase⟩:=hr s hI;rw [rounds_succ];have hle:S.k <= nx':=hx.le;have g0:G T X (hpOf 0 (S.objs s)) S.k (lim0 nx'):=hg.relim2 (YR hr1.1 hr1.2.2) (Nat.le_refl _) (Nat.zero_le _) (fun _ h=>h)
  have e0:Qn T X S.k (lim0 nx') (S.canon s) a.tmps:=fun t=>⟨(he t).1,fun r hh=>⟨.inl (by
   rcases eget_mem (S.canon s) t with h | h
   · rw [h] at hh;simp [D.refs] at hh
   · exact hr1.2.1 _ h r hh),fun h=>h⟩⟩
  refine (wpIn_wide (n:=0)).1 ((Qck K F n).1 none 0 g fn.ntmps b (.inr ⟨rfl,fn,body,hf,rfl,hb,hl⟩) hcb B hB X (hpOf 0 (S.objs s)) S.k (lim0 nx') (0,0) (S.canon s) x env' h' nx' tr a _ g0 e0 (Nat.le_refl _) hsz hx ?_);intro a1 X1 g1 s1 e1 hs1 hd1 kp1
  -- the objects that are kept
  have key:∀ (os:List (Obj C)) (env0:Env C),Qk S.k env0 os->(∀ j,j < S.k->h'.get j=os[j]?)->Sub env' env0 ->
   ∃ X2,X2.w=X1.w /\ G T X2 (hpOf 0 os) S.k (lim0 S.k) /\ Step X S.k (lim0 S.k) X2 /\ Qn T X2 S.k (lim0 S.k) env0 a1.tmps /\ ZJ X X2 a1.defers a.defers:=by
   intro os env0 ⟨q1,q2,q3⟩ hget hsub
   obtain ⟨X2,w2,g2,s2,hρ⟩:=G.drop K.base g1 (h':=hpOf 0 os) (fun id=>by
    rw [Qr]
    by_cases hid:id < S.k
    · exact .inl (hget id hid).symm
    · exact .inr (List.getElem?_eq_none (by omega)))
   have hnone:∀ id,¬ id < S.k->X2.ρ id=none:=fun id hid=>by
    cases hq:X2.ρ id with
    | none=>rfl
    | some l =>
     have:=g2.dom id l hq;rw [Qr,List.getElem?_eq_none (by omega)] at this
     cases this
   have s3:=s1.trans s2 hle;refine ⟨X2,w2,g2.relim2 (YR q1 q3) (Nat.le_refl _) (Nat.zero_le _) (fun _ h=>h),⟨s3.O,s3.os,s3.tape,s3.output,s3.size,fun id ho=>?_,s3.mine,s3.cell,s3.block,s3.frz⟩,fun t=>?_,hd1.sub w2 s2.mine⟩
   · by_cases hid:id < S.k
     · exact s3.ρ id ⟨.inl hid,fun h=>h⟩
     · rw [hnone id hid];cases X.ρ id <;> simp [Qe]
   · rcases eget_mem env0 t with h | h
     · rw [h];exact RO.mk (RV.top _ _ _) rfl
     · have hrt:∀ r ∈ (eget env0 t).refs,r < S.k:=q2 _ h;have h2:=hsub _ h;simp only at h2;have h3:=(e1 t).1;rw [h2] at h3;exact ⟨h3.mono T K.base.encOK s2.keeps fun r hh=>s2.ρ r ⟨.inl (by have:=hrt r hh;omega),fun h=>h⟩,fun r hh=>⟨.inl (hrt r hh),fun h=>h⟩⟩
  rcases hcase with ⟨rfl,s',hI',hmu,hfin,hfo,hsub,hget⟩ | ⟨rfl,s',f,hI',hmu,hfin,hfo,hsub,hpart,hgrow⟩ | ⟨hne,hxf,hsub,hget⟩
  · obtain ⟨hr1',_,_⟩:=hr s' hI';obtain ⟨X2,w2,g2,s2,e2,hd2⟩:=key _ _ hr1' hget hsub;rw [<- w2];refine ih s' X2 a1 hI' (by omega) g2 e2 (by omega) fun a3 X3 g3 s3 e3 hs3 hd3 kp3=>?_
    rw [hfin] at e3 ⊢;rw [hfo] at g3;exact hk a3 X3 g3 (s2.trans s3 (Nat.le_refl _)) e3 (by omega) (hd2.trans s2 s3 hd3) (kp1.trans kp3)
  · obtain ⟨hr1',_,_⟩:=hr s' hI';have hlen':(S.objs s').length=(S.objs s).length:=by rw [hr1'.1,hr1.1]
    have g2:=Part.ctxM K.base g1 hpart (S.objs s').length;have e2:Qn T (X1.partM (S.objs s').length f) (S.objs s').length (lim0 (S.objs s').length) (S.canon s') a1.tmps:=Qn.partM K.base e1 hpart.inj hsub (by rw [hr1'.1];exact hr1'.2.1)
    have s2:=Part.stepM (by rw [hr1.1];exact hg) g1 (by rw [hr1.1];exact s1) hpart hlen' hgrow
    rw [hr1'.1] at g2 e2;rw [hr1.1] at s2;refine ih s' (X1.partM S.k f) a1 hI' (by omega) g2 e2 (by omega) fun a3 X3 g3 s3 e3 hs3 hd3 kp3=>?_
    rw [hfin] at e3 ⊢;rw [hfo] at g3;exact hk a3 X3 g3 (s2.trans s3 (Nat.le_refl _)) e3 (by omega) ((hd1.sub (X2:=X1.partM S.k f) rfl (fun b o _ hm=>by obtain ⟨j,q,_,hl,ho⟩:=Cx.partM_mine.1 hm;exact ⟨f j,q,hl,ho⟩)).trans s2 s3 hd3) (kp1.trans kp3)
  · obtain ⟨X2,w2,g2,s2,e2,hd2⟩:=key _ _ hr2 hget hsub;have hfinal:Q (Qcg (S.fin s).1) a1 X2.w:=hk a1 X2 g2 s2 e2 hs1 hd2 kp1;rw [w2,<- hxf] at hfinal;cases x with
    | normal=>exact (hne rfl).elim
    | exit id=>exact hfinal
    | ret=>exact hfinal
theorem Qdj {X:Cx} {t:C.Ty} {l:List (C.A t)} {v:Value} (h:R T X false (.sl t true l) [v]):∃ a,v=.slice a l.length l.length /\ ∃ b lo,Ye T X t l.isEmpty l v b lo lo:=by
 have key:∀ a:Option Addr,∃ b lo,Ye T X t true [] (.slice a 0 0) b lo lo:=by
  intro a
  by_cases hq:∃ b off,a=some ⟨b,off,none⟩
  · obtain ⟨b,off,rfl⟩:=hq;exact ⟨b,off,.inr ⟨off,0,rfl,Nat.le_refl _,by simp,.inl ⟨rfl,rfl,.inl rfl⟩⟩⟩
  · exact ⟨0,0,.inl ⟨⟨a,rfl,fun b off e=>hq ⟨b,off,e⟩⟩,rfl,Nat.le_refl _⟩⟩
 cases h with
 | sl0 _ _ a=>exact ⟨a,rfl,key a⟩
 | @sl _ _ _ b off _ _ ha hr hc hcap =>
  have:=hcap rfl;subst this;cases l with
  | nil=>exact ⟨_,rfl,key _⟩
  | cons x l=>exact ⟨_,rfl,b,off+(x::l).length * T.size (T.ety t),.inr ⟨off,(x::l).length,rfl,Nat.le_refl _,rfl,.inr ⟨rfl,rfl,⟨_,ha,hr⟩,.inl rfl⟩⟩⟩
theorem Yn (K:QN P T) {X:Cx} {h:Heap C} {nx t:Nat} {lim:Lim} {env:Env C} {tmps:Array Value} {ty:C.Ty} {l:List (C.A ty)} (g:G T X h nx lim) (he:Qn T X nx lim env tmps) (hn:nx < lim.top) (hs:eget env t=.sl ty true l) :
 ∃ X',X'.w=X.w /\ G T X' ((nx,.vec ty l.isEmpty l)::h) (nx+1) lim /\ Step X nx lim X' /\ Qn T X' (nx+1) lim ((t,.vs nx l.length)::env) tmps:=by
 have h1:=(he t).1;rw [hs] at h1;have h2:=h1.one rfl;obtain ⟨a,hv,b,lo,hV⟩:=Qdj h2;obtain ⟨X',w',ρ',g',s'⟩:=G.newRef K g hn (Nat.le_refl _) hV;refine ⟨X',w',g',s',fun u=>?_⟩;rw [Qu]
 by_cases hu:u=t
 · subst hu;simp only [if_true];refine ⟨.inr ⟨rfl,?_⟩,by simpa [D.refs] using g.new hn⟩
   rw [hv];refine .vs fun v e b' lo' hi' hq=>?_;rw [ρ'] at hq;simp only [Option.some.injEq,Loc.vec.injEq] at hq;obtain ⟨rfl,_⟩:=hq;rw [hv];exact ⟨by simp [lenV],fun _=>rfl⟩
 · simp only [hu,if_false];exact (he u).step K.base s' (by omega)
def ZL (T:Tab C):TypeId->List Nat->Bool
 | _,[]=>true
 | t,i::p=>match T.ty t with
  | .struct _ fs=>Nat.blt i fs.length && ZL T (fs.getD i 0) p
  | .arr n e _=>Nat.blt i n && ZL T e p
  | _=>false
theorem VC:∀ (p:List Nat) (t:TypeId),ZL T t p=true->QQ T t p:=by
 intro p
 induction p with
 | nil=>intro t _;trivial
 | cons i p ih =>
  intro t h;simp only [ZL] at h;simp only [QQ];cases ht:T.ty t <;> simp only [ht,Bool.and_eq_true,Bool.false_eq_true] at h ⊢
  · exact ⟨by simpa [Nat.blt_eq] using h.1,ih _ h.2⟩
  · exact ⟨by simpa [Nat.blt_eq] using h.1,ih _ h.2⟩
theorem Je (K:QN P T) {X:Cx} {h:Heap C} {nx id:Nat} {lim:Lim} {env:Env C} {tmps:Array Value} {ty:C.Ty} {l:List (C.A ty)} {u t':TypeId} {d d':D C} {p:List Nat} (g:G T X h nx lim) (he:Qn T X nx lim env tmps) (hn:nx < lim.top)
 (ho:h.get id=some (.var u d)) (hp:ZL T u p=true) (hg:getPath T d p=some (.sl ty true l)) (hs:Ev.setPath T d p (.vs nx l.length)=some d') (ht:tyAt T u p=some t') (hf:fit T (.vs nx l.length:D C) (.inl t')=true) :
 ∃ X',X'.w=X.w /\ G T X' (Heap.put id (.var u d') ((nx,.vec ty l.isEmpty l)::h)) (nx+1) lim /\ Step X nx lim X' /\ Qn T X' (nx+1) lim env tmps:=by
 obtain ⟨b0,c0,h1,h2,h3,h4⟩:=g.var id u d ho;obtain ⟨c1,c2,c3,hc,hl,hr,_⟩:=h3.path K.base p (VC p u hp) h4 hg;have hne:id ≠ nx:=fun e=>by have:=(g.nums id _ ho).1.1;omega
 have hone:∃ v,c2=[v]:=by
  cases hr with
  | sl0=>exact ⟨_,rfl⟩
  | sl=>exact ⟨_,rfl⟩
 obtain ⟨v,rfl⟩:=hone;obtain ⟨a,hv,b,lo,hV⟩:=Qdj hr;obtain ⟨X',w',ρ',g',s'⟩:=G.newRef K g hn (Nat.le_refl _) hV
 have hvs:R T X' false (.vs nx l.length) [v]:=by
  rw [hv];refine .vs fun v e b' lo' hi' hq=>?_;rw [ρ'] at hq;simp only [Option.some.injEq,Loc.vec.injEq] at hq;obtain ⟨rfl,_⟩:=hq;rw [hv];exact ⟨by simp [lenV],fun _=>rfl⟩
 have hrefs:∀ r ∈ d.refs,old nx lim r:=(g.nums id _ ho).2;have ho':Heap.get id ((nx,.vec ty l.isEmpty l)::h)=some (.var u d):=by rw [Qm];simp [hne,ho]
 obtain ⟨b1,c1',e1,e2,e3,e4⟩:=g'.var id u d ho';refine ⟨X',w',?_,s',fun t=>(he t).step K.base s' (by omega)⟩
 -- the object is seen otherwise;its cells are as they were
 have hs2:(Heap.get id ((nx,.vec ty l.isEmpty l)::h)).isSome=true:=by rw [ho'];rfl
 obtain ⟨k1,k2,k3,q1,q2,q3,q4,q5⟩:=e3.setPath K.base p (VC p u hp) e4 hs hvs ht hf;obtain ⟨m1,m2,m3,n1,n2,n3,_⟩:=e3.path K.base p (VC p u hp) e4 hg
 have hm2:m2.length=1:=by
  cases n3 with
  | sl0=>rfl
  | sl=>rfl
 have hcc:c1'.toList=c0.toList:=by
  have hw:X'.w.heap[b1]? = X.w.heap[b0]? := by
   have:X'.ρ id=X.ρ id \/ True:=.inr trivial;rw [w'];have hρ:Qe (X.ρ id) (X'.ρ id):=s'.ρ id (g.nums id _ ho).1;rw [h1,e1] at hρ;simp only [Qe,Loc.var.injEq] at hρ;rw [hρ.1]
  rw [e2,h2] at hw;simp only [Option.some.injEq,Obj.cells.injEq] at hw;rw [hw.1]
 have heq:k1++[v]++k3=c1'.toList:=by
  have a1:k1=c1:=by
   have:(k1++k2++k3).take (offAt T u p)=(c1++[v]++c3).take (offAt T u p):=by rw [<- q1,<- hc,hcc]
   rw [List.append_assoc,List.append_assoc,List.take_append_of_le_length (by omega),List.take_append_of_le_length (by omega),List.take_of_length_le (by omega),List.take_of_length_le (by omega)] at this
   exact this
  have a2:k2++k3=[v]++c3:=by
   have:k1++(k2++k3)=c1++([v]++c3):=by rw [<- List.append_assoc,<- List.append_assoc,<- q1,<- hc,hcc]
   rw [a1] at this;exact List.append_cancel_left this
  have a3:k3=c3:=by
   simp only [List.length_singleton] at q3;obtain ⟨y,rfl⟩:=List.length_eq_one_iff.1 q3;simp at a2;exact a2.2
  rw [a1,a3,hcc,hc]
 rw [heq] at q4;refine ⟨?_,?_,?_,?_,?_,?_,g'.apart,g'.outer,g'.outs,g'.low,g'.pre⟩
 · intro j t e hj;rw [Qj hs2] at hj
   by_cases hji:j=id
   · simp only [hji,if_true,Option.some.injEq,Ev.Obj.var.injEq] at hj;obtain ⟨rfl,rfl⟩:=hj;exact ⟨b1,c1',by rw [hji];exact e1,e2,q4,q5⟩
   · simp only [hji,if_false] at hj;exact g'.var j t e hj
 · intro j t own l hj;rw [Qj hs2] at hj
   by_cases hji:j=id
   · simp [hji] at hj
   · simp only [hji,if_false] at hj;exact g'.vec j t own l hj
 · intro j ck cv l hj;rw [Qj hs2] at hj
   by_cases hji:j=id
   · simp [hji] at hj
   · simp only [hji,if_false] at hj;exact g'.map j ck cv l hj
 · intro j cc hj;rw [Qj hs2] at hj
   by_cases hji:j=id
   · simp [hji] at hj
   · simp only [hji,if_false] at hj;exact g'.ctl j cc hj
 · intro j l hj;rw [Qj hs2]
   by_cases hji:j=id
   · simp [hji]
   · simp only [hji,if_false];exact g'.dom j l hj
 · intro j o hj;rw [Qj hs2] at hj
   by_cases hji:j=id
   · simp only [hji,if_true,Option.some.injEq] at hj;subst hj;refine ⟨by rw [hji];exact (g'.nums id _ ho').1,fun r hr=>?_⟩
     rcases refs_setPath K.base p hs r hr with h5 | h5
     · exact (hrefs r h5).mono (by omega)
     · simp only [D.refs,List.mem_singleton] at h5;rw [h5];exact g.new hn
   · simp only [hji,if_false] at hj;exact g'.nums j o hj
inductive Fnd where
 | slot (t i:Nat)
 | path (j:Nat) (p:List Nat)
 | lst (t:Nat)
def Qaa {α:Type} (T:Tab C):List Fnd->Env C->List Nat->(Env C->List Nat->Pg C α)->Pg C α
 | [],env,ids,k=>k env ids
 | .slot t i::r,env,ids,k=>match eget env t with
  | .sl ty true []=>.nw (.vec ty true []) fun id=>Qaa T r ((t,.vs id 0)::env) (ids++[id]) k
  | .sl ty true (x::l)=>.nw (.vec ty false (x::l)) fun id=>Qaa T r ((t,.vs id (x::l).length)::env) (ids++[id]) k
  | d=>match d.refs[i]? with
   | some id=>Qaa T r env (ids++[id]) k
   | none=>.fail
 | .lst t::r,env,ids,k=>match eget env t with
  | .sl ty true l=>.nw (.vec ty l.isEmpty l) fun id=>Qaa T r ((t,.vs id l.length)::env) (ids++[id]) k
  | _=>.fail
 | .path j p::r,env,ids,k=>match ids[j]? with
  | none=>.fail
  | some idj=>.rd idj fun
   | .var u d=>match getPath T d p with
    | some (.sl ty true [])=>match tyAt T u p with
     | some t'=>bif ZL T u p && fit T (.vs 0 0:D C) (.inl t') then .nw (.vec ty true []) fun id=>match Ev.setPath T d p (.vs id 0) with
      | some d'=>.wr idj (.var u d') (Qaa T r env (ids++[id]) k)
      | none=>.fail
      else .fail
     | none=>.fail
    | some (.sl ty true (x::l))=>match tyAt T u p with
     | some t'=>bif ZL T u p && fit T (.vs 0 0:D C) (.inl t') then .nw (.vec ty false (x::l)) fun id=>match Ev.setPath T d p (.vs id (x::l).length) with
      | some d'=>.wr idj (.var u d') (Qaa T r env (ids++[id]) k)
      | none=>.fail
      else .fail
     | none=>.fail
    | some x=>match x.refs with
     | id::_=>Qaa T r env (ids++[id]) k
     | []=>.fail
    | none=>.fail
   | _=>.fail
theorem Qcn (K:QN P T) {α:Type} {e:Pg.Lv} {a:α} {h':Heap C} {nx':Nat} {lim:Lim} (hlim:nx' <= lim.top) {k:Env C->List Nat->Pg C α} {tmps:Array Value}:∀ (l:List Fnd) (X:Cx) (h:Heap C) (nx:Nat) (tr:Tr) (env:Env C) (ids:List Nat),
 G T X h nx lim->Qn T X nx lim env tmps->Ex e (Qaa T l env ids k) h nx a h' nx' tr ->
 ∃ X1 h1 nx1 env1 ids1 tr1,X1.w=X.w /\ G T X1 h1 nx1 lim /\ Step X nx lim X1 /\ nx <= nx1 /\ Qn T X1 nx1 lim env1 tmps /\ Ex e (k env1 ids1) h1 nx1 a h' nx' tr1:=by
 intro l
 induction l with
 | nil=>intro X h nx tr env ids g he hx;exact ⟨X,h,nx,env,ids,tr,rfl,g,.refl _ _ _,Nat.le_refl _,he,hx⟩
 | cons f l ih =>
  intro X h nx tr env ids g he hx;cases f with
  | slot t i =>
   simp only [Qaa] at hx
   split at hx
   · rename_i ty hq;obtain ⟨t',hx,_⟩:=Ex.nw hx;have hle:=hx.le;obtain ⟨X1,w1,g1,s1,e1⟩:=Yn K g he (by omega) hq
     obtain ⟨X2,h2,n2,env2,ids2,tr2,w2,g2,s2,hn2,e2,hx2⟩:=ih X1 _ _ _ _ _ g1 e1 hx;exact ⟨X2,h2,n2,env2,ids2,tr2,by rw [w2,w1],g2,s1.trans s2 (by omega),by omega,e2,hx2⟩
   · rename_i ty x l0 hq;obtain ⟨t',hx,_⟩:=Ex.nw hx;have hle:=hx.le;obtain ⟨X1,w1,g1,s1,e1⟩:=Yn K g he (by omega) hq
     obtain ⟨X2,h2,n2,env2,ids2,tr2,w2,g2,s2,hn2,e2,hx2⟩:=ih X1 _ _ _ _ _ g1 e1 hx;exact ⟨X2,h2,n2,env2,ids2,tr2,by rw [w2,w1],g2,s1.trans s2 (by omega),by omega,e2,hx2⟩
   · split at hx
     · exact ih X h nx tr env _ g he hx
     · exact (Ex.fail hx).elim
  | lst t =>
   simp only [Qaa] at hx
   split at hx
   · rename_i ty l0 hq;obtain ⟨t',hx,_⟩:=Ex.nw hx;have hle:=hx.le;obtain ⟨X1,w1,g1,s1,e1⟩:=Yn K g he (by omega) hq
     obtain ⟨X2,h2,n2,env2,ids2,tr2,w2,g2,s2,hn2,e2,hx2⟩:=ih X1 _ _ _ _ _ g1 e1 hx;exact ⟨X2,h2,n2,env2,ids2,tr2,by rw [w2,w1],g2,s1.trans s2 (by omega),by omega,e2,hx2⟩
   · exact (Ex.fail hx).elim
  | path j p =>
   simp only [Qaa] at hx
   split at hx
   · exact (Ex.fail hx).elim
   · rename_i idj hj;obtain ⟨o,t',ho,hx,_⟩:=Ex.rd hx;cases o with
     | vec _ _ _=>exact (Ex.fail hx).elim
     | map _ _ _=>exact (Ex.fail hx).elim
     | ctl _=>exact (Ex.fail hx).elim
     | var u d =>
      simp only at hx
      split at hx
      · rename_i ty hq
        split at hx
        · rename_i t' ht;cases hb:ZL T u p && fit T (.vs 0 0:D C) (.inl t') with
          | false=>rw [hb] at hx;exact (Ex.fail hx).elim
          | true =>
           rw [hb] at hx;simp only [cond_true] at hx;simp only [Bool.and_eq_true] at hb;obtain ⟨t1,hx,_⟩:=Ex.nw hx
           split at hx
           · rename_i d' hs;obtain ⟨o',t2,ho',hx,_⟩:=Ex.wr hx;have hle:=hx.le;obtain ⟨X1,w1,g1,s1,e1⟩:=Je K g he (by omega) ho hb.1 hq hs ht (by simpa [fit] using hb.2)
             obtain ⟨X2,h2,n2,env2,ids2,tr2,w2,g2,s2,hn2,e2,hx2⟩:=ih X1 _ _ _ _ _ g1 e1 hx;exact ⟨X2,h2,n2,env2,ids2,tr2,by rw [w2,w1],g2,s1.trans s2 (by omega),by omega,e2,hx2⟩
           · exact (Ex.fail hx).elim
        · exact (Ex.fail hx).elim
      · rename_i ty x l0 hq
        split at hx
        · rename_i t' ht;cases hb:ZL T u p && fit T (.vs 0 0:D C) (.inl t') with
          | false=>rw [hb] at hx;exact (Ex.fail hx).elim
          | true =>
           rw [hb] at hx;simp only [cond_true] at hx;simp only [Bool.and_eq_true] at hb;obtain ⟨t1,hx,_⟩:=Ex.nw hx
           split at hx
           · rename_i d' hs;obtain ⟨o',t2,ho',hx,_⟩:=Ex.wr hx;have hle:=hx.le;obtain ⟨X1,w1,g1,s1,e1⟩:=Je K g he (by omega) ho hb.1 hq hs ht (by simpa [fit] using hb.2)
             obtain ⟨X2,h2,n2,env2,ids2,tr2,w2,g2,s2,hn2,e2,hx2⟩:=ih X1 _ _ _ _ _ g1 e1 hx;exact ⟨X2,h2,n2,env2,ids2,tr2,by rw [w2,w1],g2,s1.trans s2 (by omega),by omega,e2,hx2⟩
           · exact (Ex.fail hx).elim
        · exact (Ex.fail hx).elim
      · split at hx
        · exact ih X h nx _ env _ g he hx
        · exact (Ex.fail hx).elim
      · exact (Ex.fail hx).elim
def Qog {α:Type}:List Nat->(List (Obj C)->Pg C α)->Pg C α
 | [],k=>k []
 | id::r,k=>.rd id fun o=>Qog r fun os=>k (o::os)
theorem JU {α:Type} {e:Pg.Lv} {a:α} {h h':Heap C} {nx nx':Nat}:∀ (ids:List Nat) (k:List (Obj C)->Pg C α) (tr:Tr),Ex e (Qog ids k) h nx a h' nx' tr -> ∃ os tr1,os.length=ids.length /\ (∀ (j id:Nat) (o:Obj C),ids[j]? = some id->os[j]? = some o->h.get id=some o) /\ Ex e (k os) h nx a h' nx' tr1
 | [],k,tr,hx=>⟨[],tr,rfl,by simp,hx⟩
 | id::r,k,tr,hx=>by
  obtain ⟨o,t',ho,hx,_⟩:=Ex.rd hx;obtain ⟨os,tr1,h1,h2,h3⟩:=JU r _ _ hx;refine ⟨o::os,tr1,by simp [h1],fun j i o' hj ho'=>?_,h3⟩
  cases j with
  | zero=>simp at hj ho';rw [<- hj,<- ho'];exact ho
  | succ j=>exact h2 j i o' (by simpa using hj) (by simpa using ho')
def QhY {α:Type}:List Nat->List (Obj C)->Pg C α->Pg C α
 | [],[],k=>k
 | id::r,o::os,k=>.wr id o (QhY r os k)
 | _,_,_=>.fail
theorem JV {α:Type} {e:Pg.Lv} {a:α} {h':Heap C} {nx nx':Nat} {k:Pg C α}:∀ (ids:List Nat) (os:List (Obj C)) (h:Heap C) (tr:Tr),ids.Nodup->Ex e (QhY ids os k) h nx a h' nx' tr ->
 ∃ h1 tr1,os.length=ids.length /\ (∀ (j id:Nat) (o:Obj C),ids[j]? = some id->os[j]? = some o->h1.get id=some o) /\ (∀ id,id ∉ ids->h1.get id=h.get id) /\ Ex e k h1 nx a h' nx' tr1
 | [],[],h,tr,_,hx=>⟨h,tr,rfl,by simp,fun _ _=>rfl,hx⟩
 | id::r,o::os,h,tr,hn,hx=>by
  obtain ⟨o',t',ho,hx,_⟩:=Ex.wr hx;have hs:(h.get id).isSome=true:=by rw [ho];rfl
  obtain ⟨hn1,hn2⟩:=List.nodup_cons.1 hn;obtain ⟨h1,tr1,q1,q2,q3,q4⟩:=JV r os _ _ hn2 hx;refine ⟨h1,tr1,by simp [q1],fun j i p hj hp=>?_,fun i hi=>?_,q4⟩
  · cases j with
    | zero =>
     simp at hj hp;subst hj;subst hp;rw [q3 _ hn1,Qj hs];simp
    | succ j=>exact q2 j i p (by simpa using hj) (by simpa using hp)
  · simp only [List.mem_cons,not_or] at hi;rw [q3 i hi.2,Qj hs];simp [hi.1]
 | [],_::_,_,_,_,hx=>(Ex.fail hx).elim
 | _::_,[],_,_,_,hx=>(Ex.fail hx).elim
def idx:List Nat->Nat->Nat
 | [],_=>0
 | a::l,n=>bif Nat.beq a n then 0 else idx l n+1
theorem Vc:∀ (l:List Nat) (n:Nat),n ∈ l->l[idx l n]? = some n
 | [],n,h=>by simp at h
 | a::l,n,h=>by
  rw [idx];cases hb:Nat.beq a n with
  | true=>simp [Nat.eq_of_beq_eq_true hb]
  | false =>
   have hne:=Nat.ne_of_beq_eq_false hb;simp only [List.mem_cons] at h;rcases h with h | h
   · exact absurd h.symm hne
   · simpa using Vc l n h
def Qf7 (n:Nat):List Nat->Bool
 | []=>true
 | a::l => !(Nat.beq a n) && Qf7 n l
theorem QaM {n:Nat}:∀ {l:List Nat},Qf7 n l=true->n ∉ l
 | [],_=>by simp
 | a::l,h=>by
  simp only [Qf7,Bool.and_eq_true,Bool.not_eq_true'] at h;simp only [List.mem_cons,not_or];exact ⟨fun e=>Nat.ne_of_beq_eq_false h.1 e.symm,QaM h.2⟩
def VD:List Nat->Bool
 | []=>true
 | a::l=>Qf7 a l && VD l
theorem ZM:∀ {l:List Nat},VD l=true->l.Nodup
 | [],_=>List.nodup_nil
 | a::l,h=>by
  simp only [VD,Bool.and_eq_true] at h;exact List.nodup_cons.2 ⟨QaM h.1,ZM h.2⟩
def inB (ids l:List Nat):Bool:=l.all fun r=>ids.any (Nat.beq r)
theorem ZQ {ids l:List Nat} (h:inB ids l=true):∀ r ∈ l,r ∈ ids:=by
 intro r hr;have:=List.all_eq_true.1 h r hr;obtain ⟨x,hx,e⟩:=List.any_eq_true.1 this;rw [Nat.eq_of_beq_eq_true e];exact hx
inductive RT (C:Cdc) where
 | fail
 | leaf (x:Ev.X) (env:Env C) (os:List (Obj C))
 | br (b:Bool) (l r:RT C)
def RT.val:RT C->Option ((Ev.X × Env C) × List (Obj C))
 | .fail=>none
 | .leaf x env os=>some ((x,env),os)
 | .br b l r=>bif b then l.val else r.val
def RT.pg (ids:List Nat):RT C->Pg C (Ev.X × Env C)
 | .fail=>.fail
 | .leaf x env os=>QhY ids (os.map (Obj.ren fun j=>ids.getD j 0)) (.ret (x,renE (fun j=>ids.getD j 0) env))
 | .br b l r=>.br b (l.pg ids) (r.pg ids)
theorem RT.pg_ok {e:Pg.Lv} {a:Ev.X × Env C} {h h':Heap C} {nx nx':Nat} {ids:List Nat}:∀ (t:RT C) (tr:Tr),Ex e (t.pg ids) h nx a h' nx' tr -> ∃ x env os,t.val=some ((x,env),os) /\ Ex e (QhY ids (os.map (Obj.ren fun j=>ids.getD j 0)) (.ret (x,renE (fun j=>ids.getD j 0) env))) h nx a h' nx' tr
 | .fail,tr,hx=>(Ex.fail hx).elim
 | .leaf x env os,tr,hx=>⟨x,env,os,rfl,hx⟩
 | .br b l r,tr,hx=>by
  rcases Ex.br hx with ⟨rfl,hx⟩ | ⟨rfl,hx⟩
  · exact RT.pg_ok l tr hx
  · exact RT.pg_ok r tr hx
def sumO (T:Tab C) (fs:List Fnd) (slots:List Nat) (res:Env C->List (Obj C)->RT C) (env:Env C):Pg C (Ev.X × Env C) :=
 Qaa T fs env [] fun env ids=>bif VD ids then Qog ids fun os =>
  bif inB ids (slots.flatMap fun t=>(eget env t).refs) && inB ids (os.flatMap Obj.refs) then
   (res (slots.map fun t=>(t,(eget env t).ren (idx ids))) (os.map (Obj.ren (idx ids)))).pg ids
  else .fail
 else .fail
theorem Obj.ren_ren (f g:Nat->Nat) (o:Obj C) (h:∀ id ∈ o.refs,g (f id)=id):(o.ren f).ren g=o:=by
 cases o with
 | var t d=>simp only [Obj.ren];rw [D.ren_ren f g d h]
 | vec t own l=>rfl
 | map _ _ _=>rfl
 | ctl _=>rfl
theorem Qoh (K:QN P T) (F:Qh P T Φ) {g key:Nat} {fs:List Fnd} {slots:List Nat} {res:Env C->List (Obj C)->RT C} {σ:Type} {S:Qdi C σ}
 (hr:∀ fn body b,Φ.fn g=some fn->fn.body=some body->b ∈ QJ body->Qp b=key->QjP T Φ g b S)
 (hres:∀ env0 os x env' os',(res env0 os).val=some ((x,env'),os') -> ∃ q,S.Inv q /\ (∀ p ∈ S.canon q,p ∈ env0) /\ os=S.objs q /\ S.fin q=(x,env') /\ S.fobjs q=os'):Qcl P T Φ g key (sumO T fs slots res):=by
 intro fn body b hf hb hbl hkey B hB X h nx lim e env x env' h' nx' tr a Q gg he hlim hsz hx hk;obtain ⟨f1,f2,f3⟩:=F.fn g fn hf;obtain ⟨c1,c2⟩:=Za body (f3 body hb) b hbl;have hround:=hr fn body b hf hb hbl hkey;obtain ⟨X1,h1,nx1,env1,ids,tr1,w1,g1,s1,hn1,e1,hx1⟩:=Qcn K hlim fs X h nx tr env [] gg he hx;cases hnd:VD ids with
 | false=>rw [hnd] at hx1;exact (Ex.fail hx1).elim
 | true =>
 rw [hnd] at hx1;simp only [cond_true] at hx1;have hnodup:=ZM hnd;obtain ⟨os,tr2,hlen,hos,hx2⟩:=JU ids _ _ hx1;cases hin:inB ids (slots.flatMap fun t=>(eget env1 t).refs) && inB ids (os.flatMap Obj.refs) with
 | false=>rw [hin] at hx2;exact (Ex.fail hx2).elim
 | true =>
 rw [hin] at hx2;simp only [cond_true] at hx2;simp only [Bool.and_eq_true] at hin;have hin1:=ZQ hin.1;have hin2:=ZQ hin.2;obtain ⟨xx,ee,os',hq,hx3⟩:=RT.pg_ok _ _ hx2
 · · obtain ⟨q,hI,hsub,hobjs,hfin,hfo⟩:=hres _ _ _ _ _ hq;obtain ⟨hr1,hr2,_⟩:=hround q hI;obtain ⟨h2,tr3,hl2,hw1,hw2,hx4⟩:=JV ids _ h1 _ hnodup hx3;obtain ⟨hxx,eh,en,_⟩:=Ex.ret hx4;obtain ⟨rfl,rfl⟩:=Prod.mk.inj hxx;subst eh;subst en
     let f:Nat->Nat:=fun j=>ids.getD j 0
     have hfj:∀ j,j < ids.length->ids[j]? = some (f j):=fun j hj=>by simp [f,hj]
     have hk0:ids.length=S.k:=by rw [<- hr1.1,<- hobjs];simp [hlen]
     have hff:∀ r,r ∈ ids->f (idx ids r)=r:=fun r hr=>by
      have:=Vc ids r hr;simp only [f,List.getD_eq_getElem?_getD,this,Option.getD_some]
     have hlenO:(S.objs q).length=ids.length:=by rw [hr1.1,hk0]
     have part:Part h1 (S.objs q) f:=by
      refine ⟨fun j o ho=>?_,fun i j hi hj hij=>?_,fun o ho r hr=>by rw [hr1.1];exact hr1.2.2 o ho r hr⟩
      · rw [<- hobjs,List.getElem?_map] at ho;cases hoj:os[j]? with
        | none=>simp [hoj] at ho
        | some o0 =>
         simp only [hoj,Option.map_some,Option.some.injEq] at ho;have hj:j < ids.length:=by rw [<- hlen];exact (List.getElem?_eq_some_iff.1 hoj).1
         rw [hos j (f j) o0 (hfj j hj) hoj,<- ho,Obj.ren_ren];intro id hid;exact hff id (hin2 id (List.mem_flatMap.2 ⟨o0,List.mem_of_getElem? hoj,hid⟩))
      · rw [hlenO] at hi hj;have:=(List.getElem?_inj hi hnodup (j:=j)).1 (by rw [hfj i hi,hfj j hj];simp only [f] at hij ⊢;rw [hij])
        exact this
     have g2:=Part.ctx K.base g1 part (S.objs q).length
     have e2:Qn T (X1.part (S.objs q).length f) (S.objs q).length (lim0 (S.objs q).length) (S.canon q) a.tmps:=by
      refine Qn.part K.base e1 part.inj (fun p hp=>?_) (fun p hp r hr=>by rw [hr1.1];exact hr1.2.1 p hp r hr)
      have:=hsub p hp;simp only [List.mem_map] at this;obtain ⟨t,ht,rfl⟩:=this;simp only;rw [D.ren_ren];intro id hid;exact hff id (hin1 id (List.mem_flatMap.2 ⟨t,ht,hid⟩))
     rw [hr1.1] at g2 e2;rw [<- w1];show (Code.loop b).wp P Q a (X1.part S.k f).w;refine wp_loop_rounds (S.μ q+1) (Qbt K F hround hf hb c1 c2 hB (S.μ q+1) q (X1.part S.k f) a hI (by omega) g2 e2 hsz fun a' X' g' s' e' hs' hd' kp'=>?_)
     rw [hfo] at g';rw [hfin] at e';have hlen':os'.length=(S.objs q).length:=by rw [<- hfo,hr2.1,hr1.1]
     have hrefs':∀ o ∈ os',∀ r ∈ Obj.refs o,r < (S.objs q).length:=fun o ho r hr=>by rw [hr1.1];exact hr2.2.2 o (by rw [hfo];exact ho) r hr
     obtain ⟨X2,w2,g3,s3,hρ,hB2⟩:=Part.back K.base g1 part hlen' hrefs' (X1:=X') (lim1:=lim0 S.k) (h':=h') (by rw [hr1.1];exact g') (by rw [hr1.1];exact s') (fun j o hj=>by
      have hlt:j < ids.length:=by rw [<- hlenO,<- hlen'];exact (List.getElem?_eq_some_iff.1 hj).1
      exact hw1 j (f j) _ (hfj j hlt) (by rw [List.getElem?_map,hj];rfl)) (fun id hid=>by
      refine hw2 id fun hm=>?_;obtain ⟨j,hj,hjj⟩:=List.getElem_of_mem hm;refine hid j (by rw [hlenO];exact hj) ?_
      simp [f,hj,hjj])
     have hold:∀ j,j < S.k->old nx' lim (f j):=fun j hj=>by
      have hj':j < (S.objs q).length:=by rw [hr1.1];exact hj
      exact (g1.nums _ _ (part.at' j (S.objs q)[j] (by simp [hj']))).1
     have e3:=Qn.back (nx:=nx') (lim:=lim) (f:=f) K.base e' (fun p hp r hr=>hr2.2.1 p (by rw [hfin];exact hp) r hr) (fun j hj=>hρ j (by rw [hr1.1];exact hj)) ⟨hB2⟩ hold
     have:=hk a' X2 g3 (s1.trans s3 hn1) e3 hs' (hd'.of_g g3 (by show X.w.heap.size <= X1.w.heap.size;rw [w1];exact Nat.le_refl _) w2) kp'
     rw [w2] at this;rw [hfin];exact this
def Qbf:Nat->Nat->Heap C->List (Option (Obj C))
 | _,0,_=>[]
 | n,k+1,h=>h.get n::Qbf (n+1) k h
theorem Zy:∀ (k n:Nat) (h:Heap C) (os:List (Obj C)),Qbf n k h=os.map some -> ∀ j,j < k->h.get (n+j)=os[j]?
 | 0,_,_,_,_,j,hj=>by omega
 | k+1,n,h,[],e,j,hj=>by simp [Qbf] at e
 | k+1,n,h,o::os,e,j,hj=>by
  simp only [Qbf,List.map_cons,List.cons.injEq] at e;cases j with
  | zero=>simpa using e.1
  | succ j =>
   have:=Zy k (n+1) h os e.2 j (by omega)
   rw [show n+(j+1)=n+1+j by omega,this];simp
def movP (T:Tab C) (env:Env C) (h:Heap C):List Fnd->List Nat->Option (List Nat)
 | [],ids=>some ids
 | .slot t i::r,ids=>match (eget env t).refs[i]? with
  | some id=>movP T env h r (ids++[id])
  | none=>none
 | .lst t::r,ids=>match (eget env t).refs[0]? with
  | some id=>movP T env h r (ids++[id])
  | none=>none
 | .path j p::r,ids=>match ids[j]? with
  | some idj=>match h.get idj with
   | some (.var _ d)=>match getPath T d p with
    | some x=>match x.refs with
     | id::_=>movP T env h r (ids++[id])
     | []=>none
    | none=>none
   | _=>none
  | none=>none
def QjQ:Nat->List Nat->Bool
 | _,[]=>true
 | n,i::l=>Nat.beq i n && QjQ (n+1) l
def Qe6 (h:Heap C) (g:Nat->Nat):List Nat->Option (List (Obj C))
 | []=>some []
 | i::l=>match h.get i,Qe6 h g l with
  | some o,some r=>some (o.ren g::r)
  | _,_=>none
def Qco {α:Type} (k:Option α):Nat->List Nat->List (Obj C)->List (Obj C)->Option α
 | _,[],_,_=>k
 | n,i::l,o::os,o'::os'=>bif Nat.beq i n then Qco k (n+1) l os os' else (match o,o' with
  | .vec t _ x,.vec t' _ x'=>bif decide (t'=t) then (bif Nat.blt x.length x'.length then Qco k (n+1) l os os' else none) else none
  | _,_=>none)
 | _,_,_,_=>none
def settle (T:Tab C) (fs:List Fnd) (k:Nat) (kc:List Nat) (os:List (Obj C)) (env:Env C) (h:Heap C):Option ((Ev.X × Env C) × List (Option (Obj C))) :=
 match movP T env h fs [] with
 | none=>some ((.normal,sel kc env),Qbf 0 k h)
 | some ids=>bif QjQ 0 ids then some ((.normal,sel kc env),Qbf 0 k h) else
  bif VD ids && Nat.beq ids.length k && inB ids ((sel kc env).flatMap fun p=>p.2.refs) && inB ids (ids.flatMap fun i=>match h.get i with | some o=>o.refs | none=>[]) then (match Qe6 h (idx ids) ids with
   | some os'=>Qco (some ((.normal,renE (idx ids) (sel kc env)),os'.map some)) 0 ids os os'
   | none=>none) else none
def rndO (T:Tab C) (Φ:Fns C) (g key n k:Nat) (kc kf:List Nat) (fs:List Fnd) (env:Env C) (os:List (Obj C)):Option ((Ev.X × Env C) × List (Option (Obj C))):=(evC T Φ n g (VA Φ g key) env).run (0,0) (hpOf 0 os) k [] fun a h _ _=>match a.1 with
 | .normal=>settle T fs k kc os a.2 h
 | x=>some ((x,sel kf a.2),Qbf 0 k h)
theorem Qbu {α:Type} {k:Option α} {a:α}:∀ (l:List Nat) (n:Nat) (os os':List (Obj C)),Qco k n l os os'=some a->k=some a /\ ∀ j,j < l.length->l.getD j 0=n+j \/ ∃ t own x own' x',os[j]? = some (.vec t own x) /\ os'[j]? = some (.vec t own' x') /\ x.length < x'.length
 | [],n,os,os',h=>⟨by simpa [Qco] using h,fun j hj=>by simp at hj⟩
 | i::l,n,[],_,h=>by simp [Qco] at h
 | i::l,n,o::os,[],h=>by simp [Qco] at h
 | i::l,n,o::os,o'::os',h=>by
  simp only [Qco] at h
  have step:Qco k (n+1) l os os'=some a->(i=n \/ ∃ t own x own' x',o=.vec t own x /\ o'=.vec t own' x' /\ x.length < x'.length)->k=some a /\ ∀ j,j < (i::l).length->(i::l).getD j 0=n+j \/ ∃ t own x own' x',(o::os)[j]? = some (.vec t own x) /\ (o'::os')[j]? = some (.vec t own' x') /\ x.length < x'.length:=by
   intro h1 h2;obtain ⟨h3,h4⟩:=Qbu l (n+1) os os' h1;refine ⟨h3,fun j hj=>?_⟩;cases j with
   | zero=>simpa using h2
   | succ j =>
    have:=h4 j (by simpa using hj)
    simp only [List.getD_cons_succ,List.getElem?_cons_succ];rcases this with h5 | h5
    · left;omega
    · exact .inr h5
  cases hb:Nat.beq i n with
  | true=>rw [hb] at h;exact step h (.inl (Nat.eq_of_beq_eq_true hb))
  | false =>
   rw [hb] at h;simp only [cond_false] at h;cases o with
   | var t d=>simp at h
   | map _ _ _=>simp at h
   | ctl _=>simp at h
   | vec t own x =>
    cases o' with
    | var t d=>simp at h
    | map _ _ _=>simp at h
    | ctl _=>simp at h
    | vec t' own' x' =>
     simp only at h;cases ht:decide (t'=t) with
     | false=>rw [ht] at h;cases h
     | true =>
      rw [ht] at h;have ht:t'=t:=by simpa using ht
      subst ht;cases hl:Nat.blt x.length x'.length with
      | false=>rw [hl] at h;cases h
      | true =>
       rw [hl] at h;exact step h (.inr ⟨t',own,x,own',x',rfl,rfl,by simpa [Nat.blt_eq] using hl⟩)
theorem Qbv {h:Heap C} {g:Nat->Nat}:∀ (l:List Nat) (os:List (Obj C)),Qe6 h g l=some os->os.length=l.length /\ ∀ (j i:Nat),l[j]? = some i -> ∃ o,h.get i=some o /\ os[j]? = some (o.ren g)
 | [],os,e=>by simp [Qe6] at e;subst e;simp
 | i::l,os,e=>by
  simp only [Qe6] at e;cases h1:h.get i with
  | none=>simp [h1] at e
  | some o =>
   cases h2:Qe6 h g l with
   | none=>simp [h1,h2] at e
   | some r =>
    simp only [h1,h2,Option.some.injEq] at e;subst e;obtain ⟨a1,a2⟩:=Qbv l r h2;refine ⟨by simp [a1],fun j i' hj=>?_⟩
    cases j with
    | zero=>simp at hj;subst hj;exact ⟨o,h1,rfl⟩
    | succ j=>exact a2 j i' (by simpa using hj)
def LedO {σ:Type} (S:Qdi C σ) (s:σ) (r:(Ev.X × Env C) × List (Option (Obj C))):Prop :=
 (r.1.1=.normal /\ ∃ s',S.Inv s' /\ S.μ s' < S.μ s /\ S.fin s'=S.fin s /\ S.fobjs s'=S.fobjs s /\ r.1.2=S.canon s' /\ r.2=(S.objs s').map some) \/ (r.1.1 ≠ .normal /\ r.1=S.fin s /\ r.2=(S.fobjs s).map some)
theorem QqG:∀ (l:List Nat) (env:Env C) (p:Nat × D C),p ∈ sel l env->eget env p.1=p.2:=fun l env p hp=>VB l env p hp
theorem settle_some {fs:List Fnd} {k:Nat} {kc:List Nat} {os:List (Obj C)} {env:Env C} {h:Heap C} {r:(Ev.X × Env C) × List (Option (Obj C))} (hr:settle T fs k kc os env h=some r) (hos:os.length=k) :
 (r=((.normal,sel kc env),Qbf 0 k h)) \/ ∃ env0 os',r=((.normal,env0),os'.map some) /\ ∃ f,(∀ p ∈ env0,eget env p.1=p.2.ren f) /\ (os'.length=k /\ (∀ j o,os'[j]? = some o->h.get (f j)=some (o.ren f)) /\ (∀ i j,i < os'.length->j < os'.length->f i=f j->i=j)) /\ Grow os os' f:=by
 unfold settle at hr;cases hm:movP T env h fs [] with
 | none=>rw [hm] at hr;simp only [Option.some.injEq] at hr;exact .inl hr.symm
 | some ids =>
  rw [hm] at hr;simp only at hr;cases hb:QjQ 0 ids with
  | true=>rw [hb] at hr;simp only [cond_true,Option.some.injEq] at hr;exact .inl hr.symm
  | false =>
   rw [hb] at hr;simp only [cond_false] at hr;cases hc:VD ids && Nat.beq ids.length k && inB ids ((sel kc env).flatMap fun p=>p.2.refs) && inB ids (ids.flatMap fun i=>match h.get i with | some o=>o.refs | none=>[]) with
   | false=>rw [hc] at hr;cases hr
   | true =>
    rw [hc] at hr;simp only [cond_true] at hr;simp only [Bool.and_eq_true] at hc;obtain ⟨⟨⟨c1,c2⟩,c3⟩,c4⟩:=hc;have c1:=ZM c1;have c2:=Nat.eq_of_beq_eq_true c2;have c3:=ZQ c3;have c4:=ZQ c4;cases ho:Qe6 h (idx ids) ids with
    | none=>rw [ho] at hr;cases hr
    | some os' =>
     rw [ho] at hr;simp only at hr;obtain ⟨q1,q2⟩:=Qbu _ _ _ _ hr;simp only [Option.some.injEq] at q1;obtain ⟨o1,o2⟩:=Qbv _ _ ho
     have hff:∀ x,x ∈ ids->ids.getD (idx ids x) 0=x:=fun x hx=>by
      have:=Vc ids x hx;simp only [List.getD_eq_getElem?_getD,this,Option.getD_some]
     refine .inr ⟨_,os',q1.symm,fun j=>ids.getD j 0,fun p hp=>?_,⟨by rw [o1,c2],fun j o hj=>?_,fun i j hi hj hij=>?_⟩,fun j hj=>?_⟩
     · simp only [renE,List.mem_map] at hp;obtain ⟨p0,hp0,rfl⟩:=hp;simp only;rw [QqG kc env p0 hp0,D.ren_ren];intro id hid;exact hff id (c3 id (List.mem_flatMap.2 ⟨p0,hp0,hid⟩))
     · have hjl:j < ids.length:=by rw [<- o1];exact (List.getElem?_eq_some_iff.1 hj).1
       obtain ⟨o0,a1,a2⟩:=o2 j (ids.getD j 0) (by simp [hjl])
       rw [hj] at a2;simp only [Option.some.injEq] at a2;rw [a1,a2,Obj.ren_ren];intro id hid;exact hff id (c4 id (List.mem_flatMap.2 ⟨ids.getD j 0,by rw [List.getD_eq_getElem?_getD];simp [hjl],by rw [a1];exact hid⟩))
     · rw [o1] at hi hj
       exact (List.getElem?_inj hi c1 (j:=j)).1 (by
        simp only [List.getD_eq_getElem?_getD] at hij;simp only [hi,hj,List.getElem?_eq_getElem,Option.getD_some] at hij ⊢;rw [hij])
     · have:=q2 j (by rw [c2,<- hos];exact hj)
       simpa using this
theorem Qh.addRoundsO (K:QN P T) (F:Qh P T Φ) {g key:Nat} (hkeys:Qcm (Vb Φ g)=true) {σ:Type} (S:Qdi C σ) (n:Nat) (kc kf:List Nat) (fs0:List Fnd) (fs:List Fnd) (slots:List Nat) (res:Env C->List (Obj C)->RT C)
 (hr:∀ q,S.Inv q->Qk S.k (S.canon q) (S.objs q) /\ Qk S.k (S.fin q).2 (S.fobjs q) /\ Leaf (rndO T Φ g key n S.k kc kf fs0 (S.canon q) (S.objs q)) (LedO S q))
 (hres:∀ env0 os x env' os',(res env0 os).val=some ((x,env'),os') -> ∃ q,S.Inv q /\ (∀ p ∈ S.canon q,p ∈ env0) /\ os=S.objs q /\ S.fin q=(x,env') /\ S.fobjs q=os'):Qh P T (Φ.addLoop g key (sumO T fs slots res)):=by
 refine F.addLoop (Qoh K F (S:=S) (fun fn body b hf hb hm hkey q hI=>?_) hres);obtain ⟨h1,h2,r,h3,h4⟩:=hr q hI;rw [rndO,QaK hkeys hf hb hm hkey] at h3;obtain ⟨⟨x,env'⟩,h',nx',tr,h5,h6⟩:=Pg.run_some h3;refine ⟨h1,h2,n,x,env',h',nx',tr,h5,?_⟩;cases x with
 | normal =>
  simp only at h6;rcases settle_some h6 h1.1 with hs | ⟨env0,os',hs,f,f1,⟨f2,f3,f4⟩,f5⟩
  · subst hs;rcases h4 with ⟨h4,s',a1,a2,a3,a3b,a4,a5⟩ | ⟨h4,h7,h8⟩
    · have hg:=Zy S.k 0 h' _ a5;simp only [Nat.zero_add] at hg;exact .inl ⟨rfl,s',a1,a2,a3,a3b,by rw [<- a4];exact VB _ _,hg⟩
    · exact (h4 rfl).elim
  · subst hs;rcases h4 with ⟨h4,s',a1,a2,a3,a3b,a4,a5⟩ | ⟨h4,h7,h8⟩
    · simp only at a4 a5;have a5:os'=S.objs s':=List.map_inj_right (fun _ _ h=>Option.some.inj h) |>.1 a5;subst a4;subst a5;obtain ⟨b1,_⟩:=hr s' a1;exact .inr (.inl ⟨rfl,s',f,a1,a2,a3,a3b,f1,⟨f3,f4,by rw [b1.1];exact b1.2.2⟩,f5⟩)
    · exact (h4 rfl).elim
 | exit id =>
  simp only [Option.some.injEq] at h6;subst h6;rcases h4 with ⟨h4,_⟩ | ⟨h4,h7,h8⟩
  · cases h4
  · have hg:=Zy S.k 0 h' _ h8;simp only [Nat.zero_add] at hg;exact .inr (.inr ⟨by simp,by rw [<- h7],by rw [<- h7];exact VB _ _,hg⟩)
 | ret =>
  simp only [Option.some.injEq] at h6;subst h6;rcases h4 with ⟨h4,_⟩ | ⟨h4,h7,h8⟩
  · cases h4
  · have hg:=Zy S.k 0 h' _ h8;simp only [Nat.zero_add] at hg;exact .inr (.inr ⟨by simp,by rw [<- h7],by rw [<- h7];exact VB _ _,hg⟩)
end
section
variable {C:Cdc} {P:Program} {T:Tab C} {Φ:Fns C}
open Pg (Ex)
structure QF (C:Cdc) (σ:Type) where
 k:Nat
 canon:σ->Env C
 objs:σ->List (Obj C)
 fin:σ->RT C
 Inv:σ->Prop
 μ:σ->Nat
def LedR {σ:Type} (S:QF C σ) (s:σ) (r:(Ev.X × Env C) × List (Option (Obj C))):Prop :=
 (r.1.1=.normal /\ ∃ s',S.Inv s' /\ S.μ s' < S.μ s /\ (S.fin s').val=(S.fin s).val /\ r.1.2=S.canon s' /\ r.2=(S.objs s').map some) \/ (r.1.1 ≠ .normal /\ ∃ os,(S.fin s).val=some (r.1,os) /\ r.2=os.map some)
def RT.refsOK (k:Nat):RT C->Prop
 | .fail=>False
 | .leaf _ env os=>Qk k env os
 | .br _ l r=>l.refsOK k /\ r.refsOK k
theorem RT.refsOK_val {k:Nat}:∀ {t:RT C},t.refsOK k -> ∃ x env os,t.val=some ((x,env),os) /\ Qk k env os
 | .leaf x env os,h=>⟨x,env,os,rfl,h⟩
 | .br b l r,h=>by
  cases b with
  | true=>exact RT.refsOK_val (t:=l) h.1
  | false=>exact RT.refsOK_val (t:=r) h.2
def QF.toO {σ:Type} (S:QF C σ):Qdi C σ where
 k:=S.k
 canon:=S.canon
 objs:=S.objs
 fin q:=match (S.fin q).val with
  | some r=>r.1
  | none=>(.ret,[])
 fobjs q:=match (S.fin q).val with
  | some r=>r.2
  | none=>[]
 Inv:=S.Inv
 μ:=S.μ
def resR {σ:Type} (S:QF C σ) (d:Env C->List (Obj C)->Option (Bool × σ)) (env:Env C) (os:List (Obj C)):RT C:=match d env os with
 | some (b,q)=>.br b (S.fin q) .fail
 | none=>.fail
def sumR (T:Tab C) (fs:List Fnd) (slots:List Nat) {σ:Type} (S:QF C σ) (d:Env C->List (Obj C)->Option (Bool × σ)):Env C->Pg C (Ev.X × Env C):=sumO T fs slots (resR S d)
theorem Qh.addRoundsR (K:QN P T) (F:Qh P T Φ) {g key:Nat} (hkeys:Qcm (Vb Φ g)=true) {σ:Type} (S:QF C σ) (n:Nat) (kc kf:List Nat) (fs:List Fnd) (slots:List Nat) (d:Env C->List (Obj C)->Option (Bool × σ))
 (hr:∀ q,S.Inv q->Qk S.k (S.canon q) (S.objs q) /\ (S.fin q).refsOK S.k /\ Leaf (rndO T Φ g key n S.k kc kf fs (S.canon q) (S.objs q)) (LedR S q))
 (hd:∀ env os b q,d env os=some (b,q)->b=true->S.Inv q /\ S.canon q=env /\ S.objs q=os):Qh P T (Φ.addLoop g key (sumR T fs slots S d)):=by
 refine F.addRoundsO K hkeys S.toO n kc kf fs fs slots (resR S d) (fun q hI=>?_) ?_
 · obtain ⟨h1,h2,r,h3,h4⟩:=hr q hI;obtain ⟨x,env,os,hv,hok⟩:=RT.refsOK_val h2;refine ⟨h1,by simp only [QF.toO,hv];exact hok,r,h3,?_⟩
   rcases h4 with ⟨a1,s',a2,a3,a4,a5,a6⟩ | ⟨a1,os',a2,a3⟩
   · exact .inl ⟨a1,s',a2,a3,by simp only [QF.toO,a4],by simp only [QF.toO,a4],a5,a6⟩
   · exact .inr ⟨a1,by simp only [QF.toO,a2],by simp only [QF.toO,a2];exact a3⟩
 · intro env0 os x env' os' h;unfold resR at h
   split at h
   · rename_i b q hq;cases b with
     | false=>simp [RT.val] at h
     | true =>
      obtain ⟨h1,h2,h3⟩:=hd _ _ _ _ hq rfl;simp only [RT.val,cond_true] at h;exact ⟨q,h1,fun p hp=>by rw [<- h2];exact hp,h3.symm,by simp only [QF.toO,h],by simp only [QF.toO,h]⟩
   · simp [RT.val] at h
def Qz {α:Type} (b:Bool) (x:α):Option α:=bif b then some x else none
theorem Qg {α:Type} {b:Bool} {x y:α} (h:Qz b x=some y):b=true /\ x=y:=by
 cases b with
 | false=>cases h
 | true=>exact ⟨rfl,Option.some.inj h⟩
theorem Qt {σ:Type} {S:QF C σ} {s:σ} {env:Env C} {os:List (Option (Obj C))} (s':σ) (h1:S.Inv s') (h2:S.μ s' < S.μ s) (h3:(S.fin s').val=(S.fin s).val) (h4:env=S.canon s') (h5:os=(S.objs s').map some):Leaf (some ((Ev.X.normal,env),os)) (LedR S s) :=
 JS.2 (.inl ⟨rfl,s',h1,h2,h3,h4,h5⟩)
theorem Qi {σ:Type} {S:QF C σ} {s:σ} {i:Nat} {env:Env C} {os:List (Option (Obj C))} (os':List (Obj C)) (h1:(S.fin s).val=some ((.exit i,env),os')) (h2:os=os'.map some):Leaf (some ((Ev.X.exit i,env),os)) (LedR S s) :=
 JS.2 (.inr ⟨by simp,os',h1,h2⟩)
theorem QG {σ:Type} {S:QF C σ} {s:σ} {env:Env C} {os:List (Option (Obj C))} (os':List (Obj C)) (h1:(S.fin s).val=some ((.ret,env),os')) (h2:os=os'.map some):Leaf (some ((Ev.X.ret,env),os)) (LedR S s) :=
 JS.2 (.inr ⟨by simp,os',h1,h2⟩)
end
theorem QqH {a b:Int} (h:¬ a=b):(a != b)=true:=by simp [h]
theorem QqI {a b:Int} (h:a=b):(a != b)=false:=by simp [h]
theorem Vd {a b:Nat} (h:a=b):Nat.beq a b=true:=by simp [h]
theorem QqJ {n b:Nat} (h:n * b <= 1099511627776):QW n b=true:=by simp [QW,h]
theorem Qab {n:Int} (h:-9223372036854775808 <= n /\ n <= 9223372036854775807):IntKind.i64.wrap n=n:=wrap_id h.1 h.2
def QrY:List UInt8->Nat
 | []=>0
 | x::l=>x.toNat+256 * QrY l
def Qf (n a b:Int):Bool:=decide (a <= n) && decide (n <= b)
theorem QA {x a b:Int}:Qf x a b=true ↔ a <= x /\ x <= b:=by simp [Qf]
def QK {α:Type} (one:α->Bool) (two:α->α->Bool) (l:List α) (i:Nat):Bool:=QaL one two (QjO l i) (l.drop i)
theorem Ve {α:Type} (one:α->Bool) (two:α->α->Bool) (l:List α) (i:Nat) (d:α) (hlt:i < l.length) :
 QK one two l i=(one (l.getD i d) && (decide (i=0) || two (l.getD (i - 1) d) (l.getD i d)) && QK one two l (i+1)):=by
 unfold QK;rw [List.drop_eq_getElem_cons hlt];have hi:l.getD i d=l[i]:=by simp [List.getD_eq_getElem?_getD,hlt]
 have hn:QjO l (i+1)=some l[i]:=by simp [QjO,hlt]
 rw [hi,hn];simp only [QaL];cases i with
 | zero=>simp [QjO]
 | succ j =>
  have:j < l.length:=by omega
  simp [QjO,this]
theorem KE {α:Type} (one:α->Bool) (two:α->α->Bool) (l:List α) (i:Nat) (h:l.length <= i):QK one two l i=true:=by simp [QK,List.drop_eq_nil_of_le h,QaL]
def Yi (x y:Item):Bool:=decide (x.key < y.key)
def ZX (p:Int) (x:Item):Bool:=Qf x.key 0 23 && Qf x.place 1 p && Qf x.value 0 255
def ZF (x y:Line):Bool:=(y.offset == IntKind.i64.wrap (x.offset+1)) && (decide (x.place < y.place) || (x.place == y.place && decide (x.j < y.j)))
def ZY (p:Int) (x:Line):Bool:=Qf x.offset 0 4194303 && Qf x.place 1 p && Qf x.j 0 3 && Qf x.key 0 7 && Qf x.value 0 255
def Zz (p c:Int) (l:List Line):Bool:=Qf c 0 p && decide (l.length <= 16) && (l.isEmpty || decide (c < (l.getD 0 ⟨0,0,0,0,0⟩).place)) && QK (ZY p) ZF l 0
def Q5 (s:St):Bool:=Qf s.place 0 1048575 && QK (ZX s.place) Yi s.items 0 && Zz s.place s.c0 s.l0 && Zz s.place s.c1 s.l1 && Zz s.place s.c2 s.l2
def fitI (x:Item):Bool:=Qf x.key 0 255 && Qf x.place 0 16777215 && Qf x.value 0 255
def QhZ (x:Line):Bool:=Qf x.place 0 16777215 && Qf x.key 0 7 && Qf x.j 0 15 && Qf x.value 0 255
def ZR (l:List Line):Int:=(l.getD 0 ⟨0,0,0,0,0⟩).offset
theorem Qoi {p:Int} {x:Item} (h:ZX p x=true) (hp:p <= 1048575):fitI x=true:=by
 simp only [ZX,fitI,Bool.and_eq_true,QA] at h ⊢;omega
theorem Qoj {p:Int} {x:Line} (h:ZY p x=true) (hp:p <= 1048575):QhZ x=true:=by
 simp only [ZY,QhZ,Bool.and_eq_true,QA] at h ⊢;omega
theorem Qdk {α:Type} (one:α->Bool) (two:α->α->Bool):∀ (l:List α) (p:Option α),QaL one two p l=true->l.all one=true
 | [],_,_=>rfl
 | x::l,p,h=>by
  simp only [QaL,Bool.and_eq_true] at h;simp only [List.all_cons,Bool.and_eq_true];exact ⟨h.1.1,Qdk one two l _ h.2⟩
theorem Yo {α:Type} {one:α->Bool} {two:α->α->Bool} {l:List α} (h:QK one two l 0=true):l.all one=true:=Qdk one two _ _ h
theorem QjR {α:Type} {p q:α->Bool} {l:List α} (h:l.all p=true) (hpq:∀ x,p x=true->q x=true):l.all q=true:=by
 rw [List.all_eq_true] at h ⊢;exact fun x hx=>hpq x (h x hx)
theorem Qf8 {p:Int}:∀ (l:List Item) (k:Int),QaL (ZX p) Yi none l=true->(∀ x ∈ l.head?,k <= x.key)->0 <= k->k <= 24->(l.length:Int) <= 24 - k
 | [],k,_,_,h0,h1=>by simp;omega
 | [x],k,h,hk,h0,h1=>by
  simp only [QaL,ZX,Bool.and_eq_true,QA] at h;have:=hk x (by simp)
  simp;omega
 | x::y::l,k,h,hk,h0,h1=>by
  simp only [QaL,Bool.and_eq_true] at h;have hx:=h.1.1;simp only [ZX,Bool.and_eq_true,QA] at hx;have hxy:x.key < y.key:=by have:=h.2.1.2;simpa [Yi] using this
  have hk':=hk x (by simp)
  have:=Qf8 (y::l) (x.key+1) (by simp only [QaL,Bool.and_eq_true];exact ⟨⟨h.2.1.1,trivial⟩,h.2.2⟩) (by simp;omega) (by omega) (by omega)
  simp only [List.length_cons] at this ⊢;omega
theorem QjS {p:Int} {l:List Item} (h:QK (ZX p) Yi l 0=true):l.length <= 24:=by
 have:=Qf8 l 0 (p:=p) h (by
  intro x hx;have h1:=Yo h;have:=List.all_eq_true.1 h1 x (List.mem_of_mem_head? hx);simp only [ZX,Bool.and_eq_true,QA] at this;omega) (by omega) (by omega)
 omega
theorem KF {p c:Int} {l:List Line} (hp:p <= 1048575) (h:Zz p c l=true):(0 <= c /\ c <= 1048575) /\ l.length <= 16 /\ l.all QhZ=true /\ (0 <= ZR l /\ ZR l <= 4194303):=by
 simp only [Zz,Bool.and_eq_true,QA,decide_eq_true_eq] at h;refine ⟨by omega,h.1.1.2,QjR (Yo h.2) fun x hx=>Qoj hx hp,?_⟩
 cases l with
 | nil=>simp [ZR]
 | cons x l =>
  have:=List.all_eq_true.1 (Yo h.2) x (by simp)
  simp only [ZY,Bool.and_eq_true,QA] at this;simp only [ZR,List.getD_cons_zero];omega
theorem Qdl {p:Int} {items:List Item} {l0 l1 l2:List Line} {c0 c1 c2:Int} (h:Q5 ⟨p,items,l0,l1,l2,c0,c1,c2⟩=true) :
 (0 <= p /\ p <= 1048575) /\ items.length <= 24 /\ items.all fitI=true /\
 ((0 <= c0 /\ c0 <= 1048575) /\ l0.length <= 16 /\ l0.all QhZ=true /\ (0 <= ZR l0 /\ ZR l0 <= 4194303)) /\
 ((0 <= c1 /\ c1 <= 1048575) /\ l1.length <= 16 /\ l1.all QhZ=true /\ (0 <= ZR l1 /\ ZR l1 <= 4194303)) /\
 ((0 <= c2 /\ c2 <= 1048575) /\ l2.length <= 16 /\ l2.all QhZ=true /\ (0 <= ZR l2 /\ ZR l2 <= 4194303)):=by
 simp only [Q5,Bool.and_eq_true,QA] at h;obtain ⟨⟨⟨⟨hp,hi⟩,h0⟩,h1⟩,h2⟩:=h;exact ⟨hp,QjS hi,QjR (Yo hi) fun x hx=>Qoi hx hp.2,KF hp.2 h0,KF hp.2 h1,KF hp.2 h2⟩
open Go.Proofs
abbrev RO_:Type:=Option ((X × Env RC) × List (Option (Obj RC)))
abbrev DO_:Type:=Option (D RC)
set_option maxRecDepth 100000
noncomputable def p0:Fns RC:=QhV Tryz.prog 213 (fun f=>Nat.beq f 166 || Nat.beq f 83 || Nat.beq f 147 || Nat.beq f 60 || Nat.beq f 63 || Nat.beq f 121 || Nat.beq f 169 || Nat.beq f 61 || Nat.beq f 58 || Nat.beq f 59 || Nat.beq f 154 || Nat.beq f 153 || Nat.beq f 171 || Nat.beq f 194)
theorem QqK:Qh Tryz.prog s28 p0:=QhW (by kernel_rfl)
def Qf9 (n:Int) (a:Int) (b:Int):Option (Bool × D RC):=some (true,.bool (Qf n a b))
def Qdm:List (D RC)->Option (Bool × D RC)
 | [.int .i64 n,.int .i64 a,.int .i64 b]=>Qf9 n a b
 | _=>none
noncomputable def Qga (n:Int) (a:Int) (b:Int):=evF s28 p0 20 110 [.int .i64 n,.int .i64 a,.int .i64 b]
theorem QjT (n:Int) (a:Int) (b:Int):Qga n a b=(bif decide (a <= n) then some (D.bool (decide (n <= b))) else some (D.bool false)):=by kernel_rfl
theorem QjU (n:Int) (a:Int) (b:Int) (h:(true)=true):Qga n a b=some (.bool (Qf n a b)):=by
 rw [QjT];rw [Qf];cases decide (a <= n) <;> simp
noncomputable def ua_1:=p0.addSpec 110 Qdm
theorem QjV:Qh Tryz.prog s28 ua_1:=QqK.addEv Qc fun args d h=>by
 unfold Qdm at h
 split at h
 · unfold Qf9 at h;have h1:=congrArg Prod.fst (Option.some.inj h);obtain rfl:_=d:=congrArg Prod.snd (Option.some.inj h);exact ⟨by simp [D.refs],20,QjU _ _ _ h1⟩
 · cases h
def Qpr (a:Int) (b:Int) (c:Int) (d:Int) (e:Int) (f:Int):Option (Bool × D RC):=some (true,.bool (Yi ⟨a,b,c⟩ ⟨d,e,f⟩))
def QjW:List (D RC)->Option (Bool × D RC)
 | [.acons (.int .i64 a) (.acons (.int .i64 b) (.acons (.int .i64 c) .anil)),.acons (.int .i64 d) (.acons (.int .i64 e) (.acons (.int .i64 f) .anil))]=>Qpr a b c d e f
 | _=>none
noncomputable def Qps (a:Int) (b:Int) (c:Int) (d:Int) (e:Int) (f:Int):=evF s28 ua_1 20 113 [.acons (.int .i64 a) (.acons (.int .i64 b) (.acons (.int .i64 c) .anil)),.acons (.int .i64 d) (.acons (.int .i64 e) (.acons (.int .i64 f) .anil))]
theorem QqL (a:Int) (b:Int) (c:Int) (d:Int) (e:Int) (f:Int):Qps a b c d e f=(some (D.bool (decide (a < d)))):=by kernel_rfl
theorem QqM (a:Int) (b:Int) (c:Int) (d:Int) (e:Int) (f:Int) (h:(true)=true):Qps a b c d e f=some (.bool (Yi ⟨a,b,c⟩ ⟨d,e,f⟩)):=by
 rw [QqL];rfl
noncomputable def ua_2:=ua_1.addSpec 113 QjW
theorem QjX:Qh Tryz.prog s28 ua_2:=QjV.addEv Qc fun args d h=>by
 unfold QjW at h
 split at h
 · unfold Qpr at h;have h1:=congrArg Prod.fst (Option.some.inj h);obtain rfl:_=d:=congrArg Prod.snd (Option.some.inj h);exact ⟨by simp [D.refs],20,QqM _ _ _ _ _ _ h1⟩
 · cases h
def Qpt (a:Int) (b:Int) (c:Int) (d:Int) (e:Int) (a':Int) (b':Int) (c':Int) (d':Int) (e':Int):Option (Bool × D RC):=some (true,.bool (ZF ⟨a,b,c,d,e⟩ ⟨a',b',c',d',e'⟩))
def QjY:List (D RC)->Option (Bool × D RC)
 | [.acons (.int .i64 a) (.acons (.int .i64 b) (.acons (.int .i64 c) (.acons (.int .i64 d) (.acons (.int .i64 e) .anil)))),.acons (.int .i64 a') (.acons (.int .i64 b') (.acons (.int .i64 c') (.acons (.int .i64 d') (.acons (.int .i64 e') .anil))))]=>Qpt a b c d e a' b' c' d' e'
 | _=>none
noncomputable def Qpu (a:Int) (b:Int) (c:Int) (d:Int) (e:Int) (a':Int) (b':Int) (c':Int) (d':Int) (e':Int):=evF s28 ua_2 20 116 [.acons (.int .i64 a) (.acons (.int .i64 b) (.acons (.int .i64 c) (.acons (.int .i64 d) (.acons (.int .i64 e) .anil)))),.acons (.int .i64 a') (.acons (.int .i64 b') (.acons (.int .i64 c') (.acons (.int .i64 d') (.acons (.int .i64 e') .anil))))]
theorem QqN (a:Int) (b:Int) (c:Int) (d:Int) (e:Int) (a':Int) (b':Int) (c':Int) (d':Int) (e':Int):Qpu a b c d e a' b' c' d' e'=(bif a' == IntKind.wrap .i64 (a+(1:Int)) then bif decide (b < b') then some (D.bool true) else bif b == b' then some (D.bool (decide (c < c'))) else some (D.bool false) else some (D.bool false)):=by kernel_rfl
theorem QqO (a:Int) (b:Int) (c:Int) (d:Int) (e:Int) (a':Int) (b':Int) (c':Int) (d':Int) (e':Int) (h:(true)=true):Qpu a b c d e a' b' c' d' e'=some (.bool (ZF ⟨a,b,c,d,e⟩ ⟨a',b',c',d',e'⟩)):=by
 rw [QqN];simp only [ZF];cases (a' == IntKind.i64.wrap (a+1)) <;> cases decide (b < b') <;> cases (b == b') <;> simp
noncomputable def ua_3:=ua_2.addSpec 116 QjY
theorem QjZ:Qh Tryz.prog s28 ua_3:=QjX.addEv Qc fun args d h=>by
 unfold QjY at h
 split at h
 · unfold Qpt at h;have h1:=congrArg Prod.fst (Option.some.inj h);obtain rfl:_=d:=congrArg Prod.snd (Option.some.inj h);exact ⟨by simp [D.refs],20,QqO _ _ _ _ _ _ _ _ _ _ h1⟩
 · cases h
structure Qgb where
 p:Int
 r:D RC
 c:Bool
 l:List Item
 i:Nat
def Qcp (p:Int) (r:D RC) (c:Bool) (l:List Item) (i:Nat):Env RC:=[(0,.sl (C:=RC) .item c l),(1,.fn 112 (.acons (.ptr 0 []) .anil)),(2,.fn 113 .anil),(6,.bool false),(9,.int .i64 (l.length)),(10,.int .i64 (i:Int))]
def VE (p:Int) (r:D RC) (c:Bool) (l:List Item) (i:Nat):List (Obj RC):=[.var 34 (.acons (.int .i64 p) r)]
noncomputable def Qj0 (p:Int) (r:D RC) (c:Bool) (l:List Item) (i:Nat):=rndO s28 ua_3 111 2 40 1 [0,1,2,6,9,10] [6] [.slot 1 0] (Qcp p r c l i) (VE p r c l i)
theorem Qok (p:Int) (r:D RC) (c:Bool) (l:List Item) (i:Nat):Qj0 p r c l i=(let Z0:Int:=(↑i:Int);let Z1:Int:=(↑l.length:Int);let Z2:Bool:=decide ((0:Int) <= Z0 /\ Z0 < Z1);let Z3:Item:=Item.mk (0:Int) (0:Int) (0:Int);let Z4:Item:=List.getD l Z0.toNat Z3;let Z5:List (Option (Obj RC)):=[some (Obj.var 34 (.acons (D.int .i64 p) r))];let Z6:RO_:=some ((X.ret,[(6,D.bool false)]),Z5);let Z7:Int:=IntKind.wrap .i64 (Z0 - (1:Int));let Z8:Item:=List.getD l Z7.toNat Z3;let Z9:RO_:=some ((X.normal,[(0,D.sl RTy.item c l),(1,D.fn (112:Nat) (.acons (D.ptr 0 []) .anil)),(2,D.fn (113:Nat) .anil),(6,D.bool false),(9,D.int .i64 Z1),(10,D.int .i64 (IntKind.wrap .i64 (Z0+(1:Int))))]),Z5);bif decide (Z0 < Z1) then bif Z2 then bif Qf (Item.key Z4) (0:Int) (23:Int) then bif Qf (Item.place Z4) (1:Int) p then bif !Qf (Item.value Z4) (0:Int) (255:Int) then Z6 else bif decide ((0:Int) < Z0) then bif decide ((0:Int) <= Z7 /\ Z7 < Z1) then bif Z2 then bif !Yi (Item.mk (Item.key Z8) (Item.place Z8) (Item.value Z8)) (Item.mk (Item.key Z4) (Item.place Z4) (Item.value Z4)) then Z6 else Z9 else none else none else Z9 else Z6 else Z6 else none else some ((X.exit (0:Nat),[(6,D.bool false)]),Z5)):=by kernel_rfl
def VF (p:Int) (r:D RC) (c:Bool) (l:List Item) (i:Nat):RT RC:=.br (QK (ZX p) Yi l i) (.leaf (.exit 0) [(6,.bool false)] (VE p r c l i)) (.leaf .ret [(6,.bool false)] (VE p r c l i))
def VG (p:Int) (r:D RC) (c:Bool) (l:List Item) (i:Nat):Prop:=r.refs=[] /\ i <= l.length /\ l.length <= 9223372036854775807
def Yu:QF RC Qgb where
 k:=1
 canon q:=Qcp q.p q.r q.c q.l q.i
 objs q:=VE q.p q.r q.c q.l q.i
 fin q:=VF q.p q.r q.c q.l q.i
 Inv q:=VG q.p q.r q.c q.l q.i
 μ q:=q.l.length - q.i
theorem Qe7 (p:Int) (r:D RC) (c:Bool) (l:List Item) (i:Nat) (hI:VG p r c l i):Leaf (Qj0 p r c l i) (LedR Yu ⟨p,r,c,l,i⟩):=by
 (rw [Qok];conv=>zeta)
 unfold VG at hI;obtain ⟨h0,h1,h2⟩:=hI
 by_cases hlt:i < l.length
 · have w_succ:IntKind.i64.wrap ((i:Int)+1)=((i+1:Nat):Int):=by rw [wrap_id (by omega) (by omega)];simp
   have d_lt:decide ((i:Int) < l.length)=true:=by simp;omega
   have d_in:decide (0 <= (i:Int) /\ (i:Int) < l.length)=true:=by simp;omega
   have t_nat:((i:Int)).toNat=i:=by simp
   have w_pred:IntKind.i64.wrap ((i:Int) - 1)=(i:Int) - 1:=wrap_id (by omega) (by omega)
   have t_natp:((i:Int) - 1).toNat=i - 1:=by omega
   simp only [w_succ,d_lt,d_in,t_nat,w_pred,t_natp,cond_true];have hst:=Ve (ZX p) Yi l i (⟨0,0,0⟩:Item) hlt;generalize l.getD i (⟨0,0,0⟩:Item)=x at hst ⊢;generalize l.getD (i - 1) (⟨0,0,0⟩:Item)=y at hst ⊢
   have hgo:QK (ZX p) Yi l (i+1)=QK (ZX p) Yi l i->Leaf (some ((X.normal,Qcp p r c l (i+1)),[some (.var 34 (.acons (.int .i64 p) r))])) (LedR Yu ⟨p,r,c,l,i⟩):=fun he =>
    Qt ⟨p,r,c,l,i+1⟩ ⟨h0,hlt,h2⟩ (by simp only [Yu];omega) (by simp only [Yu,VF,he];rfl) rfl rfl
   have hno:QK (ZX p) Yi l i=false->Leaf (some ((X.ret,[(6,D.bool false)]),[some (.var 34 (.acons (.int .i64 p) r))])) (LedR Yu ⟨p,r,c,l,i⟩):=fun he=>QG (VE p r c l i) (by simp [Yu,VF,he,RT.val]) rfl
   rw [hst] at hgo hno;simp only [ZX] at hgo hno;have hty:Yi ⟨y.key,y.place,y.value⟩ ⟨x.key,x.place,x.value⟩=Yi y x:=rfl;rw [hty]
   by_cases hi:i=0
   · have d0:decide (0 < (i:Int))=false:=by simp;omega
     simp only [d0,cond_false]
     repeat' (refine Zx.2 ⟨fun _=>?_,fun _=>?_⟩)
     all_goals first | exact hno (by clear hgo hno hst;simp_all) | exact hgo (by clear hgo hno hst;simp_all)
   · have d_pos:decide (0 < (i:Int))=true:=by simp;omega
     have d_inp:decide (0 <= (i:Int) - 1 /\ (i:Int) - 1 < l.length)=true:=by simp;omega
     simp only [d_pos,d_inp,cond_true]
     repeat' (refine Zx.2 ⟨fun _=>?_,fun _=>?_⟩)
     all_goals first | exact hno (by clear hgo hno hst;simp_all) | exact hgo (by clear hgo hno hst;simp_all)
 · have hi:i=l.length:=by omega
   have c1:decide ((i:Int) < l.length)=false:=by simp;omega
   rw [c1];exact Qi (VE p r c l i) (by simp [Yu,VF,hi,KE,RT.val]) rfl
def Qe8 (env:Env RC) (os:List (Obj RC)):Option (Bool × Qgb):=match env,os with
 | [(0,.sl .item c l),(1,.fn 112 (.acons (.ptr 0 []) .anil)),(2,.fn 113 .anil),(6,.bool false),(9,.int .i64 x0),(10,.int .i64 x1)],[.var 34 (.acons (.int .i64 p) r)]=>Qz (r.refs.isEmpty) (decide (x0=l.length) && decide (x1=0) && decide (l.length <= 9223372036854775807),⟨p,r,c,l,0⟩)
 | _,_=>none
noncomputable def ua_4:=ua_3.addLoop 111 2 (sumR s28 [.slot 1 0] [0,1,2,6,9,10] Yu Qe8)
theorem Qj1:Qh Tryz.prog s28 ua_4:=by
 refine QjZ.addRoundsR Qc (by kernel_rfl) Yu 40 [0,1,2,6,9,10] [6] [.slot 1 0] [0,1,2,6,9,10] Qe8 (fun q hI=>?_) ?_
 · obtain ⟨p,r,c,l,i⟩:=q;refine ⟨?_,?_,Qe7 p r c l i hI⟩
   · simp_all [Qk,Yu,Qcp,VE,VG,D.refs,Obj.refs,rEnc]
   · simp_all [Yu,VF,VE,VG,RT.refsOK,Qk,D.refs,Obj.refs,rEnc]
 · intro env os b q hd_ hb;unfold Qe8 at hd_
   split at hd_
   · obtain ⟨hs,hd_⟩:=Qg hd_;cases hd_;simp only [Bool.and_eq_true,decide_eq_true_eq] at hb;obtain ⟨⟨rfl,rfl⟩,hl⟩:=hb;exact ⟨⟨List.isEmpty_iff.1 hs,Nat.zero_le _,hl⟩,rfl,rfl⟩
   · cases hd_
structure Qgc where
 p:Int
 r:D RC
 c:Bool
 l:List Line
 i:Nat
def Qcq (p:Int) (r:D RC) (c:Bool) (l:List Line) (i:Nat):Env RC:=[(0,.sl (C:=RC) .line c l),(1,.fn 115 (.acons (.ptr 0 []) .anil)),(2,.fn 116 .anil),(6,.bool false),(9,.int .i64 (l.length)),(10,.int .i64 (i:Int))]
def VH (p:Int) (r:D RC) (c:Bool) (l:List Line) (i:Nat):List (Obj RC):=[.var 34 (.acons (.int .i64 p) r)]
noncomputable def Qj2 (p:Int) (r:D RC) (c:Bool) (l:List Line) (i:Nat):=rndO s28 ua_4 114 2 40 1 [0,1,2,6,9,10] [6] [.slot 1 0] (Qcq p r c l i) (VH p r c l i)
theorem Qol (p:Int) (r:D RC) (c:Bool) (l:List Line) (i:Nat):Qj2 p r c l i=(let Z0:Int:=(↑i:Int);let Z1:Int:=(↑l.length:Int);let Z2:Bool:=decide ((0:Int) <= Z0 /\ Z0 < Z1);let Z3:Line:=Line.mk (0:Int) (0:Int) (0:Int) (0:Int) (0:Int);let Z4:Line:=List.getD l Z0.toNat Z3;let Z5:List (Option (Obj RC)):=[some (Obj.var 34 (.acons (D.int .i64 p) r))];let Z6:RO_:=some ((X.ret,[(6,D.bool false)]),Z5);let Z7:Int:=IntKind.wrap .i64 (Z0 - (1:Int));let Z8:Line:=List.getD l Z7.toNat Z3;let Z9:RO_:=some ((X.normal,[(0,D.sl RTy.line c l),(1,D.fn (115:Nat) (.acons (D.ptr 0 []) .anil)),(2,D.fn (116:Nat) .anil),(6,D.bool false),(9,D.int .i64 Z1),(10,D.int .i64 (IntKind.wrap .i64 (Z0+(1:Int))))]),Z5);bif decide (Z0 < Z1) then bif Z2 then bif Qf (Line.offset Z4) (0:Int) (4194303:Int) then bif Qf (Line.place Z4) (1:Int) p then bif Qf (Line.j Z4) (0:Int) (3:Int) then bif Qf (Line.key Z4) (0:Int) (7:Int) then bif !Qf (Line.value Z4) (0:Int) (255:Int) then Z6 else bif decide ((0:Int) < Z0) then bif decide ((0:Int) <= Z7 /\ Z7 < Z1) then bif Z2 then bif !ZF (Line.mk (Line.offset Z8) (Line.place Z8) (Line.j Z8) (Line.key Z8) (Line.value Z8)) (Line.mk (Line.offset Z4) (Line.place Z4) (Line.j Z4) (Line.key Z4) (Line.value Z4)) then Z6 else Z9 else none else none else Z9 else Z6 else Z6 else Z6 else Z6 else none else some ((X.exit (0:Nat),[(6,D.bool false)]),Z5)):=by kernel_rfl
def VI (p:Int) (r:D RC) (c:Bool) (l:List Line) (i:Nat):RT RC:=.br (QK (ZY p) ZF l i) (.leaf (.exit 0) [(6,.bool false)] (VH p r c l i)) (.leaf .ret [(6,.bool false)] (VH p r c l i))
def VJ (p:Int) (r:D RC) (c:Bool) (l:List Line) (i:Nat):Prop:=r.refs=[] /\ i <= l.length /\ l.length <= 9223372036854775807
def Yv:QF RC Qgc where
 k:=1
 canon q:=Qcq q.p q.r q.c q.l q.i
 objs q:=VH q.p q.r q.c q.l q.i
 fin q:=VI q.p q.r q.c q.l q.i
 Inv q:=VJ q.p q.r q.c q.l q.i
 μ q:=q.l.length - q.i
theorem Qe9 (p:Int) (r:D RC) (c:Bool) (l:List Line) (i:Nat) (hI:VJ p r c l i):Leaf (Qj2 p r c l i) (LedR Yv ⟨p,r,c,l,i⟩):=by
 (rw [Qol];conv=>zeta)
 unfold VJ at hI;obtain ⟨h0,h1,h2⟩:=hI
 by_cases hlt:i < l.length
 · have w_succ:IntKind.i64.wrap ((i:Int)+1)=((i+1:Nat):Int):=by rw [wrap_id (by omega) (by omega)];simp
   have d_lt:decide ((i:Int) < l.length)=true:=by simp;omega
   have d_in:decide (0 <= (i:Int) /\ (i:Int) < l.length)=true:=by simp;omega
   have t_nat:((i:Int)).toNat=i:=by simp
   have w_pred:IntKind.i64.wrap ((i:Int) - 1)=(i:Int) - 1:=wrap_id (by omega) (by omega)
   have t_natp:((i:Int) - 1).toNat=i - 1:=by omega
   simp only [w_succ,d_lt,d_in,t_nat,w_pred,t_natp,cond_true];have hst:=Ve (ZY p) ZF l i (⟨0,0,0,0,0⟩:Line) hlt;generalize l.getD i (⟨0,0,0,0,0⟩:Line)=x at hst ⊢;generalize l.getD (i - 1) (⟨0,0,0,0,0⟩:Line)=y at hst ⊢
   have hgo:QK (ZY p) ZF l (i+1)=QK (ZY p) ZF l i->Leaf (some ((X.normal,Qcq p r c l (i+1)),[some (.var 34 (.acons (.int .i64 p) r))])) (LedR Yv ⟨p,r,c,l,i⟩):=fun he =>
    Qt ⟨p,r,c,l,i+1⟩ ⟨h0,hlt,h2⟩ (by simp only [Yv];omega) (by simp only [Yv,VI,he];rfl) rfl rfl
   have hno:QK (ZY p) ZF l i=false->Leaf (some ((X.ret,[(6,D.bool false)]),[some (.var 34 (.acons (.int .i64 p) r))])) (LedR Yv ⟨p,r,c,l,i⟩):=fun he=>QG (VH p r c l i) (by simp [Yv,VI,he,RT.val]) rfl
   rw [hst] at hgo hno;simp only [ZY] at hgo hno;have hty:ZF ⟨y.offset,y.place,y.j,y.key,y.value⟩ ⟨x.offset,x.place,x.j,x.key,x.value⟩=ZF y x:=rfl;rw [hty]
   by_cases hi:i=0
   · have d0:decide (0 < (i:Int))=false:=by simp;omega
     simp only [d0,cond_false]
     repeat' (refine Zx.2 ⟨fun _=>?_,fun _=>?_⟩)
     all_goals first | exact hno (by clear hgo hno hst;simp_all) | exact hgo (by clear hgo hno hst;simp_all)
   · have d_pos:decide (0 < (i:Int))=true:=by simp;omega
     have d_inp:decide (0 <= (i:Int) - 1 /\ (i:Int) - 1 < l.length)=true:=by simp;omega
     simp only [d_pos,d_inp,cond_true]
     repeat' (refine Zx.2 ⟨fun _=>?_,fun _=>?_⟩)
     all_goals first | exact hno (by clear hgo hno hst;simp_all) | exact hgo (by clear hgo hno hst;simp_all)
 · have hi:i=l.length:=by omega
   have c1:decide ((i:Int) < l.length)=false:=by simp;omega
   rw [c1];exact Qi (VH p r c l i) (by simp [Yv,VI,hi,KE,RT.val]) rfl
def Qfa (env:Env RC) (os:List (Obj RC)):Option (Bool × Qgc):=match env,os with
 | [(0,.sl .line c l),(1,.fn 115 (.acons (.ptr 0 []) .anil)),(2,.fn 116 .anil),(6,.bool false),(9,.int .i64 x0),(10,.int .i64 x1)],[.var 34 (.acons (.int .i64 p) r)]=>Qz (r.refs.isEmpty) (decide (x0=l.length) && decide (x1=0) && decide (l.length <= 9223372036854775807),⟨p,r,c,l,0⟩)
 | _,_=>none
noncomputable def ua_5:=ua_4.addLoop 114 2 (sumR s28 [.slot 1 0] [0,1,2,6,9,10] Yv Qfa)
theorem Qj3:Qh Tryz.prog s28 ua_5:=by
 refine Qj1.addRoundsR Qc (by kernel_rfl) Yv 40 [0,1,2,6,9,10] [6] [.slot 1 0] [0,1,2,6,9,10] Qfa (fun q hI=>?_) ?_
 · obtain ⟨p,r,c,l,i⟩:=q;refine ⟨?_,?_,Qe9 p r c l i hI⟩
   · simp_all [Qk,Yv,Qcq,VH,VJ,D.refs,Obj.refs,rEnc]
   · simp_all [Yv,VI,VH,VJ,RT.refsOK,Qk,D.refs,Obj.refs,rEnc]
 · intro env os b q hd_ hb;unfold Qfa at hd_
   split at hd_
   · obtain ⟨hs,hd_⟩:=Qg hd_;cases hd_;simp only [Bool.and_eq_true,decide_eq_true_eq] at hb;obtain ⟨⟨rfl,rfl⟩,hl⟩:=hb;exact ⟨⟨List.isEmpty_iff.1 hs,Nat.zero_le _,hl⟩,rfl,rfl⟩
   · cases hd_
def Qgd (p:Int) (ci:Bool) (items:List Item) (k0:Bool) (k1:Bool) (k2:Bool) (l0:List Line) (l1:List Line) (l2:List Line) (c0:Int) (c1:Int) (c2:Int):Option (Bool × D RC):=some (decide (items.length <= 9223372036854775807 /\ l0.length <= 9223372036854775807 /\ l1.length <= 9223372036854775807 /\ l2.length <= 9223372036854775807),.bool (Q5 ⟨p,items,l0,l1,l2,c0,c1,c2⟩))
def Qdn:List (D RC)->Option (Bool × D RC)
 | [.acons (.int .i64 p) (.acons (.sl .item ci items) (.acons (.acons (.sl .line k0 l0) (.acons (.sl .line k1 l1) (.acons (.sl .line k2 l2) .anil))) (.acons (.arr .int 3 [c0,c1,c2]) .anil)))]=>Qgd p ci items k0 k1 k2 l0 l1 l2 c0 c1 c2
 | _=>none
noncomputable def Qge (p:Int) (ci:Bool) (items:List Item) (k0:Bool) (k1:Bool) (k2:Bool) (l0:List Line) (l1:List Line) (l2:List Line) (c0:Int) (c1:Int) (c2:Int):=evF s28 ua_5 30 57 [.acons (.int .i64 p) (.acons (.sl (C:=RC) .item ci items) (.acons (.acons (.sl (C:=RC) .line k0 l0) (.acons (.sl (C:=RC) .line k1 l1) (.acons (.sl (C:=RC) .line k2 l2) .anil))) (.acons (.arr (C:=RC) .int 3 [c0,c1,c2]) .anil)))]
theorem Qj4 (p:Int) (ci:Bool) (items:List Item) (k0:Bool) (k1:Bool) (k2:Bool) (l0:List Line) (l1:List Line) (l2:List Line) (c0:Int) (c1:Int) (c2:Int):Qge p ci items k0 k1 k2 l0 l1 l2 c0 c1 c2=(let Z0:DO_:=some (D.bool false);let Z1:Nat:=List.length items;let Z2:Nat:=List.length l0;let Z3:Int:=(↑Z2:Int);let Z4:Line:=Line.mk (0:Int) (0:Int) (0:Int) (0:Int) (0:Int);let Z5:Nat:=List.length l1;let Z6:Int:=(↑Z5:Int);let Z7:Nat:=List.length l2;let Z8:Int:=(↑Z7:Int);let Z9:DO_:=none;let Z10:DO_:=bif Qd Z7 then bif decide (Z8=Z8) && true && decide (Z7 <= (9223372036854775807:Nat)) then bif QK (ZY p) ZF l2 (0:Nat) then some (D.bool true) else Z0 else Z9 else Z9;let Z11:DO_:=bif Qd Z5 then bif decide (Z6=Z6) && true && decide (Z5 <= (9223372036854775807:Nat)) then bif QK (ZY p) ZF l1 (0:Nat) then bif !Qf c2 (0:Int) p then Z0 else bif Qd Z7 then bif decide ((16:Int) < Z8) then Z0 else bif Qd Z7 then bif decide ((0:Int) < Z8) then bif decide ((0:Int) <= (0:Int) /\ (0:Int) < Z8) then bif decide (Line.place (List.getD l2 (0:Nat) Z4) <= c2) then Z0 else Z10 else Z9 else Z10 else Z9 else Z9 else Z0 else Z9 else Z9;let Z12:DO_:=bif Qd Z2 then bif decide (Z3=Z3) && true && decide (Z2 <= (9223372036854775807:Nat)) then bif QK (ZY p) ZF l0 (0:Nat) then bif !Qf c1 (0:Int) p then Z0 else bif Qd Z5 then bif decide ((16:Int) < Z6) then Z0 else bif Qd Z5 then bif decide ((0:Int) < Z6) then bif decide ((0:Int) <= (0:Int) /\ (0:Int) < Z6) then bif decide (Line.place (List.getD l1 (0:Nat) Z4) <= c1) then Z0 else Z11 else Z9 else Z11 else Z9 else Z9 else Z0 else Z9 else Z9;bif !Qf p (0:Int) (1048575:Int) then Z0 else bif Qd Z1 then bif decide ((↑Z1:Int)=(↑Z1:Int)) && true && decide (Z1 <= (9223372036854775807:Nat)) then bif QK (ZX p) Yi items (0:Nat) then bif !Qf c0 (0:Int) p then Z0 else bif Qd Z2 then bif decide ((16:Int) < Z3) then Z0 else bif Qd Z2 then bif decide ((0:Int) < Z3) then bif decide ((0:Int) <= (0:Int) /\ (0:Int) < Z3) then bif decide (Line.place (List.getD l0 (0:Nat) Z4) <= c0) then Z0 else Z12 else Z9 else Z12 else Z9 else Z9 else Z0 else Z9 else Z9):=by kernel_rfl
theorem Qj5 (p:Int) (ci:Bool) (items:List Item) (k0:Bool) (k1:Bool) (k2:Bool) (l0:List Line) (l1:List Line) (l2:List Line) (c0:Int) (c1:Int) (c2:Int) (h:(decide (items.length <= 9223372036854775807 /\ l0.length <= 9223372036854775807 /\ l1.length <= 9223372036854775807 /\ l2.length <= 9223372036854775807))=true):Qge p ci items k0 k1 k2 l0 l1 l2 c0 c1 c2=some (.bool (Q5 ⟨p,items,l0,l1,l2,c0,c1,c2⟩)):=by
 (rw [Qj4];conv=>zeta)
 obtain ⟨h,h0,h1,h2⟩:=of_decide_eq_true h;have b:=Ql h;have b0:=Ql h0;have b1:=Ql h1;have b2:=Ql h2;have i0:∀ l:List Line,decide (0 <= (0:Int) /\ (0:Int) < l.length) = !l.isEmpty:=fun l=>by cases l <;> simp
 have n0:∀ l:List Line,decide (0 < (l.length:Int)) = !l.isEmpty:=fun l=>by cases l <;> simp
 have n16:∀ l:List Line,decide (16 < (l.length:Int)) = !decide (l.length <= 16):=fun l=>by
  by_cases h:l.length <= 16 <;> simp [h]
  · omega
  · omega
 have nle:∀ a b:Int,decide (a <= b) = !decide (b < a):=fun a b=>by
  by_cases h:b < a <;> simp [h] <;> omega
 simp only [Q5,Zz,b,b0,b1,b2,h,h0,h1,h2,decide_true,cond_true,i0,n0,n16,nle (Line.place _)];generalize Qf p 0 1048575=x1;generalize QK (ZX p) Yi items 0=x2;generalize Qf c0 0 p=x3;generalize Qf c1 0 p=x4;generalize Qf c2 0 p=x5;generalize QK (ZY p) ZF l0 0=x6;generalize QK (ZY p) ZF l1 0=x7;generalize QK (ZY p) ZF l2 0=x8;generalize decide (l0.length <= 16)=x9;generalize decide (l1.length <= 16)=x10;generalize decide (l2.length <= 16)=x11;generalize decide (c0 < (l0.getD 0 ⟨0,0,0,0,0⟩).place)=x12;generalize decide (c1 < (l1.getD 0 ⟨0,0,0,0,0⟩).place)=x13;generalize decide (c2 < (l2.getD 0 ⟨0,0,0,0,0⟩).place)=x14;generalize l0.isEmpty=x15;generalize l1.isEmpty=x16;generalize l2.isEmpty=x17;cases x1;· rfl
 cases x2;· rfl
 cases x3;· rfl
 cases x9;· rfl
 cases x6
 · cases x15 <;> cases x12 <;> rfl
 cases x4;· cases x15 <;> cases x12 <;> rfl
 cases x10;· cases x15 <;> cases x12 <;> rfl
 cases x7;· cases x15 <;> cases x12 <;> cases x16 <;> cases x13 <;> rfl
 cases x5;· cases x15 <;> cases x12 <;> cases x16 <;> cases x13 <;> rfl
 cases x11;· cases x15 <;> cases x12 <;> cases x16 <;> cases x13 <;> rfl
 cases x15 <;> cases x12 <;> cases x16 <;> cases x13 <;> cases x17 <;> cases x14 <;> cases x8 <;> rfl
noncomputable def ua_6:=ua_5.addSpec 57 Qdn
theorem Qj6:Qh Tryz.prog s28 ua_6:=Qj3.addEv Qc fun args d h=>by
 unfold Qdn at h
 split at h
 · unfold Qgd at h;have h1:=congrArg Prod.fst (Option.some.inj h);obtain rfl:_=d:=congrArg Prod.snd (Option.some.inj h);exact ⟨by simp [D.refs],30,Qj5 _ _ _ _ _ _ _ _ _ _ _ _ h1⟩
 · cases h
theorem Jf {α:Type} [DecidableEq α] (l m:List α) (i:Nat) (d:α) (hlt:i < l.length) (hlen:l.length=m.length) :
 decide (l.drop i=m.drop i)=(decide (l.getD i d=m.getD i d) && decide (l.drop (i+1)=m.drop (i+1))):=by
 have e1:=List.drop_eq_getElem_cons hlt;have e2:=List.drop_eq_getElem_cons (show i < m.length by omega)
 have h1:l.getD i d=l[i]:=by simp [hlt]
 have h2:m.getD i d=m[i]'(by omega):=by simp [show i < m.length by omega]
 rw [h1,h2,e1,e2,Bool.eq_iff_iff];simp only [List.cons.injEq,decide_eq_true_eq,Bool.and_eq_true]
theorem JW {α:Type} [DecidableEq α] (l m:List α) (i:Nat) (h1:l.length <= i) (h2:m.length <= i):decide (l.drop i=m.drop i)=true:=by
 simp [List.drop_eq_nil_of_le h1,List.drop_eq_nil_of_le h2]
theorem beqD {α:Type} [DecidableEq α] [BEq α] [LawfulBEq α] (a b:α):(a == b)=decide (a=b):=by rw [Bool.eq_iff_iff];simp
theorem QrZ (x y:Item):(x.key == y.key && (x.place == y.place && (x.value == y.value && true)))=decide (x=y):=by
 rw [Bool.eq_iff_iff];cases x;cases y;simp
theorem Qr0 (x y:Line):(x.offset == y.offset && (x.place == y.place && (x.j == y.j && (x.key == y.key && (x.value == y.value && true)))))=decide (x=y):=by
 rw [Bool.eq_iff_iff];cases x;cases y;simp
def Yf (p c:Int) (l:List Line) (i:Nat):Bool:=(decide (i ≠ 0) || l.isEmpty || decide (c < (l.getD 0 ⟨0,0,0,0,0⟩).place)) && QK (ZY p) ZF l i
theorem Qj7 (p c:Int) (l:List Line):Zz p c l=(decide (l.length <= 16) && decide (0 <= c) && decide (c <= p) && Yf p c l 0):=by
 unfold Zz Yf Qf;cases decide (l.length <= 16) <;> cases decide (0 <= c) <;> cases decide (c <= p) <;> simp
open Go.Proofs
structure Qdo where
 c:Bool
 l:List Item
 p:Int
 i:Nat
def Qai (c:Bool) (l:List Item) (p:Int) (i:Nat):Env RC:=[(0,.sl (C:=RC) .item c l),(1,.int .i64 p),(4,.bool false),(5,.int .i64 (i:Int))]
def Qaj (c:Bool) (l:List Item) (p:Int) (i:Nat):List (Obj RC):=[]
noncomputable def Qgf (c:Bool) (l:List Item) (p:Int) (i:Nat):=rndO s28 ua_6 125 2 40 0 [0,1,4,5] [4] [] (Qai c l p i) (Qaj c l p i)
theorem Qj8 (c:Bool) (l:List Item) (p:Int) (i:Nat):Qgf c l p i=(let Z0:Int:=(↑i:Int);let Z1:Int:=(↑l.length:Int);let Z2:Item:=Item.mk (0:Int) (0:Int) (0:Int);let Z3:Item:=List.getD l Z0.toNat Z2;let Z4:Int:=Item.key Z3;let Z5:RO_:=some ((X.ret,[(4,D.bool false)]),[]);let Z6:Int:=IntKind.wrap .i64 (Z0 - (1:Int));let Z7:RO_:=bif decide (Item.place Z3 < (1:Int)) then Z5 else bif decide (p < Item.place Z3) then Z5 else bif decide (Item.value Z3 < (0:Int)) then Z5 else bif decide ((255:Int) < Item.value Z3) then Z5 else some ((X.normal,[(0,D.sl RTy.item c l),(1,D.int .i64 p),(4,D.bool false),(5,D.int .i64 (IntKind.wrap .i64 (Z0+(1:Int))))]),[]);bif Qd l.length then bif decide (Z0 < Z1) then bif decide ((0:Int) <= Z0 /\ Z0 < Z1) then bif decide (Z4 < (0:Int)) then Z5 else bif decide ((24:Int) <= Z4) then Z5 else bif decide ((0:Int) < Z0) then bif decide ((0:Int) <= Z6 /\ Z6 < Z1) then bif decide (Z4 <= Item.key (List.getD l Z6.toNat Z2)) then Z5 else Z7 else none else Z7 else none else some ((X.exit (0:Nat),[(4,D.bool false)]),[]) else none):=by kernel_rfl
def YS (c:Bool) (l:List Item) (p:Int) (i:Nat):RT RC:=.br (QK (ZX p) Yi l i) (.leaf (.exit 0) [(4,.bool false)] []) (.leaf .ret [(4,.bool false)] [])
def YT (c:Bool) (l:List Item) (p:Int) (i:Nat):Prop:=i <= l.length /\ l.length <= 9223372036854775807
def ZA:QF RC Qdo where
 k:=0
 canon q:=Qai q.c q.l q.p q.i
 objs q:=Qaj q.c q.l q.p q.i
 fin q:=YS q.c q.l q.p q.i
 Inv q:=YT q.c q.l q.p q.i
 μ q:=q.l.length - q.i
theorem Qdp (c:Bool) (l:List Item) (p:Int) (i:Nat) (hI:YT c l p i):Leaf (Qgf c l p i) (LedR ZA ⟨c,l,p,i⟩):=by
 (rw [Qj8];conv=>zeta)
 unfold YT at hI;obtain ⟨h1,h2⟩:=hI;have hlk:=Ql h2
 by_cases hlt:i < l.length
 · have w_succ:IntKind.i64.wrap ((i:Int)+1)=((i+1:Nat):Int):=by rw [wrap_id (by omega) (by omega)];simp
   have d_lt:decide ((i:Int) < l.length)=true:=by simp;omega
   have d_in:decide (0 <= (i:Int) /\ (i:Int) < l.length)=true:=by simp;omega
   have t_nat:((i:Int)).toNat=i:=by simp
   have w_pred:IntKind.i64.wrap ((i:Int) - 1)=(i:Int) - 1:=wrap_id (by omega) (by omega)
   have t_natp:((i:Int) - 1).toNat=i - 1:=by omega
   simp only [w_succ,d_lt,d_in,t_nat,w_pred,t_natp,cond_true];simp only [hlk,cond_true];have hst:=Ve (ZX p) Yi l i (⟨0,0,0⟩:Item) hlt;generalize l.getD i (⟨0,0,0⟩:Item)=x at hst ⊢;generalize l.getD (i - 1) (⟨0,0,0⟩:Item)=y at hst ⊢
   have hgo:ZX p x=true->(i=0 \/ Yi y x=true)->Leaf (some ((X.normal,Qai c l p (i+1)),[])) (LedR ZA ⟨c,l,p,i⟩):=fun a b =>
    Qt ⟨c,l,p,i+1⟩ ⟨hlt,h2⟩ (by simp only [ZA];omega) (by simp only [ZA,YS,hst,a];rcases b with b | b <;> simp [b]) rfl rfl
   have hno:¬ (ZX p x=true /\ (i=0 \/ Yi y x=true))->Leaf (some ((X.ret,[(4,D.bool false)]),[])) (LedR ZA ⟨c,l,p,i⟩):=fun he=>QG [] (by
    have:QK (ZX p) Yi l i=false:=by rw [hst];simp only [Bool.and_eq_false_iff];by_cases a:ZX p x=true <;> by_cases b:i=0 <;> simp_all
    simp [ZA,YS,this,RT.val]) rfl
   simp only [ZX,Yi,Qf,Bool.and_eq_true,decide_eq_true_eq] at hgo hno
   by_cases hi:i=0
   · have d0:decide (0 < (i:Int))=false:=by simp;omega
     simp only [d0,cond_false]
     repeat' (first | (refine Zx.2 ⟨fun hc_=>?_,fun hc_=>?_⟩ <;> simp only [decide_eq_true_eq,decide_eq_false_iff_not,beq_iff_eq,beq_eq_false_iff_ne,bne_iff_ne,ne_eq,Bool.not_eq_true,Bool.not_eq_false,bne_eq_false_iff_eq,decide_eq_decide,Bool.true_eq_false,Bool.false_eq_true] at hc_))
     all_goals first | (exfalso;omega) | exact hno (by omega) | (apply hgo <;> omega)
   · have d_pos:decide (0 < (i:Int))=true:=by simp;omega
     have d_inp:decide (0 <= (i:Int) - 1 /\ (i:Int) - 1 < l.length)=true:=by simp;omega
     simp only [d_pos,d_inp,cond_true]
     repeat' (first | (refine Zx.2 ⟨fun hc_=>?_,fun hc_=>?_⟩ <;> simp only [decide_eq_true_eq,decide_eq_false_iff_not,beq_iff_eq,beq_eq_false_iff_ne,bne_iff_ne,ne_eq,Bool.not_eq_true,Bool.not_eq_false,bne_eq_false_iff_eq,decide_eq_decide,Bool.true_eq_false,Bool.false_eq_true] at hc_))
     all_goals first | (exfalso;omega) | exact hno (by omega) | (apply hgo <;> omega)
 · have hi:i=l.length:=by omega
   have c1:decide ((i:Int) < l.length)=false:=by simp;omega
   simp only [hlk,c1,cond_true,cond_false];exact Qi [] (by simp [ZA,YS,hi,QK,QaL,RT.val]) rfl
def Qcr (env:Env RC) (os:List (Obj RC)):Option (Bool × Qdo):=match env,os with
 | [(0,.sl .item c l),(1,.int .i64 p),(4,.bool false),(5,.int .i64 x0)],[]=>Qz (true) (decide (x0=0) && decide (l.length <= 9223372036854775807),⟨c,l,p,0⟩)
 | _,_=>none
noncomputable def ub_1:=ua_6.addLoop 125 2 (sumR s28 [] [0,1,4,5] ZA Qcr)
theorem Qj9:Qh Tryz.prog s28 ub_1:=by
 refine Qj6.addRoundsR Qc (by kernel_rfl) ZA 40 [0,1,4,5] [4] [] [0,1,4,5] Qcr (fun q hI=>?_) ?_
 · obtain ⟨c,l,p,i⟩:=q;refine ⟨?_,?_,Qdp c l p i hI⟩
   · simp_all [Qk,ZA,Qai,Qaj,YT,D.refs,Obj.refs,rEnc]
   · simp_all [ZA,YS,Qaj,YT,RT.refsOK,Qk,D.refs,Obj.refs,rEnc]
 · intro env os b q hd_ hb;unfold Qcr at hd_
   split at hd_
   · obtain ⟨hs,hd_⟩:=Qg hd_;cases hd_;simp only [Bool.and_eq_true,decide_eq_true_eq] at hb;obtain ⟨rfl,hl⟩:=hb;exact ⟨⟨Nat.zero_le _,hl⟩,rfl,rfl⟩
   · cases hd_
structure Qdq where
 k:Bool
 l:List Line
 p:Int
 c:Int
 i:Nat
def Qak (k:Bool) (l:List Line) (p:Int) (c:Int) (i:Nat):Env RC:=[(0,.sl (C:=RC) .line k l),(1,.int .i64 p),(2,.int .i64 c),(6,.bool false),(7,.int .i64 (i:Int))]
def Qal (k:Bool) (l:List Line) (p:Int) (c:Int) (i:Nat):List (Obj RC):=[]
noncomputable def Qgg (k:Bool) (l:List Line) (p:Int) (c:Int) (i:Nat):=rndO s28 ub_1 126 4 60 0 [0,1,2,6,7] [6] [] (Qak k l p c i) (Qal k l p c i)
theorem Qka (k:Bool) (l:List Line) (p:Int) (c:Int) (i:Nat):Qgg k l p c i=(let Z0:Int:=(↑i:Int);let Z1:Int:=(↑l.length:Int);let Z2:Line:=Line.mk (0:Int) (0:Int) (0:Int) (0:Int) (0:Int);let Z3:Line:=List.getD l Z0.toNat Z2;let Z4:Int:=Line.offset Z3;let Z5:RO_:=some ((X.ret,[(6,D.bool false)]),[]);let Z6:Int:=Line.place Z3;let Z7:Int:=IntKind.wrap .i64 (Z0 - (1:Int));let Z8:Bool:=decide ((0:Int) <= Z7 /\ Z7 < Z1);let Z9:Line:=List.getD l Z7.toNat Z2;let Z10:RO_:=some ((X.normal,[(0,D.sl RTy.line k l),(1,D.int .i64 p),(2,D.int .i64 c),(6,D.bool false),(7,D.int .i64 (IntKind.wrap .i64 (Z0+(1:Int))))]),[]);let Z11:RO_:=bif decide ((0:Int) < Z0) then bif Z8 then bif Z4 != IntKind.wrap .i64 (Line.offset Z9+(1:Int)) then Z5 else bif Z8 then bif decide (Z6 < Line.place Z9) then Z5 else bif Z8 then bif Z6 == Line.place Z9 then bif Z8 then bif decide (Line.j Z3 <= Line.j Z9) then Z5 else Z10 else none else Z10 else none else none else none else Z10;bif Qd l.length then bif decide (Z0 < Z1) then bif decide ((0:Int) <= Z0 /\ Z0 < Z1) then bif decide (Z4 < (0:Int)) then Z5 else bif decide ((4194304:Int) <= Z4) then Z5 else bif decide (Z6 < (1:Int)) then Z5 else bif decide (p < Z6) then Z5 else bif decide (Line.j Z3 < (0:Int)) then Z5 else bif decide ((4:Int) <= Line.j Z3) then Z5 else bif decide (Line.key Z3 < (0:Int)) then Z5 else bif decide ((8:Int) <= Line.key Z3) then Z5 else bif decide (Line.value Z3 < (0:Int)) then Z5 else bif decide ((255:Int) < Line.value Z3) then Z5 else bif Z0 == (0:Int) then bif decide (Z6 <= c) then Z5 else Z11 else Z11 else none else some ((X.exit (0:Nat),[(6,D.bool false)]),[]) else none):=by kernel_rfl
def YU (k:Bool) (l:List Line) (p:Int) (c:Int) (i:Nat):RT RC:=.br (Yf p c l i) (.leaf (.exit 0) [(6,.bool false)] []) (.leaf .ret [(6,.bool false)] [])
def YV (k:Bool) (l:List Line) (p:Int) (c:Int) (i:Nat):Prop:=i <= l.length /\ l.length <= 9223372036854775807
def ZB:QF RC Qdq where
 k:=0
 canon q:=Qak q.k q.l q.p q.c q.i
 objs q:=Qal q.k q.l q.p q.c q.i
 fin q:=YU q.k q.l q.p q.c q.i
 Inv q:=YV q.k q.l q.p q.c q.i
 μ q:=q.l.length - q.i
theorem Qdr (k:Bool) (l:List Line) (p:Int) (c:Int) (i:Nat) (hI:YV k l p c i):Leaf (Qgg k l p c i) (LedR ZB ⟨k,l,p,c,i⟩):=by
 (rw [Qka];conv=>zeta)
 unfold YV at hI;obtain ⟨h1,h2⟩:=hI;have hlk:=Ql h2
 by_cases hlt:i < l.length
 · have w_succ:IntKind.i64.wrap ((i:Int)+1)=((i+1:Nat):Int):=by rw [wrap_id (by omega) (by omega)];simp
   have d_lt:decide ((i:Int) < l.length)=true:=by simp;omega
   have d_in:decide (0 <= (i:Int) /\ (i:Int) < l.length)=true:=by simp;omega
   have t_nat:((i:Int)).toNat=i:=by simp
   have w_pred:IntKind.i64.wrap ((i:Int) - 1)=(i:Int) - 1:=wrap_id (by omega) (by omega)
   have t_natp:((i:Int) - 1).toNat=i - 1:=by omega
   simp only [w_succ,d_lt,d_in,t_nat,w_pred,t_natp,cond_true];simp only [hlk,cond_true];have hst:=Ve (ZY p) ZF l i (⟨0,0,0,0,0⟩:Line) hlt;have hne:l.isEmpty=false:=by cases l <;> simp at hlt ⊢
   have hz:Yf p c l i=((decide (i ≠ 0) || decide (c < (l.getD i ⟨0,0,0,0,0⟩).place)) && QK (ZY p) ZF l i):=by
    unfold Yf
    by_cases hi:i=0
    · subst hi;simp [hne]
    · simp [hi]
   have hn:Yf p c l (i+1)=QK (ZY p) ZF l (i+1):=by simp [Yf]
   rw [hst] at hz;generalize l.getD i (⟨0,0,0,0,0⟩:Line)=x at hz ⊢;generalize l.getD (i - 1) (⟨0,0,0,0,0⟩:Line)=y at hz ⊢
   have hgo:ZY p x=true->(i ≠ 0 \/ c < x.place)->(i=0 \/ ZF y x=true)->Leaf (some ((X.normal,Qak k l p c (i+1)),[])) (LedR ZB ⟨k,l,p,c,i⟩):=fun a b d =>
    Qt ⟨k,l,p,c,i+1⟩ ⟨hlt,h2⟩ (by simp only [ZB];omega) (by
     have e1:(decide (i ≠ 0) || decide (c < x.place))=true:=by simpa using b
     have e2:(decide (i=0) || ZF y x)=true:=by simpa using d
     simp only [ZB,YU,hz,hn,a,e1,e2,Bool.true_and]) rfl rfl
   have hno:¬ (ZY p x=true /\ (i ≠ 0 \/ c < x.place) /\ (i=0 \/ ZF y x=true))->Leaf (some ((X.ret,[(6,D.bool false)]),[])) (LedR ZB ⟨k,l,p,c,i⟩):=fun he=>QG [] (by
    have:Yf p c l i=false:=by
     rw [hz];cases hq:((decide (i ≠ 0) || decide (c < x.place)) && (ZY p x && (decide (i=0) || ZF y x) && QK (ZY p) ZF l (i+1))) with
     | false=>rfl
     | true =>
      exfalso;simp only [Bool.and_eq_true,Bool.or_eq_true,decide_eq_true_eq] at hq;exact he ⟨hq.2.1.1,hq.1,hq.2.1.2⟩
    simp [ZB,YU,this,RT.val]) rfl
   simp only [ZY,ZF,Qf,Bool.and_eq_true,Bool.or_eq_true,decide_eq_true_eq,beq_iff_eq] at hgo hno
   by_cases hi:i=0
   · have d0:decide (0 < (i:Int))=false:=by simp;omega
     simp only [d0,cond_false]
     repeat' (first | (refine Zx.2 ⟨fun hc_=>?_,fun hc_=>?_⟩ <;> simp only [decide_eq_true_eq,decide_eq_false_iff_not,beq_iff_eq,beq_eq_false_iff_ne,bne_iff_ne,ne_eq,Bool.not_eq_true,Bool.not_eq_false,bne_eq_false_iff_eq,decide_eq_decide,Bool.true_eq_false,Bool.false_eq_true] at hc_))
     all_goals first | (exfalso;omega) | exact hno (by omega) | (apply hgo <;> omega)
   · have d_pos:decide (0 < (i:Int))=true:=by simp;omega
     have d_inp:decide (0 <= (i:Int) - 1 /\ (i:Int) - 1 < l.length)=true:=by simp;omega
     simp only [d_pos,d_inp,cond_true];have i0:((i:Int) == 0)=false:=by simp;omega
     simp only [i0,cond_false];generalize IntKind.i64.wrap (y.offset+1)=z at hgo hno ⊢
     repeat' (first | (refine Zx.2 ⟨fun hc_=>?_,fun hc_=>?_⟩ <;> simp only [decide_eq_true_eq,decide_eq_false_iff_not,beq_iff_eq,beq_eq_false_iff_ne,bne_iff_ne,ne_eq,Bool.not_eq_true,Bool.not_eq_false,bne_eq_false_iff_eq,decide_eq_decide,Bool.true_eq_false,Bool.false_eq_true] at hc_))
     all_goals first | (exfalso;omega) | exact hno (by omega) | (apply hgo <;> omega)
 · have hi:i=l.length:=by omega
   have c1:decide ((i:Int) < l.length)=false:=by simp;omega
   simp only [hlk,c1,cond_true,cond_false]
   have hq:Yf p c l i=true:=by
    unfold Yf;rw [KE _ _ _ _ (by omega)]
    cases l with
    | nil=>simp
    | cons _ _=>simp at hi ⊢;left;omega
   exact Qi [] (by simp [ZB,YU,hq,RT.val]) rfl
def Qcs (env:Env RC) (os:List (Obj RC)):Option (Bool × Qdq):=match env,os with
 | [(0,.sl .line k l),(1,.int .i64 p),(2,.int .i64 c),(6,.bool false),(7,.int .i64 x0)],[]=>Qz (true) (decide (x0=0) && decide (l.length <= 9223372036854775807),⟨k,l,p,c,0⟩)
 | _,_=>none
noncomputable def ub_2:=ub_1.addLoop 126 4 (sumR s28 [] [0,1,2,6,7] ZB Qcs)
theorem Qkb:Qh Tryz.prog s28 ub_2:=by
 refine Qj9.addRoundsR Qc (by kernel_rfl) ZB 60 [0,1,2,6,7] [6] [] [0,1,2,6,7] Qcs (fun q hI=>?_) ?_
 · obtain ⟨k,l,p,c,i⟩:=q;refine ⟨?_,?_,Qdr k l p c i hI⟩
   · simp_all [Qk,ZB,Qak,Qal,YV,D.refs,Obj.refs,rEnc]
   · simp_all [ZB,YU,Qal,YV,RT.refsOK,Qk,D.refs,Obj.refs,rEnc]
 · intro env os b q hd_ hb;unfold Qcs at hd_
   split at hd_
   · obtain ⟨hs,hd_⟩:=Qg hd_;cases hd_;simp only [Bool.and_eq_true,decide_eq_true_eq] at hb;obtain ⟨rfl,hl⟩:=hb;exact ⟨⟨Nat.zero_le _,hl⟩,rfl,rfl⟩
   · cases hd_
def Qds (k:Bool) (l:List Line) (p:Int) (c:Int):Option (Bool × D RC):=some (Qd l.length,.bool (Zz p c l))
def Qbw:List (D RC)->Option (Bool × D RC)
 | [.sl .line k l,.int .i64 p,.int .i64 c]=>Qds k l p c
 | _=>none
noncomputable def Qdt (k:Bool) (l:List Line) (p:Int) (c:Int):=evF s28 ub_2 40 126 [.sl (C:=RC) .line k l,.int .i64 p,.int .i64 c]
theorem Qh0 (k:Bool) (l:List Line) (p:Int) (c:Int):Qdt k l p c=(let Z0:Nat:=List.length l;let Z1:DO_:=some (D.bool false);bif Qd Z0 then bif decide ((16:Int) < (↑Z0:Int)) then Z1 else bif decide (c < (0:Int)) then Z1 else bif decide (p < c) then Z1 else bif decide (Z0 <= (9223372036854775807:Nat)) then bif Yf p c l (0:Nat) then some (D.bool true) else Z1 else none else none):=by kernel_rfl
theorem Qh1 (k:Bool) (l:List Line) (p:Int) (c:Int) (h:(Qd l.length)=true):Qdt k l p c=some (.bool (Zz p c l)):=by
 (rw [Qh0];conv=>zeta)
 have h2:l.length <= 9223372036854775807:=YZ h;rw [Qj7,h]
 by_cases h4:l.length <= 16
 · have a1:¬ (16:Int) < l.length:=by omega
   by_cases c0:c < 0
   · have:¬ 0 <= c:=by omega
     simp [h4,h2,a1,c0,this]
   · have c0':0 <= c:=by omega
     by_cases cp:p < c
     · have:¬ c <= p:=by omega
       simp [h4,h2,a1,c0,c0',cp,this]
     · have cp':c <= p:=by omega
       simp [h4,h2,a1,c0,c0',cp,cp'];cases Yf p c l 0 <;> rfl
 · have:(16:Int) < l.length:=by omega
   simp [h4,this]
noncomputable def ub_3:=ub_2.addSpec 126 Qbw
theorem Qkc:Qh Tryz.prog s28 ub_3:=Qkb.addEv Qc fun args d h=>by
 unfold Qbw at h
 split at h
 · unfold Qds at h;have h1:=congrArg Prod.fst (Option.some.inj h);obtain rfl:_=d:=congrArg Prod.snd (Option.some.inj h);exact ⟨by simp [D.refs],40,Qh1 _ _ _ _ h1⟩
 · cases h
def Qdu (p:Int) (ci:Bool) (items:List Item) (k0:Bool) (k1:Bool) (k2:Bool) (l0:List Line) (l1:List Line) (l2:List Line) (c0:Int) (c1:Int) (c2:Int):Option (Bool × D RC):=some (decide (items.length <= 9223372036854775807 /\ l0.length <= 9223372036854775807 /\ l1.length <= 9223372036854775807 /\ l2.length <= 9223372036854775807),.bool (Q5 ⟨p,items,l0,l1,l2,c0,c1,c2⟩))
def Qbx:List (D RC)->Option (Bool × D RC)
 | [.acons (.int .i64 p) (.acons (.sl .item ci items) (.acons (.acons (.sl .line k0 l0) (.acons (.sl .line k1 l1) (.acons (.sl .line k2 l2) .anil))) (.acons (.arr .int 3 [c0,c1,c2]) .anil)))]=>Qdu p ci items k0 k1 k2 l0 l1 l2 c0 c1 c2
 | _=>none
noncomputable def Qdv (p:Int) (ci:Bool) (items:List Item) (k0:Bool) (k1:Bool) (k2:Bool) (l0:List Line) (l1:List Line) (l2:List Line) (c0:Int) (c1:Int) (c2:Int):=evF s28 ub_3 40 62 [.acons (.int .i64 p) (.acons (.sl (C:=RC) .item ci items) (.acons (.acons (.sl (C:=RC) .line k0 l0) (.acons (.sl (C:=RC) .line k1 l1) (.acons (.sl (C:=RC) .line k2 l2) .anil))) (.acons (.arr (C:=RC) .int 3 [c0,c1,c2]) .anil)))]
theorem Qh2 (p:Int) (ci:Bool) (items:List Item) (k0:Bool) (k1:Bool) (k2:Bool) (l0:List Line) (l1:List Line) (l2:List Line) (c0:Int) (c1:Int) (c2:Int):Qdv p ci items k0 k1 k2 l0 l1 l2 c0 c1 c2=(let Z0:DO_:=some (D.bool false);bif decide (p < (0:Int)) then Z0 else bif decide ((1048575:Int) < p) then Z0 else bif decide (List.length items <= (9223372036854775807:Nat)) then bif QK (ZX p) Yi items (0:Nat) then bif Qd l0.length then bif !Zz p c0 l0 then Z0 else bif Qd l1.length then bif !Zz p c1 l1 then Z0 else bif Qd l2.length then bif !Zz p c2 l2 then Z0 else some (D.bool true) else none else none else none else Z0 else none):=by kernel_rfl
theorem Qh3 (p:Int) (ci:Bool) (items:List Item) (k0:Bool) (k1:Bool) (k2:Bool) (l0:List Line) (l1:List Line) (l2:List Line) (c0:Int) (c1:Int) (c2:Int) (h:(decide (items.length <= 9223372036854775807 /\ l0.length <= 9223372036854775807 /\ l1.length <= 9223372036854775807 /\ l2.length <= 9223372036854775807))=true):Qdv p ci items k0 k1 k2 l0 l1 l2 c0 c1 c2=some (.bool (Q5 ⟨p,items,l0,l1,l2,c0,c1,c2⟩)):=by
 (rw [Qh2];conv=>zeta)
 obtain ⟨h,h0,h1,h2⟩:=of_decide_eq_true h;simp only [Q5,Ql h,Ql h0,Ql h1,Ql h2,h,decide_true,cond_true];have e1:decide (0 <= p) = !decide (p < 0):=by by_cases h:p < 0 <;> simp [h] <;> omega
 have e2:decide (p <= 1048575) = !decide (1048575 < p):=by by_cases h:1048575 < p <;> simp [h] <;> omega
 simp only [Qf,e1,e2];generalize decide (p < 0)=x1;generalize decide (1048575 < p)=x2;generalize QK (ZX p) Yi items 0=x3;generalize Zz p c0 l0=x4;generalize Zz p c1 l1=x5;generalize Zz p c2 l2=x6;cases x1 <;> cases x2 <;> cases x3 <;> cases x4 <;> cases x5 <;> cases x6 <;> rfl
noncomputable def ub_4:=ub_3.addSpec 62 Qbx
theorem Qkd:Qh Tryz.prog s28 ub_4:=Qkc.addEv Qc fun args d h=>by
 unfold Qbx at h
 split at h
 · unfold Qdu at h;have h1:=congrArg Prod.fst (Option.some.inj h);obtain rfl:_=d:=congrArg Prod.snd (Option.some.inj h);exact ⟨by simp [D.refs],40,Qh3 _ _ _ _ _ _ _ _ _ _ _ _ h1⟩
 · cases h
open Go.Proofs
structure JX where
 c:Bool
 l:List Line
 d:Bool
 m:List Line
 i:Nat
def VK (c:Bool) (l:List Line) (d:Bool) (m:List Line) (i:Nat):Env RC:=[(0,.sl (C:=RC) .line c l),(1,.sl (C:=RC) .line d m),(4,.bool false),(5,.int .i64 (i:Int))]
def YH (c:Bool) (l:List Line) (d:Bool) (m:List Line) (i:Nat):List (Obj RC):=[]
noncomputable def KZ (c:Bool) (l:List Line) (d:Bool) (m:List Line) (i:Nat):=rndO s28 ub_4 50 4 40 0 [0,1,4,5] [4] [] (VK c l d m i) (YH c l d m i)
theorem Qct (c:Bool) (l:List Line) (d:Bool) (m:List Line) (i:Nat):KZ c l d m i=(let Z0:Int:=(↑i:Int);let Z1:Line:=Line.mk (0:Int) (0:Int) (0:Int) (0:Int) (0:Int);let Z2:Line:=List.getD l Z0.toNat Z1;let Z3:Line:=List.getD m Z0.toNat Z1;bif Qd l.length then bif decide (Z0 < (↑l.length:Int)) then bif decide ((0:Int) <= Z0 /\ Z0 < (↑l.length:Int)) then bif decide ((0:Int) <= Z0 /\ Z0 < (↑m.length:Int)) then bif !(Line.offset Z2 == Line.offset Z3 && (Line.place Z2 == Line.place Z3 && (Line.j Z2 == Line.j Z3 && (Line.key Z2 == Line.key Z3 && (Line.value Z2 == Line.value Z3 && true))))) then some ((X.ret,[(4,D.bool false)]),[]) else some ((X.normal,[(0,D.sl RTy.line c l),(1,D.sl RTy.line d m),(4,D.bool false),(5,D.int .i64 (IntKind.wrap .i64 (Z0+(1:Int))))]),[]) else none else none else some ((X.exit (0:Nat),[(4,D.bool false)]),[]) else none):=by kernel_rfl
def Zj (c:Bool) (l:List Line) (d:Bool) (m:List Line) (i:Nat):RT RC:=.br (decide (l.drop i=m.drop i)) (.leaf (.exit 0) [(4,.bool false)] []) (.leaf .ret [(4,.bool false)] [])
def Zk (c:Bool) (l:List Line) (d:Bool) (m:List Line) (i:Nat):Prop:=i <= l.length /\ l.length <= 9223372036854775807 /\ l.length=m.length
def QZ:QF RC JX where
 k:=0
 canon q:=VK q.c q.l q.d q.m q.i
 objs q:=YH q.c q.l q.d q.m q.i
 fin q:=Zj q.c q.l q.d q.m q.i
 Inv q:=Zk q.c q.l q.d q.m q.i
 μ q:=q.l.length - q.i
theorem Qac (c:Bool) (l:List Line) (d:Bool) (m:List Line) (i:Nat) (hI:Zk c l d m i):Leaf (KZ c l d m i) (LedR QZ ⟨c,l,d,m,i⟩):=by
 (rw [Qct];conv=>zeta)
 unfold Zk at hI;obtain ⟨h1,h2,h3⟩:=hI;have hlk:=Ql h2
 by_cases hlt:i < l.length
 · have w_succ:IntKind.i64.wrap ((i:Int)+1)=((i+1:Nat):Int):=by rw [wrap_id (by omega) (by omega)];simp
   have d_lt:decide ((i:Int) < l.length)=true:=by simp;omega
   have d_in:decide (0 <= (i:Int) /\ (i:Int) < l.length)=true:=by simp;omega
   have t_nat:((i:Int)).toNat=i:=by simp
   simp only [w_succ,d_lt,d_in,t_nat,cond_true];have hlt':i < m.length:=by omega
   have d_in':decide (0 <= (i:Int) /\ (i:Int) < m.length)=true:=by simp;omega
   have hst:=Jf l m i (⟨0,0,0,0,0⟩:Line) hlt h3;simp only [d_in',cond_true,hlk,Qr0];generalize l.getD i (⟨0,0,0,0,0⟩:Line)=x at hst ⊢;generalize m.getD i (⟨0,0,0,0,0⟩:Line)=y at hst ⊢
   by_cases hxy:x=y
   · simp only [hxy,decide_true,Bool.not_true,cond_false];exact Qt ⟨c,l,d,m,i+1⟩ ⟨hlt,h2,h3⟩ (by simp only [QZ];omega) (by simp only [QZ,Zj,hst,hxy,decide_true,Bool.true_and]) rfl rfl
   · simp only [hxy,decide_false,Bool.not_false,cond_true];exact QG [] (by simp [QZ,Zj,hst,hxy,RT.val]) rfl
 · have hi:i=l.length:=by omega
   have c1:decide ((i:Int) < l.length)=false:=by simp;omega
   simp only [hlk,cond_true,c1,cond_false];exact Qi [] (by simp only [QZ,Zj,JW l m i (by omega) (by omega),RT.val,cond_true]) rfl
def VL (env:Env RC) (os:List (Obj RC)):Option (Bool × JX):=match env,os with
 | [(0,.sl .line c l),(1,.sl .line d m),(4,.bool false),(5,.int .i64 x0)],[]=>Qz (true) (decide (x0=0) && decide (l.length <= 9223372036854775807 /\ l.length=m.length),⟨c,l,d,m,0⟩)
 | _,_=>none
noncomputable def uc_1:=ub_4.addLoop 50 4 (sumR s28 [] [0,1,4,5] QZ VL)
theorem Qke:Qh Tryz.prog s28 uc_1:=by
 refine Qkd.addRoundsR Qc (by kernel_rfl) QZ 40 [0,1,4,5] [4] [] [0,1,4,5] VL (fun q hI=>?_) ?_
 · obtain ⟨c,l,d,m,i⟩:=q;refine ⟨?_,?_,Qac c l d m i hI⟩
   · simp_all [Qk,QZ,VK,YH,Zk,D.refs,Obj.refs,rEnc]
   · simp_all [QZ,Zj,YH,Zk,RT.refsOK,Qk,D.refs,Obj.refs,rEnc]
 · intro env os b q hd_ hb;unfold VL at hd_
   split at hd_
   · obtain ⟨hs,hd_⟩:=Qg hd_;cases hd_;simp only [Bool.and_eq_true,decide_eq_true_eq] at hb;obtain ⟨rfl,hl⟩:=hb;exact ⟨⟨Nat.zero_le _,hl.1,hl.2⟩,rfl,rfl⟩
   · cases hd_
def JY (c:Bool) (l:List Line) (d:Bool) (m:List Line):Option (Bool × D RC):=some (Qd l.length && Qd m.length,.bool (decide (l=m)))
def Jp:List (D RC)->Option (Bool × D RC)
 | [.sl .line c l,.sl .line d m]=>JY c l d m
 | _=>none
noncomputable def JZ (c:Bool) (l:List Line) (d:Bool) (m:List Line):=evF s28 uc_1 40 50 [.sl (C:=RC) .line c l,.sl (C:=RC) .line d m]
theorem Qbg (c:Bool) (l:List Line) (d:Bool) (m:List Line):JZ c l d m=(let Z0:Nat:=List.length l;let Z1:Nat:=List.length m;bif Qd Z0 then bif Qd Z1 then bif (↑Z0:Int) != (↑Z1:Int) then some (D.bool false) else bif decide (Z0 <= (9223372036854775807:Nat) /\ Z0=Z1) then bif decide (List.drop (0:Nat) l=List.drop (0:Nat) m) then some (D.bool true) else some (D.bool false) else none else none else none):=by kernel_rfl
theorem Qbh (c:Bool) (l:List Line) (d:Bool) (m:List Line) (h:(Qd l.length && Qd m.length)=true):JZ c l d m=some (.bool (decide (l=m))):=by
 (rw [Qbg];conv=>zeta)
 simp only [Bool.and_eq_true] at h;have h1:l.length <= 9223372036854775807:=YZ h.1;simp only [h.1,h.2,cond_true]
 by_cases hl:l.length=m.length
 · have e1:((l.length:Int) != (m.length:Int))=false:=by simp [hl]
   have e2:(l.length <= 9223372036854775807 /\ l.length=m.length):=⟨h1,hl⟩;rw [e1,decide_eq_true e2];simp only [cond_true,cond_false,List.drop_zero];cases decide (l=m) <;> rfl
 · have e1:((l.length:Int) != (m.length:Int))=true:=by simp;omega
   have:¬ l=m:=fun e=>hl (by rw [e])
   simp [e1,this]
noncomputable def uc_2:=uc_1.addSpec 50 Jp
theorem Qkf:Qh Tryz.prog s28 uc_2:=Qke.addEv Qc fun args d h=>by
 unfold Jp at h
 split at h
 · unfold JY at h;have h1:=congrArg Prod.fst (Option.some.inj h);obtain rfl:_=d:=congrArg Prod.snd (Option.some.inj h);exact ⟨by simp [D.refs],40,Qbh _ _ _ _ h1⟩
 · cases h
structure QaN where
 p:Int
 ci:Bool
 items:List Item
 k0:Bool
 k1:Bool
 k2:Bool
 l0:List Line
 l1:List Line
 l2:List Line
 c0:Int
 c1:Int
 c2:Int
 q:Int
 di:Bool
 jtems:List Item
 j0:Bool
 j1:Bool
 j2:Bool
 m0:List Line
 m1:List Line
 m2:List Line
 d0:Int
 d1:Int
 d2:Int
 i:Nat
def KG (p:Int) (ci:Bool) (items:List Item) (k0:Bool) (k1:Bool) (k2:Bool) (l0:List Line) (l1:List Line) (l2:List Line) (c0:Int) (c1:Int) (c2:Int) (q:Int) (di:Bool) (jtems:List Item) (j0:Bool) (j1:Bool) (j2:Bool) (m0:List Line) (m1:List Line) (m2:List Line) (d0:Int) (d1:Int) (d2:Int) (i:Nat):Env RC:=[(2,.ptr 0 []),(3,.ptr 1 []),(4,.bool false),(5,.int .i64 (i:Int))]
def Zd (p:Int) (ci:Bool) (items:List Item) (k0:Bool) (k1:Bool) (k2:Bool) (l0:List Line) (l1:List Line) (l2:List Line) (c0:Int) (c1:Int) (c2:Int) (q:Int) (di:Bool) (jtems:List Item) (j0:Bool) (j1:Bool) (j2:Bool) (m0:List Line) (m1:List Line) (m2:List Line) (d0:Int) (d1:Int) (d2:Int) (i:Nat):List (Obj RC):=[.var 34 (.acons (.int .i64 p) (.acons (.sl (C:=RC) .item ci items) (.acons (.acons (.sl (C:=RC) .line k0 l0) (.acons (.sl (C:=RC) .line k1 l1) (.acons (.sl (C:=RC) .line k2 l2) .anil))) (.acons (.arr (C:=RC) .int 3 [c0,c1,c2]) .anil)))),.var 34 (.acons (.int .i64 q) (.acons (.sl (C:=RC) .item di jtems) (.acons (.acons (.sl (C:=RC) .line j0 m0) (.acons (.sl (C:=RC) .line j1 m1) (.acons (.sl (C:=RC) .line j2 m2) .anil))) (.acons (.arr (C:=RC) .int 3 [d0,d1,d2]) .anil))))]
noncomputable def Qby (p:Int) (ci:Bool) (items:List Item) (k0:Bool) (k1:Bool) (k2:Bool) (l0:List Line) (l1:List Line) (l2:List Line) (c0:Int) (c1:Int) (c2:Int) (q:Int) (di:Bool) (jtems:List Item) (j0:Bool) (j1:Bool) (j2:Bool) (m0:List Line) (m1:List Line) (m2:List Line) (d0:Int) (d1:Int) (d2:Int) (i:Nat):=rndO s28 uc_2 15 4 40 2 [2,3,4,5] [4] [.slot 2 0,.slot 3 0] (KG p ci items k0 k1 k2 l0 l1 l2 c0 c1 c2 q di jtems j0 j1 j2 m0 m1 m2 d0 d1 d2 i) (Zd p ci items k0 k1 k2 l0 l1 l2 c0 c1 c2 q di jtems j0 j1 j2 m0 m1 m2 d0 d1 d2 i)
theorem Qfb (p:Int) (ci:Bool) (items:List Item) (k0:Bool) (k1:Bool) (k2:Bool) (l0:List Line) (l1:List Line) (l2:List Line) (c0:Int) (c1:Int) (c2:Int) (q:Int) (di:Bool) (jtems:List Item) (j0:Bool) (j1:Bool) (j2:Bool) (m0:List Line) (m1:List Line) (m2:List Line) (d0:Int) (d1:Int) (d2:Int) (i:Nat):Qby p ci items k0 k1 k2 l0 l1 l2 c0 c1 c2 q di jtems j0 j1 j2 m0 m1 m2 d0 d1 d2 i=(let Z0:Int:=(↑i:Int);let Z1:Item:=Item.mk (0:Int) (0:Int) (0:Int);let Z2:Item:=List.getD items Z0.toNat Z1;let Z3:Item:=List.getD jtems Z0.toNat Z1;let Z4:List (Option (Obj RC)):=[some (Obj.var 34 (.acons (D.int .i64 p) (.acons (D.sl RTy.item ci items) (.acons (D.acons (D.sl RTy.line k0 l0) (.acons (D.sl RTy.line k1 l1) (.acons (D.sl RTy.line k2 l2) .anil))) (.acons (D.arr RTy.int (3:Nat) [c0,c1,c2]) .anil))))),some (Obj.var 34 (.acons (D.int .i64 q) (.acons (D.sl RTy.item di jtems) (.acons (D.acons (D.sl RTy.line j0 m0) (.acons (D.sl RTy.line j1 m1) (.acons (D.sl RTy.line j2 m2) .anil))) (.acons (D.arr RTy.int (3:Nat) [d0,d1,d2]) .anil)))))];bif Qd items.length then bif decide (Z0 < (↑items.length:Int)) then bif decide ((0:Int) <= Z0 /\ Z0 < (↑items.length:Int)) then bif decide ((0:Int) <= Z0 /\ Z0 < (↑jtems.length:Int)) then bif !(Item.key Z2 == Item.key Z3 && (Item.place Z2 == Item.place Z3 && (Item.value Z2 == Item.value Z3 && true))) then some ((X.ret,[(4,D.bool false)]),Z4) else some ((X.normal,[(2,D.ptr 0 []),(3,D.ptr 1 []),(4,D.bool false),(5,D.int .i64 (IntKind.wrap .i64 (Z0+(1:Int))))]),Z4) else none else none else some ((X.exit (0:Nat),[(4,D.bool false)]),Z4) else none):=by kernel_rfl
def ZZ (p:Int) (ci:Bool) (items:List Item) (k0:Bool) (k1:Bool) (k2:Bool) (l0:List Line) (l1:List Line) (l2:List Line) (c0:Int) (c1:Int) (c2:Int) (q:Int) (di:Bool) (jtems:List Item) (j0:Bool) (j1:Bool) (j2:Bool) (m0:List Line) (m1:List Line) (m2:List Line) (d0:Int) (d1:Int) (d2:Int) (i:Nat):RT RC:=.br (decide (items.drop i=jtems.drop i)) (.leaf (.exit 0) [(4,.bool false)] (Zd p ci items k0 k1 k2 l0 l1 l2 c0 c1 c2 q di jtems j0 j1 j2 m0 m1 m2 d0 d1 d2 i)) (.leaf .ret [(4,.bool false)] (Zd p ci items k0 k1 k2 l0 l1 l2 c0 c1 c2 q di jtems j0 j1 j2 m0 m1 m2 d0 d1 d2 i))
def Ya (p:Int) (ci:Bool) (items:List Item) (k0:Bool) (k1:Bool) (k2:Bool) (l0:List Line) (l1:List Line) (l2:List Line) (c0:Int) (c1:Int) (c2:Int) (q:Int) (di:Bool) (jtems:List Item) (j0:Bool) (j1:Bool) (j2:Bool) (m0:List Line) (m1:List Line) (m2:List Line) (d0:Int) (d1:Int) (d2:Int) (i:Nat):Prop:=i <= items.length /\ items.length <= 9223372036854775807 /\ items.length=jtems.length
def Ze:QF RC QaN where
 k:=2
 canon q:=KG q.p q.ci q.items q.k0 q.k1 q.k2 q.l0 q.l1 q.l2 q.c0 q.c1 q.c2 q.q q.di q.jtems q.j0 q.j1 q.j2 q.m0 q.m1 q.m2 q.d0 q.d1 q.d2 q.i
 objs q:=Zd q.p q.ci q.items q.k0 q.k1 q.k2 q.l0 q.l1 q.l2 q.c0 q.c1 q.c2 q.q q.di q.jtems q.j0 q.j1 q.j2 q.m0 q.m1 q.m2 q.d0 q.d1 q.d2 q.i
 fin q:=ZZ q.p q.ci q.items q.k0 q.k1 q.k2 q.l0 q.l1 q.l2 q.c0 q.c1 q.c2 q.q q.di q.jtems q.j0 q.j1 q.j2 q.m0 q.m1 q.m2 q.d0 q.d1 q.d2 q.i
 Inv q:=Ya q.p q.ci q.items q.k0 q.k1 q.k2 q.l0 q.l1 q.l2 q.c0 q.c1 q.c2 q.q q.di q.jtems q.j0 q.j1 q.j2 q.m0 q.m1 q.m2 q.d0 q.d1 q.d2 q.i
 μ q:=q.items.length - q.i
theorem Qbi (p:Int) (ci:Bool) (items:List Item) (k0:Bool) (k1:Bool) (k2:Bool) (l0:List Line) (l1:List Line) (l2:List Line) (c0:Int) (c1:Int) (c2:Int) (q:Int) (di:Bool) (jtems:List Item) (j0:Bool) (j1:Bool) (j2:Bool) (m0:List Line) (m1:List Line) (m2:List Line) (d0:Int) (d1:Int) (d2:Int) (i:Nat) (hI:Ya p ci items k0 k1 k2 l0 l1 l2 c0 c1 c2 q di jtems j0 j1 j2 m0 m1 m2 d0 d1 d2 i):Leaf (Qby p ci items k0 k1 k2 l0 l1 l2 c0 c1 c2 q di jtems j0 j1 j2 m0 m1 m2 d0 d1 d2 i) (LedR Ze ⟨p,ci,items,k0,k1,k2,l0,l1,l2,c0,c1,c2,q,di,jtems,j0,j1,j2,m0,m1,m2,d0,d1,d2,i⟩):=by
 (rw [Qfb];conv=>zeta)
 unfold Ya at hI;obtain ⟨h1,h2,h3⟩:=hI;have hlk:=Ql h2
 by_cases hlt:i < items.length
 · have w_succ:IntKind.i64.wrap ((i:Int)+1)=((i+1:Nat):Int):=by rw [wrap_id (by omega) (by omega)];simp
   have d_lt:decide ((i:Int) < items.length)=true:=by simp;omega
   have d_in:decide (0 <= (i:Int) /\ (i:Int) < items.length)=true:=by simp;omega
   have t_nat:((i:Int)).toNat=i:=by simp
   simp only [w_succ,d_lt,d_in,t_nat,cond_true];have hlt':i < jtems.length:=by omega
   have d_in':decide (0 <= (i:Int) /\ (i:Int) < jtems.length)=true:=by simp;omega
   have hst:=Jf items jtems i (⟨0,0,0⟩:Item) hlt h3;simp only [d_in',cond_true,hlk,QrZ];generalize items.getD i (⟨0,0,0⟩:Item)=x at hst ⊢;generalize jtems.getD i (⟨0,0,0⟩:Item)=w at hst ⊢
   by_cases hxy:x=w
   · simp only [hxy,decide_true,Bool.not_true,cond_false];exact Qt ⟨p,ci,items,k0,k1,k2,l0,l1,l2,c0,c1,c2,q,di,jtems,j0,j1,j2,m0,m1,m2,d0,d1,d2,i+1⟩ ⟨hlt,h2,h3⟩ (by simp only [Ze];omega) (by simp only [Ze,ZZ,Zd,hst,hxy,decide_true,Bool.true_and]) rfl rfl
   · simp only [hxy,decide_false,Bool.not_false,cond_true];exact QG (Zd p ci items k0 k1 k2 l0 l1 l2 c0 c1 c2 q di jtems j0 j1 j2 m0 m1 m2 d0 d1 d2 i) (by simp [Ze,ZZ,hst,hxy,RT.val]) rfl
 · have hi:i=items.length:=by omega
   have c1:decide ((i:Int) < items.length)=false:=by simp;omega
   simp only [hlk,cond_true,c1,cond_false];exact Qi (Zd p ci items k0 k1 k2 l0 l1 l2 c0 _ c2 q di jtems j0 j1 j2 m0 m1 m2 d0 d1 d2 i) (by simp only [Ze,ZZ,JW items jtems i (by omega) (by omega),RT.val,cond_true]) rfl
def KH (env:Env RC) (os:List (Obj RC)):Option (Bool × QaN):=match env,os with
 | [(2,.ptr 0 []),(3,.ptr 1 []),(4,.bool false),(5,.int .i64 x0)],[.var 34 (.acons (.int .i64 p) (.acons (.sl .item ci items) (.acons (.acons (.sl .line k0 l0) (.acons (.sl .line k1 l1) (.acons (.sl .line k2 l2) .anil))) (.acons (.arr .int 3 [c0,c1,c2]) .anil)))),.var 34 (.acons (.int .i64 q) (.acons (.sl .item di jtems) (.acons (.acons (.sl .line j0 m0) (.acons (.sl .line j1 m1) (.acons (.sl .line j2 m2) .anil))) (.acons (.arr .int 3 [d0,d1,d2]) .anil))))]=>Qz (true) (decide (x0=0) && decide (items.length <= 9223372036854775807 /\ items.length=jtems.length),⟨p,ci,items,k0,k1,k2,l0,l1,l2,c0,c1,c2,q,di,jtems,j0,j1,j2,m0,m1,m2,d0,d1,d2,0⟩)
 | _,_=>none
noncomputable def uc_3:=uc_2.addLoop 15 4 (sumR s28 [.slot 2 0,.slot 3 0] [2,3,4,5] Ze KH)
theorem Qkg:Qh Tryz.prog s28 uc_3:=by
 refine Qkf.addRoundsR Qc (by kernel_rfl) Ze 40 [2,3,4,5] [4] [.slot 2 0,.slot 3 0] [2,3,4,5] KH (fun q hI=>?_) ?_
 · obtain ⟨p,ci,items,k0,k1,k2,l0,l1,l2,c0,c1,c2,q,di,jtems,j0,j1,j2,m0,m1,m2,d0,d1,d2,i⟩:=q;refine ⟨?_,?_,Qbi p ci items k0 k1 k2 l0 l1 l2 c0 c1 c2 q di jtems j0 j1 j2 m0 m1 m2 d0 d1 d2 i hI⟩
   · simp_all [Qk,Ze,KG,Zd,Ya,D.refs,Obj.refs,rEnc]
   · simp_all [Ze,ZZ,Zd,Ya,RT.refsOK,Qk,D.refs,Obj.refs,rEnc]
 · intro env os b q hd_ hb;unfold KH at hd_
   split at hd_
   · obtain ⟨hs,hd_⟩:=Qg hd_;cases hd_;simp only [Bool.and_eq_true,decide_eq_true_eq] at hb;obtain ⟨rfl,hl⟩:=hb;exact ⟨⟨Nat.zero_le _,hl.1,hl.2⟩,rfl,rfl⟩
   · cases hd_
def Qdw (p:Int) (ci:Bool) (items:List Item) (k0:Bool) (k1:Bool) (k2:Bool) (l0:List Line) (l1:List Line) (l2:List Line) (c0:Int) (c1:Int) (c2:Int) (q:Int) (di:Bool) (jtems:List Item) (j0:Bool) (j1:Bool) (j2:Bool) (m0:List Line) (m1:List Line) (m2:List Line) (d0:Int) (d1:Int) (d2:Int):Option (Bool × D RC):=some (Qd items.length && Qd jtems.length && (Qd l0.length && Qd m0.length) && (Qd l1.length && Qd m1.length) && (Qd l2.length && Qd m2.length),.bool (decide ((⟨p,items,l0,l1,l2,c0,c1,c2⟩:St)=⟨q,jtems,m0,m1,m2,d0,d1,d2⟩)))
def Qbz:List (D RC)->Option (Bool × D RC)
 | [.acons (.int .i64 p) (.acons (.sl .item ci items) (.acons (.acons (.sl .line k0 l0) (.acons (.sl .line k1 l1) (.acons (.sl .line k2 l2) .anil))) (.acons (.arr .int 3 [c0,c1,c2]) .anil))),.acons (.int .i64 q) (.acons (.sl .item di jtems) (.acons (.acons (.sl .line j0 m0) (.acons (.sl .line j1 m1) (.acons (.sl .line j2 m2) .anil))) (.acons (.arr .int 3 [d0,d1,d2]) .anil)))]=>Qdw p ci items k0 k1 k2 l0 l1 l2 c0 c1 c2 q di jtems j0 j1 j2 m0 m1 m2 d0 d1 d2
 | _=>none
noncomputable def Qdx (p:Int) (ci:Bool) (items:List Item) (k0:Bool) (k1:Bool) (k2:Bool) (l0:List Line) (l1:List Line) (l2:List Line) (c0:Int) (c1:Int) (c2:Int) (q:Int) (di:Bool) (jtems:List Item) (j0:Bool) (j1:Bool) (j2:Bool) (m0:List Line) (m1:List Line) (m2:List Line) (d0:Int) (d1:Int) (d2:Int):=evF s28 uc_3 40 15 [.acons (.int .i64 p) (.acons (.sl (C:=RC) .item ci items) (.acons (.acons (.sl (C:=RC) .line k0 l0) (.acons (.sl (C:=RC) .line k1 l1) (.acons (.sl (C:=RC) .line k2 l2) .anil))) (.acons (.arr (C:=RC) .int 3 [c0,c1,c2]) .anil))),.acons (.int .i64 q) (.acons (.sl (C:=RC) .item di jtems) (.acons (.acons (.sl (C:=RC) .line j0 m0) (.acons (.sl (C:=RC) .line j1 m1) (.acons (.sl (C:=RC) .line j2 m2) .anil))) (.acons (.arr (C:=RC) .int 3 [d0,d1,d2]) .anil)))]
theorem Qh4 (p:Int) (ci:Bool) (items:List Item) (k0:Bool) (k1:Bool) (k2:Bool) (l0:List Line) (l1:List Line) (l2:List Line) (c0:Int) (c1:Int) (c2:Int) (q:Int) (di:Bool) (jtems:List Item) (j0:Bool) (j1:Bool) (j2:Bool) (m0:List Line) (m1:List Line) (m2:List Line) (d0:Int) (d1:Int) (d2:Int):Qdx p ci items k0 k1 k2 l0 l1 l2 c0 c1 c2 q di jtems j0 j1 j2 m0 m1 m2 d0 d1 d2=(let Z0:DO_:=some (D.bool false);let Z1:Nat:=List.length items;let Z2:Nat:=List.length jtems;bif p != q then Z0 else bif !(c0 == d0 && (c1 == d1 && (c2 == d2 && true))) then Z0 else bif Qd Z1 then bif Qd Z2 then bif (↑Z1:Int) != (↑Z2:Int) then Z0 else bif decide (Z1 <= (9223372036854775807:Nat) /\ Z1=Z2) then bif decide (List.drop (0:Nat) items=List.drop (0:Nat) jtems) then bif Qd l0.length && Qd m0.length then bif !decide (l0=m0) then Z0 else bif Qd l1.length && Qd m1.length then bif !decide (l1=m1) then Z0 else bif Qd l2.length && Qd m2.length then bif !decide (l2=m2) then Z0 else some (D.bool true) else none else none else none else Z0 else none else none else none):=by kernel_rfl
theorem Qh5 (p:Int) (ci:Bool) (items:List Item) (k0:Bool) (k1:Bool) (k2:Bool) (l0:List Line) (l1:List Line) (l2:List Line) (c0:Int) (c1:Int) (c2:Int) (q:Int) (di:Bool) (jtems:List Item) (j0:Bool) (j1:Bool) (j2:Bool) (m0:List Line) (m1:List Line) (m2:List Line) (d0:Int) (d1:Int) (d2:Int) (h:(Qd items.length && Qd jtems.length && (Qd l0.length && Qd m0.length) && (Qd l1.length && Qd m1.length) && (Qd l2.length && Qd m2.length))=true):Qdx p ci items k0 k1 k2 l0 l1 l2 c0 c1 c2 q di jtems j0 j1 j2 m0 m1 m2 d0 d1 d2=some (.bool (decide ((⟨p,items,l0,l1,l2,c0,c1,c2⟩:St)=⟨q,jtems,m0,m1,m2,d0,d1,d2⟩))):=by
 (rw [Qh4];conv=>zeta)
 simp only [Bool.and_eq_true] at h;obtain ⟨⟨⟨⟨a1,a2⟩,b1,b2⟩,b3,b4⟩,b5,b6⟩:=h;have hl:=YZ a1;simp only [a1,a2,b1,b2,b3,b4,b5,b6,Bool.and_true,cond_true]
 by_cases h0:items.length=jtems.length
 · have e1:((items.length:Int) != (jtems.length:Int))=false:=by simp [h0]
   have e2:(items.length <= 9223372036854775807 /\ items.length=jtems.length):=⟨hl,h0⟩;rw [e1,decide_eq_true e2]
   by_cases h1:l0=m0 <;> by_cases h2:l1=m1 <;> by_cases h3:l2=m2 <;> by_cases h4:p=q <;> by_cases h5:c0=d0 <;> by_cases h6:c1=d1 <;> by_cases h7:c2=d2 <;> by_cases h8:items=jtems <;> simp [h1,h2,h3,h4,h5,h6,h7,h8,bne,beqD]
 · have e1:((items.length:Int) != (jtems.length:Int))=true:=by simp;omega
   have h8:¬ items=jtems:=fun e=>h0 (by rw [e])
   rw [e1]
   by_cases h4:p=q <;> by_cases h5:c0=d0 <;> by_cases h6:c1=d1 <;> by_cases h7:c2=d2 <;> simp [h4,h5,h6,h7,h8,bne,beqD]
noncomputable def uc_4:=uc_3.addSpec 15 Qbz
theorem Qkh:Qh Tryz.prog s28 uc_4:=Qkg.addEv Qc fun args d h=>by
 unfold Qbz at h
 split at h
 · unfold Qdw at h;have h1:=congrArg Prod.fst (Option.some.inj h);obtain rfl:_=d:=congrArg Prod.snd (Option.some.inj h);exact ⟨by simp [D.refs],40,Qh5 _ _ _ _ _ _ _ _ _ _ _ _ _ _ _ _ _ _ _ _ _ _ _ _ h1⟩
 · cases h
theorem Qb {α:Type} {c:Bool} {x y z:α} (h:c=true) (h2:x=z):cond c x y=z:=by rw [h];exact h2
theorem Zh {α:Type} {c:Bool} {x y z:α} (h:c=false) (h2:y=z):cond c x y=z:=by rw [h];exact h2
theorem Qx {α:Type} {c:Bool} {x y z:α} (h1:c=true->x=z) (h2:c=false->y=z):cond c x y=z:=by cases c;exact h2 rfl;exact h1 rfl
def Zs (s:Qa):Bool:=decide (0 <= s.n) && decide (s.n <= 1048575) && decide (s.b.length <= 640) && (decide (0 < s.n) || s.b == [])
def Vu (l:List Qa):Bool:=decide (l.length=33) && l.all Zs
def Qad (now sure:List Qa) (i:Nat):Bool:=((now.zip sure).drop i).all fun p=>decide (p.2.n <= p.1.n)
def Vs (now sure:List Qa):Bool:=Vu now && Vu sure && Qad now sure 0
theorem Vf {α:Type} (l:List α) (p:α->Bool) (i:Nat) (h:i < l.length) (d:α):(l.drop i).all p=(p (l.getD i d) && (l.drop (i+1)).all p):=by
 have e:l.getD i d=l[i]:=by simp [h]
 rw [List.drop_eq_getElem_cons h,e,List.all_cons]
theorem QbA {now sure:List Qa} (i:Nat) (h1:i < now.length) (h2:i < sure.length) (d:Qa):Qad now sure i=(decide ((sure.getD i d).n <= (now.getD i d).n) && Qad now sure (i+1)):=by
 unfold Qad;rw [Vf _ _ i (by simp;omega) (d,d)]
 have e:(now.zip sure).getD i (d,d)=(now.getD i d,sure.getD i d):=by
  have hz:i < (now.zip sure).length:=by simp;omega
  simp [List.getD_eq_getElem?_getD,List.getElem?_eq_getElem hz,h1,h2]
 rw [e]
theorem Qdy {now sure:List Qa} (i:Nat) (h:now.length <= i):Qad now sure i=true:=by
 unfold Qad;rw [List.drop_eq_nil_of_le (by simp;omega)];rfl
def Qh6 (l:List Qa) (i:Nat):Nat:=i+(l.drop i).findIdx fun s => !Zs s
def YW (l:List Qa) (i:Nat):Bool:=(l.drop i).any fun s=>decide (3000 < (s.b.length:Int))
def Qgh (now sure:List Qa):Bool:=decide ((60:Int) < now.length) || decide ((60:Int) < sure.length) || YW now 0 || YW sure 0
theorem J0 {l:List Qa} (h:Vu l=true):l.length=33:=by simp only [Vu,Bool.and_eq_true,decide_eq_true_eq] at h;exact h.1
theorem Qom (l:List Qa) (i:Nat):i <= Qh6 l i:=Nat.le_add_right _ _
theorem Qh7 (l:List Qa) (i:Nat) (h:i < l.length) (d:Qa):Qh6 l i=if Zs (l.getD i d)=true then Qh6 l (i+1) else i:=by
 have e:l.getD i d=l[i]:=by simp [h]
 unfold Qh6;rw [List.drop_eq_getElem_cons h,e,List.findIdx_cons];cases Zs l[i] <;> simp;omega
theorem QaO (l:List Qa) (i:Nat) (h:i < l.length) (d:Qa):YW l i=(decide (3000 < ((l.getD i d).b.length:Int)) || YW l (i+1)):=by
 have e:l.getD i d=l[i]:=by simp [h]
 unfold YW;rw [List.drop_eq_getElem_cons h,e,List.any_cons]
theorem QbB (l:List Qa):YW l l.length=false:=by simp [YW]
theorem Qon (x y:Qa):(x.n == y.n && (x.b == y.b && true))=decide (x=y):=by
 rw [Bool.eq_iff_iff];cases x;cases y;simp
def QH (l:List Qa):Bool:=decide (l.length <= 9223372036854775807) && l.all fun s=>Qd s.b.length
theorem QU {l:List Qa}:QH l=true ↔ l.length <= 9223372036854775807 /\ ∀ s ∈ l,Qd s.b.length=true:=by simp [QH]
theorem Qam {l:List Qa} (h:QH l=true) (i:Nat) (hi:i < l.length) (d:Qa):Qd (l.getD i d).b.length=true:=by
 have e:l.getD i d=l[i]:=by simp [hi]
 rw [e];exact (QU.1 h).2 _ (List.getElem_mem hi)
open Go.Proofs
def Qpv (n:Int) (b:List UInt8):Option (Bool × D RC):=some (Qd b.length,.bool (Zs ⟨n,b⟩))
def Qki:List (D RC)->Option (Bool × D RC)
 | [.acons (.int .i64 n) (.acons (.str b) .anil)]=>Qpv n b
 | _=>none
noncomputable def Qpw (n:Int) (b:List UInt8):=evF s28 uc_4 40 85 [.acons (.int .i64 n) (.acons (.str b) .anil)]
theorem QqP (n:Int) (b:List UInt8):Qpw n b=(let Z0:DO_:=some (D.bool false);bif decide ((0:Int) <= n) then bif decide (n <= (1048575:Int)) then bif Qd b.length then bif decide ((↑b.length:Int) <= (640:Int)) then bif decide ((0:Int) < n) then some (D.bool true) else some (D.bool (b == Array.toList #[])) else Z0 else none else Z0 else Z0):=by kernel_rfl
theorem QqQ (n:Int) (b:List UInt8) (h:(Qd b.length)=true):Qpw n b=some (.bool (Zs ⟨n,b⟩)):=by
 (rw [QqP];conv=>zeta)
 have hb:decide (((b.length:Nat):Int) <= 640)=decide (b.length <= 640):=by rw [decide_eq_decide];omega
 simp only [Zs,h,hb,cond_true];cases decide (0 <= n) <;> cases decide (n <= 1048575) <;> cases decide (b.length <= 640) <;> cases decide (0 < n) <;> cases b <;> rfl
noncomputable def ud_1:=uc_4.addSpec 85 Qki
theorem Qkj:Qh Tryz.prog s28 ud_1:=Qkh.addEv Qc fun args d h=>by
 unfold Qki at h
 split at h
 · unfold Qpv at h;have h1:=congrArg Prod.fst (Option.some.inj h);obtain rfl:_=d:=congrArg Prod.snd (Option.some.inj h);exact ⟨by simp [D.refs],40,QqQ _ _ h1⟩
 · cases h
structure Qkk where
 c:Bool
 l:List Qa
 i:Nat
def Qkl (c:Bool) (l:List Qa) (i:Nat):Env RC:=[(0,.sl (C:=RC) .sector c l),(1,.fn 143 (.acons (.ptr 0 []) .anil)),(4,.int .i64 0),(7,.int .i64 (l.length)),(8,.int .i64 (i:Int))]
def K3 (c:Bool) (l:List Qa) (i:Nat):List (Obj RC):=[.var 123 (.fn 85 .anil)]
noncomputable def Qpx (c:Bool) (l:List Qa) (i:Nat):=rndO s28 ud_1 177 2 40 1 [0,1,4,7,8] [4] [.slot 1 0] (Qkl c l i) (K3 c l i)
theorem QqR (c:Bool) (l:List Qa) (i:Nat):Qpx c l i=(let Z0:Int:=(↑i:Int);let Z1:Int:=(↑l.length:Int);let Z2:Qa:=List.getD l Z0.toNat (Qa.mk (0:Int) []);let Z3:List (Option (Obj RC)):=[some (Obj.var 123 (D.fn (85:Nat) .anil))];let Z4:Nat × D RC:=(4,D.int .i64 0);bif decide (Z0 < Z1) then bif decide ((0:Int) <= Z0 /\ Z0 < Z1) then bif Qd (Qa.b Z2).length then bif !Zs (Qa.mk (Qa.n Z2) (Qa.b Z2)) then some ((X.ret,[(4,D.int .i64 Z0)]),Z3) else some ((X.normal,[(0,D.sl RTy.sector c l),(1,D.fn (143:Nat) (.acons (D.ptr 0 []) .anil)),Z4,(7,D.int .i64 Z1),(8,D.int .i64 (IntKind.wrap .i64 (Z0+(1:Int))))]),Z3) else none else none else some ((X.exit (0:Nat),[Z4]),Z3)):=by kernel_rfl
def J1 (c:Bool) (l:List Qa) (i:Nat):RT RC:=.br (l.drop i |>.all Zs) (.leaf (.exit 0) [(4,.int .i64 0)] (K3 c l i)) (.leaf .ret [(4,.int .i64 (Qh6 l i))] (K3 c l i))
def J2 (c:Bool) (l:List Qa) (i:Nat):Prop:=i <= l.length /\ QH l=true
def J3:QF RC Qkk where
 k:=1
 canon q:=Qkl q.c q.l q.i
 objs q:=K3 q.c q.l q.i
 fin q:=J1 q.c q.l q.i
 Inv q:=J2 q.c q.l q.i
 μ q:=q.l.length - q.i
theorem Qh8 (c:Bool) (l:List Qa) (i:Nat) (hI:J2 c l i):Leaf (Qpx c l i) (LedR J3 ⟨c,l,i⟩):=by
 (rw [QqR];conv=>zeta)
 unfold J2 at hI;obtain ⟨h1,hg⟩:=hI;have h2:=(QU.1 hg).1
 by_cases hlt:i < l.length
 · have w_succ:IntKind.i64.wrap ((i:Int)+1)=((i+1:Nat):Int):=by rw [wrap_id (by omega) (by omega)];simp
   have d_lt:decide ((i:Int) < l.length)=true:=by simp;omega
   have d_in:decide (0 <= (i:Int) /\ (i:Int) < l.length)=true:=by simp;omega
   have t_nat:((i:Int)).toNat=i:=by simp
   have w_pred:IntKind.i64.wrap ((i:Int) - 1)=(i:Int) - 1:=wrap_id (by omega) (by omega)
   have t_natp:((i:Int) - 1).toNat=i - 1:=by omega
   simp only [w_succ,d_lt,d_in,t_nat,w_pred,t_natp,cond_true];have hlk:=Qam hg i hlt (⟨0,[]⟩:Qa);have hst:=Vf l Zs i hlt (⟨0,[]⟩:Qa);have hb:=Qh7 l i hlt (⟨0,[]⟩:Qa);generalize l.getD i (⟨0,[]⟩:Qa)=x at hst hb hlk ⊢;simp only [hlk,cond_true];cases a1:Zs x
   · exact QG (K3 c l i) (by simp [J3,J1,hst,hb,a1,RT.val]) rfl
   · exact Qt ⟨c,l,i+1⟩ ⟨hlt,hg⟩ (by simp only [J3];omega) (by simp [J3,J1,hst,hb,a1];rfl) rfl rfl
 · have hi:i=l.length:=by omega
   have c1:decide ((i:Int) < l.length)=false:=by simp;omega
   rw [c1];exact Qi (K3 c l i) (by simp [J3,J1,hi,RT.val]) rfl
def Qkm (env:Env RC) (os:List (Obj RC)):Option (Bool × Qkk):=match env,os with
 | [(0,.sl .sector c l),(1,.fn 143 (.acons (.ptr 0 []) .anil)),(4,.int .i64 0),(7,.int .i64 x0),(8,.int .i64 x1)],[.var 123 (.fn 85 .anil)]=>Qz (true) (decide (x0=l.length) && decide (x1=0) && QH l,⟨c,l,0⟩)
 | _,_=>none
noncomputable def ud_2:=ud_1.addLoop 177 2 (sumR s28 [.slot 1 0] [0,1,4,7,8] J3 Qkm)
theorem Qkn:Qh Tryz.prog s28 ud_2:=by
 refine Qkj.addRoundsR Qc (by kernel_rfl) J3 40 [0,1,4,7,8] [4] [.slot 1 0] [0,1,4,7,8] Qkm (fun q hI=>?_) ?_
 · obtain ⟨c,l,i⟩:=q;refine ⟨?_,?_,Qh8 c l i hI⟩
   · simp_all [Qk,J3,Qkl,K3,J2,D.refs,Obj.refs,rEnc]
   · simp_all [J3,J1,K3,J2,RT.refsOK,Qk,D.refs,Obj.refs,rEnc]
 · intro env os b q hd_ hb;unfold Qkm at hd_
   split at hd_
   · obtain ⟨hs,hd_⟩:=Qg hd_;cases hd_;simp only [Bool.and_eq_true,decide_eq_true_eq] at hb;obtain ⟨⟨rfl,rfl⟩,hl⟩:=hb;exact ⟨⟨Nat.zero_le _,hl⟩,rfl,rfl⟩
   · cases hd_
def Qpy (c:Bool) (l:List Qa):Option (Bool × D RC):=some (QH l,.bool (Vu l))
def Qko:List (D RC)->Option (Bool × D RC)
 | [.sl .sector c l,.int .i64 33,.fn 85 .anil]=>Qpy c l
 | _=>none
noncomputable def Qpz (c:Bool) (l:List Qa):=evF s28 ud_2 40 84 [.sl (C:=RC) .sector c l,.int .i64 33,.fn 85 .anil]
theorem QqS (c:Bool) (l:List Qa):Qpz c l=(let Z0:Bool:=Qd l.length;let Z1:Int:=(↑l.length:Int);bif Z0 then bif Z1 == (33:Int) then bif Z0 then bif decide (Z1=Z1) && true && QH l then bif List.all (List.drop (0:Nat) l) Zs then some (D.bool true) else some (D.bool !decide ((0:Int) <= (↑(Qh6 l (0:Nat)):Int))) else none else none else some (D.bool false) else none):=by kernel_rfl
theorem QqT (c:Bool) (l:List Qa) (h:(QH l)=true):Qpz c l=some (.bool (Vu l)):=by
 (rw [QqS];conv=>zeta)
 have hl:=(QU.1 h).1;have lk:=Ql hl;have hb:=Qom l 0;simp only [h,lk,Vu,cond_true,List.drop_zero]
 by_cases e:l.length=33
 · have e2:((l.length:Int) == 33)=true:=by simp [e]
   cases hm:l.all Zs <;> simp [e,hm] <;> omega
 · have e2:((l.length:Int) == 33)=false:=by simp;omega
   simp [e,e2]
noncomputable def ud_3:=ud_2.addSpec 84 Qko
theorem Qkp:Qh Tryz.prog s28 ud_3:=Qkn.addEv Qc fun args d h=>by
 unfold Qko at h
 split at h
 · unfold Qpy at h;have h1:=congrArg Prod.fst (Option.some.inj h);obtain rfl:_=d:=congrArg Prod.snd (Option.some.inj h);exact ⟨by simp [D.refs],40,QqT _ _ h1⟩
 · cases h
structure Qkq where
 c:Bool
 now:List Qa
 r:D RC
 d:Bool
 sure:List Qa
 i:Nat
def Qkr (c:Bool) (now:List Qa) (r:D RC) (d:Bool) (sure:List Qa) (i:Nat):Env RC:=[(1,.ptr 0 []),(2,.int .i64 0),(16,.sl (C:=RC) .sector c now),(17,.int .i64 (now.length)),(18,.int .i64 (i:Int))]
def K4 (c:Bool) (now:List Qa) (r:D RC) (d:Bool) (sure:List Qa) (i:Nat):List (Obj RC):=[.var 24 (.acons r (.acons (.sl (C:=RC) .sector d sure) .anil))]
noncomputable def QpA (c:Bool) (now:List Qa) (r:D RC) (d:Bool) (sure:List Qa) (i:Nat):=rndO s28 ud_3 33 4 40 1 [1,2,16,17,18] [2] [.slot 1 0] (Qkr c now r d sure i) (K4 c now r d sure i)
theorem QqU (c:Bool) (now:List Qa) (r:D RC) (d:Bool) (sure:List Qa) (i:Nat):QpA c now r d sure i=(let Z0:Int:=(↑i:Int);let Z1:Int:=(↑now.length:Int);let Z2:List (Option (Obj RC)):=[some (Obj.var 24 (.acons r (D.acons (D.sl RTy.sector d sure) .anil)))];let Z3:Nat × D RC:=(2,D.int .i64 0);bif decide (Z0 < Z1) then bif decide ((0:Int) <= Z0 /\ Z0 < Z1) then bif decide ((0:Int) <= Z0 /\ Z0 < (↑sure.length:Int)) then bif decide (Qa.n (List.getD now Z0.toNat (Qa.mk (0:Int) [])) < Qa.n (List.getD sure Z0.toNat (Qa.mk (0:Int) []))) then some ((X.ret,[(2,D.int .i64 2)]),Z2) else some ((X.normal,[(1,D.ptr 0 []),Z3,(16,D.sl RTy.sector c now),(17,D.int .i64 Z1),(18,D.int .i64 (IntKind.wrap .i64 (Z0+(1:Int))))]),Z2) else none else none else some ((X.exit (0:Nat),[Z3]),Z2)):=by kernel_rfl
def J4 (c:Bool) (now:List Qa) (r:D RC) (d:Bool) (sure:List Qa) (i:Nat):RT RC:=.br (Qad now sure i) (.leaf (.exit 0) [(2,.int .i64 0)] (K4 c now r d sure i)) (.leaf .ret [(2,.int .i64 2)] (K4 c now r d sure i))
def J5 (c:Bool) (now:List Qa) (r:D RC) (d:Bool) (sure:List Qa) (i:Nat):Prop:=r.refs=[] /\ i <= now.length /\ now.length <= 9223372036854775807 /\ now.length=sure.length
def J6:QF RC Qkq where
 k:=1
 canon q:=Qkr q.c q.now q.r q.d q.sure q.i
 objs q:=K4 q.c q.now q.r q.d q.sure q.i
 fin q:=J4 q.c q.now q.r q.d q.sure q.i
 Inv q:=J5 q.c q.now q.r q.d q.sure q.i
 μ q:=q.now.length - q.i
theorem Qh9 (c:Bool) (now:List Qa) (r:D RC) (d:Bool) (sure:List Qa) (i:Nat) (hI:J5 c now r d sure i):Leaf (QpA c now r d sure i) (LedR J6 ⟨c,now,r,d,sure,i⟩):=by
 (rw [QqU];conv=>zeta)
 unfold J5 at hI;obtain ⟨h0,h1,h2,h3⟩:=hI
 by_cases hlt:i < now.length
 · have w_succ:IntKind.i64.wrap ((i:Int)+1)=((i+1:Nat):Int):=by rw [wrap_id (by omega) (by omega)];simp
   have d_lt:decide ((i:Int) < now.length)=true:=by simp;omega
   have d_in:decide (0 <= (i:Int) /\ (i:Int) < now.length)=true:=by simp;omega
   have t_nat:((i:Int)).toNat=i:=by simp
   have w_pred:IntKind.i64.wrap ((i:Int) - 1)=(i:Int) - 1:=wrap_id (by omega) (by omega)
   have t_natp:((i:Int) - 1).toNat=i - 1:=by omega
   simp only [w_succ,d_lt,d_in,t_nat,w_pred,t_natp,cond_true];have hlt2:i < sure.length:=by omega
   have d_in2:decide (0 <= (i:Int) /\ (i:Int) < sure.length)=true:=by simp;omega
   simp only [d_in2,cond_true];have hst:=QbA (now:=now) (sure:=sure) i hlt (by omega) (⟨0,[]⟩:Qa)
   generalize now.getD i (⟨0,[]⟩:Qa)=x at hst ⊢;generalize sure.getD i (⟨0,[]⟩:Qa)=y at hst ⊢;cases a1:decide (y.n <= x.n)
   · have a2:decide (x.n < y.n)=true:=by simp at a1 ⊢;exact a1
     simp only [a2,cond_true];exact QG (K4 c now r d sure i) (by simp [J6,J4,hst,a1,RT.val]) rfl
   · have a2:decide (x.n < y.n)=false:=by simp at a1 ⊢;exact a1
     simp only [a2,cond_false];exact Qt ⟨c,now,r,d,sure,i+1⟩ ⟨h0,hlt,h2,h3⟩ (by simp only [J6];omega) (by simp [J6,J4,hst,a1];rfl) rfl rfl
 · have hi:i=now.length:=by omega
   have c1:decide ((i:Int) < now.length)=false:=by simp;omega
   rw [c1];exact Qi (K4 c now r d sure i) (by simp [J6,J4,hi,Qdy,RT.val]) rfl
def Qks (env:Env RC) (os:List (Obj RC)):Option (Bool × Qkq):=match env,os with
 | [(1,.ptr 0 []),(2,.int .i64 0),(16,.sl .sector c now),(17,.int .i64 x0),(18,.int .i64 x1)],[.var 24 (.acons r (.acons (.sl .sector d sure) .anil))]=>Qz (r.refs.isEmpty) (decide (x0=now.length) && decide (x1=0) && decide (now.length <= 9223372036854775807 /\ now.length=sure.length),⟨c,now,r,d,sure,0⟩)
 | _,_=>none
noncomputable def ud_4:=ud_3.addLoop 33 4 (sumR s28 [.slot 1 0] [1,2,16,17,18] J6 Qks)
theorem Qkt:Qh Tryz.prog s28 ud_4:=by
 refine Qkp.addRoundsR Qc (by kernel_rfl) J6 40 [1,2,16,17,18] [2] [.slot 1 0] [1,2,16,17,18] Qks (fun q hI=>?_) ?_
 · obtain ⟨c,now,r,d,sure,i⟩:=q;refine ⟨?_,?_,Qh9 c now r d sure i hI⟩
   · simp_all [Qk,J6,Qkr,K4,J5,D.refs,Obj.refs,rEnc]
   · simp_all [J6,J4,K4,J5,RT.refsOK,Qk,D.refs,Obj.refs,rEnc]
 · intro env os b q hd_ hb;unfold Qks at hd_
   split at hd_
   · obtain ⟨hs,hd_⟩:=Qg hd_;cases hd_;simp only [Bool.and_eq_true,decide_eq_true_eq] at hb;obtain ⟨⟨rfl,rfl⟩,hl⟩:=hb;exact ⟨⟨List.isEmpty_iff.1 hs,Nat.zero_le _,hl⟩,rfl,rfl⟩
   · cases hd_
def Qgi (c:Bool) (now:List Qa) (d:Bool) (sure:List Qa):Option (Bool × D RC):=some (QH now && QH sure,.int .i64 (bif Vs now sure then 0 else 2))
def Qdz:List (D RC)->Option (Bool × D RC)
 | [.acons (.sl .sector c now) (.acons (.sl .sector d sure) .anil)]=>Qgi c now d sure
 | _=>none
noncomputable def Qgj (c:Bool) (now:List Qa) (d:Bool) (sure:List Qa):=evF s28 ud_4 40 33 [.acons (.sl (C:=RC) .sector c now) (.acons (.sl (C:=RC) .sector d sure) .anil)]
theorem Qku (c:Bool) (now:List Qa) (d:Bool) (sure:List Qa):Qgj c now d sure=(let Z0:DO_:=some (D.int .i64 2);let Z1:Nat:=List.length now;bif QH now then bif !Vu now then Z0 else bif QH sure then bif !Vu sure then Z0 else bif Qd Z1 then bif decide ((↑Z1:Int)=(↑Z1:Int)) && true && decide (Z1 <= (9223372036854775807:Nat) /\ Z1=List.length sure) then bif Qad now sure (0:Nat) then some (D.int .i64 0) else Z0 else none else none else none else none):=by kernel_rfl
theorem Qkv (c:Bool) (now:List Qa) (d:Bool) (sure:List Qa) (h:(QH now && QH sure)=true):Qgj c now d sure=some (.int .i64 (bif Vs now sure then 0 else 2)):=by
 (rw [Qku];conv=>zeta)
 rw [Bool.and_eq_true] at h;obtain ⟨hg,hgs⟩:=h;have hl:=(QU.1 hg).1;have hs:=(QU.1 hgs).1;have lk:=Ql hl;simp only [hg,hgs,lk,Bool.and_self,cond_true,Vs];cases h1:Vu now
 · rfl
 cases h2:Vu sure
 · rfl
 have l1:=J0 h1;have l2:=J0 h2;have e:decide (now.length <= 9223372036854775807 /\ now.length=sure.length)=true:=by simp;omega
 cases h3:Qad now sure 0 <;> simp [e]
noncomputable def ud_5:=ud_4.addSpec 33 Qdz
theorem Qkw:Qh Tryz.prog s28 ud_5:=Qkt.addEv Qc fun args d h=>by
 unfold Qdz at h
 split at h
 · unfold Qgi at h;have h1:=congrArg Prod.fst (Option.some.inj h);obtain rfl:_=d:=congrArg Prod.snd (Option.some.inj h);exact ⟨by simp [D.refs],40,Qkv _ _ _ _ h1⟩
 · cases h
def Qgk (c:Bool) (l:List Qa):Option (Bool × D RC):=some (decide (0 < l.length /\ l.length <= 1000000),.sl (C:=RC) .sector false l)
def QdA:List (D RC)->Option (Bool × D RC)
 | [.sl .sector c l]=>Qgk c l
 | _=>none
noncomputable def Qgl (c:Bool) (l:List Qa):=evF s28 ud_5 40 190 [.sl (C:=RC) .sector c l]
theorem Qkx (c:Bool) (l:List Qa):Qgl c l=(let Z0:Nat:=(0:Nat)+List.length l;let Z1:List Qa:=List.replicate (0:Nat) (Qa.mk (0:Int) [])++l;bif List.isEmpty l then none else bif QW Z0 (24:Nat) then bif Nat.beq Z0 Z1.length then some (D.sl RTy.sector false Z1) else none else none):=by kernel_rfl
theorem Qky (c:Bool) (l:List Qa) (h:(decide (0 < l.length /\ l.length <= 1000000))=true):Qgl c l=some (.sl (C:=RC) .sector false l):=by
 (rw [Qkx];conv=>zeta)
 obtain ⟨h1,h2⟩:=of_decide_eq_true h;have e0:l.isEmpty=false:=by cases l <;> simp_all
 have e1:QW l.length 24=true:=by simp [QW];omega
 have eb:∀ n:Nat,n.beq n=true:=fun n=>by simp
 simp only [e0,e1,cond_false,cond_true,List.replicate,List.nil_append,Nat.zero_add,eb]
noncomputable def ud_6:=ud_5.addSpec 190 QdA
theorem Qkz:Qh Tryz.prog s28 ud_6:=Qkw.addEv Qc fun args d h=>by
 unfold QdA at h
 split at h
 · unfold Qgk at h;have h1:=congrArg Prod.fst (Option.some.inj h);obtain rfl:_=d:=congrArg Prod.snd (Option.some.inj h);exact ⟨by simp [D.refs],40,Qky _ _ h1⟩
 · cases h
open Go.Proofs
structure Qgm where
 c:Bool
 l:List Qa
 i:Nat
def Qcu (c:Bool) (l:List Qa) (i:Nat):Env RC:=[(0,.sl (C:=RC) .sector c l),(2,.bool false),(3,.int .i64 (i:Int))]
def Qcv (c:Bool) (l:List Qa) (i:Nat):List (Obj RC):=[]
noncomputable def QkA (c:Bool) (l:List Qa) (i:Nat):=rndO s28 ud_6 93 4 40 0 [0,2,3] [2] [] (Qcu c l i) (Qcv c l i)
theorem Qoo (c:Bool) (l:List Qa) (i:Nat):QkA c l i=(let Z0:Int:=(↑i:Int);let Z1:Bool:=decide ((0:Int) <= Z0 /\ Z0 < (↑l.length:Int));let Z2:Qa:=List.getD l Z0.toNat (Qa.mk (0:Int) []);let Z3:Int:=Qa.n Z2;let Z4:RO_:=some ((X.ret,[(2,D.bool false)]),[]);let Z5:Nat:=List.length (Qa.b Z2);let Z6:RO_:=some ((X.normal,[(0,D.sl RTy.sector c l),(2,D.bool false),(3,D.int .i64 (IntKind.wrap .i64 (Z0+(1:Int))))]),[]);bif Qd l.length then bif decide (Z0 < (↑l.length:Int)) then bif Z1 then bif decide (Z3 < (0:Int)) then Z4 else bif Z1 then bif decide ((1048575:Int) < Z3) then Z4 else bif Z1 then bif Qd Z5 then bif decide ((640:Int) < (↑Z5:Int)) then Z4 else bif Z1 then bif Z3 == (0:Int) then bif Z1 then bif !Qa.b Z2 == Array.toList #[] then Z4 else Z6 else none else Z6 else none else none else none else none else none else some ((X.exit (0:Nat),[(2,D.bool false)]),[]) else none):=by kernel_rfl
def VM (c:Bool) (l:List Qa) (i:Nat):RT RC:=.br (l.drop i |>.all Zs) (.leaf (.exit 0) [(2,.bool false)] []) (.leaf .ret [(2,.bool false)] [])
def VN (c:Bool) (l:List Qa) (i:Nat):Prop:=i <= l.length /\ QH l=true
def Yw:QF RC Qgm where
 k:=0
 canon q:=Qcu q.c q.l q.i
 objs q:=Qcv q.c q.l q.i
 fin q:=VM q.c q.l q.i
 Inv q:=VN q.c q.l q.i
 μ q:=q.l.length - q.i
theorem Qfc (c:Bool) (l:List Qa) (i:Nat) (hI:VN c l i):Leaf (QkA c l i) (LedR Yw ⟨c,l,i⟩):=by
 (rw [Qoo];conv=>zeta)
 unfold VN at hI;obtain ⟨h1,hg⟩:=hI;have h2:=(QU.1 hg).1;have hlk0:Qd l.length=true:=Ql h2
 by_cases hlt:i < l.length
 · have w_succ:IntKind.i64.wrap ((i:Int)+1)=((i+1:Nat):Int):=by rw [wrap_id (by omega) (by omega)];simp
   have d_lt:decide ((i:Int) < l.length)=true:=by simp;omega
   have d_in:decide (0 <= (i:Int) /\ (i:Int) < l.length)=true:=by simp;omega
   have t_nat:((i:Int)).toNat=i:=by simp
   simp only [w_succ,d_lt,d_in,t_nat,cond_true];have hlk:=Qam hg i hlt (⟨0,[]⟩:Qa);have hst:=Vf l Zs i hlt (⟨0,[]⟩:Qa);generalize l.getD i (⟨0,[]⟩:Qa)=x at hst hlk ⊢;simp only [hlk0,hlk,cond_true]
   have hgo:Zs x=true->Leaf (some ((X.normal,Qcu c l (i+1)),[])) (LedR Yw ⟨c,l,i⟩):=fun e =>
    Qt ⟨c,l,i+1⟩ ⟨hlt,hg⟩ (by simp only [Yw];omega) (by simp [Yw,VM,hst,e]) rfl rfl
   have hno:Zs x=false->Leaf (some ((X.ret,[(2,D.bool false)]),[])) (LedR Yw ⟨c,l,i⟩):=fun e=>QG [] (by simp [Yw,VM,hst,e,RT.val]) rfl
   have hm:Zs x=(decide (0 <= x.n) && decide (x.n <= 1048575) && decide (x.b.length <= 640) && (decide (0 < x.n) || x.b == [])):=rfl;rw [hm] at hgo hno
   repeat' (refine Zx.2 ⟨fun hc_=>?_,fun hc_=>?_⟩)
   all_goals first | exact hno (by clear hgo hno hst hm;simp_all <;> omega) | exact hgo (by clear hgo hno hst hm;simp_all <;> omega)
 · have hi:i=l.length:=by omega
   have c1:decide ((i:Int) < l.length)=false:=by simp;omega
   rw [hlk0,c1];exact Qi [] (by simp [Yw,VM,hi,RT.val]) rfl
def Qfd (env:Env RC) (os:List (Obj RC)):Option (Bool × Qgm):=match env,os with
 | [(0,.sl .sector c l),(2,.bool false),(3,.int .i64 x0)],[]=>Qz (true) (decide (x0=0) && QH l,⟨c,l,0⟩)
 | _,_=>none
noncomputable def ue_1:=ud_6.addLoop 93 4 (sumR s28 [] [0,2,3] Yw Qfd)
theorem QkB:Qh Tryz.prog s28 ue_1:=by
 refine Qkz.addRoundsR Qc (by kernel_rfl) Yw 40 [0,2,3] [2] [] [0,2,3] Qfd (fun q hI=>?_) ?_
 · obtain ⟨c,l,i⟩:=q;refine ⟨?_,?_,Qfc c l i hI⟩
   · simp_all [Qk,Yw,Qcu,Qcv,VN,D.refs,Obj.refs,rEnc]
   · simp_all [Yw,VM,Qcv,VN,RT.refsOK,Qk,D.refs,Obj.refs,rEnc]
 · intro env os b q hd_ hb;unfold Qfd at hd_
   split at hd_
   · obtain ⟨hs,hd_⟩:=Qg hd_;cases hd_;simp only [Bool.and_eq_true,decide_eq_true_eq] at hb;obtain ⟨rfl,hl⟩:=hb;exact ⟨⟨Nat.zero_le _,hl⟩,rfl,rfl⟩
   · cases hd_
def QkC (c:Bool) (l:List Qa):Option (Bool × D RC):=some (QH l,.bool (Vu l))
def Qgn:List (D RC)->Option (Bool × D RC)
 | [.sl .sector c l]=>QkC c l
 | _=>none
noncomputable def QkD (c:Bool) (l:List Qa):=evF s28 ue_1 40 93 [.sl (C:=RC) .sector c l]
theorem Qop (c:Bool) (l:List Qa):QkD c l=(bif Qd l.length then bif (↑l.length:Int) != (33:Int) then some (D.bool false) else bif QH l then bif List.all (List.drop (0:Nat) l) Zs then some (D.bool true) else some (D.bool false) else none else none):=by kernel_rfl
theorem Qoq (c:Bool) (l:List Qa) (h:(QH l)=true):QkD c l=some (.bool (Vu l)):=by
 rw [Qop];have hl:=(QU.1 h).1;have lk:=Ql hl;simp only [h,lk,Vu,cond_true,List.drop_zero]
 by_cases e:l.length=33
 · have e2:((l.length:Int) != 33)=false:=by simp [e]
   cases hm:l.all Zs <;> simp [e,hm]
 · have e2:((l.length:Int) != 33)=true:=by simp [bne];omega
   simp [e,e2]
noncomputable def ue_2:=ue_1.addSpec 93 Qgn
theorem QkE:Qh Tryz.prog s28 ue_2:=QkB.addEv Qc fun args d h=>by
 unfold Qgn at h
 split at h
 · unfold QkC at h;have h1:=congrArg Prod.fst (Option.some.inj h);obtain rfl:_=d:=congrArg Prod.snd (Option.some.inj h);exact ⟨by simp [D.refs],40,Qoq _ _ h1⟩
 · cases h
structure Qgo where
 c:Bool
 now:List Qa
 d:Bool
 sure:List Qa
 i:Nat
def Qfe (c:Bool) (now:List Qa) (d:Bool) (sure:List Qa) (i:Nat):Env RC:=[(1,.ptr 0 []),(2,.int .i64 0),(3,.int .i64 (i:Int))]
def VO (c:Bool) (now:List Qa) (d:Bool) (sure:List Qa) (i:Nat):List (Obj RC):=[.var 24 (.acons (.sl (C:=RC) .sector c now) (.acons (.sl (C:=RC) .sector d sure) .anil))]
noncomputable def QkF (c:Bool) (now:List Qa) (d:Bool) (sure:List Qa) (i:Nat):=rndO s28 ue_2 37 4 40 1 [1,2,3] [2] [.slot 1 0] (Qfe c now d sure i) (VO c now d sure i)
theorem Qor (c:Bool) (now:List Qa) (d:Bool) (sure:List Qa) (i:Nat):QkF c now d sure i=(let Z0:Int:=(↑i:Int);let Z1:List (Option (Obj RC)):=[some (Obj.var 24 (.acons (D.sl RTy.sector c now) (.acons (D.sl RTy.sector d sure) .anil)))];let Z2:Nat × D RC:=(2,D.int .i64 0);bif Qd now.length then bif decide (Z0 < (↑now.length:Int)) then bif decide ((0:Int) <= Z0 /\ Z0 < (↑sure.length:Int)) then bif decide ((0:Int) <= Z0 /\ Z0 < (↑now.length:Int)) then bif decide (Qa.n (List.getD now Z0.toNat (Qa.mk (0:Int) [])) < Qa.n (List.getD sure Z0.toNat (Qa.mk (0:Int) []))) then some ((X.ret,[(2,D.int .i64 2)]),Z1) else some ((X.normal,[(1,D.ptr 0 []),Z2,(3,D.int .i64 (IntKind.wrap .i64 (Z0+(1:Int))))]),Z1) else none else none else some ((X.exit (0:Nat),[Z2]),Z1) else none):=by kernel_rfl
def VP (c:Bool) (now:List Qa) (d:Bool) (sure:List Qa) (i:Nat):RT RC:=.br (Qad now sure i) (.leaf (.exit 0) [(2,.int .i64 0)] (VO c now d sure i)) (.leaf .ret [(2,.int .i64 2)] (VO c now d sure i))
def VQ (c:Bool) (now:List Qa) (d:Bool) (sure:List Qa) (i:Nat):Prop:=i <= now.length /\ now.length <= 9223372036854775807 /\ now.length=sure.length
def Vg:QF RC Qgo where
 k:=1
 canon q:=Qfe q.c q.now q.d q.sure q.i
 objs q:=VO q.c q.now q.d q.sure q.i
 fin q:=VP q.c q.now q.d q.sure q.i
 Inv q:=VQ q.c q.now q.d q.sure q.i
 μ q:=q.now.length - q.i
theorem Qff (c:Bool) (now:List Qa) (d:Bool) (sure:List Qa) (i:Nat) (hI:VQ c now d sure i):Leaf (QkF c now d sure i) (LedR Vg ⟨c,now,d,sure,i⟩):=by
 (rw [Qor];conv=>zeta)
 unfold VQ at hI;obtain ⟨h1,h2,h3⟩:=hI;have hlk0:Qd now.length=true:=Ql h2
 by_cases hlt:i < now.length
 · have w_succ:IntKind.i64.wrap ((i:Int)+1)=((i+1:Nat):Int):=by rw [wrap_id (by omega) (by omega)];simp
   have d_lt:decide ((i:Int) < now.length)=true:=by simp;omega
   have d_in:decide (0 <= (i:Int) /\ (i:Int) < now.length)=true:=by simp;omega
   have t_nat:((i:Int)).toNat=i:=by simp
   simp only [w_succ,d_lt,d_in,t_nat,cond_true];have hlt2:i < sure.length:=by omega
   have d_in2:decide (0 <= (i:Int) /\ (i:Int) < sure.length)=true:=by simp;omega
   simp only [d_in2,hlk0,cond_true];have hst:=QbA (now:=now) (sure:=sure) i hlt (by omega) (⟨0,[]⟩:Qa)
   generalize now.getD i (⟨0,[]⟩:Qa)=x at hst ⊢;generalize sure.getD i (⟨0,[]⟩:Qa)=y at hst ⊢;cases a1:decide (y.n <= x.n)
   · have a2:decide (x.n < y.n)=true:=by simp at a1 ⊢;exact a1
     simp only [a2,cond_true];exact QG (VO c now d sure i) (by simp [Vg,VP,hst,a1,RT.val]) rfl
   · have a2:decide (x.n < y.n)=false:=by simp at a1 ⊢;exact a1
     simp only [a2,cond_false];exact Qt ⟨c,now,d,sure,i+1⟩ ⟨hlt,h2,h3⟩ (by simp only [Vg];omega) (by simp [Vg,VP,hst,a1];rfl) rfl rfl
 · have hi:i=now.length:=by omega
   have c1:decide ((i:Int) < now.length)=false:=by simp;omega
   rw [hlk0,c1];exact Qi (VO c now d sure i) (by simp [Vg,VP,hi,Qdy,RT.val]) rfl
def Qfg (env:Env RC) (os:List (Obj RC)):Option (Bool × Qgo):=match env,os with
 | [(1,.ptr 0 []),(2,.int .i64 0),(3,.int .i64 x0)],[.var 24 (.acons (.sl .sector c now) (.acons (.sl .sector d sure) .anil))]=>Qz (true) (decide (x0=0) && decide (now.length <= 9223372036854775807 /\ now.length=sure.length),⟨c,now,d,sure,0⟩)
 | _,_=>none
noncomputable def ue_3:=ue_2.addLoop 37 4 (sumR s28 [.slot 1 0] [1,2,3] Vg Qfg)
theorem QkG:Qh Tryz.prog s28 ue_3:=by
 refine QkE.addRoundsR Qc (by kernel_rfl) Vg 40 [1,2,3] [2] [.slot 1 0] [1,2,3] Qfg (fun q hI=>?_) ?_
 · obtain ⟨c,now,d,sure,i⟩:=q;refine ⟨?_,?_,Qff c now d sure i hI⟩
   · simp_all [Qk,Vg,Qfe,VO,VQ,D.refs,Obj.refs,rEnc]
   · simp_all [Vg,VP,VO,VQ,RT.refsOK,Qk,D.refs,Obj.refs,rEnc]
 · intro env os b q hd_ hb;unfold Qfg at hd_
   split at hd_
   · obtain ⟨hs,hd_⟩:=Qg hd_;cases hd_;simp only [Bool.and_eq_true,decide_eq_true_eq] at hb;obtain ⟨rfl,hl⟩:=hb;exact ⟨⟨Nat.zero_le _,hl⟩,rfl,rfl⟩
   · cases hd_
def Qgp (c:Bool) (now:List Qa) (d:Bool) (sure:List Qa):Option (Bool × D RC):=some (QH now && QH sure,.int .i64 (bif Vs now sure then 0 else 2))
def QdB:List (D RC)->Option (Bool × D RC)
 | [.acons (.sl .sector c now) (.acons (.sl .sector d sure) .anil)]=>Qgp c now d sure
 | _=>none
noncomputable def Qgq (c:Bool) (now:List Qa) (d:Bool) (sure:List Qa):=evF s28 ue_3 40 37 [.acons (.sl (C:=RC) .sector c now) (.acons (.sl (C:=RC) .sector d sure) .anil)]
theorem QkH (c:Bool) (now:List Qa) (d:Bool) (sure:List Qa):Qgq c now d sure=(let Z0:DO_:=some (D.int .i64 2);bif QH now then bif !Vu now then Z0 else bif QH sure then bif !Vu sure then Z0 else bif decide (List.length now <= (9223372036854775807:Nat) /\ List.length now=List.length sure) then bif Qad now sure (0:Nat) then some (D.int .i64 0) else Z0 else none else none else none):=by kernel_rfl
theorem QkI (c:Bool) (now:List Qa) (d:Bool) (sure:List Qa) (h:(QH now && QH sure)=true):Qgq c now d sure=some (.int .i64 (bif Vs now sure then 0 else 2)):=by
 (rw [QkH];conv=>zeta)
 rw [Bool.and_eq_true] at h;obtain ⟨hg,hgs⟩:=h;have hl:=(QU.1 hg).1;simp only [hg,hgs,cond_true,Vs];cases h1:Vu now
 · rfl
 cases h2:Vu sure
 · rfl
 have l1:=J0 h1;have l2:=J0 h2;have e:decide (now.length <= 9223372036854775807 /\ now.length=sure.length)=true:=by simp;omega
 cases h3:Qad now sure 0 <;> simp [e]
noncomputable def ue_4:=ue_3.addSpec 37 QdB
theorem QkJ:Qh Tryz.prog s28 ue_4:=QkG.addEv Qc fun args d h=>by
 unfold QdB at h
 split at h
 · unfold Qgp at h;have h1:=congrArg Prod.fst (Option.some.inj h);obtain rfl:_=d:=congrArg Prod.snd (Option.some.inj h);exact ⟨by simp [D.refs],40,QkI _ _ _ _ h1⟩
 · cases h
structure Qgr where
 c:Bool
 l:List Qa
 d:Bool
 m:List Qa
 i:Nat
def Qfh (c:Bool) (l:List Qa) (d:Bool) (m:List Qa) (i:Nat):Env RC:=[(0,.sl (C:=RC) .sector c l),(1,.sl (C:=RC) .sector d m),(4,.bool false),(5,.int .i64 (i:Int))]
def Qcw (c:Bool) (l:List Qa) (d:Bool) (m:List Qa) (i:Nat):List (Obj RC):=[]
noncomputable def QkK (c:Bool) (l:List Qa) (d:Bool) (m:List Qa) (i:Nat):=rndO s28 ue_4 108 4 40 0 [0,1,4,5] [4] [] (Qfh c l d m i) (Qcw c l d m i)
theorem Qos (c:Bool) (l:List Qa) (d:Bool) (m:List Qa) (i:Nat):QkK c l d m i=(let Z0:Int:=(↑i:Int);let Z1:Qa:=List.getD l Z0.toNat (Qa.mk (0:Int) []);let Z2:Qa:=List.getD m Z0.toNat (Qa.mk (0:Int) []);bif Qd l.length then bif decide (Z0 < (↑l.length:Int)) then bif decide ((0:Int) <= Z0 /\ Z0 < (↑l.length:Int)) then bif decide ((0:Int) <= Z0 /\ Z0 < (↑m.length:Int)) then bif !(Qa.n Z1 == Qa.n Z2 && (Qa.b Z1 == Qa.b Z2 && true)) then some ((X.ret,[(4,D.bool false)]),[]) else some ((X.normal,[(0,D.sl RTy.sector c l),(1,D.sl RTy.sector d m),(4,D.bool false),(5,D.int .i64 (IntKind.wrap .i64 (Z0+(1:Int))))]),[]) else none else none else some ((X.exit (0:Nat),[(4,D.bool false)]),[]) else none):=by kernel_rfl
def VR (c:Bool) (l:List Qa) (d:Bool) (m:List Qa) (i:Nat):RT RC:=.br (decide (l.drop i=m.drop i)) (.leaf (.exit 0) [(4,.bool false)] []) (.leaf .ret [(4,.bool false)] [])
def VS (c:Bool) (l:List Qa) (d:Bool) (m:List Qa) (i:Nat):Prop:=i <= l.length /\ l.length <= 9223372036854775807 /\ l.length=m.length
def Vh:QF RC Qgr where
 k:=0
 canon q:=Qfh q.c q.l q.d q.m q.i
 objs q:=Qcw q.c q.l q.d q.m q.i
 fin q:=VR q.c q.l q.d q.m q.i
 Inv q:=VS q.c q.l q.d q.m q.i
 μ q:=q.l.length - q.i
theorem Qfi (c:Bool) (l:List Qa) (d:Bool) (m:List Qa) (i:Nat) (hI:VS c l d m i):Leaf (QkK c l d m i) (LedR Vh ⟨c,l,d,m,i⟩):=by
 (rw [Qos];conv=>zeta)
 unfold VS at hI;obtain ⟨h1,h2,h3⟩:=hI;have hlk0:Qd l.length=true:=Ql h2
 by_cases hlt:i < l.length
 · have w_succ:IntKind.i64.wrap ((i:Int)+1)=((i+1:Nat):Int):=by rw [wrap_id (by omega) (by omega)];simp
   have d_lt:decide ((i:Int) < l.length)=true:=by simp;omega
   have d_in:decide (0 <= (i:Int) /\ (i:Int) < l.length)=true:=by simp;omega
   have t_nat:((i:Int)).toNat=i:=by simp
   simp only [w_succ,d_lt,d_in,t_nat,cond_true];have hlt2:i < m.length:=by omega
   have d_in2:decide (0 <= (i:Int) /\ (i:Int) < m.length)=true:=by simp;omega
   simp only [d_in2,hlk0,cond_true,Qon];have hst:=Jf l m i (⟨0,[]⟩:Qa) hlt h3;generalize l.getD i (⟨0,[]⟩:Qa)=x at hst ⊢;generalize m.getD i (⟨0,[]⟩:Qa)=y at hst ⊢
   by_cases hxy:x=y
   · simp only [hxy,decide_true,Bool.not_true,cond_false];exact Qt ⟨c,l,d,m,i+1⟩ ⟨hlt,h2,h3⟩ (by simp only [Vh];omega) (by simp only [Vh,VR,hst,hxy,decide_true,Bool.true_and]) rfl rfl
   · simp only [hxy,decide_false,Bool.not_false,cond_true];exact QG [] (by simp [Vh,VR,hst,hxy,RT.val]) rfl
 · have hi:i=l.length:=by omega
   have c1:decide ((i:Int) < l.length)=false:=by simp;omega
   rw [hlk0,c1];exact Qi [] (by simp only [Vh,VR,JW l m i (by omega) (by omega),RT.val,cond_true]) rfl
def Qfj (env:Env RC) (os:List (Obj RC)):Option (Bool × Qgr):=match env,os with
 | [(0,.sl .sector c l),(1,.sl .sector d m),(4,.bool false),(5,.int .i64 x0)],[]=>Qz (true) (decide (x0=0) && decide (l.length <= 9223372036854775807 /\ l.length=m.length),⟨c,l,d,m,0⟩)
 | _,_=>none
noncomputable def ue_5:=ue_4.addLoop 108 4 (sumR s28 [] [0,1,4,5] Vh Qfj)
theorem QkL:Qh Tryz.prog s28 ue_5:=by
 refine QkJ.addRoundsR Qc (by kernel_rfl) Vh 40 [0,1,4,5] [4] [] [0,1,4,5] Qfj (fun q hI=>?_) ?_
 · obtain ⟨c,l,d,m,i⟩:=q;refine ⟨?_,?_,Qfi c l d m i hI⟩
   · simp_all [Qk,Vh,Qfh,Qcw,VS,D.refs,Obj.refs,rEnc]
   · simp_all [Vh,VR,Qcw,VS,RT.refsOK,Qk,D.refs,Obj.refs,rEnc]
 · intro env os b q hd_ hb;unfold Qfj at hd_
   split at hd_
   · obtain ⟨hs,hd_⟩:=Qg hd_;cases hd_;simp only [Bool.and_eq_true,decide_eq_true_eq] at hb;obtain ⟨rfl,hl⟩:=hb;exact ⟨⟨Nat.zero_le _,hl⟩,rfl,rfl⟩
   · cases hd_
def QkM (c:Bool) (l:List Qa) (d:Bool) (m:List Qa):Option (Bool × D RC):=some (Qd l.length && Qd m.length,.bool (decide (l=m)))
def Qgs:List (D RC)->Option (Bool × D RC)
 | [.sl .sector c l,.sl .sector d m]=>QkM c l d m
 | _=>none
noncomputable def QkN (c:Bool) (l:List Qa) (d:Bool) (m:List Qa):=evF s28 ue_5 40 108 [.sl (C:=RC) .sector c l,.sl (C:=RC) .sector d m]
theorem Qot (c:Bool) (l:List Qa) (d:Bool) (m:List Qa):QkN c l d m=(let Z0:Nat:=List.length l;let Z1:Nat:=List.length m;bif Qd Z0 then bif Qd Z1 then bif (↑Z0:Int) != (↑Z1:Int) then some (D.bool false) else bif decide (Z0 <= (9223372036854775807:Nat) /\ Z0=Z1) then bif decide (List.drop (0:Nat) l=List.drop (0:Nat) m) then some (D.bool true) else some (D.bool false) else none else none else none):=by kernel_rfl
theorem Qou (c:Bool) (l:List Qa) (d:Bool) (m:List Qa) (h:(Qd l.length && Qd m.length)=true):QkN c l d m=some (.bool (decide (l=m))):=by
 (rw [Qot];conv=>zeta)
 rw [Bool.and_eq_true] at h;obtain ⟨a1,a2⟩:=h;have hl:=YZ a1;simp only [a1,a2,cond_true]
 by_cases h0:l.length=m.length
 · have e1:((l.length:Int) != (m.length:Int))=false:=by simp [h0]
   have e2:decide (l.length <= 9223372036854775807 /\ l.length=m.length)=true:=decide_eq_true ⟨hl,h0⟩;rw [e1,e2]
   by_cases h8:l=m <;> simp [h8]
 · have e1:((l.length:Int) != (m.length:Int))=true:=by simp;omega
   have h8:¬ l=m:=fun e=>h0 (by rw [e])
   rw [e1];simp [h8]
noncomputable def ue_6:=ue_5.addSpec 108 Qgs
theorem QkO:Qh Tryz.prog s28 ue_6:=QkL.addEv Qc fun args d h=>by
 unfold Qgs at h
 split at h
 · unfold QkM at h;have h1:=congrArg Prod.fst (Option.some.inj h);obtain rfl:_=d:=congrArg Prod.snd (Option.some.inj h);exact ⟨by simp [D.refs],40,Qou _ _ _ _ h1⟩
 · cases h
structure QkP where
 c:Bool
 now:List Qa
 r:D RC
 i:Nat
def QkQ (c:Bool) (now:List Qa) (r:D RC) (i:Nat):Env RC:=[(1,.ptr 0 []),(2,.bool false),(3,.int .i64 (i:Int))]
def K5 (c:Bool) (now:List Qa) (r:D RC) (i:Nat):List (Obj RC):=[.var 24 (.acons (.sl (C:=RC) .sector c now) r)]
noncomputable def QpB (c:Bool) (now:List Qa) (r:D RC) (i:Nat):=rndO s28 ue_6 7 4 40 1 [1,2,3] [2] [.slot 1 0] (QkQ c now r i) (K5 c now r i)
theorem QqV (c:Bool) (now:List Qa) (r:D RC) (i:Nat):QpB c now r i=(let Z0:Int:=(↑i:Int);let Z1:Nat:=List.length (Qa.b (List.getD now Z0.toNat (Qa.mk (0:Int) [])));let Z2:List (Option (Obj RC)):=[some (Obj.var 24 (.acons (D.sl RTy.sector c now) r))];bif Qd now.length then bif decide (Z0 < (↑now.length:Int)) then bif decide ((0:Int) <= Z0 /\ Z0 < (↑now.length:Int)) then bif Qd Z1 then bif decide ((3000:Int) < (↑Z1:Int)) then some ((X.ret,[(2,D.bool true)]),Z2) else some ((X.normal,[(1,D.ptr 0 []),(2,D.bool false),(3,D.int .i64 (IntKind.wrap .i64 (Z0+(1:Int))))]),Z2) else none else none else some ((X.exit (0:Nat),[(2,D.bool false)]),Z2) else none):=by kernel_rfl
def J7 (c:Bool) (now:List Qa) (r:D RC) (i:Nat):RT RC:=.br (YW now i) (.leaf .ret [(2,.bool true)] (K5 c now r i)) (.leaf (.exit 0) [(2,.bool false)] (K5 c now r i))
def J8 (c:Bool) (now:List Qa) (r:D RC) (i:Nat):Prop:=r.refs=[] /\ i <= now.length /\ QH now=true
def J9:QF RC QkP where
 k:=1
 canon q:=QkQ q.c q.now q.r q.i
 objs q:=K5 q.c q.now q.r q.i
 fin q:=J7 q.c q.now q.r q.i
 Inv q:=J8 q.c q.now q.r q.i
 μ q:=q.now.length - q.i
theorem Qia (c:Bool) (now:List Qa) (r:D RC) (i:Nat) (hI:J8 c now r i):Leaf (QpB c now r i) (LedR J9 ⟨c,now,r,i⟩):=by
 (rw [QqV];conv=>zeta)
 unfold J8 at hI;obtain ⟨h0,h1,hg⟩:=hI;have h2:=(QU.1 hg).1;have hlk0:Qd now.length=true:=Ql h2
 by_cases hlt:i < now.length
 · have w_succ:IntKind.i64.wrap ((i:Int)+1)=((i+1:Nat):Int):=by rw [wrap_id (by omega) (by omega)];simp
   have d_lt:decide ((i:Int) < now.length)=true:=by simp;omega
   have d_in:decide (0 <= (i:Int) /\ (i:Int) < now.length)=true:=by simp;omega
   have t_nat:((i:Int)).toNat=i:=by simp
   simp only [w_succ,d_lt,d_in,t_nat,cond_true];have hlk:=Qam hg i hlt (⟨0,[]⟩:Qa);have hst:=QaO now i hlt (⟨0,[]⟩:Qa);generalize now.getD i (⟨0,[]⟩:Qa)=x at hst hlk ⊢;simp only [hlk0,hlk,cond_true];cases a1:decide (3000 < (x.b.length:Int))
   · simp only [cond_false];exact Qt ⟨c,now,r,i+1⟩ ⟨h0,hlt,hg⟩ (by simp only [J9];omega) (by simp [J9,J7,hst,a1];rfl) rfl rfl
   · simp only [cond_true];exact QG (K5 c now r i) (by simp [J9,J7,hst,a1,RT.val]) rfl
 · have hi:i=now.length:=by omega
   have c1:decide ((i:Int) < now.length)=false:=by simp;omega
   rw [hlk0,c1];exact Qi (K5 c now r i) (by simp [J9,J7,hi,QbB,RT.val]) rfl
def QkR (env:Env RC) (os:List (Obj RC)):Option (Bool × QkP):=match env,os with
 | [(1,.ptr 0 []),(2,.bool false),(3,.int .i64 x0)],[.var 24 (.acons (.sl .sector c now) r)]=>Qz (r.refs.isEmpty) (decide (x0=0) && QH now,⟨c,now,r,0⟩)
 | _,_=>none
noncomputable def ue_7:=ue_6.addLoop 7 4 (sumR s28 [.slot 1 0] [1,2,3] J9 QkR)
theorem QkS:Qh Tryz.prog s28 ue_7:=by
 refine QkO.addRoundsR Qc (by kernel_rfl) J9 40 [1,2,3] [2] [.slot 1 0] [1,2,3] QkR (fun q hI=>?_) ?_
 · obtain ⟨c,now,r,i⟩:=q;refine ⟨?_,?_,Qia c now r i hI⟩
   · simp_all [Qk,J9,QkQ,K5,J8,D.refs,Obj.refs,rEnc]
   · simp_all [J9,J7,K5,J8,RT.refsOK,Qk,D.refs,Obj.refs,rEnc]
 · intro env os b q hd_ hb;unfold QkR at hd_
   split at hd_
   · obtain ⟨hs,hd_⟩:=Qg hd_;cases hd_;simp only [Bool.and_eq_true,decide_eq_true_eq] at hb;obtain ⟨rfl,hl⟩:=hb;exact ⟨⟨List.isEmpty_iff.1 hs,Nat.zero_le _,hl⟩,rfl,rfl⟩
   · cases hd_
structure QkT where
 q:D RC
 c:Bool
 sure:List Qa
 i:Nat
def QkU (q:D RC) (c:Bool) (sure:List Qa) (i:Nat):Env RC:=[(1,.ptr 0 []),(2,.bool false),(4,.int .i64 (i:Int))]
def K6 (q:D RC) (c:Bool) (sure:List Qa) (i:Nat):List (Obj RC):=[.var 24 (.acons q (.acons (.sl (C:=RC) .sector c sure) .anil))]
noncomputable def QpC (q:D RC) (c:Bool) (sure:List Qa) (i:Nat):=rndO s28 ue_7 7 9 40 1 [1,2,4] [2] [.slot 1 0] (QkU q c sure i) (K6 q c sure i)
theorem QqW (q:D RC) (c:Bool) (sure:List Qa) (i:Nat):QpC q c sure i=(let Z0:Int:=(↑i:Int);let Z1:Nat:=List.length (Qa.b (List.getD sure Z0.toNat (Qa.mk (0:Int) [])));let Z2:List (Option (Obj RC)):=[some (Obj.var 24 (.acons q (D.acons (D.sl RTy.sector c sure) .anil)))];bif Qd sure.length then bif decide (Z0 < (↑sure.length:Int)) then bif decide ((0:Int) <= Z0 /\ Z0 < (↑sure.length:Int)) then bif Qd Z1 then bif decide ((3000:Int) < (↑Z1:Int)) then some ((X.ret,[(2,D.bool true)]),Z2) else some ((X.normal,[(1,D.ptr 0 []),(2,D.bool false),(4,D.int .i64 (IntKind.wrap .i64 (Z0+(1:Int))))]),Z2) else none else none else some ((X.exit (2:Nat),[(2,D.bool false)]),Z2) else none):=by kernel_rfl
def Ka (q:D RC) (c:Bool) (sure:List Qa) (i:Nat):RT RC:=.br (YW sure i) (.leaf .ret [(2,.bool true)] (K6 q c sure i)) (.leaf (.exit 2) [(2,.bool false)] (K6 q c sure i))
def Kb (q:D RC) (c:Bool) (sure:List Qa) (i:Nat):Prop:=q.refs=[] /\ i <= sure.length /\ QH sure=true
def Kc:QF RC QkT where
 k:=1
 canon q:=QkU q.q q.c q.sure q.i
 objs q:=K6 q.q q.c q.sure q.i
 fin q:=Ka q.q q.c q.sure q.i
 Inv q:=Kb q.q q.c q.sure q.i
 μ q:=q.sure.length - q.i
theorem Qib (q:D RC) (c:Bool) (sure:List Qa) (i:Nat) (hI:Kb q c sure i):Leaf (QpC q c sure i) (LedR Kc ⟨q,c,sure,i⟩):=by
 (rw [QqW];conv=>zeta)
 unfold Kb at hI;obtain ⟨h0,h1,hg⟩:=hI;have h2:=(QU.1 hg).1;have hlk0:Qd sure.length=true:=Ql h2
 by_cases hlt:i < sure.length
 · have w_succ:IntKind.i64.wrap ((i:Int)+1)=((i+1:Nat):Int):=by rw [wrap_id (by omega) (by omega)];simp
   have d_lt:decide ((i:Int) < sure.length)=true:=by simp;omega
   have d_in:decide (0 <= (i:Int) /\ (i:Int) < sure.length)=true:=by simp;omega
   have t_nat:((i:Int)).toNat=i:=by simp
   simp only [w_succ,d_lt,d_in,t_nat,cond_true];have hlk:=Qam hg i hlt (⟨0,[]⟩:Qa);have hst:=QaO sure i hlt (⟨0,[]⟩:Qa);generalize sure.getD i (⟨0,[]⟩:Qa)=x at hst hlk ⊢;simp only [hlk0,hlk,cond_true];cases a1:decide (3000 < (x.b.length:Int))
   · simp only [cond_false];exact Qt ⟨q,c,sure,i+1⟩ ⟨h0,hlt,hg⟩ (by simp only [Kc];omega) (by simp [Kc,Ka,hst,a1];rfl) rfl rfl
   · simp only [cond_true];exact QG (K6 q c sure i) (by simp [Kc,Ka,hst,a1,RT.val]) rfl
 · have hi:i=sure.length:=by omega
   have c1:decide ((i:Int) < sure.length)=false:=by simp;omega
   rw [hlk0,c1];exact Qi (K6 q c sure i) (by simp [Kc,Ka,hi,QbB,RT.val]) rfl
def QkV (env:Env RC) (os:List (Obj RC)):Option (Bool × QkT):=match env,os with
 | [(1,.ptr 0 []),(2,.bool false),(4,.int .i64 x0)],[.var 24 (.acons q (.acons (.sl .sector c sure) .anil))]=>Qz (q.refs.isEmpty) (decide (x0=0) && QH sure,⟨q,c,sure,0⟩)
 | _,_=>none
noncomputable def ue_8:=ue_7.addLoop 7 9 (sumR s28 [.slot 1 0] [1,2,4] Kc QkV)
theorem QkW:Qh Tryz.prog s28 ue_8:=by
 refine QkS.addRoundsR Qc (by kernel_rfl) Kc 40 [1,2,4] [2] [.slot 1 0] [1,2,4] QkV (fun q hI=>?_) ?_
 · obtain ⟨q,c,sure,i⟩:=q;refine ⟨?_,?_,Qib q c sure i hI⟩
   · simp_all [Qk,Kc,QkU,K6,Kb,D.refs,Obj.refs,rEnc]
   · simp_all [Kc,Ka,K6,Kb,RT.refsOK,Qk,D.refs,Obj.refs,rEnc]
 · intro env os b q hd_ hb;unfold QkV at hd_
   split at hd_
   · obtain ⟨hs,hd_⟩:=Qg hd_;cases hd_;simp only [Bool.and_eq_true,decide_eq_true_eq] at hb;obtain ⟨rfl,hl⟩:=hb;exact ⟨⟨List.isEmpty_iff.1 hs,Nat.zero_le _,hl⟩,rfl,rfl⟩
   · cases hd_
def Qgt (c:Bool) (now:List Qa) (d:Bool) (sure:List Qa):Option (Bool × D RC):=some (QH now && QH sure,.bool (Qgh now sure))
def QdC:List (D RC)->Option (Bool × D RC)
 | [.acons (.sl .sector c now) (.acons (.sl .sector d sure) .anil)]=>Qgt c now d sure
 | _=>none
noncomputable def Qgu (c:Bool) (now:List Qa) (d:Bool) (sure:List Qa):=evF s28 ue_8 40 7 [.acons (.sl (C:=RC) .sector c now) (.acons (.sl (C:=RC) .sector d sure) .anil)]
theorem QkX (c:Bool) (now:List Qa) (d:Bool) (sure:List Qa):Qgu c now d sure=(let Z0:DO_:=some (D.bool true);bif Qd now.length then bif decide ((60:Int) < (↑now.length:Int)) then Z0 else bif Qd sure.length then bif decide ((60:Int) < (↑sure.length:Int)) then Z0 else bif QH now then bif YW now (0:Nat) then Z0 else bif QH sure then bif YW sure (0:Nat) then Z0 else some (D.bool false) else none else none else none else none):=by kernel_rfl
theorem QkY (c:Bool) (now:List Qa) (d:Bool) (sure:List Qa) (h:(QH now && QH sure)=true):Qgu c now d sure=some (.bool (Qgh now sure)):=by
 (rw [QkX];conv=>zeta)
 rw [Bool.and_eq_true] at h;obtain ⟨hg,hgs⟩:=h;have l1:=Ql (QU.1 hg).1;have l2:=Ql (QU.1 hgs).1;simp only [hg,hgs,l1,l2,cond_true,Qgh];cases decide ((60:Int) < now.length) <;> cases decide ((60:Int) < sure.length) <;> cases YW now 0 <;> cases YW sure 0 <;> rfl
noncomputable def ue_9:=ue_8.addSpec 7 QdC
theorem QkZ:Qh Tryz.prog s28 ue_9:=QkW.addEv Qc fun args d h=>by
 unfold QdC at h
 split at h
 · unfold Qgt at h;have h1:=congrArg Prod.fst (Option.some.inj h);obtain rfl:_=d:=congrArg Prod.snd (Option.some.inj h);exact ⟨by simp [D.refs],40,QkY _ _ _ _ h1⟩
 · cases h
def Qgv (c:Bool) (now:List Qa) (d:Bool) (sure:List Qa) (c':Bool) (now':List Qa) (d':Bool) (sure':List Qa):Option (Bool × D RC):=some (Qd now.length && Qd now'.length && (Qd sure.length && Qd sure'.length),.bool (decide (now=now') && decide (sure=sure')))
def QdD:List (D RC)->Option (Bool × D RC)
 | [.acons (.sl .sector c now) (.acons (.sl .sector d sure) .anil),.acons (.sl .sector c' now') (.acons (.sl .sector d' sure') .anil)]=>Qgv c now d sure c' now' d' sure'
 | _=>none
noncomputable def Qgw (c:Bool) (now:List Qa) (d:Bool) (sure:List Qa) (c':Bool) (now':List Qa) (d':Bool) (sure':List Qa):=evF s28 ue_9 40 51 [.acons (.sl (C:=RC) .sector c now) (.acons (.sl (C:=RC) .sector d sure) .anil),.acons (.sl (C:=RC) .sector c' now') (.acons (.sl (C:=RC) .sector d' sure') .anil)]
theorem Qk0 (c:Bool) (now:List Qa) (d:Bool) (sure:List Qa) (c':Bool) (now':List Qa) (d':Bool) (sure':List Qa):Qgw c now d sure c' now' d' sure'=(bif Qd now.length && Qd now'.length then bif decide (now=now') then bif Qd sure.length && Qd sure'.length then some (D.bool (decide (sure=sure'))) else none else some (D.bool false) else none):=by kernel_rfl
theorem Qk1 (c:Bool) (now:List Qa) (d:Bool) (sure:List Qa) (c':Bool) (now':List Qa) (d':Bool) (sure':List Qa) (h:(Qd now.length && Qd now'.length && (Qd sure.length && Qd sure'.length))=true):Qgw c now d sure c' now' d' sure'=some (.bool (decide (now=now') && decide (sure=sure'))):=by
 rw [Qk0];rw [Bool.and_eq_true] at h;rw [h.1,h.2];cases decide (now=now') <;> rfl
noncomputable def QqX:=ue_9.addSpec 51 QdD
theorem Qic:Qh Tryz.prog s28 QqX:=QkZ.addEv Qc fun args d h=>by
 unfold QdD at h
 split at h
 · unfold Qgv at h;have h1:=congrArg Prod.fst (Option.some.inj h);obtain rfl:_=d:=congrArg Prod.snd (Option.some.inj h);exact ⟨by simp [D.refs],40,Qk1 _ _ _ _ _ _ _ _ h1⟩
 · cases h
def lRow (first n many:Int):Int:=if 0 <= n /\ n < many then first+n else -1
def lRing (p w:Int):Int:=if 0 <= p /\ 2 <= w /\ w <= 8 then 13+p % w else -1
def lStream (q o:Int):Int:=if 0 <= q /\ q <= 2 /\ 0 <= o then 51+16 * q+o % 16 else -1
def lField (first slot f many fields:Int):Int:=if 0 <= slot /\ slot < many /\ 0 <= f /\ f < fields then first+slot * fields+f else -1
def Zv (c w d n:Int):Bool:=Qf c 1 4 && Qf w 2 8 && Qf d 1 4 && Qf n 4 40
def lOwn (c w d n:Int) (client:Int) (node:Bool):Int × Int:=if Zv c w d n=true /\ 0 <= client /\ client < c then (client * (bif node then n else d),bif node then n else d) else (0,0)
theorem Yp (n:Int):(BitVec.ofInt IntKind.i64.bits n).toNat=(n % 18446744073709551616).toNat:=by
 rw [BitVec.toNat_ofInt];simp only [IntKind.bits]
 congr 1
theorem Qk2 {p w:Int} (hw:0 < w):0 <= p % w /\ p % w < w:=⟨Int.emod_nonneg _ (by omega),Int.emod_lt_of_pos _ hw⟩
theorem Yq {x a b:Int} (h:Qf x a b=false):¬ (a <= x /\ x <= b):=by rw [<- QA];simp [h]
theorem Qfk {p w:Int} (h:0 <= p):p.tmod w=p % w:=Int.tmod_eq_emod_of_nonneg h
theorem ZN {α:Type} {c:Bool} {x y z:α} (h1:c=true->x=z) (h2:c=false->y=z):cond c x y=z:=by cases c;exact h2 rfl;exact h1 rfl
theorem Qgx {c w d n:Int} (h:Zv c w d n=true):(1 <= c /\ c <= 4) /\ (2 <= w /\ w <= 8) /\ (1 <= d /\ d <= 4) /\ 4 <= n /\ n <= 40:=by
 simp only [Zv,Bool.and_eq_true,QA] at h;omega
def Jg:List Int:=0::1::List.replicate 289 0++(List.replicate 160 [(0:Int),-1,0]).flatten
open Go.Proofs
def Qr1 (n:Int) (a:Int) (b:Int):Option (Bool × D RC):=some (true,.bool (Qf n a b))
def QpD:List (D RC)->Option (Bool × D RC)
 | [.int .i64 n,.int .i64 a,.int .i64 b]=>Qr1 n a b
 | _=>none
noncomputable def Qr2 (n:Int) (a:Int) (b:Int):=evF s28 QqX 20 101 [.int .i64 n,.int .i64 a,.int .i64 b]
theorem Qr3 (n:Int) (a:Int) (b:Int):Qr2 n a b=(bif decide (a <= n) then some (D.bool (decide (n <= b))) else some (D.bool false)):=by kernel_rfl
theorem Qr4 (n:Int) (a:Int) (b:Int) (h:(true)=true):Qr2 n a b=some (.bool (Qf n a b)):=by
 rw [Qr3];rw [Qf];cases decide (a <= n) <;> simp
noncomputable def uf_1:=QqX.addSpec 101 QpD
theorem Qk3:Qh Tryz.prog s28 uf_1:=Qic.addEv Qc fun args d h=>by
 unfold QpD at h
 split at h
 · unfold Qr1 at h;have h1:=congrArg Prod.fst (Option.some.inj h);obtain rfl:_=d:=congrArg Prod.snd (Option.some.inj h);exact ⟨by simp [D.refs],20,Qr4 _ _ _ h1⟩
 · cases h
def QdE (q:Int) (o:Int):Option (Bool × D RC):=some (true,.int .i64 (lStream q o))
def QbC:List (D RC)->Option (Bool × D RC)
 | [.int .i64 q,.int .i64 o]=>QdE q o
 | _=>none
noncomputable def QdF (q:Int) (o:Int):=evF s28 uf_1 20 118 [.int .i64 q,.int .i64 o]
theorem Qid (q:Int) (o:Int):QdF q o=(let Z0:DO_:=some (D.int .i64 (-1:Int));bif !Qf q (0:Int) (2:Int) then Z0 else bif decide (o < (0:Int)) then Z0 else some (D.int .i64 (IntKind.wrap .i64 (IntKind.wrap .i64 ((51:Int)+IntKind.wrap .i64 ((16:Int) * q))+Int.tmod o (16:Int))))):=by kernel_rfl
theorem Qie (q:Int) (o:Int) (h:(true)=true):QdF q o=some (.int .i64 (lStream q o)):=by
 (rw [Qid];conv=>zeta)
 unfold lStream;cases h1:Qf q 0 2
 · have h2:=Yq h1;rw [if_neg (by omega)];rfl
 · rw [QA] at h1;simp only [Bool.not_true,cond_false];refine ZN (fun h0=>?_) fun h0=>?_ <;> simp only [decide_eq_true_eq,decide_eq_false_iff_not] at h0
   · rw [if_neg (by omega)]
   · rw [Qfk (by omega),wrap_id (n:=16 * q) (by omega) (by omega),wrap_id (n:=51+16 * q) (by omega) (by omega),wrap_id (by omega) (by omega),if_pos ⟨h1.1,h1.2,by omega⟩]
noncomputable def uf_2:=uf_1.addSpec 118 QbC
theorem Qk4:Qh Tryz.prog s28 uf_2:=Qk3.addEv Qc fun args d h=>by
 unfold QbC at h
 split at h
 · unfold QdE at h;have h1:=congrArg Prod.fst (Option.some.inj h);obtain rfl:_=d:=congrArg Prod.snd (Option.some.inj h);exact ⟨by simp [D.refs],20,Qie _ _ h1⟩
 · cases h
def QdG (q:Int) (o:Int):Option (Bool × D RC):=some (true,.int .i64 (lStream q o))
def QbD:List (D RC)->Option (Bool × D RC)
 | [.int .i64 q,.int .i64 o]=>QdG q o
 | _=>none
noncomputable def QdH (q:Int) (o:Int):=evF s28 uf_2 20 69 [.int .i64 q,.int .i64 o]
theorem Qif (q:Int) (o:Int):QdH q o=(let Z0:DO_:=some (D.int .i64 (-1:Int));bif decide (q < (0:Int)) then Z0 else bif decide ((3:Int) <= q) then Z0 else bif decide (o < (0:Int)) then Z0 else some (D.int .i64 (IntKind.wrap .i64 (IntKind.wrap .i64 ((51:Int)+IntKind.wrap .i64 ((16:Int) * q))+Int.tmod o (16:Int))))):=by kernel_rfl
theorem Qig (q:Int) (o:Int) (h:(true)=true):QdH q o=some (.int .i64 (lStream q o)):=by
 (rw [Qif];conv=>zeta)
 unfold lStream;refine ZN (fun h0=>?_) fun h0=>?_ <;> simp only [decide_eq_true_eq,decide_eq_false_iff_not] at h0
 · rw [if_neg (by omega)]
 refine ZN (fun h1=>?_) fun h1=>?_ <;> simp only [decide_eq_true_eq,decide_eq_false_iff_not] at h1
 · rw [if_neg (by omega)]
 refine ZN (fun h2=>?_) fun h2=>?_ <;> simp only [decide_eq_true_eq,decide_eq_false_iff_not] at h2
 · rw [if_neg (by omega)]
 rw [Qfk (by omega),wrap_id (n:=16 * q) (by omega) (by omega),wrap_id (n:=51+16 * q) (by omega) (by omega),wrap_id (by omega) (by omega),if_pos ⟨by omega,by omega,by omega⟩]
noncomputable def uf_3:=uf_2.addSpec 69 QbD
theorem Qk5:Qh Tryz.prog s28 uf_3:=Qk4.addEv Qc fun args d h=>by
 unfold QbD at h
 split at h
 · unfold QdG at h;have h1:=congrArg Prod.fst (Option.some.inj h);obtain rfl:_=d:=congrArg Prod.snd (Option.some.inj h);exact ⟨by simp [D.refs],20,Qig _ _ h1⟩
 · cases h
def Qk6 (a:Int) (n:Int) (m:Int):Option (Bool × D RC):=some (true,.int .i64 (bif decide (0 <= n) && decide (n < m) then IntKind.i64.wrap (a+n) else -1))
def Qgy:List (D RC)->Option (Bool × D RC)
 | [.int .i64 a,.int .i64 n,.int .i64 m]=>Qk6 a n m
 | _=>none
noncomputable def Qk7 (a:Int) (n:Int) (m:Int):=evF s28 uf_3 20 133 [.int .i64 a,.int .i64 n,.int .i64 m]
theorem Qov (a:Int) (n:Int) (m:Int):Qk7 a n m=(let Z0:DO_:=some (D.int .i64 (-1:Int));bif decide (n < (0:Int)) then Z0 else bif decide (m <= n) then Z0 else some (D.int .i64 (IntKind.wrap .i64 (a+n)))):=by kernel_rfl
theorem Qow (a:Int) (n:Int) (m:Int) (h:(true)=true):Qk7 a n m=some (.int .i64 (bif decide (0 <= n) && decide (n < m) then IntKind.i64.wrap (a+n) else -1)):=by
 (rw [Qov];conv=>zeta)
 refine ZN (fun h0=>?_) fun h0=>?_ <;> simp only [decide_eq_true_eq,decide_eq_false_iff_not] at h0
 · rw [decide_eq_false (p:=0 <= n) (by omega)];rfl
 refine ZN (fun h1=>?_) fun h1=>?_ <;> simp only [decide_eq_true_eq,decide_eq_false_iff_not] at h1
 · rw [decide_eq_false (p:=n < m) (by omega),Bool.and_false];rfl
 · rw [decide_eq_true (p:=0 <= n) (by omega),decide_eq_true (p:=n < m) (by omega)];rfl
noncomputable def uf_4:=uf_3.addSpec 133 Qgy
theorem Qk8:Qh Tryz.prog s28 uf_4:=Qk5.addEv Qc fun args d h=>by
 unfold Qgy at h
 split at h
 · unfold Qk6 at h;have h1:=congrArg Prod.fst (Option.some.inj h);obtain rfl:_=d:=congrArg Prod.snd (Option.some.inj h);exact ⟨by simp [D.refs],20,Qow _ _ _ h1⟩
 · cases h
def Qk9 (a:Int) (s:Int) (n:Int) (m:Int):Option (Bool × D RC):=some (true,.int .i64 (bif decide (0 <= n) && decide (n < m) then IntKind.i64.wrap (a+IntKind.i64.wrap (s * n)) else -1))
def Qgz:List (D RC)->Option (Bool × D RC)
 | [.int .i64 a,.int .i64 s,.int .i64 n,.int .i64 m]=>Qk9 a s n m
 | _=>none
noncomputable def Qla (a:Int) (s:Int) (n:Int) (m:Int):=evF s28 uf_4 20 127 [.int .i64 a,.int .i64 s,.int .i64 n,.int .i64 m]
theorem Qox (a:Int) (s:Int) (n:Int) (m:Int):Qla a s n m=(let Z0:DO_:=some (D.int .i64 (-1:Int));bif decide (n < (0:Int)) then Z0 else bif decide (m <= n) then Z0 else some (D.int .i64 (IntKind.wrap .i64 (a+IntKind.wrap .i64 (s * n))))):=by kernel_rfl
theorem Qoy (a:Int) (s:Int) (n:Int) (m:Int) (h:(true)=true):Qla a s n m=some (.int .i64 (bif decide (0 <= n) && decide (n < m) then IntKind.i64.wrap (a+IntKind.i64.wrap (s * n)) else -1)):=by
 (rw [Qox];conv=>zeta)
 refine ZN (fun h0=>?_) fun h0=>?_ <;> simp only [decide_eq_true_eq,decide_eq_false_iff_not] at h0
 · rw [decide_eq_false (p:=0 <= n) (by omega)];rfl
 refine ZN (fun h1=>?_) fun h1=>?_ <;> simp only [decide_eq_true_eq,decide_eq_false_iff_not] at h1
 · rw [decide_eq_false (p:=n < m) (by omega),Bool.and_false];rfl
 · rw [decide_eq_true (p:=0 <= n) (by omega),decide_eq_true (p:=n < m) (by omega)];rfl
noncomputable def uf_5:=uf_4.addSpec 127 Qgz
theorem Qlb:Qh Tryz.prog s28 uf_5:=Qk8.addEv Qc fun args d h=>by
 unfold Qgz at h
 split at h
 · unfold Qk9 at h;have h1:=congrArg Prod.fst (Option.some.inj h);obtain rfl:_=d:=congrArg Prod.snd (Option.some.inj h);exact ⟨by simp [D.refs],20,Qoy _ _ _ _ h1⟩
 · cases h
def QgA (n:Int):Option (Bool × D RC):=some (true,.int .i64 (lRow 21 n 24))
def QdI:List (D RC)->Option (Bool × D RC)
 | [.int .i64 n]=>QgA n
 | _=>none
noncomputable def QgB (n:Int):=evF s28 uf_5 20 124 [.int .i64 n]
theorem Qlc (n:Int):QgB n=(some (D.int .i64 (bif decide ((0:Int) <= n) && decide (n < (24:Int)) then IntKind.wrap .i64 ((21:Int)+n) else (-1:Int)))):=by kernel_rfl
theorem Qld (n:Int) (h:(true)=true):QgB n=some (.int .i64 (lRow 21 n 24)):=by
 rw [Qlc]
 congr 2
 unfold lRow
 by_cases h0:0 <= n
 · by_cases h1:n < 24
   · simp (disch:=omega) only [decide_eq_true h0,decide_eq_true h1,Bool.and_self,cond_true,Qab];rw [if_pos ⟨h0,h1⟩]
   · simp only [decide_eq_false h1,Bool.and_false,cond_false];rw [if_neg (by omega)]
 · simp only [decide_eq_false h0,Bool.false_and,cond_false];rw [if_neg (by omega)]
noncomputable def uf_6:=uf_5.addSpec 124 QdI
theorem Qle:Qh Tryz.prog s28 uf_6:=Qlb.addEv Qc fun args d h=>by
 unfold QdI at h
 split at h
 · unfold QgA at h;have h1:=congrArg Prod.fst (Option.some.inj h);obtain rfl:_=d:=congrArg Prod.snd (Option.some.inj h);exact ⟨by simp [D.refs],20,Qld _ h1⟩
 · cases h
def QgC (n:Int):Option (Bool × D RC):=some (true,.int .i64 (lRow 21 n 24))
def QdJ:List (D RC)->Option (Bool × D RC)
 | [.int .i64 n]=>QgC n
 | _=>none
noncomputable def QgD (n:Int):=evF s28 uf_6 20 67 [.int .i64 n]
theorem Qlf (n:Int):QgD n=(some (D.int .i64 (bif decide ((0:Int) <= n) && decide (n < (24:Int)) then IntKind.wrap .i64 ((21:Int)+IntKind.wrap .i64 ((1:Int) * n)) else (-1:Int)))):=by kernel_rfl
theorem Qlg (n:Int) (h:(true)=true):QgD n=some (.int .i64 (lRow 21 n 24)):=by
 rw [Qlf]
 congr 2
 unfold lRow
 by_cases h0:0 <= n
 · by_cases h1:n < 24
   · simp (disch:=omega) only [decide_eq_true h0,decide_eq_true h1,Bool.and_self,cond_true,Int.one_mul,Qab];rw [if_pos ⟨h0,h1⟩]
   · simp only [decide_eq_false h1,Bool.and_false,cond_false];rw [if_neg (by omega)]
 · simp only [decide_eq_false h0,Bool.false_and,cond_false];rw [if_neg (by omega)]
noncomputable def uf_7:=uf_6.addSpec 67 QdJ
theorem Qlh:Qh Tryz.prog s28 uf_7:=Qle.addEv Qc fun args d h=>by
 unfold QdJ at h
 split at h
 · unfold QgC at h;have h1:=congrArg Prod.fst (Option.some.inj h);obtain rfl:_=d:=congrArg Prod.snd (Option.some.inj h);exact ⟨by simp [D.refs],20,Qlg _ h1⟩
 · cases h
def QdK (n:Int):Option (Bool × D RC):=some (true,.int .i64 (lRow 45 n 3))
def QbE:List (D RC)->Option (Bool × D RC)
 | [.int .i64 n]=>QdK n
 | _=>none
noncomputable def QdL (n:Int):=evF s28 uf_7 20 119 [.int .i64 n]
theorem Qih (n:Int):QdL n=(some (D.int .i64 (bif decide ((0:Int) <= n) && decide (n < (3:Int)) then IntKind.wrap .i64 ((45:Int)+n) else (-1:Int)))):=by kernel_rfl
theorem Qii (n:Int) (h:(true)=true):QdL n=some (.int .i64 (lRow 45 n 3)):=by
 rw [Qih]
 congr 2
 unfold lRow
 by_cases h0:0 <= n
 · by_cases h1:n < 3
   · simp (disch:=omega) only [decide_eq_true h0,decide_eq_true h1,Bool.and_self,cond_true,Qab];rw [if_pos ⟨h0,h1⟩]
   · simp only [decide_eq_false h1,Bool.and_false,cond_false];rw [if_neg (by omega)]
 · simp only [decide_eq_false h0,Bool.false_and,cond_false];rw [if_neg (by omega)]
noncomputable def uf_8:=uf_7.addSpec 119 QbE
theorem Qli:Qh Tryz.prog s28 uf_8:=Qlh.addEv Qc fun args d h=>by
 unfold QbE at h
 split at h
 · unfold QdK at h;have h1:=congrArg Prod.fst (Option.some.inj h);obtain rfl:_=d:=congrArg Prod.snd (Option.some.inj h);exact ⟨by simp [D.refs],20,Qii _ h1⟩
 · cases h
def QdM (n:Int):Option (Bool × D RC):=some (true,.int .i64 (lRow 45 n 3))
def QbF:List (D RC)->Option (Bool × D RC)
 | [.int .i64 n]=>QdM n
 | _=>none
noncomputable def QdN (n:Int):=evF s28 uf_8 20 70 [.int .i64 n]
theorem Qij (n:Int):QdN n=(some (D.int .i64 (bif decide ((0:Int) <= n) && decide (n < (3:Int)) then IntKind.wrap .i64 ((45:Int)+IntKind.wrap .i64 ((1:Int) * n)) else (-1:Int)))):=by kernel_rfl
theorem Qik (n:Int) (h:(true)=true):QdN n=some (.int .i64 (lRow 45 n 3)):=by
 rw [Qij]
 congr 2
 unfold lRow
 by_cases h0:0 <= n
 · by_cases h1:n < 3
   · simp (disch:=omega) only [decide_eq_true h0,decide_eq_true h1,Bool.and_self,cond_true,Int.one_mul,Qab];rw [if_pos ⟨h0,h1⟩]
   · simp only [decide_eq_false h1,Bool.and_false,cond_false];rw [if_neg (by omega)]
 · simp only [decide_eq_false h0,Bool.false_and,cond_false];rw [if_neg (by omega)]
noncomputable def uf_9:=uf_8.addSpec 70 QbF
theorem Qlj:Qh Tryz.prog s28 uf_9:=Qli.addEv Qc fun args d h=>by
 unfold QbF at h
 split at h
 · unfold QdM at h;have h1:=congrArg Prod.fst (Option.some.inj h);obtain rfl:_=d:=congrArg Prod.snd (Option.some.inj h);exact ⟨by simp [D.refs],20,Qik _ h1⟩
 · cases h
def Qlk (n:Int):Option (Bool × D RC):=some (true,.int .i64 (lRow 48 n 3))
def QgE:List (D RC)->Option (Bool × D RC)
 | [.int .i64 n]=>Qlk n
 | _=>none
noncomputable def Qll (n:Int):=evF s28 uf_9 20 74 [.int .i64 n]
theorem Qoz (n:Int):Qll n=(some (D.int .i64 (bif decide ((0:Int) <= n) && decide (n < (3:Int)) then IntKind.wrap .i64 ((48:Int)+n) else (-1:Int)))):=by kernel_rfl
theorem QoA (n:Int) (h:(true)=true):Qll n=some (.int .i64 (lRow 48 n 3)):=by
 rw [Qoz]
 congr 2
 unfold lRow
 by_cases h0:0 <= n
 · by_cases h1:n < 3
   · simp (disch:=omega) only [decide_eq_true h0,decide_eq_true h1,Bool.and_self,cond_true,Qab];rw [if_pos ⟨h0,h1⟩]
   · simp only [decide_eq_false h1,Bool.and_false,cond_false];rw [if_neg (by omega)]
 · simp only [decide_eq_false h0,Bool.false_and,cond_false];rw [if_neg (by omega)]
noncomputable def QqY:=uf_9.addSpec 74 QgE
theorem Qil:Qh Tryz.prog s28 QqY:=Qlj.addEv Qc fun args d h=>by
 unfold QgE at h
 split at h
 · unfold Qlk at h;have h1:=congrArg Prod.fst (Option.some.inj h);obtain rfl:_=d:=congrArg Prod.snd (Option.some.inj h);exact ⟨by simp [D.refs],20,QoA _ h1⟩
 · cases h
def Qlm (n:Int):Option (Bool × D RC):=some (true,.int .i64 (lRow 48 n 3))
def QgF:List (D RC)->Option (Bool × D RC)
 | [.int .i64 n]=>Qlm n
 | _=>none
noncomputable def Qln (n:Int):=evF s28 QqY 20 71 [.int .i64 n]
theorem QoB (n:Int):Qln n=(some (D.int .i64 (bif decide ((0:Int) <= n) && decide (n < (3:Int)) then IntKind.wrap .i64 ((48:Int)+IntKind.wrap .i64 ((1:Int) * n)) else (-1:Int)))):=by kernel_rfl
theorem QoC (n:Int) (h:(true)=true):Qln n=some (.int .i64 (lRow 48 n 3)):=by
 rw [QoB]
 congr 2
 unfold lRow
 by_cases h0:0 <= n
 · by_cases h1:n < 3
   · simp (disch:=omega) only [decide_eq_true h0,decide_eq_true h1,Bool.and_self,cond_true,Int.one_mul,Qab];rw [if_pos ⟨h0,h1⟩]
   · simp only [decide_eq_false h1,Bool.and_false,cond_false];rw [if_neg (by omega)]
 · simp only [decide_eq_false h0,Bool.false_and,cond_false];rw [if_neg (by omega)]
noncomputable def QqZ:=QqY.addSpec 71 QgF
theorem Qim:Qh Tryz.prog s28 QqZ:=Qil.addEv Qc fun args d h=>by
 unfold QgF at h
 split at h
 · unfold Qlm at h;have h1:=congrArg Prod.fst (Option.some.inj h);obtain rfl:_=d:=congrArg Prod.snd (Option.some.inj h);exact ⟨by simp [D.refs],20,QoC _ h1⟩
 · cases h
def QdO (a:Int) (s:Int) (f:Int) (m:Int) (k:Int):Option (Bool × D RC):=some (true,.int .i64 (bif Qf s 0 (IntKind.i64.wrap (m - 1)) && Qf f 0 (IntKind.i64.wrap (k - 1)) then IntKind.i64.wrap (IntKind.i64.wrap (a+IntKind.i64.wrap (s * k))+f) else -1))
def QbG:List (D RC)->Option (Bool × D RC)
 | [.int .i64 a,.int .i64 s,.int .i64 f,.int .i64 m,.int .i64 k]=>QdO a s f m k
 | _=>none
noncomputable def QdP (a:Int) (s:Int) (f:Int) (m:Int) (k:Int):=evF s28 QqZ 20 168 [.int .i64 a,.int .i64 s,.int .i64 f,.int .i64 m,.int .i64 k]
theorem Qin (a:Int) (s:Int) (f:Int) (m:Int) (k:Int):QdP a s f m k=(let Z0:DO_:=some (D.int .i64 (-1:Int));bif !Qf s (0:Int) (IntKind.wrap .i64 (m - (1:Int))) then Z0 else bif !Qf f (0:Int) (IntKind.wrap .i64 (k - (1:Int))) then Z0 else some (D.int .i64 (IntKind.wrap .i64 (IntKind.wrap .i64 (a+IntKind.wrap .i64 (s * k))+f)))):=by kernel_rfl
theorem Qio (a:Int) (s:Int) (f:Int) (m:Int) (k:Int) (h:(true)=true):QdP a s f m k=some (.int .i64 (bif Qf s 0 (IntKind.i64.wrap (m - 1)) && Qf f 0 (IntKind.i64.wrap (k - 1)) then IntKind.i64.wrap (IntKind.i64.wrap (a+IntKind.i64.wrap (s * k))+f) else -1)):=by
 (rw [Qin];conv=>zeta)
 cases Qf s 0 (IntKind.i64.wrap (m - 1)) <;> cases Qf f 0 (IntKind.i64.wrap (k - 1)) <;> rfl
noncomputable def Qq0:=QqZ.addSpec 168 QbG
theorem Qip:Qh Tryz.prog s28 Qq0:=Qim.addEv Qc fun args d h=>by
 unfold QbG at h
 split at h
 · unfold QdO at h;have h1:=congrArg Prod.fst (Option.some.inj h);obtain rfl:_=d:=congrArg Prod.snd (Option.some.inj h);exact ⟨by simp [D.refs],20,Qio _ _ _ _ _ h1⟩
 · cases h
def QgG (s:Int) (f:Int):Option (Bool × D RC):=some (true,.int .i64 (lField 99 s f 16 12))
def QdQ:List (D RC)->Option (Bool × D RC)
 | [.int .i64 s,.int .i64 f]=>QgG s f
 | _=>none
noncomputable def QgH (s:Int) (f:Int):=evF s28 Qq0 20 195 [.int .i64 s,.int .i64 f]
theorem Qlo (s:Int) (f:Int):QgH s f=(some (D.int .i64 (bif Qf s (0:Int) (15:Int) && Qf f (0:Int) (11:Int) then IntKind.wrap .i64 (IntKind.wrap .i64 ((99:Int)+IntKind.wrap .i64 (s * (12:Int)))+f) else (-1:Int)))):=by kernel_rfl
theorem Qlp (s:Int) (f:Int) (h:(true)=true):QgH s f=some (.int .i64 (lField 99 s f 16 12)):=by
 rw [Qlo]
 congr 2
 unfold lField;cases h0:Qf s 0 15
 · have:=Yq h0;rw [if_neg (by omega)];rfl
 cases h1:Qf f 0 11
 · have:=Yq h1;rw [if_neg (by omega)];rfl
 rw [QA] at h0 h1;rw [if_pos (by omega)]
 simp (disch:=omega) only [Bool.and_self,cond_true,Qab]
noncomputable def Qq1:=Qq0.addSpec 195 QdQ
theorem Qiq:Qh Tryz.prog s28 Qq1:=Qip.addEv Qc fun args d h=>by
 unfold QdQ at h
 split at h
 · unfold QgG at h;have h1:=congrArg Prod.fst (Option.some.inj h);obtain rfl:_=d:=congrArg Prod.snd (Option.some.inj h);exact ⟨by simp [D.refs],20,Qlp _ _ h1⟩
 · cases h
def QgI (s:Int) (f:Int):Option (Bool × D RC):=some (true,.int .i64 (lField 99 s f 16 12))
def QdR:List (D RC)->Option (Bool × D RC)
 | [.int .i64 s,.int .i64 f]=>QgI s f
 | _=>none
noncomputable def QgJ (s:Int) (f:Int):=evF s28 Qq1 20 176 [.int .i64 s,.int .i64 f]
theorem Qlq (s:Int) (f:Int):QgJ s f=(let Z0:DO_:=some (D.int .i64 (-1:Int));let Z1:Int:=bif decide ((0:Int) <= s) && decide (s < (16:Int)) then IntKind.wrap .i64 ((99:Int)+IntKind.wrap .i64 ((12:Int) * s)) else (-1:Int);bif decide (f < (0:Int)) then Z0 else bif decide ((11:Int) < f) then Z0 else bif decide (Z1 < (0:Int)) then Z0 else some (D.int .i64 (IntKind.wrap .i64 (Z1+f)))):=by kernel_rfl
theorem Qlr (s:Int) (f:Int) (h:(true)=true):QgJ s f=some (.int .i64 (lField 99 s f 16 12)):=by
 (rw [Qlq];conv=>zeta)
 unfold lField;refine ZN (fun h0=>?_) fun h0=>?_ <;> simp only [decide_eq_true_eq,decide_eq_false_iff_not] at h0
 · rw [if_neg (by omega)]
 refine ZN (fun h1=>?_) fun h1=>?_ <;> simp only [decide_eq_true_eq,decide_eq_false_iff_not] at h1
 · rw [if_neg (by omega)]
 by_cases h2:0 <= s
 · by_cases h3:s < 16
   · simp (disch:=omega) only [decide_eq_true h2,decide_eq_true h3,Bool.and_self,cond_true,Qab];rw [decide_eq_false (by omega),if_pos (by omega)]
     simp (disch:=omega) only [cond_false,Qab]
     congr 2;omega
   · simp only [decide_eq_false h3,Bool.and_false,cond_false];rw [if_neg (by omega)];rfl
 · simp only [decide_eq_false h2,Bool.false_and,cond_false];rw [if_neg (by omega)];rfl
noncomputable def Qq2:=Qq1.addSpec 176 QdR
theorem Qir:Qh Tryz.prog s28 Qq2:=Qiq.addEv Qc fun args d h=>by
 unfold QdR at h
 split at h
 · unfold QgI at h;have h1:=congrArg Prod.fst (Option.some.inj h);obtain rfl:_=d:=congrArg Prod.snd (Option.some.inj h);exact ⟨by simp [D.refs],20,Qlr _ _ h1⟩
 · cases h
def QgK (s:Int) (f:Int):Option (Bool × D RC):=some (true,.int .i64 (lField 291 s f 160 3))
def QdS:List (D RC)->Option (Bool × D RC)
 | [.int .i64 s,.int .i64 f]=>QgK s f
 | _=>none
noncomputable def QgL (s:Int) (f:Int):=evF s28 Qq2 20 120 [.int .i64 s,.int .i64 f]
theorem Qls (s:Int) (f:Int):QgL s f=(some (D.int .i64 (bif Qf s (0:Int) (159:Int) && Qf f (0:Int) (2:Int) then IntKind.wrap .i64 (IntKind.wrap .i64 ((291:Int)+IntKind.wrap .i64 (s * (3:Int)))+f) else (-1:Int)))):=by kernel_rfl
theorem Qlt (s:Int) (f:Int) (h:(true)=true):QgL s f=some (.int .i64 (lField 291 s f 160 3)):=by
 rw [Qls]
 congr 2
 unfold lField;cases h0:Qf s 0 159
 · have:=Yq h0;rw [if_neg (by omega)];rfl
 cases h1:Qf f 0 2
 · have:=Yq h1;rw [if_neg (by omega)];rfl
 rw [QA] at h0 h1;rw [if_pos (by omega)]
 simp (disch:=omega) only [Bool.and_self,cond_true,Qab]
noncomputable def Qq3:=Qq2.addSpec 120 QdS
theorem Qis:Qh Tryz.prog s28 Qq3:=Qir.addEv Qc fun args d h=>by
 unfold QdS at h
 split at h
 · unfold QgK at h;have h1:=congrArg Prod.fst (Option.some.inj h);obtain rfl:_=d:=congrArg Prod.snd (Option.some.inj h);exact ⟨by simp [D.refs],20,Qlt _ _ h1⟩
 · cases h
def QgM (s:Int) (f:Int):Option (Bool × D RC):=some (true,.int .i64 (lField 291 s f 160 3))
def QdT:List (D RC)->Option (Bool × D RC)
 | [.int .i64 s,.int .i64 f]=>QgM s f
 | _=>none
noncomputable def QgN (s:Int) (f:Int):=evF s28 Qq3 20 65 [.int .i64 s,.int .i64 f]
theorem Qlu (s:Int) (f:Int):QgN s f=(let Z0:DO_:=some (D.int .i64 (-1:Int));let Z1:Int:=bif decide ((0:Int) <= s) && decide (s < (160:Int)) then IntKind.wrap .i64 ((291:Int)+IntKind.wrap .i64 ((3:Int) * s)) else (-1:Int);bif decide (f < (0:Int)) then Z0 else bif decide ((2:Int) < f) then Z0 else bif decide (Z1 < (0:Int)) then Z0 else some (D.int .i64 (IntKind.wrap .i64 (Z1+f)))):=by kernel_rfl
theorem Qlv (s:Int) (f:Int) (h:(true)=true):QgN s f=some (.int .i64 (lField 291 s f 160 3)):=by
 (rw [Qlu];conv=>zeta)
 unfold lField;refine ZN (fun h0=>?_) fun h0=>?_ <;> simp only [decide_eq_true_eq,decide_eq_false_iff_not] at h0
 · rw [if_neg (by omega)]
 refine ZN (fun h1=>?_) fun h1=>?_ <;> simp only [decide_eq_true_eq,decide_eq_false_iff_not] at h1
 · rw [if_neg (by omega)]
 by_cases h2:0 <= s
 · by_cases h3:s < 160
   · simp (disch:=omega) only [decide_eq_true h2,decide_eq_true h3,Bool.and_self,cond_true,Qab];rw [decide_eq_false (by omega),if_pos (by omega)]
     simp (disch:=omega) only [cond_false,Qab]
     congr 2;omega
   · simp only [decide_eq_false h3,Bool.and_false,cond_false];rw [if_neg (by omega)];rfl
 · simp only [decide_eq_false h2,Bool.false_and,cond_false];rw [if_neg (by omega)];rfl
noncomputable def Qq4:=Qq3.addSpec 65 QdT
theorem Qit:Qh Tryz.prog s28 Qq4:=Qis.addEv Qc fun args d h=>by
 unfold QdT at h
 split at h
 · unfold QgM at h;have h1:=congrArg Prod.fst (Option.some.inj h);obtain rfl:_=d:=congrArg Prod.snd (Option.some.inj h);exact ⟨by simp [D.refs],20,Qlv _ _ h1⟩
 · cases h
def QbH (c:Int) (w:Int) (d:Int) (k:Int):Option (Bool × D RC):=some (true,.int .i64 (bif Zv c w d k then 0 else 2))
def QaP:List (D RC)->Option (Bool × D RC)
 | [.acons (.int .i64 c) (.acons (.int .i64 w) (.acons (.int .i64 d) (.acons (.int .i64 k) .anil)))]=>QbH c w d k
 | _=>none
noncomputable def QbI (c:Int) (w:Int) (d:Int) (k:Int):=evF s28 Qq4 20 41 [.acons (.int .i64 c) (.acons (.int .i64 w) (.acons (.int .i64 d) (.acons (.int .i64 k) .anil)))]
theorem Qfl (c:Int) (w:Int) (d:Int) (k:Int):QbI c w d k=(let Z0:DO_:=some (D.int .i64 2);bif Qf c (1:Int) (4:Int) then bif Qf w (2:Int) (8:Int) then bif Qf d (1:Int) (4:Int) then bif Qf k (4:Int) (40:Int) then some (D.int .i64 0) else Z0 else Z0 else Z0 else Z0):=by kernel_rfl
theorem Qfm (c:Int) (w:Int) (d:Int) (k:Int) (h:(true)=true):QbI c w d k=some (.int .i64 (bif Zv c w d k then 0 else 2)):=by
 (rw [Qfl];conv=>zeta)
 unfold Zv;cases Qf c 1 4 <;> cases Qf w 2 8 <;> cases Qf d 1 4 <;> cases Qf k 4 40 <;> rfl
noncomputable def Qq5:=Qq4.addSpec 41 QaP
theorem Qiu:Qh Tryz.prog s28 Qq5:=Qit.addEv Qc fun args d h=>by
 unfold QaP at h
 split at h
 · unfold QbH at h;have h1:=congrArg Prod.fst (Option.some.inj h);obtain rfl:_=d:=congrArg Prod.snd (Option.some.inj h);exact ⟨by simp [D.refs],20,Qfm _ _ _ _ h1⟩
 · cases h
def QbJ (c:Int) (w:Int) (d:Int) (k:Int):Option (Bool × D RC):=some (true,.int .i64 (bif Zv c w d k then 0 else 2))
def QaQ:List (D RC)->Option (Bool × D RC)
 | [.acons (.int .i64 c) (.acons (.int .i64 w) (.acons (.int .i64 d) (.acons (.int .i64 k) .anil)))]=>QbJ c w d k
 | _=>none
noncomputable def QbK (c:Int) (w:Int) (d:Int) (k:Int):=evF s28 Qq5 20 28 [.acons (.int .i64 c) (.acons (.int .i64 w) (.acons (.int .i64 d) (.acons (.int .i64 k) .anil)))]
theorem Qfn (c:Int) (w:Int) (d:Int) (k:Int):QbK c w d k=(let Z0:DO_:=some (D.int .i64 2);bif decide (c < (1:Int)) then Z0 else bif decide ((4:Int) < c) then Z0 else bif decide (w < (2:Int)) then Z0 else bif decide ((8:Int) < w) then Z0 else bif decide (d < (1:Int)) then Z0 else bif decide ((4:Int) < d) then Z0 else bif decide (k < (4:Int)) then Z0 else bif decide ((40:Int) < k) then Z0 else some (D.int .i64 0)):=by kernel_rfl
theorem Qfo (c:Int) (w:Int) (d:Int) (k:Int) (h:(true)=true):QbK c w d k=some (.int .i64 (bif Zv c w d k then 0 else 2)):=by
 (rw [Qfn];conv=>zeta)
 unfold Zv Qf
 iterate 8
  refine ZN (fun h0=>?_) fun h0=>?_ <;> simp only [decide_eq_true_eq,decide_eq_false_iff_not] at h0
  · first
     | rw [decide_eq_false (p:=1 <= c) (by omega)];simp;done
     | rw [decide_eq_false (p:=c <= 4) (by omega)];simp;done
     | rw [decide_eq_false (p:=2 <= w) (by omega)];simp;done
     | rw [decide_eq_false (p:=w <= 8) (by omega)];simp;done
     | rw [decide_eq_false (p:=1 <= d) (by omega)];simp;done
     | rw [decide_eq_false (p:=d <= 4) (by omega)];simp;done
     | rw [decide_eq_false (p:=4 <= k) (by omega)];simp;done
     | rw [decide_eq_false (p:=k <= 40) (by omega)];simp;done
 rw [decide_eq_true (p:=1 <= c) (by omega),decide_eq_true (p:=c <= 4) (by omega),decide_eq_true (p:=2 <= w) (by omega),decide_eq_true (p:=w <= 8) (by omega),decide_eq_true (p:=1 <= d) (by omega),decide_eq_true (p:=d <= 4) (by omega),decide_eq_true (p:=4 <= k) (by omega),decide_eq_true (p:=k <= 40) (by omega)];rfl
noncomputable def Qq6:=Qq5.addSpec 28 QaQ
theorem Qiv:Qh Tryz.prog s28 Qq6:=Qiu.addEv Qc fun args d h=>by
 unfold QaQ at h
 split at h
 · unfold QbJ at h;have h1:=congrArg Prod.fst (Option.some.inj h);obtain rfl:_=d:=congrArg Prod.snd (Option.some.inj h);exact ⟨by simp [D.refs],20,Qfo _ _ _ _ h1⟩
 · cases h
def QpE (c:Int) (w:Int) (d:Int) (k:Int) (i:Int) (b:Bool):Option (Bool × D RC):=some (true,.tup (.acons (.int .i64 (lOwn c w d k i b).1) (.acons (.int .i64 (lOwn c w d k i b).2) .anil)))
def Qlw:List (D RC)->Option (Bool × D RC)
 | [.acons (.int .i64 c) (.acons (.int .i64 w) (.acons (.int .i64 d) (.acons (.int .i64 k) .anil))),.int .i64 i,.bool b]=>QpE c w d k i b
 | _=>none
noncomputable def QpF (c:Int) (w:Int) (d:Int) (k:Int) (i:Int) (b:Bool):=evF s28 Qq6 20 170 [.acons (.int .i64 c) (.acons (.int .i64 w) (.acons (.int .i64 d) (.acons (.int .i64 k) .anil))),.int .i64 i,.bool b]
theorem Qq7 (c:Int) (w:Int) (d:Int) (k:Int) (i:Int) (b:Bool):QpF c w d k i b=(let Z0:D RC:=D.int .i64 0;let Z1:DO_:=some (D.tup (D.acons Z0 (D.acons Z0 .anil)));bif (bif Zv c w d k then (0:Int) else (2:Int)) != (0:Int) then Z1 else bif !Qf i (0:Int) (IntKind.wrap .i64 (c - (1:Int))) then Z1 else bif b then some (D.tup (D.acons (D.int .i64 (IntKind.wrap .i64 (i * k))) (.acons (D.int .i64 k) .anil))) else some (D.tup (D.acons (D.int .i64 (IntKind.wrap .i64 (i * d))) (.acons (D.int .i64 d) .anil)))):=by kernel_rfl
theorem Qq8 (c:Int) (w:Int) (d:Int) (k:Int) (i:Int) (b:Bool) (h:(true)=true):QpF c w d k i b=some (.tup (.acons (.int .i64 (lOwn c w d k i b).1) (.acons (.int .i64 (lOwn c w d k i b).2) .anil))):=by
 (rw [Qq7];conv=>zeta)
 unfold lOwn;cases hk:Zv c w d k
 · simp;done
 · have hb:=Qgx hk;simp only [wrap_id (n:=c - 1) (by omega) (by omega),cond_true,bne_self_eq_false,cond_false]
   cases h0:Qf i 0 (c - 1)
   · have:=Yq h0;rw [if_neg (by omega)];rfl
   rw [QA] at h0;simp only [Bool.not_true,cond_false]
   have hmul:∀ x:Int,1 <= x->x <= 40->IntKind.i64.wrap (i * x)=i * x:=fun x h1 h2=>by
    have hi:i=0 \/ i=1 \/ i=2 \/ i=3:=by omega
    rcases hi with rfl | rfl | rfl | rfl <;> exact wrap_id (by omega) (by omega)
   rw [if_pos ⟨trivial,by omega,by omega⟩,hmul k (by omega) (by omega),hmul d (by omega) (by omega)]
   cases b <;> rfl
noncomputable def Qq9:=Qq6.addSpec 170 Qlw
theorem Qiw:Qh Tryz.prog s28 Qq9:=Qiv.addEv Qc fun args d h=>by
 unfold Qlw at h
 split at h
 · unfold QpE at h;have h1:=congrArg Prod.fst (Option.some.inj h);obtain rfl:_=d:=congrArg Prod.snd (Option.some.inj h);exact ⟨by simp [D.refs],20,Qq8 _ _ _ _ _ _ h1⟩
 · cases h
def QpG (c:Int) (w:Int) (d:Int) (k:Int) (i:Int) (b:Bool):Option (Bool × D RC):=some (true,.tup (.acons (.int .i64 (lOwn c w d k i b).1) (.acons (.int .i64 (lOwn c w d k i b).2) .anil)))
def Qlx:List (D RC)->Option (Bool × D RC)
 | [.acons (.int .i64 c) (.acons (.int .i64 w) (.acons (.int .i64 d) (.acons (.int .i64 k) .anil))),.int .i64 i,.bool b]=>QpG c w d k i b
 | _=>none
noncomputable def QpH (c:Int) (w:Int) (d:Int) (k:Int) (i:Int) (b:Bool):=evF s28 Qq9 20 64 [.acons (.int .i64 c) (.acons (.int .i64 w) (.acons (.int .i64 d) (.acons (.int .i64 k) .anil))),.int .i64 i,.bool b]
theorem Qra (c:Int) (w:Int) (d:Int) (k:Int) (i:Int) (b:Bool):QpH c w d k i b=(let Z0:D RC:=D.int .i64 0;let Z1:DO_:=some (D.tup (D.acons Z0 (D.acons Z0 .anil)));bif (bif Zv c w d k then (0:Int) else (2:Int)) != (0:Int) then Z1 else bif decide (i < (0:Int)) then Z1 else bif decide (c <= i) then Z1 else bif b then some (D.tup (D.acons (D.int .i64 (IntKind.wrap .i64 (i * k))) (.acons (D.int .i64 k) .anil))) else some (D.tup (D.acons (D.int .i64 (IntKind.wrap .i64 (i * d))) (.acons (D.int .i64 d) .anil)))):=by kernel_rfl
theorem Qrb (c:Int) (w:Int) (d:Int) (k:Int) (i:Int) (b:Bool) (h:(true)=true):QpH c w d k i b=some (.tup (.acons (.int .i64 (lOwn c w d k i b).1) (.acons (.int .i64 (lOwn c w d k i b).2) .anil))):=by
 (rw [Qra];conv=>zeta)
 unfold lOwn;cases hk:Zv c w d k
 · simp;done
 · have hb:=Qgx hk;simp only [cond_true,bne_self_eq_false,cond_false];refine ZN (fun h0=>?_) fun h0=>?_ <;> simp only [decide_eq_true_eq,decide_eq_false_iff_not] at h0
   · rw [if_neg (by omega)]
   refine ZN (fun h0=>?_) fun h0=>?_ <;> simp only [decide_eq_true_eq,decide_eq_false_iff_not] at h0
   · rw [if_neg (by omega)]
   have hmul:∀ x:Int,1 <= x->x <= 40->IntKind.i64.wrap (i * x)=i * x:=fun x h1 h2=>by
    have hi:i=0 \/ i=1 \/ i=2 \/ i=3:=by omega
    rcases hi with rfl | rfl | rfl | rfl <;> exact wrap_id (by omega) (by omega)
   rw [if_pos ⟨trivial,by omega,by omega⟩,hmul k (by omega) (by omega),hmul d (by omega) (by omega)]
   cases b <;> rfl
noncomputable def Qrc:=Qq9.addSpec 64 Qlx
theorem Qix:Qh Tryz.prog s28 Qrc:=Qiw.addEv Qc fun args d h=>by
 unfold Qlx at h
 split at h
 · unfold QpG at h;have h1:=congrArg Prod.fst (Option.some.inj h);obtain rfl:_=d:=congrArg Prod.snd (Option.some.inj h);exact ⟨by simp [D.refs],20,Qrb _ _ _ _ _ _ h1⟩
 · cases h
def QaR (w:Int):Int:=if 0 <= w /\ w <= 1099510841343 then w else 0
def plc (w:Int):Int:=QaR w / 1048576
def bare (w:Int):Int:=QaR w % 1048576
def Jq (p h:Int):Prop:=0 <= p /\ p <= 1048575 /\ (256 <= h /\ h <= 262143 \/ h=0 /\ p=0)
instance instOkWord (p h:Int):Decidable (Jq p h):=by unfold Jq;infer_instance
def wordN (p h:Int):Int:=if Jq p h then p * 1048576+h else 0
def QdU (p h:Int):Int:=if Jq p h then 0 else 2
theorem QdV (w:Int):0 <= QaR w /\ QaR w <= 1099510841343:=by unfold QaR;split <;> omega
theorem Yb {w:Int} (h:¬ (0 <= w /\ w <= 1099510841343)):QaR w=0:=if_neg h
theorem VT {w:Int} (h:0 <= w /\ w <= 1099510841343):QaR w=w:=if_pos h
theorem QpI {w:Int} (h:0 <= w):w.fdiv 1048576=w / 1048576:=Int.fdiv_eq_ediv_of_nonneg _ (by decide)
theorem QsD {n:Int} (h:0 <= n /\ n < 1099511627776):bits .i64 (fun _ u v=>u &&& v) n 1099511627775=n:=by
 unfold bits;rw [BitVec.toNat_and,Yp,Yp];have e:((1099511627775:Int) % 18446744073709551616).toNat=2 ^ 40 - 1:=by decide
 rw [e,Nat.and_two_pow_sub_one_eq_mod,wrap_id (by omega) (by omega)]
 omega
theorem Qr5 (n:Int):bits .i64 (fun _ u v=>u &&& v) n 1048575=n % 1048576:=by
 unfold bits;rw [BitVec.toNat_and,Yp,Yp];have e:((1048575:Int) % 18446744073709551616).toNat=2 ^ 20 - 1:=by decide
 rw [e,Nat.and_two_pow_sub_one_eq_mod,wrap_id (by omega) (by omega)]
 omega
theorem or20 {p h:Int} (hp:0 <= p /\ p <= 1048575) (hh:0 <= h /\ h < 1048576):bits .i64 (fun _ u v=>u ||| v) (p * 1048576) h=p * 1048576+h:=by
 obtain ⟨p,rfl⟩:∃ n:Nat,p=n:=⟨p.toNat,by omega⟩
 obtain ⟨h,rfl⟩:∃ n:Nat,h=n:=⟨h.toNat,by omega⟩
 unfold bits;have e:(p:Int) * 1048576=((p * 1048576:Nat):Int):=by simp
 rw [e]
 have h1:∀ x:Nat,x < 2 ^ 64->(BitVec.ofInt IntKind.i64.bits (x:Int)).toNat=x:=by
  intro x hx;rw [BitVec.toNat_ofInt];simp only [IntKind.bits];omega
 rw [BitVec.toNat_or,h1 _ (by omega),h1 _ (by omega)]
 have h2:p * 1048576 ||| h=p * 1048576+h:=by
  rw [Nat.mul_comm p 1048576,show (1048576:Nat)=2 ^ 20 from rfl,<- Nat.two_pow_add_eq_or_of_lt (by omega)]
 rw [h2,wrap_id (by omega) (by omega)]
 simp
theorem QdW {C:Cdc} {p h:Int} (hw:Jq p h):(D.tup (.acons (.int .i64 (p * 1048576+h)) (.acons (.int .i64 0) .anil)):D C)=.tup (.acons (.int .i64 (wordN p h)) (.acons (.int .i64 (QdU p h)) .anil)):=by
 rw [wordN,QdU,if_pos hw,if_pos hw]
theorem QdX {C:Cdc} {p h:Int} (hw:¬ Jq p h):(D.tup (.acons (.int .i64 0) (.acons (.int .i64 2) .anil)):D C)=.tup (.acons (.int .i64 (wordN p h)) (.acons (.int .i64 (QdU p h)) .anil)):=by
 rw [wordN,QdU,if_neg hw,if_neg hw]
def QpJ (k a b v g:Int) (tl al:Nat):Prop :=
 -1 <= b /\ b <= 1152921504606846976 /\ -1 <= v /\ v <= 1152921504606846976 /\ -1 <= g /\ g <= 1152921504606846976 /\ al <= 96 /\ tl <= 640 /\ 0 <= a /\ a <= 4095 /\
 (k=0 /\ b=0 /\ v=0 /\ tl=0 /\ al=0 \/ k=2 /\ tl=0 /\ al=0 \/ k=7 /\ a=0 /\ b=0 /\ v=0 /\ g=0 /\ tl=0)
instance instMayAct (k a b v g:Int) (tl al:Nat):Decidable (QpJ k a b v g tl al):=by unfold QpJ;infer_instance
structure GoR where
 st:List Frame
 got:List Int
 over:Bool
 kind:Int
 a:Int
 b:Int
 v:Int
 is:Bool
def gLoad (r got:List Int) (n cell:Int):GoR:=⟨[⟨68,n,r⟩],got,false,0,cell,0,0,true⟩
def gCas (r got:List Int) (n cell b v:Int):GoR:=⟨[⟨68,n,r⟩],got,false,2,cell,b,v,true⟩
def gEnd (l:List Int):GoR:=⟨[],l,true,0,0,0,0,false⟩
def goF (k:Int) (r got:List Int) (x:Int):GoR :=
 if k=0 \/ k=5 then gLoad r got 1 1
 else if k=1 then gLoad (r.set 2 x) got 2 0
 else if k=2 then (if x+r.getD 0 0 < r.getD 2 0 then gEnd [170] else if 1048575 < r.getD 2 0 then gEnd [172] else gLoad r got 3 4)
 else if k=3 then (if x < r.getD 2 0 - 32 then gEnd [171] else gLoad r got 4 (lRing (r.getD 2 0) (r.getD 0 0)))
 else if k=4 then (if plc x=r.getD 2 0 then gCas (r.set 3 x) got 5 1 (r.getD 2 0) (r.getD 2 0+1) else if r.getD 2 0 < plc x then gLoad (r.set 3 x) got 1 1
  else gCas (r.set 3 x) got 6 (lRing (r.getD 2 0) (r.getD 0 0)) x (wordN (r.getD 2 0) (r.getD 1 0)))
 else if k=6 then (if x=0 then gLoad r got 1 1 else gCas r got 7 1 (r.getD 2 0) (r.getD 2 0+1))
 else gEnd [0,r.getD 2 0]
def goR (st:List Frame) (got:List Int):GoR:=match st with
 | [f]=>goF f.at' f.r got (got.headD 0)
 | _=>gEnd []
def OkF (k:Int) (r:List Int) (x:Int):Prop:=1 <= k /\ k <= 7 /\ 0 <= x /\ x <= 1152921504606846976 /\ 2 <= r.getD 0 0 /\ r.getD 0 0 <= 8 /\ 0 <= r.getD 2 0 /\ r.getD 2 0 <= 1099511627776
instance instOkF (k:Int) (r:List Int) (x:Int):Decidable (OkF k r x):=by unfold OkF;infer_instance
def okFr (k:Int) (r got:List Int):Bool:=match got with
 | []=>decide (k=0)
 | [x]=>decide (OkF k r x)
 | _=>false
def okG (c:Int) (st:List Frame) (got:List Int):Bool:=match st with
 | [f]=>decide (0 <= c /\ c <= 3 /\ f.prog=68 /\ f.r.length=96) && okFr f.at' f.r got
 | _=>false
theorem Qq {l:List Int} {i j:Nat} {x d:Int} (h:i ≠ j):(l.set i x).getD j d=l.getD j d:=by
 simp [List.getD_eq_getElem?_getD,List.getElem?_set_ne h]
def Qrd (n:Int):Bool:=decide (-1152921504606846976 <= n) && decide (n <= 1152921504606846976)
def cellsOK (l:List Int):Bool:=decide (l.length <= 1024) && l.all Qrd
def OkDo (l:List Int) (k a b v:Int):Prop:=(k=0 /\ b=0 /\ v=0 \/ k=2) /\ 0 <= a /\ a < l.length /\ -1152921504606846976 <= b /\ b <= 1152921504606846976 /\ -1152921504606846976 <= v /\ v <= 1152921504606846976
instance instOkDo (l:List Int) (k a b v:Int):Decidable (OkDo l k a b v):=by unfold OkDo;infer_instance
def doG (l:List Int) (k a b:Int):Int:=if k=0 then l.getD a.toNat 0 else if l.getD a.toNat 0=b then 1 else 0
def stG (t:Task):GoR:=goR t.stack t.got
def stX (cs:List Int) (t:Task):Int:=doG cs (stG t).kind (stG t).a (stG t).b
def QpK (cs:List Int) (t:Task) (now sure:List Qa):Prop :=
 okG t.client t.stack t.got=true /\ t.over=false /\ (stG t).is=true /\ OkDo cs (stG t).kind (stG t).a (stG t).b (stG t).v /\ cellsOK cs=true /\ Vs now sure=true /\ QH now=true /\ QH sure=true /\ okG t.client (stG t).st [stX cs t]=true
instance instOkStep (cs:List Int) (t:Task) (now sure:List Qa):Decidable (QpK cs t now sure):=by unfold QpK;infer_instance
def hnd (c n:Int):Int:=(n % 1000+1) * 256+c
structure GS where
 cs:List Int
 ts:List Task
 busy:List Bool
 n:Int
 has:List Int
 told:List Int
def wd (p:Int) (hs:List Int):Int:=if p <= 0 then 0 else p * 1048576+hs.getD (p - 1).toNat 0
structure RW (w:Int) (cs hs:List Int):Prop where
 w0:2 <= w
 w1:w <= 8
 lc:cs.length=771
 fit:∀ i,-1152921504606846976 <= cs.getD i 0 /\ cs.getD i 0 <= 1152921504606846976
 q0:0 <= cs.getD 4 0
 qf:cs.getD 4 0 <= cs.getD 0 0
 fT:cs.getD 0 0 <= hs.length
 Tf:(hs.length:Int) <= cs.getD 0 0+w
 Tt:(hs.length:Int) <= cs.getD 1 0
 tT:cs.getD 1 0 <= hs.length+1
 t1:1 <= cs.getD 1 0
 hv:∀ d ∈ hs,256 <= d /\ d <= 262143
 Tk:(hs.length:Int) <= 100000
 TL:(hs.length:Int) - 32 <= cs.getD 4 0
 ring:∀ p:Int,hs.length - w < p->p <= hs.length->cs.getD (13+p % w).toNat 0=wd p hs
theorem Qre {l:List Int} {i:Nat} {d:Int} (h:i < l.length):l.getD i d=l[i]:=by
 rw [List.getD_eq_getElem?_getD,List.getElem?_eq_getElem h];rfl
theorem QC {l:List Int} {i:Nat} {x d:Int} (h:i < l.length):(l.set i x).getD i d=x:=by
 rw [List.getD_eq_getElem?_getD,List.getElem?_set_self h];rfl
theorem Qan (l:List Int) (i j:Nat) (x d:Int) (h:i < l.length):(l.set i x).getD j d=if i=j then x else l.getD j d:=by
 by_cases e:i=j
 · subst e;rw [if_pos rfl];exact QC h
 · rw [if_neg e];exact Qq e
theorem QsE {p:Int} {hs:List Int} (hv:∀ d ∈ hs,256 <= d /\ d <= 262143) (h1:1 <= p) (h2:p <= hs.length) (h3:(hs.length:Int) <= 100000) :
 wd p hs=p * 1048576+hs.getD (p - 1).toNat 0 /\ 256 <= hs.getD (p - 1).toNat 0 /\ hs.getD (p - 1).toNat 0 <= 262143:=by
 have hlt:(p - 1).toNat < hs.length:=by omega
 have e:hs.getD (p - 1).toNat 0=hs[(p - 1).toNat]:=Qre hlt;refine ⟨by rw [wd,if_neg (by omega)],?_⟩
 rw [e];exact hv _ (List.getElem_mem hlt)
theorem QoD {p d:Int} (h1:0 <= p) (h2:p <= 1048575) (h3:0 <= d) (h4:d <= 262143):plc (p * 1048576+d)=p /\ bare (p * 1048576+d)=d:=by
 unfold plc bare;rw [VT (by omega)]
 omega
theorem Qr6 {p:Int} {hs:List Int} (hv:∀ d ∈ hs,256 <= d /\ d <= 262143) (h2:p <= hs.length) (h3:(hs.length:Int) <= 100000) (h1:0 <= p):plc (wd p hs)=p /\ 0 <= wd p hs /\ wd p hs <= 1099510841343:=by
 by_cases h:1 <= p
 · obtain ⟨e,a,b⟩:=QsE hv h h2 h3;rw [e];exact ⟨(QoD (by omega) (by omega) (by omega) (by omega)).1,by omega,by omega⟩
 · have:p=0:=by omega
   subst this;rw [wd,if_pos (by decide)]
   exact ⟨by decide,by decide,by decide⟩
theorem Qr7 {p:Int} {hs:List Int} (h:p <= 0):wd p hs=0:=by rw [wd,if_pos h]
theorem Qly {w T p:Int} (hw:0 < w):T - w < T - (T - p) % w /\ T - (T - p) % w <= T /\ (T - (T - p) % w) % w=p % w:=by
 have h1:0 <= (T - p) % w:=Int.emod_nonneg _ (by omega)
 have h2:(T - p) % w < w:=Int.emod_lt_of_pos _ hw;refine ⟨by omega,by omega,?_⟩
 have e:T - (T - p) % w=p+w * ((T - p) / w):=by
  have:=Int.mul_ediv_add_emod (T - p) w;omega
 rw [e,Int.add_mul_emod_self_left]
theorem RW.read {w:Int} {cs hs:List Int} (h:RW w cs hs) (p:Int):∃ p',hs.length - w < p' /\ p' <= hs.length /\ p' % w=p % w /\ cs.getD (13+p % w).toNat 0=wd p' hs:=by
 have hw:=h.w0;obtain ⟨a,b,c⟩:=Qly (w:=w) (T:=hs.length) (p:=p) (by omega)
 exact ⟨_,a,b,c,by rw [<- c];exact h.ring _ a b⟩
theorem RW.read_le {w:Int} {cs hs:List Int} (h:RW w cs hs) (p:Int):0 <= cs.getD (13+p % w).toNat 0 /\ cs.getD (13+p % w).toNat 0 <= 1099510841343 /\ plc (cs.getD (13+p % w).toNat 0) <= hs.length:=by
 obtain ⟨p',a,b,c,e⟩:=h.read p;rw [e]
 by_cases h0:0 <= p'
 · obtain ⟨x,y,z⟩:=Qr6 h.hv b h.Tk h0;exact ⟨y,z,by rw [x];exact b⟩
 · rw [Qr7 (by omega)]
   refine ⟨by decide,by decide,?_⟩
   have:plc 0=0:=by decide
   omega
theorem RW.cell {w:Int} {cs hs:List Int} (h:RW w cs hs) (p:Int):(13+p % w).toNat < 21 /\ 13 <= (13+p % w).toNat /\ ((13+p % w).toNat:Int)=13+p % w:=by
 have hw:=h.w0;have hw1:=h.w1;have:=Qk2 (p:=p) (w:=w) (by omega)
 omega
theorem RW.set_low {w:Int} {cs hs:List Int} (h:RW w cs hs) {i:Nat} {v:Int} (hi:i=0 \/ i=4) (hv:-1152921504606846976 <= v /\ v <= 1152921504606846976)
 (hq:0 <= (cs.set i v).getD 4 0 /\ (cs.set i v).getD 4 0 <= (cs.set i v).getD 0 0 /\ (cs.set i v).getD 0 0 <= hs.length /\ (hs.length:Int) <= (cs.set i v).getD 0 0+w) (hL:cs.getD 4 0 <= (cs.set i v).getD 4 0):RW w (cs.set i v) hs:=by
 have hl:=h.lc;have g:∀ j,(cs.set i v).getD j 0=if i=j then v else cs.getD j 0:=fun j=>Qan cs i j _ _ (by omega)
 refine ⟨h.w0,h.w1,by simpa using hl,fun j=>?_,hq.1,hq.2.1,hq.2.2.1,hq.2.2.2,?_,?_,?_,h.hv,h.Tk,Int.le_trans h.TL hL,fun p a b=>?_⟩
 · rw [g]
   split
   · exact hv
   · exact h.fit j
 · rw [g,if_neg (by omega)];exact h.Tt
 · rw [g,if_neg (by omega)];exact h.tT
 · rw [g,if_neg (by omega)];exact h.t1
 · have hc:=h.cell p;rw [g,if_neg (by omega)]
   exact h.ring p a b
theorem Qlz {p w:Int} (h0:0 <= p) (h1:2 <= w) (h2:w <= 8):lRing p w=13+p % w:=by rw [lRing,if_pos ⟨h0,h1,h2⟩]
theorem RW.done {w:Int} {cs hs:List Int} (h:RW w cs hs) (hp:plc (cs.getD (lRing (cs.getD 0 0+1) w).toNat 0)=cs.getD 0 0+1):RW w (cs.set 0 (cs.getD 0 0+1)) hs:=by
 have hl:=h.lc;have hq0:=h.q0;have hqf:=h.qf;have hfT:=h.fT;have hTk:=h.Tk;have hTf:=h.Tf;have g0:(cs.set 0 (cs.getD 0 0+1)).getD 0 0=cs.getD 0 0+1:=QC (by omega)
 have g4:(cs.set 0 (cs.getD 0 0+1)).getD 4 0=cs.getD 4 0:=Qq (by decide)
 rw [Qlz (by omega) h.w0 h.w1] at hp
 have:=(h.read_le (cs.getD 0 0+1)).2.2;rw [hp] at this;exact h.set_low (.inl rfl) (by omega) (by rw [g0,g4];omega) (by rw [g4];omega)
theorem RW.cellsOK {w:Int} {cs hs:List Int} (h:RW w cs hs):cellsOK cs=true:=by
 simp only [Go.Ev.cellsOK,Bool.and_eq_true,decide_eq_true_eq];refine ⟨by rw [h.lc];decide,List.all_eq_true.2 fun x hx=>?_⟩
 obtain ⟨i,hi,rfl⟩:=List.getElem_of_mem hx;have:=h.fit i;have e:cs.getD i 0=cs[i]:=by simp [hi]
 rw [e] at this;simp only [Qrd,Bool.and_eq_true,decide_eq_true_eq];exact this
def MayA (k a b v g:Int) (tl al:Nat):Prop :=
 -1 <= b /\ b <= 1152921504606846976 /\ -1 <= v /\ v <= 1152921504606846976 /\ -1 <= g /\ g <= 1152921504606846976 /\ al <= 96 /\ tl <= 640 /\ 0 <= a /\ a <= 4095 /\
 (k=0 /\ b=0 /\ v=0 /\ tl=0 /\ al=0 \/ k=1 /\ b=0 /\ tl=0 /\ al=0 \/ k=2 /\ tl=0 /\ al=0 \/ k=3 /\ b=0 /\ g=0 /\ tl=0 /\ al=0 \/ k=4 /\ v=0 /\ g=0 /\ al=0 \/
  k=5 /\ a=0 /\ b=0 /\ v=0 /\ g=0 /\ tl=0 /\ al=0 \/ k=6 /\ a <= 127 /\ b=0 /\ v=0 /\ g=0 /\ tl=0 \/ k=7 /\ a=0 /\ b=0 /\ v=0 /\ g=0 /\ tl=0)
instance instMayA (k a b v g:Int) (tl al:Nat):Decidable (MayA k a b v g tl al):=by unfold MayA;infer_instance
theorem MayA.k0 {a b v g:Int} {tl al:Nat}:MayA 0 a b v g tl al ↔ (-1 <= b /\ b <= 1152921504606846976 /\ -1 <= v /\ v <= 1152921504606846976 /\ -1 <= g /\ g <= 1152921504606846976 /\ al <= 96 /\ tl <= 640 /\ 0 <= a /\ a <= 4095) /\ b=0 /\ v=0 /\ tl=0 /\ al=0:=by
 unfold MayA;refine ⟨fun ⟨q1,q2,q3,q4,q5,q6,q7,q8,q9,q10,h⟩=>⟨⟨q1,q2,q3,q4,q5,q6,q7,q8,q9,q10⟩,?_⟩,fun ⟨⟨q1,q2,q3,q4,q5,q6,q7,q8,q9,q10⟩,h⟩=>⟨q1,q2,q3,q4,q5,q6,q7,q8,q9,q10,.inl ⟨rfl,h⟩⟩⟩;rcases h with ⟨e,h⟩ | ⟨e,h⟩ | ⟨e,h⟩ | ⟨e,h⟩ | ⟨e,h⟩ | ⟨e,h⟩ | ⟨e,h⟩ | ⟨e,h⟩
 · exact h
 · exact absurd e (by decide)
 · exact absurd e (by decide)
 · exact absurd e (by decide)
 · exact absurd e (by decide)
 · exact absurd e (by decide)
 · exact absurd e (by decide)
 · exact absurd e (by decide)
theorem MayA.k1 {a b v g:Int} {tl al:Nat}:MayA 1 a b v g tl al ↔ (-1 <= b /\ b <= 1152921504606846976 /\ -1 <= v /\ v <= 1152921504606846976 /\ -1 <= g /\ g <= 1152921504606846976 /\ al <= 96 /\ tl <= 640 /\ 0 <= a /\ a <= 4095) /\ b=0 /\ tl=0 /\ al=0:=by
 unfold MayA;refine ⟨fun ⟨q1,q2,q3,q4,q5,q6,q7,q8,q9,q10,h⟩=>⟨⟨q1,q2,q3,q4,q5,q6,q7,q8,q9,q10⟩,?_⟩,fun ⟨⟨q1,q2,q3,q4,q5,q6,q7,q8,q9,q10⟩,h⟩=>⟨q1,q2,q3,q4,q5,q6,q7,q8,q9,q10,.inr (.inl ⟨rfl,h⟩)⟩⟩;rcases h with ⟨e,h⟩ | ⟨e,h⟩ | ⟨e,h⟩ | ⟨e,h⟩ | ⟨e,h⟩ | ⟨e,h⟩ | ⟨e,h⟩ | ⟨e,h⟩
 · exact absurd e (by decide)
 · exact h
 · exact absurd e (by decide)
 · exact absurd e (by decide)
 · exact absurd e (by decide)
 · exact absurd e (by decide)
 · exact absurd e (by decide)
 · exact absurd e (by decide)
theorem MayA.k2 {a b v g:Int} {tl al:Nat}:MayA 2 a b v g tl al ↔ (-1 <= b /\ b <= 1152921504606846976 /\ -1 <= v /\ v <= 1152921504606846976 /\ -1 <= g /\ g <= 1152921504606846976 /\ al <= 96 /\ tl <= 640 /\ 0 <= a /\ a <= 4095) /\ tl=0 /\ al=0:=by
 unfold MayA;refine ⟨fun ⟨q1,q2,q3,q4,q5,q6,q7,q8,q9,q10,h⟩=>⟨⟨q1,q2,q3,q4,q5,q6,q7,q8,q9,q10⟩,?_⟩,fun ⟨⟨q1,q2,q3,q4,q5,q6,q7,q8,q9,q10⟩,h⟩=>⟨q1,q2,q3,q4,q5,q6,q7,q8,q9,q10,.inr (.inr (.inl ⟨rfl,h⟩))⟩⟩;rcases h with ⟨e,h⟩ | ⟨e,h⟩ | ⟨e,h⟩ | ⟨e,h⟩ | ⟨e,h⟩ | ⟨e,h⟩ | ⟨e,h⟩ | ⟨e,h⟩
 · exact absurd e (by decide)
 · exact absurd e (by decide)
 · exact h
 · exact absurd e (by decide)
 · exact absurd e (by decide)
 · exact absurd e (by decide)
 · exact absurd e (by decide)
 · exact absurd e (by decide)
theorem MayA.k3 {a b v g:Int} {tl al:Nat}:MayA 3 a b v g tl al ↔ (-1 <= b /\ b <= 1152921504606846976 /\ -1 <= v /\ v <= 1152921504606846976 /\ -1 <= g /\ g <= 1152921504606846976 /\ al <= 96 /\ tl <= 640 /\ 0 <= a /\ a <= 4095) /\ b=0 /\ g=0 /\ tl=0 /\ al=0:=by
 unfold MayA;refine ⟨fun ⟨q1,q2,q3,q4,q5,q6,q7,q8,q9,q10,h⟩=>⟨⟨q1,q2,q3,q4,q5,q6,q7,q8,q9,q10⟩,?_⟩,fun ⟨⟨q1,q2,q3,q4,q5,q6,q7,q8,q9,q10⟩,h⟩=>⟨q1,q2,q3,q4,q5,q6,q7,q8,q9,q10,.inr (.inr (.inr (.inl ⟨rfl,h⟩)))⟩⟩;rcases h with ⟨e,h⟩ | ⟨e,h⟩ | ⟨e,h⟩ | ⟨e,h⟩ | ⟨e,h⟩ | ⟨e,h⟩ | ⟨e,h⟩ | ⟨e,h⟩
 · exact absurd e (by decide)
 · exact absurd e (by decide)
 · exact absurd e (by decide)
 · exact h
 · exact absurd e (by decide)
 · exact absurd e (by decide)
 · exact absurd e (by decide)
 · exact absurd e (by decide)
theorem MayA.k4 {a b v g:Int} {tl al:Nat}:MayA 4 a b v g tl al ↔ (-1 <= b /\ b <= 1152921504606846976 /\ -1 <= v /\ v <= 1152921504606846976 /\ -1 <= g /\ g <= 1152921504606846976 /\ al <= 96 /\ tl <= 640 /\ 0 <= a /\ a <= 4095) /\ v=0 /\ g=0 /\ al=0:=by
 unfold MayA;refine ⟨fun ⟨q1,q2,q3,q4,q5,q6,q7,q8,q9,q10,h⟩=>⟨⟨q1,q2,q3,q4,q5,q6,q7,q8,q9,q10⟩,?_⟩,fun ⟨⟨q1,q2,q3,q4,q5,q6,q7,q8,q9,q10⟩,h⟩=>⟨q1,q2,q3,q4,q5,q6,q7,q8,q9,q10,.inr (.inr (.inr (.inr (.inl ⟨rfl,h⟩))))⟩⟩;rcases h with ⟨e,h⟩ | ⟨e,h⟩ | ⟨e,h⟩ | ⟨e,h⟩ | ⟨e,h⟩ | ⟨e,h⟩ | ⟨e,h⟩ | ⟨e,h⟩
 · exact absurd e (by decide)
 · exact absurd e (by decide)
 · exact absurd e (by decide)
 · exact absurd e (by decide)
 · exact h
 · exact absurd e (by decide)
 · exact absurd e (by decide)
 · exact absurd e (by decide)
theorem MayA.k5 {a b v g:Int} {tl al:Nat}:MayA 5 a b v g tl al ↔ (-1 <= b /\ b <= 1152921504606846976 /\ -1 <= v /\ v <= 1152921504606846976 /\ -1 <= g /\ g <= 1152921504606846976 /\ al <= 96 /\ tl <= 640 /\ 0 <= a /\ a <= 4095) /\ a=0 /\ b=0 /\ v=0 /\ g=0 /\ tl=0 /\ al=0:=by
 unfold MayA;refine ⟨fun ⟨q1,q2,q3,q4,q5,q6,q7,q8,q9,q10,h⟩=>⟨⟨q1,q2,q3,q4,q5,q6,q7,q8,q9,q10⟩,?_⟩,fun ⟨⟨q1,q2,q3,q4,q5,q6,q7,q8,q9,q10⟩,h⟩=>⟨q1,q2,q3,q4,q5,q6,q7,q8,q9,q10,.inr (.inr (.inr (.inr (.inr (.inl ⟨rfl,h⟩)))))⟩⟩;rcases h with ⟨e,h⟩ | ⟨e,h⟩ | ⟨e,h⟩ | ⟨e,h⟩ | ⟨e,h⟩ | ⟨e,h⟩ | ⟨e,h⟩ | ⟨e,h⟩
 · exact absurd e (by decide)
 · exact absurd e (by decide)
 · exact absurd e (by decide)
 · exact absurd e (by decide)
 · exact absurd e (by decide)
 · exact h
 · exact absurd e (by decide)
 · exact absurd e (by decide)
theorem MayA.k6 {a b v g:Int} {tl al:Nat}:MayA 6 a b v g tl al ↔ (-1 <= b /\ b <= 1152921504606846976 /\ -1 <= v /\ v <= 1152921504606846976 /\ -1 <= g /\ g <= 1152921504606846976 /\ al <= 96 /\ tl <= 640 /\ 0 <= a /\ a <= 4095) /\ a <= 127 /\ b=0 /\ v=0 /\ g=0 /\ tl=0:=by
 unfold MayA;refine ⟨fun ⟨q1,q2,q3,q4,q5,q6,q7,q8,q9,q10,h⟩=>⟨⟨q1,q2,q3,q4,q5,q6,q7,q8,q9,q10⟩,?_⟩,fun ⟨⟨q1,q2,q3,q4,q5,q6,q7,q8,q9,q10⟩,h⟩=>⟨q1,q2,q3,q4,q5,q6,q7,q8,q9,q10,.inr (.inr (.inr (.inr (.inr (.inr (.inl ⟨rfl,h⟩))))))⟩⟩;rcases h with ⟨e,h⟩ | ⟨e,h⟩ | ⟨e,h⟩ | ⟨e,h⟩ | ⟨e,h⟩ | ⟨e,h⟩ | ⟨e,h⟩ | ⟨e,h⟩
 · exact absurd e (by decide)
 · exact absurd e (by decide)
 · exact absurd e (by decide)
 · exact absurd e (by decide)
 · exact absurd e (by decide)
 · exact absurd e (by decide)
 · exact h
 · exact absurd e (by decide)
theorem MayA.k7 {a b v g:Int} {tl al:Nat}:MayA 7 a b v g tl al ↔ (-1 <= b /\ b <= 1152921504606846976 /\ -1 <= v /\ v <= 1152921504606846976 /\ -1 <= g /\ g <= 1152921504606846976 /\ al <= 96 /\ tl <= 640 /\ 0 <= a /\ a <= 4095) /\ a=0 /\ b=0 /\ v=0 /\ g=0 /\ tl=0:=by
 unfold MayA;refine ⟨fun ⟨q1,q2,q3,q4,q5,q6,q7,q8,q9,q10,h⟩=>⟨⟨q1,q2,q3,q4,q5,q6,q7,q8,q9,q10⟩,?_⟩,fun ⟨⟨q1,q2,q3,q4,q5,q6,q7,q8,q9,q10⟩,h⟩=>⟨q1,q2,q3,q4,q5,q6,q7,q8,q9,q10,.inr (.inr (.inr (.inr (.inr (.inr (.inr (⟨rfl,h⟩)))))))⟩⟩;rcases h with ⟨e,h⟩ | ⟨e,h⟩ | ⟨e,h⟩ | ⟨e,h⟩ | ⟨e,h⟩ | ⟨e,h⟩ | ⟨e,h⟩ | ⟨e,h⟩
 · exact absurd e (by decide)
 · exact absurd e (by decide)
 · exact absurd e (by decide)
 · exact absurd e (by decide)
 · exact absurd e (by decide)
 · exact absurd e (by decide)
 · exact absurd e (by decide)
 · exact h
def Qfp (l:List Int) (k a b v:Int):Prop:=(k=0 /\ b=0 /\ v=0 \/ k=1 /\ b=0 \/ k=2 \/ k=3 /\ b=0) /\ 0 <= a /\ a < l.length /\ -1152921504606846976 <= b /\ b <= 1152921504606846976 /\ -1152921504606846976 <= v /\ v <= 1152921504606846976
instance instOkDo4 (l:List Int) (k a b v:Int):Decidable (Qfp l k a b v):=by unfold Qfp;infer_instance
def addC (n v:Int):Int:=max (min (n+v) 1152921504606846976) (-1152921504606846976)
def doC4 (l:List Int) (k a b v:Int):List Int:=if k=1 \/ k=2 /\ l.getD a.toNat 0=b then l.set a.toNat v else if k=3 then l.set a.toNat (addC (l.getD a.toNat 0) v) else l
def doG4 (l:List Int) (k a b:Int):Int:=if k=0 \/ k=3 then l.getD a.toNat 0 else if k=2 /\ l.getD a.toNat 0=b then 1 else 0
structure GoR4 where
 st:List Frame
 got:List Int
 over:Bool
 kind:Int
 a:Int
 b:Int
 v:Int
 g:Int
 is:Bool
def g4 (p n:Int) (r got:List Int) (kind a b v g:Int):GoR4:=⟨[⟨p,n,r⟩],got,false,kind,a,b,v,g,true⟩
def QaS (l:List Int):GoR4:=⟨[],l,true,0,0,0,0,0,false⟩
theorem Qcx (x:Nat) (hx:x < 2 ^ 64):(BitVec.ofInt IntKind.i64.bits (x:Int)).toNat=x:=by
 rw [BitVec.toNat_ofInt];simp only [IntKind.bits];omega
theorem Qcy (n:Int) (k:Nat) (h0:0 <= n) (h1:n < 9223372036854775808) (hk:k <= 62) :
 bits .i64 (fun _ u v=>u &&& v) n ((2 ^ k - 1:Nat):Int)=n % ((2 ^ k:Nat):Int):=by
 obtain ⟨m,rfl⟩:=Int.eq_ofNat_of_zero_le h0;have hp:2 ^ k <= 2 ^ 62:=Nat.pow_le_pow_right (by omega) hk
 have hq:0 < 2 ^ k:=Nat.pow_pos (by omega)
 unfold bits;rw [BitVec.toNat_and,Qcx _ (by omega),Qcx _ (by omega),Nat.and_two_pow_sub_one_eq_mod]
 have:=Nat.mod_lt m hq;rw [wrap_id (by omega) (by omega)]
 simp
theorem Qfq (a b:Int) (k:Nat) (ha:0 <= a) (hb:0 <= b) (h1:b < ((2 ^ k:Nat):Int)) (h2:a * ((2 ^ k:Nat):Int)+b < 9223372036854775808) :
 bits .i64 (fun _ u v=>u ||| v) (a * ((2 ^ k:Nat):Int)) b=a * ((2 ^ k:Nat):Int)+b:=by
 obtain ⟨a,rfl⟩:=Int.eq_ofNat_of_zero_le ha;obtain ⟨b,rfl⟩:=Int.eq_ofNat_of_zero_le hb;have e:(a:Int) * ((2 ^ k:Nat):Int)=((a * 2 ^ k:Nat):Int):=by simp
 have h2':a * 2 ^ k+b < 9223372036854775808:=by rw [e] at h2;omega
 have h1':b < 2 ^ k:=by omega
 unfold bits;rw [e,BitVec.toNat_or,Qcx _ (by omega),Qcx _ (by omega)]
 have h3:a * 2 ^ k ||| b=a * 2 ^ k+b:=by
  rw [Nat.mul_comm,<- Nat.two_pow_add_eq_or_of_lt h1']
 rw [h3,wrap_id (by omega) (by omega)]
 simp
theorem YI (m a b:Int) (k:Nat) (hm:m=((2 ^ k:Nat):Int)) (ha:0 <= a) (hb:0 <= b) (h1:b < m) (h2:a * m+b < 9223372036854775808) :
 bits .i64 (fun _ u v=>u ||| v) (a * m) b=a * m+b:=by
 subst hm;exact Qfq a b k ha hb h1 h2
theorem ZS (n m:Int) (k:Nat) (hm:m+1=((2 ^ k:Nat):Int)) (h0:0 <= n) (h1:n < 9223372036854775808) (hk:k <= 62) :
 bits .i64 (fun _ u v=>u &&& v) n m=n % (m+1):=by
 have hq:0 < 2 ^ k:=Nat.pow_pos (by omega)
 rw [hm,<- Qcy n k h0 h1 hk]
 congr 1
 omega
def Q8 (l:Line):Bool:=decide (0 <= l.offset /\ l.offset < 4194304 /\ 1 <= l.place /\ l.place <= 1048575 /\ 0 <= l.j /\ l.j <= 3 /\ 0 <= l.key /\ l.key <= 7 /\ 0 <= l.value /\ l.value <= 255)
def QlA (l:Line):Int:=(l.offset+1) * 8589934592+l.place * 8192+l.j * 2048+l.key * 256+l.value
def KJ (w:Int):Line:=⟨w / 8589934592 - 1,w / 8192 % 1048576,w / 2048 % 4,w / 256 % 8,w % 256⟩
def YO (w:Int):Option Line:=if 0 <= w /\ Q8 (KJ w)=true then some (KJ w) else none
def wordO (l:Line):Int:=bif Q8 l then QlA l else 0
theorem QoE {o p j k v:Int} (h:Q8 ⟨o,p,j,k,v⟩=true) :
 bits .i64 (fun _ u v=>u ||| v) (bits .i64 (fun _ u v=>u ||| v) (bits .i64 (fun _ u v=>u ||| v) (bits .i64 (fun _ u v=>u ||| v) ((o+1) * 8589934592) (p * 8192)) (j * 2048)) (k * 256)) v=QlA ⟨o,p,j,k,v⟩:=by
 unfold Q8 at h;rw [decide_eq_true_eq] at h;simp only at h;have e1:=YI 8589934592 (o+1) (p * 8192) 33 (by decide) (by omega) (by omega) (by omega) (by omega)
 have e2:=YI 8192 ((o+1) * 1048576+p) (j * 2048) 13 (by decide) (by omega) (by omega) (by omega) (by omega)
 have e3:=YI 2048 (((o+1) * 1048576+p) * 4+j) (k * 256) 11 (by decide) (by omega) (by omega) (by omega) (by omega)
 have e4:=YI 256 ((((o+1) * 1048576+p) * 4+j) * 8+k) v 8 (by decide) (by omega) (by omega) (by omega) (by omega)
 rw [e1,show (o+1) * 8589934592+p * 8192=((o+1) * 1048576+p) * 8192 by omega,e2,
  show ((o+1) * 1048576+p) * 8192+j * 2048=(((o+1) * 1048576+p) * 4+j) * 2048 by omega,e3,
  show (((o+1) * 1048576+p) * 4+j) * 2048+k * 256=((((o+1) * 1048576+p) * 4+j) * 8+k) * 256 by omega,e4]
 unfold QlA;simp only;omega
def readO (w:Int):Line:=(YO w).getD ⟨0,0,0,0,0⟩
def flo:Int->List Int->Int
 | n,[]=>n
 | n,s::l=>flo (if 0 < s /\ s - 1 < n then s - 1 else n) l
def oBeg (k:Int) (r got:List Int) (x:Int):GoR4 :=
 if k=0 then g4 92 1 r got 0 0 0 0 0
 else if k=1 then g4 92 2 (r.set 1 x) got 1 (lRow 9 (r.getD 0 0) 4) 0 (x+1) 0
 else if k=2 then g4 92 3 r got 0 3 0 0 0
 else if r.getD 1 0 < x then g4 92 1 r got 0 0 0 0 0 else QaS [r.getD 1 0]
def Qr8 (k:Int) (r got:List Int) (x:Int):GoR4 :=
 if k=0 then g4 93 1 r got 0 0 0 0 0
 else if k=1 then g4 93 2 (r.set 0 x) got 0 3 0 0 0
 else if k=2 then (if x < r.getD 0 0 then g4 93 3 r got 2 3 x (r.getD 0 0) 0 else g4 93 4 (r.set 1 0) got 0 9 0 0 0)
 else if k=3 then (if x=0 then g4 93 2 r got 0 3 0 0 0 else g4 93 4 (r.set 1 0) got 0 9 0 0 0)
 else if r.getD 1 0=3 then QaS [flo (r.getD 0 0) [r.getD 2 0,r.getD 3 0,r.getD 4 0,x]]
 else g4 93 4 ((r.set (2+(r.getD 1 0).toNat) x).set 1 (r.getD 1 0+1)) got 0 (10+r.getD 1 0) 0 0 0
def Qr9 (k:Int) (r got:List Int) (x:Int):GoR4 :=
 if k=0 then g4 93 1 r got 0 0 0 0 0
 else if k=1 then g4 93 2 (r.set 0 x) got 0 3 0 0 0
 else if k=2 then (if x < r.getD 0 0 then g4 93 3 (r.set 1 x) got 2 3 x (r.getD 0 0) 0 else g4 93 4 (r.set 2 0) got 0 9 0 0 0)
 else if k=3 then (if x=0 then g4 93 2 r got 0 3 0 0 0 else g4 93 4 (r.set 2 0) got 0 9 0 0 0)
 else if r.getD 2 0=3 then QaS [flo (r.getD 0 0) [r.getD 3 0,r.getD 4 0,r.getD 5 0,x]]
 else g4 93 4 ((r.set (3+(r.getD 2 0).toNat) x).set 2 (r.getD 2 0+1)) got 0 (10+r.getD 2 0) 0 0 0
def goO (own:Bool) (st:List Frame) (got:List Int):GoR4:=match st with
 | [f]=>if f.prog=92 then oBeg f.at' f.r got (got.headD 0) else bif own then Qr9 f.at' f.r got (got.headD 0) else Qr8 f.at' f.r got (got.headD 0)
 | _=>QaS []
def QsF (k:Int) (r got:List Int):Prop :=
 k=0 /\ got=[] \/ ∃ x,got=[x] /\ 1 <= k /\ k <= 3 /\ 0 <= x /\ x <= 1000000000 /\ 0 <= r.getD 0 0 /\ r.getD 0 0 <= 3
def Qsa (own:Bool) (k:Int) (r got:List Int):Prop :=
 k=0 /\ got=[] \/ ∃ x,got=[x] /\ 1 <= k /\ k <= 4 /\ 0 <= x /\ x <= 1000000000 /\ (2 <= k->0 <= r.getD 0 0 /\ r.getD 0 0 <= 1000000000) /\
  (k=4->bif own then 0 <= r.getD 2 0 /\ r.getD 2 0 <= 3 /\ (r.getD 2 0=3->r.getD 3 0 <= 1000000000 /\ r.getD 4 0 <= 1000000000 /\ r.getD 5 0 <= 1000000000)
   else 0 <= r.getD 1 0 /\ r.getD 1 0 <= 3 /\ (r.getD 1 0=3->r.getD 2 0 <= 1000000000 /\ r.getD 3 0 <= 1000000000 /\ r.getD 4 0 <= 1000000000))
def okO (own:Bool) (c:Int) (st:List Frame) (got:List Int):Prop :=
 0 <= c /\ c <= 3 /\ ∃ p k r,st=[⟨p,k,r⟩] /\ r.length=96 /\ (p=92 /\ QsF k r got \/ p=93 /\ Qsa own k r got)
def Qrf (A B:GoR4):Prop:=A.is=B.is /\ A.kind=B.kind /\ A.a=B.a /\ A.b=B.b /\ A.v=B.v /\ A.g=B.g /\ A.got=B.got
theorem Kd {p n:Int} {r q got:List Int} {kd a b v g:Int}:Qrf (g4 p n r got kd a b v g) (g4 p n q got kd a b v g):=⟨rfl,rfl,rfl,rfl,rfl,rfl,rfl⟩
theorem QlB {l:List Int}:Qrf (QaS l) (QaS l):=⟨rfl,rfl,rfl,rfl,rfl,rfl,rfl⟩
theorem oB0 (own:Bool) (r got:List Int):goO own [⟨92,0,r⟩] got=g4 92 1 r got 0 0 0 0 0:=rfl
theorem oB1 (own:Bool) (r:List Int) (x:Int):goO own [⟨92,1,r⟩] [x]=g4 92 2 (r.set 1 x) [x] 1 (lRow 9 (r.getD 0 0) 4) 0 (x+1) 0:=rfl
theorem oB2 (own:Bool) (r got:List Int):goO own [⟨92,2,r⟩] got=g4 92 3 r got 0 3 0 0 0:=rfl
theorem oB3 (own:Bool) (r:List Int) (x:Int):goO own [⟨92,3,r⟩] [x]=if r.getD 1 0 < x then g4 92 1 r [x] 0 0 0 0 0 else QaS [r.getD 1 0]:=rfl
theorem oM0 (own:Bool) (r got:List Int):goO own [⟨93,0,r⟩] got=g4 93 1 r got 0 0 0 0 0:=by cases own <;> rfl
theorem oM1 (own:Bool) (r:List Int) (x:Int):goO own [⟨93,1,r⟩] [x]=g4 93 2 (r.set 0 x) [x] 0 3 0 0 0:=by cases own <;> rfl
theorem oA2 (r:List Int) (x:Int):goO false [⟨93,2,r⟩] [x]=if x < r.getD 0 0 then g4 93 3 r [x] 2 3 x (r.getD 0 0) 0 else g4 93 4 (r.set 1 0) [x] 0 9 0 0 0:=rfl
theorem oC2 (r:List Int) (x:Int):goO true [⟨93,2,r⟩] [x]=if x < r.getD 0 0 then g4 93 3 (r.set 1 x) [x] 2 3 x (r.getD 0 0) 0 else g4 93 4 (r.set 2 0) [x] 0 9 0 0 0:=rfl
theorem oA3 (r:List Int) (x:Int):goO false [⟨93,3,r⟩] [x]=if x=0 then g4 93 2 r [x] 0 3 0 0 0 else g4 93 4 (r.set 1 0) [x] 0 9 0 0 0:=rfl
theorem oC3 (r:List Int) (x:Int):goO true [⟨93,3,r⟩] [x]=if x=0 then g4 93 2 r [x] 0 3 0 0 0 else g4 93 4 (r.set 2 0) [x] 0 9 0 0 0:=rfl
theorem oA4 (r:List Int) (x:Int):goO false [⟨93,4,r⟩] [x]=if r.getD 1 0=3 then QaS [flo (r.getD 0 0) [r.getD 2 0,r.getD 3 0,r.getD 4 0,x]]
 else g4 93 4 ((r.set (2+(r.getD 1 0).toNat) x).set 1 (r.getD 1 0+1)) [x] 0 (10+r.getD 1 0) 0 0 0:=rfl
theorem oC4 (r:List Int) (x:Int):goO true [⟨93,4,r⟩] [x]=if r.getD 2 0=3 then QaS [flo (r.getD 0 0) [r.getD 3 0,r.getD 4 0,r.getD 5 0,x]]
 else g4 93 4 ((r.set (3+(r.getD 2 0).toNat) x).set 2 (r.getD 2 0+1)) [x] 0 (10+r.getD 2 0) 0 0 0:=rfl
def frC (cs:List Int):Int:=cs.getD 0 0
def mkC (cs:List Int):Int:=cs.getD 3 0
def scC (cs:List Int) (i:Nat):Int:=cs.getD (9+i) 0
def opB (opn:List Bool) (i:Nat):Bool:=opn.getD i false
def stA (start:List Int) (i:Nat):Int:=start.getD i 0
def Qfr (opn:List Bool) (start:List Int) (w:Int) (i:Nat) (v:Int):Prop:=opB opn i=true->w <= stA start i \/ 0 < v /\ v - 1 <= stA start i
def JB (cs:List Int) (opn:List Bool) (c k:Int) (r got:List Int):Prop :=
 r.length=96 /\ r.getD 0 0=c /\ opB opn c.toNat=false /\
 (k=0 /\ got=[] \/ ∃ x,got=[x] /\ 0 <= x /\ x <= frC cs /\ (k=1 \/ 0 <= r.getD 1 0 /\ r.getD 1 0 <= frC cs /\ scC cs c.toNat=r.getD 1 0+1 /\ (k=2 \/ k=3)))
def JM4 (cs:List Int) (opn:List Bool) (start:List Int) (r q:List Int) (x:Int):Prop :=
 r.getD 0 0 <= mkC cs /\ ∃ j:Nat,j <= 3 /\ r.getD 1 0=j /\ q.getD 2 0=j /\ (∀ i,i < j->r.getD (2+i) 0=q.getD (3+i) 0 /\ 0 <= r.getD (2+i) 0 /\ r.getD (2+i) 0 <= frC cs+1 /\ Qfr opn start (r.getD 0 0) i (r.getD (2+i) 0)) /\ Qfr opn start (r.getD 0 0) j x
def JM (cs:List Int) (opn:List Bool) (start:List Int) (k:Int) (r q got:List Int):Prop :=
 r.length=96 /\ q.length=96 /\
 (k=0 /\ got=[] \/ ∃ x,got=[x] /\ 0 <= x /\ x <= frC cs+1 /\ (k=1 /\ x <= frC cs \/ r.getD 0 0=q.getD 0 0 /\ 0 <= r.getD 0 0 /\ r.getD 0 0 <= frC cs /\
  (k=2 /\ x <= mkC cs \/ k=3 /\ (x=0 \/ r.getD 0 0 <= mkC cs) \/ k=4 /\ JM4 cs opn start r q x)))
theorem JB.ok {cs:List Int} {opn:List Bool} {c k:Int} {r got:List Int} (h:JB cs opn c k r got) (hf:frC cs <= 1000000) (c0:0 <= c) (c3:c <= 3) (own:Bool):okO own c [⟨92,k,r⟩] got:=by
 obtain ⟨h1,h2,_,h⟩:=h;refine ⟨c0,c3,92,k,r,rfl,h1,.inl ⟨rfl,?_⟩⟩;rcases h with h | ⟨x,e,x0,x1,h⟩
 · exact .inl h
 · refine .inr ⟨x,e,?_,?_,x0,by omega,by omega,by omega⟩
   · rcases h with h | ⟨_,_,_,h | h⟩ <;> omega
   · rcases h with h | ⟨_,_,_,h | h⟩ <;> omega
theorem JM.ok {cs:List Int} {opn:List Bool} {start:List Int} {k c:Int} {r q got:List Int} (h:JM cs opn start k r q got) (hf:frC cs <= 1000000) (c0:0 <= c) (c3:c <= 3) :
 okO false c [⟨93,k,r⟩] got /\ okO true c [⟨93,k,q⟩] got /\ Qrf (goO false [⟨93,k,r⟩] got) (goO true [⟨93,k,q⟩] got):=by
 obtain ⟨h1,h2,h⟩:=h;rcases h with ⟨rfl,rfl⟩ | ⟨x,rfl,x0,x1,⟨rfl,x2⟩ | ⟨e,w0,w1,⟨rfl,x2⟩ | ⟨rfl,x2⟩ | ⟨rfl,h4⟩⟩⟩
 · exact ⟨⟨c0,c3,93,0,r,rfl,h1,.inr ⟨rfl,.inl ⟨rfl,rfl⟩⟩⟩,⟨c0,c3,93,0,q,rfl,h2,.inr ⟨rfl,.inl ⟨rfl,rfl⟩⟩⟩,by rw [oM0,oM0];exact Kd⟩
 · exact ⟨⟨c0,c3,93,1,r,rfl,h1,.inr ⟨rfl,.inr ⟨x,rfl,by omega,by omega,x0,by omega,by omega,by omega⟩⟩⟩,⟨c0,c3,93,1,q,rfl,h2,.inr ⟨rfl,.inr ⟨x,rfl,by omega,by omega,x0,by omega,by omega,by omega⟩⟩⟩,by rw [oM1,oM1];exact Kd⟩
 · refine ⟨⟨c0,c3,93,2,r,rfl,h1,.inr ⟨rfl,.inr ⟨x,rfl,by omega,by omega,x0,by omega,by omega,by omega⟩⟩⟩,⟨c0,c3,93,2,q,rfl,h2,.inr ⟨rfl,.inr ⟨x,rfl,by omega,by omega,x0,by omega,by omega,by omega⟩⟩⟩,?_⟩
   rw [oA2,oC2,<- e]
   split <;> exact Kd
 · refine ⟨⟨c0,c3,93,3,r,rfl,h1,.inr ⟨rfl,.inr ⟨x,rfl,by omega,by omega,x0,by omega,by omega,by omega⟩⟩⟩,⟨c0,c3,93,3,q,rfl,h2,.inr ⟨rfl,.inr ⟨x,rfl,by omega,by omega,x0,by omega,by omega,by omega⟩⟩⟩,?_⟩
   rw [oA3,oC3]
   split <;> exact Kd
 · obtain ⟨h5,j,j3,e1,e2,hj,_⟩:=h4;refine ⟨⟨c0,c3,93,4,r,rfl,h1,.inr ⟨rfl,.inr ⟨x,rfl,by omega,by omega,x0,by omega,by omega,fun _=>?_⟩⟩⟩,⟨c0,c3,93,4,q,rfl,h2,.inr ⟨rfl,.inr ⟨x,rfl,by omega,by omega,x0,by omega,by omega,fun _=>?_⟩⟩⟩,?_⟩
   · refine ⟨by omega,by omega,fun h3=>?_⟩
     have a0:r.getD 2 0 <= frC cs+1:=(hj 0 (by omega)).2.2.1
     have a1:r.getD 3 0 <= frC cs+1:=(hj 1 (by omega)).2.2.1
     have a2:r.getD 4 0 <= frC cs+1:=(hj 2 (by omega)).2.2.1
     exact ⟨by omega,by omega,by omega⟩
   · refine ⟨by omega,by omega,fun h3=>?_⟩
     have a0:r.getD 2 0=q.getD 3 0 /\ _ /\ r.getD 2 0 <= frC cs+1 /\ _:=hj 0 (by omega)
     have a1:r.getD 3 0=q.getD 4 0 /\ _ /\ r.getD 3 0 <= frC cs+1 /\ _:=hj 1 (by omega)
     have a2:r.getD 4 0=q.getD 5 0 /\ _ /\ r.getD 4 0 <= frC cs+1 /\ _:=hj 2 (by omega)
     exact ⟨by omega,by omega,by omega⟩
   · rw [oA4,oC4,e1,e2]
     split
     · have a0:r.getD 2 0=q.getD 3 0:=(hj 0 (by omega)).1
       have a1:r.getD 3 0=q.getD 4 0:=(hj 1 (by omega)).1
       have a2:r.getD 4 0=q.getD 5 0:=(hj 2 (by omega)).1
       rw [<- e,a0,a1,a2];exact QlB
     · exact Kd
theorem JB.mono {cs cs':List Int} {opn opn':List Bool} {c k:Int} {r got:List Int} (h:JB cs opn c k r got) (hf:frC cs <= frC cs') (hs:scC cs' c.toNat=scC cs c.toNat) (ho:opB opn' c.toNat=opB opn c.toNat):JB cs' opn' c k r got:=by
 obtain ⟨h1,h2,h3,h⟩:=h;refine ⟨h1,h2,by rw [ho];exact h3,?_⟩
 rcases h with h | ⟨x,e,x0,x1,h⟩
 · exact .inl h
 · refine .inr ⟨x,e,x0,by omega,?_⟩
   rcases h with h | ⟨a,b,d,h⟩
   · exact .inl h
   · exact .inr ⟨a,by omega,by omega,h⟩
theorem JM.mono {cs cs':List Int} {opn opn':List Bool} {start start':List Int} {k:Int} {r q got:List Int} (h:JM cs opn start k r q got) (hf:frC cs <= frC cs') (hm:mkC cs <= mkC cs')
 (ho:∀ i,opB opn' i=true->opB opn i=true /\ stA start' i=stA start i \/ mkC cs <= stA start' i):JM cs' opn' start' k r q got:=by
 obtain ⟨h1,h2,h⟩:=h;refine ⟨h1,h2,?_⟩;rcases h with h | ⟨x,e,x0,x1,h⟩
 · exact .inl h
 · refine .inr ⟨x,e,x0,by omega,?_⟩
   rcases h with h | ⟨e,w0,w1,h⟩
   · exact .inl ⟨h.1,by omega⟩
   refine .inr ⟨e,w0,by omega,?_⟩
   rcases h with h | h | ⟨hk,w2,j,j3,e1,e2,hj,hx⟩
   · exact .inl ⟨h.1,by omega⟩
   · exact .inr (.inl ⟨h.1,by omega⟩)
   · have saw:∀ i v,Qfr opn start (r.getD 0 0) i v->Qfr opn' start' (r.getD 0 0) i v:=fun i v hv ho'=>by
      rcases ho i ho' with ⟨a,b⟩ | b
      · rw [b];exact hv a
      · exact .inl (by omega)
     refine .inr (.inr ⟨hk,by omega,j,j3,e1,e2,fun i hi=>?_,saw _ _ hx⟩)
     obtain ⟨a,b,d,f⟩:=hj i hi;exact ⟨a,b,by omega,saw _ _ f⟩
end Go.Ev
