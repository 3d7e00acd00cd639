/-
  A part of the proof of a statement of this seat: the model is run over values by content, proved sound; what the functions come to. No condition beyond the given statements. (text 4)
-/
import Derived.Test.YtkoeniljaccaiaaGreatP2
import Derived.KernelRfl
noncomputable section
namespace Go.Ev
set_option linter.unusedVariables false
set_option linter.unusedSimpArgs false
section
variable {C:ij}{P:Program}{T:fA C}{Φ:jv C}
open Pg (Ex)
structure v8(C:ij)(σ:Type) where
 (k:Nat)(cS:σ->Env C)(cR:σ->List (Obj C))(fin:σ->Ev.X×Env C)(fy:σ->List (Obj C))(Inv:σ->Prop)(μ:σ->Nat)
def Qk(k:Nat)(env:Env C)(os:List (Obj C)):Prop:=os.length=k/\(∀q∈env,∀r∈q.2.refs,r<k)/\∀o∈os,∀r∈Obj.refs o,r<k
def xh(os fm:List (Obj C))(f:Nat->Nat):Prop:=∀j,j<os.length->f j=j\/∃t dM l gF l',os[j]? = some (.cj t dM l)/\fm[j]? = some (.cj t gF l')/\l.length<l'.length
def Cx.fZ(X:Cx)(k:Nat)(f:Nat->Nat):Cx:=⟨X.w,fun j=>if j<k then X.ρ (f j)else none,X.O⟩
theorem Cx.jK{X:Cx}{k:Nat}{f:Nat->Nat}{b o:Nat}:(X.fZ k f).dI b o↔∃j l,j<k/\X.ρ (f j)=some l/\l.owns b o:=by
 constructor
 ·rintro ⟨j,l,h1,h2⟩
  simp only[Cx.fZ]at h1
  split at h1
  ·exact⟨j,l,by assumption,h1,h2⟩
  ·cases h1
 ·rintro ⟨j,l,h0,h1,h2⟩
  exact⟨j,l,by simp[Cx.fZ,h0,h1],h2⟩
theorem Cx.nv{X:Cx}{k:Nat}{f:Nat->Nat}{b o:Nat}(h:X.free b o):(X.fZ k f).free b o :=
 ⟨h.1,fun hm=>by obtain⟨j,l,_,hl,ho⟩:=Cx.jK.1 hm;exact h.2 ⟨f j,l,hl,ho⟩⟩
theorem Part.OF(L:Laws T){X:Cx}{h:Heap C}{nx:Nat}{lim:eL}(g:G T X h nx lim){os:List (Obj C)}{f:Nat->Nat}(p:Part h os f)(top:Nat):G T (X.fZ os.length f) (ic 0 os) os.length (eQ top):=by
 obtain⟨fi,mT⟩:=DS p.inj;have hX:tR X (X.fZ os.length f):=⟨fun b o v h1 h2=>⟨h1,Cx.nv h2⟩⟩;refine⟨?_,?_,?_,?_,?_,?_,?_,?_,?_,aK _,?_⟩
 ·intro id t d ho;rw[QM]at ho;have cY:id<os.length:=(av.1 ho).1;obtain⟨b,c,h1,h2,h3,h4⟩:=g.var (f id) t (d.eT f) (p.ot id _ ho);have hrefs:∀r∈d.refs,r<os.length:=p.refs _ (List.mem_of_getElem? ho);refine⟨b,c,by simp[Cx.fZ,cY,h1],h2,?_,by rw[xn]at h4;exact h4⟩
  have h5:=h3.eT (X':=X.fZ os.length f) fi L.iv hX (fun r hr=>by
   rw[D.ft,List.mem_map]at hr;obtain⟨r0,o7,rfl⟩:=hr;have:=hrefs r0 o7;simp only[mT r0 this,Cx.fZ,this,aU];exact .refl _)
  rwa [D.eH f fi d (fun r hr=>mT r (hrefs r hr))]at h5
 ·intro id t dM l ho;rw[QM]at ho;have cY:id<os.length:=(av.1 ho).1;obtain⟨v,b,lo,hi,h1,h2⟩:=g.cj (f id) t dM l (p.ot id _ ho);refine⟨v,b,lo,hi,by simp[Cx.fZ,cY,h1],?_⟩;exact h2.move L hX.cell (fun _=>rfl) (L.tD t)
 ·intro id ck cv l ho;rw[QM]at ho;have cY:id<os.length:=(av.1 ho).1;obtain⟨b,es,k,h1,h2,h3⟩:=g.map (f id) ck cv l (p.ot id _ ho);exact⟨b,es,k,by simp[Cx.fZ,cY,h1],h2,h3.move L hX.cell⟩
 ·intro id cc ho;rw[QM]at ho;have cY:id<os.length:=(av.1 ho).1;obtain⟨s,h1,h2⟩:=g.ek (f id) cc (p.ot id _ ho);exact⟨s,by simp[Cx.fZ,cY,h1],h2.move L hX.cell fun _ _=>rfl⟩
 ·intro id l hr;simp only[Cx.fZ]at hr
  split at hr
  ·rename_i cY;rw[QM];simp[cY]
  ·cases hr
 ·intro id o ho;rw[QM]at ho;have cY:id<os.length:=(av.1 ho).1;exact⟨⟨.inl cY,fun h=>h⟩,fun r hr=>⟨.inl (p.refs _ (List.mem_of_getElem? ho) r hr),fun h=>h⟩⟩
 ·intro i j l l' b o o' h1 h2 h3 h4;simp only[Cx.fZ]at h1 h2
  split at h1
  ·split at h2
   ·exact p.inj i j (by assumption) (by assumption) (g.apart _ _ _ _ _ _ _ h1 h2 h3 h4)
   ·cases h2
  ·cases h1
 ·intro b o hm;obtain⟨j,l,hj,hl,ho⟩:=Cx.jK.1 hm;exact g.outer b o ⟨_,l,hl,ho⟩
 ·intro b o ho;exact g.outs b o ho
 ·exact fun q hq=>⟨(g.pre q hq).1,fun o hm=>by
   obtain⟨j,l,hj,hl,ho⟩:=Cx.jK.1 hm;exact(g.pre q hq).2 o ⟨_,l,hl,ho⟩⟩
theorem QE.fZ(L:Laws T){X:Cx}{nx:Nat}{lim:eL}{env fe:Env C}{tmps:b7}{k top:Nat}{f:Nat->Nat}(he:QE T X nx lim env tmps)(yw:∀i j,i<k->j<k->f i=f j->i=j)
 (hs:∀q∈fe,c8 env q.1=q.2.eT f) (hr:∀q∈fe,∀r∈q.2.refs,r<k):QE T (X.fZ k f) k (eQ top) fe tmps:=by
 obtain⟨fi,mT⟩:=DS yw;intro t;rcases iL fe t with h|h
 ·rw[h];exact RO.mk (RV.top _ _ _) rfl
 ·have oE:∀r∈(c8 fe t).refs,r<k:=hr _ h;refine⟨?_,fun r hh=>⟨.inl (oE r hh),fun h=>h⟩⟩;have h1:=(he t).1;have h2:=hs _ h;simp only at h2;rw[h2]at h1
  have h3:=RV.eT (X:=X) (X':=X.fZ k f) fi L.iv (h:=h1) ⟨fun b o v a1 a2=>⟨a1,Cx.nv a2⟩⟩ (fun r hh=>by
   rw[D.ft,List.mem_map]at hh;obtain⟨r0,o7,rfl⟩:=hh;have:=oE r0 o7;simp only[mT r0 this,Cx.fZ,this,aU];exact .refl _)
  rwa [D.eH f fi _ (fun r hh=>mT r (oE r hh))]at h3
theorem Vx.hJ{X:Cx}{t:C.Ty}{dM:Bool}{l:List (C.A t)}{v:Value}{b lo hi:Nat}(h:Vx T X t dM l v b lo hi):Ev.hJ v=l.length:=by
 rcases h with⟨⟨a,rfl,_⟩,rfl,_⟩|⟨off,cp,rfl,_⟩<;>rfl
theorem Part.FK{X X1:Cx}{h':Heap C}{cM:Nat}{os fm:List (Obj C)}{f:Nat->Nat}(g:G T X (ic 0 os) os.length (eQ os.length))(g1:G T X1 h' cM (eQ cM))(s:Step X os.length (eQ cM) X1)(p:Part h' fm f)(dc:fm.length=os.length)(hg:xh os fm f) :
 Step X os.length (eQ os.length) (X1.fZ os.length f):=by
 refine⟨s.O,s.os,s.tape,s.output,s.size,fun id ho=>?_,fun b o hb hm=>?_,s.cell,s.block,s.frz⟩
 ·by_cases dU:id<os.length
  ·simp only[Cx.fZ,dU,aU];rcases hg id dU with hf|⟨t,dM,l,gF,l',h1,h2,h3⟩
   ·rw[hf];exact s.ρ id ⟨.inl dU,fun h=>h⟩
   ·obtain⟨v,b,lo,hi,a1,a2⟩:=g.cj id t dM l (by rw[QM];exact h1);obtain⟨v',b',jt,ks,c1,c2⟩:=g1.cj (f id) t gF l' (p.ot id _ h2);rw[a1,c1];have e1:=a2.hJ;have e2:=c2.hJ;exact⟨rfl,by omega,fun h=>by omega⟩
  ·have:(X1.fZ os.length f).ρ id=none:=by simp[Cx.fZ,dU]
   rw[this];cases X.ρ id<;>simp[Qo]
 ·obtain⟨j,l,hj,hl,ho⟩:=Cx.jK.1 hm;exact s.dI b o hb ⟨f j,l,hl,ho⟩
def N1(T:fA C)(Φ:jv C)(g:FuncId)(b:Code){σ:Type}(S:v8 C σ):Prop :=
 ∀s,S.Inv s->Qk S.k (S.cS s) (S.cR s)/\Qk S.k (S.fin s).2 (S.fy s)/\∃n x dj h' cM tr,Ex (0,0) (kl T Φ n g b (S.cS s)) (ic 0 (S.cR s)) S.k (x,dj) h' cM tr /\
  ((x=.normal/\∃s',S.Inv s'/\S.μ s'<S.μ s/\S.fin s'=S.fin s/\S.fy s'=S.fy s/\Sub dj (S.cS s')/\∀j,j<S.k->h'.get j=(S.cR s')[j]?) \/
   (x=.normal/\∃s' f,S.Inv s'/\S.μ s'<S.μ s/\S.fin s'=S.fin s/\S.fy s'=S.fy s/\(∀p∈S.cS s',c8 dj p.1=p.2.eT f)/\Part h' (S.cR s') f/\xh (S.cR s) (S.cR s') f) \/
   (x ≠ .normal/\x=(S.fin s).1/\Sub dj (S.fin s).2/\∀j,j<S.k->h'.get j=(S.fy s)[j]?))
theorem G.mj{X:Cx}{h:Heap C}{nx cM k:Nat}{lim me:eL}(g:G T X h nx lim)(hk:∀id o,h.get id=some o->id<k/\∀r∈o.refs,r<k)(hn:k<=cM)(hl:me.lo<=cM)(hH:∀id,¬me.H id):G T X h cM me :=
 ⟨g.var,g.cj,g.map,g.ek,g.kg,fun id o ho=>⟨⟨.inl (by have:=(hk id o ho).1;omega),hH id⟩,fun r hr=>⟨.inl (by have:=(hk id o ho).2 r hr;omega),hH r⟩⟩,g.apart,g.outer,g.outs,hl,g.pre⟩
theorem JB{os:List (Obj C)}{k:Nat}(hl:os.length=k)(hr:∀o∈os,∀r∈Obj.refs o,r<k):∀id o,(ic 0 os).get id=some o->id<k/\∀r∈o.refs,r<k:=by
 intro id o ho;rw[QM]at ho;exact⟨by rw[<-hl];exact(av.1 ho).1,hr o (List.mem_of_getElem? ho)⟩
theorem Un(K:Zq P T)(F:Qj P T Φ){g:FuncId}{fn:Func}{body b:Code}{σ:Type}{S:v8 C σ}(hr:N1 T Φ g b S)(hf:Φ.fn g=some fn)(hb:fn.body=some body)(nH:YV fn.ntmps b=true)(hl:∀b'∈Zi b,b'∈Zi body){B:Nat->Bool}(hB:xB B b)
 {Q:Exit->Act->World->Prop}:∀(m:Nat) (s:σ) (X:Cx) (a:Act),S.Inv s->S.μ s<m->G T X (ic 0 (S.cR s)) S.k (eQ S.k)->QE T X S.k (eQ S.k) (S.cS s) a.tmps->fn.ntmps<=a.tmps.size ->
  (∀a' X',G T X' (ic 0 (S.fy s)) S.k (eQ S.k)->Step X S.k (eQ S.k) X'->QE T X' S.k (eQ S.k) (S.fin s).2 a'.tmps->a'.tmps.size=a.tmps.size->VH X X' a'.defers a.defers->Kp B a.tmps a'.tmps->Q (uC (S.fin s).1) a' X'.w)->Code.rounds P b Q m a X.w:=by
 intro m
 induction m with
 |zero=>intro s X a _ hm;omega
 |succ m ih=>
  intro s X a hI hm hg he fN hk;obtain⟨gn,kK,n,x,dj,h',cM,tr,hx,kn⟩:=hr s hI;rw[rounds_succ];have hle:S.k<=cM:=hx.le;have g0:G T X (ic 0 (S.cR s)) S.k (eQ cM):=hg.mj (JB gn.1 gn.2.2) (aq _) (aK _) (fun _ h=>h)
  have e0:QE T X S.k (eQ cM) (S.cS s) a.tmps:=fun t=>⟨(he t).1,fun r hh=>⟨.inl (by
   rcases iL (S.cS s) t with h|h
   ·rw[h]at hh;simp[D.refs]at hh
   ·exact gn.2.1 _ h r hh),fun h=>h⟩⟩
  refine(wpIn_wide (n:=0)).1 ((G4 K F n).1 none 0 g fn.ntmps b (.inr ⟨rfl,fn,body,hf,rfl,hb,hl⟩) nH B hB X (ic 0 (S.cR s)) S.k (eQ cM) (0,0) (S.cS s) x dj h' cM tr a _ g0 e0 (aq _) fN hx ?_);intro a1 X1 g1 s1 e1 lQ mI mW
  -- vI vC FQ are kept
  have key:∀(os:List (Obj C)) (fe:Env C),Qk S.k fe os->(∀j,j<S.k->h'.get j=os[j]?)->Sub dj fe ->
   ∃X2,X2.w=X1.w/\G T X2 (ic 0 os) S.k (eQ S.k)/\Step X S.k (eQ S.k) X2/\QE T X2 S.k (eQ S.k) fe a1.tmps/\VH X X2 a1.defers a.defers:=by
   intro os fe ⟨q1,q2,q3⟩ iQ kT
   obtain⟨X2,w2,g2,s2,hρ⟩:=G.drop K.base g1 (h':=ic 0 os) (fun id=>by
    rw[QM]
    by_cases dU:id<S.k
    ·exact .inl (iQ id dU).symm
    ·exact .inr (bc (by omega)))
   have mu:∀id,¬id<S.k->X2.ρ id=none:=fun id dU=>by
    cases hq:X2.ρ id with
    |none=>rfl
    |some l=>
     have:=g2.kg id l hq;rw[QM,bc (by omega)]at this;cases this
   have s3:=s1.trans s2 hle;refine⟨X2,w2,g2.mj (JB q1 q3) (aq _) (aK _) (fun _ h=>h),⟨s3.O,s3.os,s3.tape,s3.output,s3.size,fun id ho=>?_,s3.dI,s3.cell,s3.block,s3.frz⟩,fun t=>?_,mI.sub w2 s2.dI⟩
   ·by_cases dU:id<S.k
    ·exact s3.ρ id ⟨.inl dU,fun h=>h⟩
    ·rw[mu id dU];cases X.ρ id<;>simp[Qo]
   ·rcases iL fe t with h|h
    ·rw[h];exact RO.mk (RV.top _ _ _) rfl
    ·have oE:∀r∈(c8 fe t).refs,r<S.k:=q2 _ h;have h2:=kT _ h;simp only at h2;have h3:=(e1 t).1;rw[h2]at h3;exact⟨h3.mono T K.base.iv s2.keeps fun r hh=>s2.ρ r ⟨.inl (by have:=oE r hh;omega),fun h=>h⟩,fun r hh=>⟨.inl (oE r hh),fun h=>h⟩⟩
  rcases kn with⟨rfl,s',ui,hmu,kv,lq,kT,iQ⟩|⟨rfl,s',f,ui,hmu,kv,lq,kT,sV,qN⟩|⟨gm,CM,kT,iQ⟩
  ·obtain⟨mK,_,_⟩:=hr s' ui;obtain⟨X2,w2,g2,s2,e2,oA⟩:=key _ _ mK iQ kT;rw[<-w2];refine ih s' X2 a1 ui (by omega) g2 e2 (by omega) fun a3 X3 g3 s3 e3 r5 yh P1=>?_;rw[kv]at e3 ⊢;rw[lq]at g3;exact hk a3 X3 g3 (s2.trans s3 (aq _)) e3 (by omega) (oA.trans s2 s3 yh) (mW.trans P1)
  ·obtain⟨mK,_,_⟩:=hr s' ui;have ko:(S.cR s').length=(S.cR s).length:=by rw[mK.1,gn.1]
   have g2:=Part.OF K.base g1 sV (S.cR s').length;have e2:QE T (X1.fZ (S.cR s').length f) (S.cR s').length (eQ (S.cR s').length) (S.cS s') a1.tmps:=QE.fZ K.base e1 sV.inj kT (by rw[mK.1];exact mK.2.1);have s2:=Part.FK (by rw[gn.1];exact hg) g1 (by rw[gn.1];exact s1) sV ko qN;rw[mK.1]at g2 e2;rw[gn.1]at s2;refine ih s' (X1.fZ S.k f) a1 ui (by omega) g2 e2 (by omega) fun a3 X3 g3 s3 e3 r5 yh P1=>?_;rw[kv]at e3 ⊢;rw[lq]at g3;exact hk a3 X3 g3 (s2.trans s3 (aq _)) e3 (by omega) ((mI.sub (X2:=X1.fZ S.k f) rfl (fun b o _ hm=>by obtain⟨j,q,_,hl,ho⟩:=Cx.jK.1 hm;exact⟨f j,q,hl,ho⟩)).trans s2 s3 yh) (mW.trans P1)
  ·obtain⟨X2,w2,g2,s2,e2,oA⟩:=key _ _ kK iQ kT;have qh:Q (uC (S.fin s).1) a1 X2.w:=hk a1 X2 g2 s2 e2 lQ oA mW;rw[w2,<-CM]at qh;cases x with
   |normal=>exact(gm rfl).elim
   |exit id=>exact qh
   |ret=>exact qh
theorem UW{X:Cx}{t:C.Ty}{l:List (C.A t)}{v:Value}(h:R T X false (.sl t true l) [v]):∃a,v=.slice a l.length l.length/\∃b lo,Vx T X t l.isEmpty l v b lo lo:=by
 have key:∀a:dN,∃b lo,Vx T X t true [] (.slice a 0 0) b lo lo:=by
  intro a
  by_cases hq:∃b off,a=some ⟨b,off,none⟩
  ·obtain⟨b,off,rfl⟩:=hq;exact⟨b,off,.inr ⟨off,0,rfl,aq _,by simp,.inl ⟨rfl,rfl,.inl rfl⟩⟩⟩
  ·exact⟨0,0,.inl ⟨⟨a,rfl,fun b off e=>hq ⟨b,off,e⟩⟩,rfl,aq _⟩⟩
 cases h with
 |li _ _ a=>exact⟨a,rfl,key a⟩
 | @sl _ _ _ b off _ _ ha hr hc kZ=>
  have:=kZ rfl;subst this;cases l with
  |nil=>exact⟨_,rfl,key _⟩
  |cons x l=>exact⟨_,rfl,b,off+(x::l).length*T.size (T.dG t),.inr ⟨off,(x::l).length,rfl,aq _,rfl,.inr ⟨rfl,rfl,⟨_,ha,hr⟩,.inl rfl⟩⟩⟩
theorem VP(K:Zq P T){X:Cx}{h:Heap C}{nx t:Nat}{lim:eL}{env:Env C}{tmps:b7}{ty:C.Ty}{l:List (C.A ty)}(g:G T X h nx lim)(he:QE T X nx lim env tmps)(hn:nx<lim.top)(hs:c8 env t=.sl ty true l) :
 ∃X',X'.w=X.w/\G T X' ((nx,.cj ty l.isEmpty l)::h) (nx+1) lim/\Step X nx lim X'/\QE T X' (nx+1) lim ((t,.vs nx l.length)::env) tmps:=by
 have h1:=(he t).1;rw[hs]at h1;have h2:=h1.one rfl;obtain⟨a,hv,b,lo,hV⟩:=UW h2;obtain⟨X',w',ρ',g',s'⟩:=G.qw K g hn (aq _) hV;refine⟨X',w',g',s',fun u=>?_⟩;rw[QP]
 by_cases hu:u=t
 ·subst hu;simp only[aU];refine⟨.inr ⟨rfl,?_⟩,by simpa[D.refs]using g.new hn⟩;rw[hv];refine .vs fun v e b' jt ks hq=>?_;rw[ρ']at hq;simp only[aD,Loc.cj.injEq]at hq;obtain⟨rfl,_⟩:=hq;rw[hv];exact⟨by simp[hJ],fun _=>rfl⟩
 ·simp only[hu,aL];exact(he u).step K.base s' (by omega)
def Y1(T:fA C):TypeId->bU->Bool
 |_,[]=>true
 |t,i::p=>match T.ty t with
  |.struct _ fs=>Nat.blt i fs.length&&Y1 T (fs.getD i 0) p
  |.arr n e _=>Nat.blt i n&&Y1 T e p
  |_=>false
theorem KH:∀(p:bU) (t:TypeId),Y1 T t p=true->Zr T t p:=by
 intro p
 induction p with
 |nil=>intro t _;trivial
 |cons i p ih=>
  intro t h;simp only[Y1]at h;simp only[Zr];cases ht:T.ty t<;>simp only[ht,ai,bu]at h ⊢
  ·exact⟨by simpa[Nat.blt_eq]using h.1,ih _ h.2⟩
  ·exact⟨by simpa[Nat.blt_eq]using h.1,ih _ h.2⟩
theorem FX(K:Zq P T){X:Cx}{h:Heap C}{nx id:Nat}{lim:eL}{env:Env C}{tmps:b7}{ty:C.Ty}{l:List (C.A ty)}{u t':TypeId}{d d':D C}{p:bU}(g:G T X h nx lim)(he:QE T X nx lim env tmps)(hn:nx<lim.top)
 (ho:h.get id=some (.var u d)) (hp:Y1 T u p=true) (hg:fg T d p=some (.sl ty true l)) (hs:Ev.setPath T d p (.vs nx l.length)=some d') (ht:gG T u p=some t') (hf:cZ T (.vs nx l.length:D C) (.inl t')=true) :
 ∃X',X'.w=X.w/\G T X' (Heap.put id (.var u d') ((nx,.cj ty l.isEmpty l)::h)) (nx+1) lim/\Step X nx lim X'/\QE T X' (nx+1) lim env tmps:=by
 obtain⟨b0,c0,h1,h2,h3,h4⟩:=g.var id u d ho;obtain⟨c1,c2,c3,hc,hl,hr,_⟩:=h3.path K.base p (KH p u hp) h4 hg;have gm:id≠nx:=fun e=>by have:=(g.eY id _ ho).1.1;omega
 have lD:∃v,c2=[v]:=by
  cases hr with
  |li=>exact⟨_,rfl⟩
  |sl=>exact⟨_,rfl⟩
 obtain⟨v,rfl⟩:=lD;obtain⟨a,hv,b,lo,hV⟩:=UW hr;obtain⟨X',w',ρ',g',s'⟩:=G.qw K g hn (aq _) hV
 have nV:R T X' false (.vs nx l.length) [v]:=by
  rw[hv];refine .vs fun v e b' jt ks hq=>?_;rw[ρ']at hq;simp only[aD,Loc.cj.injEq]at hq;obtain⟨rfl,_⟩:=hq;rw[hv];exact⟨by simp[hJ],fun _=>rfl⟩
 have hrefs:∀r∈d.refs,fL nx lim r:=(g.eY id _ ho).2;have gU:Heap.get id ((nx,.cj ty l.isEmpty l)::h)=some (.var u d):=by rw[Qz];simp[gm,ho]
 obtain⟨b1,wE,e1,e2,e3,e4⟩:=g'.var id u d gU;refine⟨X',w',?_,s',fun t=>(he t).step K.base s' (by omega)⟩
 -- vI tw is seen CR;cQ cells are as aat aau
 have lR:(Heap.get id ((nx,.cj ty l.isEmpty l)::h)).isSome=true:=by rw[gU];rfl
 obtain⟨k1,k2,k3,q1,q2,q3,q4,q5⟩:=e3.setPath K.base p (KH p u hp) e4 hs nV ht hf;obtain⟨m1,m2,m3,n1,n2,n3,_⟩:=e3.path K.base p (KH p u hp) e4 hg
 have Ig:m2.length=1:=by
  cases n3 with
  |li=>rfl
  |sl=>rfl
 have Cy:wE.toList=c0.toList:=by
  have hw:X'.w.heap[b1]? = X.w.heap[b0]? := by
   have:X'.ρ id=X.ρ id\/True:=.inr trivial;rw[w'];have hρ:Qo (X.ρ id) (X'.ρ id):=s'.ρ id (g.eY id _ ho).1;rw[h1,e1]at hρ;simp only[Qo,Loc.var.injEq]at hρ;rw[hρ.1]
  rw[e2,h2]at hw;simp only[aD,Obj.cells.injEq]at hw;rw[hw.1]
 have ER:k1++[v]++k3=wE.toList:=by
  have a1:k1=c1:=by
   have:(k1++k2++k3).take (er T u p)=(c1++[v]++c3).take (er T u p):=by rw[<-q1,<-hc,Cy]
   rw[ay,ay,List.take_append_of_le_length (by omega),List.take_append_of_le_length (by omega),List.take_of_length_le (by omega),List.take_of_length_le (by omega)]at this;exact this
  have a2:k2++k3=[v]++c3:=by
   have:k1++(k2++k3)=c1++([v]++c3):=by rw[<-ay,<-ay,<-q1,<-hc,Cy]
   rw[a1]at this;exact List.append_cancel_left this
  have a3:k3=c3:=by
   simp only[List.length_singleton]at q3;obtain⟨y,rfl⟩:=List.length_eq_one_iff.1 q3;simp at a2;exact a2.2
  rw[a1,a3,Cy,hc]
 rw[ER]at q4;refine⟨?_,?_,?_,?_,?_,?_,g'.apart,g'.outer,g'.outs,g'.low,g'.pre⟩
 ·intro j t e hj;rw[Qu lR]at hj
  by_cases ms:j=id
  ·simp only[ms,aU,aD,Ev.Obj.var.injEq]at hj;obtain⟨rfl,rfl⟩:=hj;exact⟨b1,wE,by rw[ms];exact e1,e2,q4,q5⟩
  ·simp only[ms,aL]at hj;exact g'.var j t e hj
 ·intro j t dM l hj;rw[Qu lR]at hj
  by_cases ms:j=id
  ·simp[ms]at hj
  ·simp only[ms,aL]at hj;exact g'.cj j t dM l hj
 ·intro j ck cv l hj;rw[Qu lR]at hj
  by_cases ms:j=id
  ·simp[ms]at hj
  ·simp only[ms,aL]at hj;exact g'.map j ck cv l hj
 ·intro j cc hj;rw[Qu lR]at hj
  by_cases ms:j=id
  ·simp[ms]at hj
  ·simp only[ms,aL]at hj;exact g'.ek j cc hj
 ·intro j l hj;rw[Qu lR]
  by_cases ms:j=id
  ·simp[ms]
  ·simp only[ms,aL];exact g'.kg j l hj
 ·intro j o hj;rw[Qu lR]at hj
  by_cases ms:j=id
  ·simp only[ms,aU,aD]at hj;subst hj;refine⟨by rw[ms];exact(g'.eY id _ gU).1,fun r hr=>?_⟩;rcases lI K.base p hs r hr with h5|h5
   ·exact(hrefs r h5).mono (by omega)
   ·simp only[D.refs,bE]at h5;rw[h5];exact g.new hn
  ·simp only[ms,aL]at hj;exact g'.eY j o hj
inductive Fnd where
 |slot (t i:Nat)
 |path (j:Nat) (p:bU)
 |wW (t:Nat)
abbrev du:=List Fnd
def rO{α:Type}(T:fA C):du->Env C->bU->(Env C->bU->Pg C α)->Pg C α
 |[],env,dB,k=>k env dB
 |.slot t i::r,env,dB,k=>match c8 env t with
  |.sl ty true []=>.nw (.cj ty true []) fun id=>rO T r ((t,.vs id 0)::env) (dB++[id]) k
  |.sl ty true (x::l)=>.nw (.cj ty false (x::l)) fun id=>rO T r ((t,.vs id (x::l).length)::env) (dB++[id]) k
  |d=>match d.refs[i]? with
   |some id=>rO T r env (dB++[id]) k
   |none=>.fail
 |.wW t::r,env,dB,k=>match c8 env t with
  |.sl ty true l=>.nw (.cj ty l.isEmpty l) fun id=>rO T r ((t,.vs id l.length)::env) (dB++[id]) k
  |_=>.fail
 |.path j p::r,env,dB,k=>match dB[j]? with
  |none=>.fail
  |some th=>.rd th fun
   |.var u d=>match fg T d p with
    |some (.sl ty true [])=>match gG T u p with
     |some t'=>bif Y1 T u p&&cZ T (.vs 0 0:D C) (.inl t')then .nw (.cj ty true []) fun id=>match Ev.setPath T d p (.vs id 0)with
      |some d'=>.wr th (.var u d') (rO T r env (dB++[id]) k)
      |none=>.fail
      else .fail
     |none=>.fail
    |some (.sl ty true (x::l))=>match gG T u p with
     |some t'=>bif Y1 T u p&&cZ T (.vs 0 0:D C) (.inl t')then .nw (.cj ty false (x::l)) fun id=>match Ev.setPath T d p (.vs id (x::l).length)with
      |some d'=>.wr th (.var u d') (rO T r env (dB++[id]) k)
      |none=>.fail
      else .fail
     |none=>.fail
    |some x=>match x.refs with
     |id::_=>rO T r env (dB++[id]) k
     |[]=>.fail
    |none=>.fail
   |_=>.fail
theorem ML(K:Zq P T){α:Type}{e:Pg.Lv}{a:α}{h':Heap C}{cM:Nat}{lim:eL}(eA:cM<=lim.top){k:Env C->bU->Pg C α}{tmps:b7}:∀(l:du) (X:Cx) (h:Heap C) (nx:Nat) (tr:Tr) (env:Env C) (dB:bU),
 G T X h nx lim->QE T X nx lim env tmps->Ex e (rO T l env dB k) h nx a h' cM tr ->
 ∃X1 h1 pS eD yU oS,X1.w=X.w/\G T X1 h1 pS lim/\Step X nx lim X1/\nx<=pS/\QE T X1 pS lim eD tmps/\Ex e (k eD yU) h1 pS a h' cM oS:=by
 intro l
 induction l with
 |nil=>intro X h nx tr env dB g he hx;exact⟨X,h,nx,env,dB,tr,rfl,g,.refl _ _ _,aq _,he,hx⟩
 |cons f l ih=>
  intro X h nx tr env dB g he hx;cases f with
  |slot t i=>
   simp only[rO]at hx
   split at hx
   ·rename_i ty hq;obtain⟨t',hx,_⟩:=Ex.nw hx;have hle:=hx.le;obtain⟨X1,w1,g1,s1,e1⟩:=VP K g he (by omega) hq;obtain⟨X2,h2,n2,fP,kx,mQ,w2,g2,s2,ng,e2,fW⟩:=ih X1 _ _ _ _ _ g1 e1 hx;exact⟨X2,h2,n2,fP,kx,mQ,by rw[w2,w1],g2,s1.trans s2 (by omega),by omega,e2,fW⟩
   ·rename_i ty x l0 hq;obtain⟨t',hx,_⟩:=Ex.nw hx;have hle:=hx.le;obtain⟨X1,w1,g1,s1,e1⟩:=VP K g he (by omega) hq;obtain⟨X2,h2,n2,fP,kx,mQ,w2,g2,s2,ng,e2,fW⟩:=ih X1 _ _ _ _ _ g1 e1 hx;exact⟨X2,h2,n2,fP,kx,mQ,by rw[w2,w1],g2,s1.trans s2 (by omega),by omega,e2,fW⟩
   ·split at hx
    ·exact ih X h nx tr env _ g he hx
    ·exact Ex.cI hx
  |wW t=>
   simp only[rO]at hx
   split at hx
   ·rename_i ty l0 hq;obtain⟨t',hx,_⟩:=Ex.nw hx;have hle:=hx.le;obtain⟨X1,w1,g1,s1,e1⟩:=VP K g he (by omega) hq;obtain⟨X2,h2,n2,fP,kx,mQ,w2,g2,s2,ng,e2,fW⟩:=ih X1 _ _ _ _ _ g1 e1 hx;exact⟨X2,h2,n2,fP,kx,mQ,by rw[w2,w1],g2,s1.trans s2 (by omega),by omega,e2,fW⟩
   ·exact Ex.cI hx
  |path j p=>
   simp only[rO]at hx
   split at hx
   ·exact Ex.cI hx
   ·rename_i th hj;obtain⟨o,t',ho,hx,_⟩:=Ex.rd hx;cases o with
    |cj _ _ _=>exact Ex.cI hx
    |map _ _ _=>exact Ex.cI hx
    |ek _=>exact Ex.cI hx
    |var u d=>
     simp only at hx
     split at hx
     ·rename_i ty hq
      split at hx
      ·rename_i t' ht;cases hb:Y1 T u p&&cZ T (.vs 0 0:D C) (.inl t')with
       |false=>rw[hb]at hx;exact Ex.cI hx
       |true=>
        rw[hb]at hx;simp only[ag]at hx;simp only[ai]at hb;obtain⟨t1,hx,_⟩:=Ex.nw hx
        split at hx
        ·rename_i d' hs;obtain⟨o',t2,gU,hx,_⟩:=Ex.wr hx;have hle:=hx.le;obtain⟨X1,w1,g1,s1,e1⟩:=FX K g he (by omega) ho hb.1 hq hs ht (by simpa[cZ]using hb.2);obtain⟨X2,h2,n2,fP,kx,mQ,w2,g2,s2,ng,e2,fW⟩:=ih X1 _ _ _ _ _ g1 e1 hx;exact⟨X2,h2,n2,fP,kx,mQ,by rw[w2,w1],g2,s1.trans s2 (by omega),by omega,e2,fW⟩
        ·exact Ex.cI hx
      ·exact Ex.cI hx
     ·rename_i ty x l0 hq
      split at hx
      ·rename_i t' ht;cases hb:Y1 T u p&&cZ T (.vs 0 0:D C) (.inl t')with
       |false=>rw[hb]at hx;exact Ex.cI hx
       |true=>
        rw[hb]at hx;simp only[ag]at hx;simp only[ai]at hb;obtain⟨t1,hx,_⟩:=Ex.nw hx
        split at hx
        ·rename_i d' hs;obtain⟨o',t2,gU,hx,_⟩:=Ex.wr hx;have hle:=hx.le;obtain⟨X1,w1,g1,s1,e1⟩:=FX K g he (by omega) ho hb.1 hq hs ht (by simpa[cZ]using hb.2);obtain⟨X2,h2,n2,fP,kx,mQ,w2,g2,s2,ng,e2,fW⟩:=ih X1 _ _ _ _ _ g1 e1 hx;exact⟨X2,h2,n2,fP,kx,mQ,by rw[w2,w1],g2,s1.trans s2 (by omega),by omega,e2,fW⟩
        ·exact Ex.cI hx
      ·exact Ex.cI hx
     ·split at hx
      ·exact ih X h nx _ env _ g he hx
      ·exact Ex.cI hx
     ·exact Ex.cI hx
def HU{α:Type}:bU->(List (Obj C)->Pg C α)->Pg C α
 |[],k=>k []
 |id::r,k=>.rd id fun o=>HU r fun os=>k (o::os)
theorem Dg{α:Type}{e:Pg.Lv}{a:α}{h h':Heap C}{nx cM:Nat}:∀(dB:bU) (k:List (Obj C)->Pg C α) (tr:Tr),Ex e (HU dB k) h nx a h' cM tr->∃os oS,os.length=dB.length/\(∀(j id:Nat) (o:Obj C),dB[j]? = some id->os[j]? = some o->h.get id=some o)/\Ex e (k os) h nx a h' cM oS
 |[],k,tr,hx=>⟨[],tr,rfl,by simp,hx⟩
 |id::r,k,tr,hx=>by
  obtain⟨o,t',ho,hx,_⟩:=Ex.rd hx;obtain⟨os,oS,h1,h2,h3⟩:=Dg r _ _ hx;refine⟨o::os,oS,by simp[h1],fun j i o' hj gU=>?_,h3⟩;cases j with
  |zero=>simp at hj gU;rw[<-hj,<-gU];exact ho
  |succ j=>exact h2 j i o' (by simpa using hj) (by simpa using gU)
def Cm{α:Type}:bU->List (Obj C)->Pg C α->Pg C α
 |[],[],k=>k
 |id::r,o::os,k=>.wr id o (Cm r os k)
 |_,_,_=>.fail
theorem Dh{α:Type}{e:Pg.Lv}{a:α}{h':Heap C}{nx cM:Nat}{k:Pg C α}:∀(dB:bU) (os:List (Obj C)) (h:Heap C) (tr:Tr),dB.Nodup->Ex e (Cm dB os k) h nx a h' cM tr ->
 ∃h1 oS,os.length=dB.length/\(∀(j id:Nat) (o:Obj C),dB[j]? = some id->os[j]? = some o->h1.get id=some o)/\(∀id,id∉dB->h1.get id=h.get id)/\Ex e k h1 nx a h' cM oS
 |[],[],h,tr,_,hx=>⟨h,tr,rfl,by simp,fun _ _=>rfl,hx⟩
 |id::r,o::os,h,tr,hn,hx=>by
  obtain⟨o',t',ho,hx,_⟩:=Ex.wr hx;have hs:(h.get id).isSome=true:=by rw[ho];rfl
  obtain⟨oC,ng⟩:=List.nodup_cons.1 hn;obtain⟨h1,oS,q1,q2,q3,q4⟩:=Dh r os _ _ ng hx;refine⟨h1,oS,by simp[q1],fun j i p hj hp=>?_,fun i hi=>?_,q4⟩
  ·cases j with
   |zero=>
    simp at hj hp;subst hj;subst hp;rw[q3 _ oC,Qu hs];simp
   |succ j=>exact q2 j i p (by simpa using hj) (by simpa using hp)
  ·simp only[aZ,not_or]at hi;rw[q3 i hi.2,Qu hs];simp[hi.1]
 |[],_::_,_,_,_,hx=>Ex.cI hx
 |_::_,[],_,_,_,hx=>Ex.cI hx
def idx:bU->Nat->Nat
 |[],_=>0
 |a::l,n=>bif Nat.beq a n then 0 else idx l n+1
theorem Ka:∀(l:bU) (n:Nat),n∈l->l[idx l n]? = some n
 |[],n,h=>by simp at h
 |a::l,n,h=>by
  rw[idx];cases hb:Nat.beq a n with
  |true=>simp[az hb]
  |false=>
   have gm:=Nat.ne_of_beq_eq_false hb;simp only[aZ]at h;rcases h with h|h
   ·exact absurd h.symm gm
   ·simpa using Ka l n h
def Hr(n:Nat):bU->Bool
 |[]=>true
 |a::l=>!(Nat.beq a n)&&Hr n l
theorem T5{n:Nat}:∀{l:bU},Hr n l=true->n∉l
 |[],_=>by simp
 |a::l,h=>by
  simp only[Hr,ai,Bool.not_eq_true']at h;simp only[aZ,not_or];exact⟨fun e=>Nat.ne_of_beq_eq_false h.1 e.symm,T5 h.2⟩
def KJ:bU->Bool
 |[]=>true
 |a::l=>Hr a l&&KJ l
theorem Y2:∀{l:bU},KJ l=true->l.Nodup
 |[],_=>List.nodup_nil
 |a::l,h=>by
  simp only[KJ,ai]at h;exact List.nodup_cons.2 ⟨T5 h.1,Y2 h.2⟩
def pE(dB l:bU):Bool:=l.all fun r=>dB.any (Nat.beq r)
theorem Vb{dB l:bU}(h:pE dB l=true):∀r∈l,r∈dB:=by
 intro r hr;have:=aX.1 h r hr;obtain⟨x,hx,e⟩:=List.any_eq_true.1 this;rw[az e];exact hx
inductive RT(C:ij) where
 |fail
 |leaf (x:Ev.X) (env:Env C) (os:List (Obj C))
 |br (b:Bool) (l r:RT C)
def RT.val:RT C->Option ((Ev.X×Env C)×List (Obj C))
 |.fail=>none
 |.leaf x env os=>some ((x,env),os)
 |.br b l r=>bif b then l.val else r.val
def RT.pg(dB:bU):RT C->Pg C (Ev.X×Env C)
 |.fail=>.fail
 |.leaf x env os=>Cm dB (os.map (Obj.eT fun j=>dB.getD j 0)) (.ret (x,nA (fun j=>dB.getD j 0) env))
 |.br b l r=>.br b (l.pg dB) (r.pg dB)
theorem RT.pJ{e:Pg.Lv}{a:Ev.X×Env C}{h h':Heap C}{nx cM:Nat}{dB:bU}:∀(t:RT C) (tr:Tr),Ex e (t.pg dB) h nx a h' cM tr->∃x env os,t.val=some ((x,env),os)/\Ex e (Cm dB (os.map (Obj.eT fun j=>dB.getD j 0)) (.ret (x,nA (fun j=>dB.getD j 0) env))) h nx a h' cM tr
 |.fail,tr,hx=>Ex.cI hx
 |.leaf x env os,tr,hx=>⟨x,env,os,rfl,hx⟩
 |.br b l r,tr,hx=>by
  rcases Ex.br hx with⟨rfl,hx⟩|⟨rfl,hx⟩
  ·exact RT.pJ l tr hx
  ·exact RT.pJ r tr hx
def pK(T:fA C)(fs:du)(dW:bU)(pd:Env C->List (Obj C)->RT C)(env:Env C):Pg C (Ev.X×Env C):=
 rO T fs env [] fun env dB=>bif KJ dB then HU dB fun os=>
  bif pE dB (dW.flatMap fun t=>(c8 env t).refs)&&pE dB (os.flatMap Obj.refs)then
   (pd (dW.map fun t=>(t,(c8 env t).eT (idx dB))) (os.map (Obj.eT (idx dB)))).pg dB
  else .fail
 else .fail
theorem Obj.eH(f g:Nat->Nat)(o:Obj C)(h:∀id∈o.refs,g (f id)=id):(o.eT f).eT g=o:=by
 cases o with
 |var t d=>simp only[Obj.eT];rw[D.eH f g d h]
 |cj t dM l=>rfl
 |map _ _ _=>rfl
 |ek _=>rfl
theorem Qyo(K:Zq P T)(F:Qj P T Φ){g key:Nat}{fs:du}{dW:bU}{pd:Env C->List (Obj C)->RT C}{σ:Type}{S:v8 C σ}
 (hr:∀fn body b,Φ.fn g=some fn->fn.body=some body->b∈Zi body->QF b=key->N1 T Φ g b S)
 (kS:∀fe os x dj fm,(pd fe os).val=some ((x,dj),fm)->∃q,S.Inv q/\(∀p∈S.cS q,p∈fe)/\os=S.cR q/\S.fin q=(x,dj)/\S.fy q=fm):G5 P T Φ g key (pK T fs dW pd):=by
 intro fn body b hf hb sE j9 B hB X h nx lim e env x dj h' cM tr a Q gg he eA fN hx hk;obtain⟨f1,f2,f3⟩:=F.fn g fn hf;obtain⟨c1,c2⟩:=ZV body (f3 body hb) b sE;have nl:=hr fn body b hf hb sE j9;obtain⟨X1,h1,pS,eD,dB,oS,w1,g1,s1,oC,e1,mw⟩:=ML K eA fs X h nx tr env [] gg he hx;cases lC:KJ dB with
 |false=>rw[lC]at mw;exact Ex.cI mw
 |true=>
 rw[lC]at mw;simp only[ag]at mw;have js:=Y2 lC;obtain⟨os,mQ,dc,qP,fW⟩:=Dg dB _ _ mw;cases iY:pE dB (dW.flatMap fun t=>(c8 eD t).refs)&&pE dB (os.flatMap Obj.refs)with
 |false=>rw[iY]at fW;exact Ex.cI fW
 |true=>
 rw[iY]at fW;simp only[ag]at fW;simp only[ai]at iY;have qj:=Vb iY.1;have pz:=Vb iY.2;obtain⟨xx,ee,fm,hq,yS⟩:=RT.pJ _ _ fW
 ··obtain⟨q,hI,kT,kC,kv,lq⟩:=kS _ _ _ _ _ hq;obtain⟨gn,kK,_⟩:=nl q hI;obtain⟨h2,Rm,nR,pD,s8,yT⟩:=Dh dB _ h1 _ js yS;obtain⟨kh,eh,en,_⟩:=Ex.ret yT;obtain⟨rfl,rfl⟩:=Prod.mk.inj kh;subst eh;subst en
   let f:Nat->Nat:=fun j=>dB.getD j 0
   have oB:∀j,j<dB.length->dB[j]? = some (f j):=fun j hj=>by simp[f,hj]
   have sP:dB.length=S.k:=by rw[<-gn.1,<-kC];simp[dc]
   have qM:∀r,r∈dB->f (idx dB r)=r:=fun r hr=>by
    have:=Ka dB r hr;simp only[f,ar,this,ba]
   have jH:(S.cR q).length=dB.length:=by rw[gn.1,sP]
   have part:Part h1 (S.cR q) f:=by
    refine⟨fun j o ho=>?_,fun i j hi hj lP=>?_,fun o ho r hr=>by rw[gn.1];exact gn.2.2 o ho r hr⟩
    ·rw[<-kC,bB]at ho;cases lg:os[j]? with
     |none=>simp[lg]at ho
     |some o0=>
      simp only[lg,bC,aD]at ho;have hj:j<dB.length:=by rw[<-dc];exact(av.1 lg).1
      rw[qP j (f j) o0 (oB j hj) lg,<-ho,Obj.eH];intro id dU;exact qM id (pz id (List.mem_flatMap.2 ⟨o0,List.mem_of_getElem? lg,dU⟩))
    ·rw[jH]at hi hj;have:=(List.getElem?_inj hi js (j:=j)).1 (by rw[oB i hi,oB j hj];simp only[f]at lP ⊢;rw[lP]);exact this
   have g2:=Part.ctx K.base g1 part (S.cR q).length
   have e2:QE T (X1.part (S.cR q).length f) (S.cR q).length (eQ (S.cR q).length) (S.cS q) a.tmps:=by
    refine QE.part K.base e1 part.inj (fun p hp=>?_) (fun p hp r hr=>by rw[gn.1];exact gn.2.1 p hp r hr);have:=kT p hp;simp only[List.mem_map]at this;obtain⟨t,ht,rfl⟩:=this;simp only;rw[D.eH];intro id dU;exact qM id (qj id (List.mem_flatMap.2 ⟨t,ht,dU⟩))
   rw[gn.1]at g2 e2;rw[<-w1];show(Code.loop b).wp P Q a (X1.part S.k f).w;refine wp_loop_rounds (S.μ q+1) (Un K F nl hf hb c1 c2 hB (S.μ q+1) q (X1.part S.k f) a hI (by omega) g2 e2 fN fun a' X' g' s' e' pB uX vo=>?_);rw[lq]at g';rw[kv]at e';have ko:fm.length=(S.cR q).length:=by rw[<-lq,kK.1,gn.1]
   have lr:∀o∈fm,∀r∈Obj.refs o,r<(S.cR q).length:=fun o ho r hr=>by rw[gn.1];exact kK.2.2 o (by rw[lq];exact ho) r hr
   obtain⟨X2,w2,g3,s3,hρ,rS⟩:=Part.back K.base g1 part ko lr (X1:=X') (lim1:=eQ S.k) (h':=h') (by rw[gn.1];exact g') (by rw[gn.1];exact s') (fun j o hj=>by
    have cY:j<dB.length:=by rw[<-jH,<-ko];exact(av.1 hj).1
    exact pD j (f j) _ (oB j cY) (by rw[bB,hj];rfl)) (fun id dU=>by
    refine s8 id fun hm=>?_;obtain⟨j,hj,yy⟩:=List.getElem_of_mem hm;refine dU j (by rw[jH];exact hj) ?_;simp[f,hj,yy])
   have gD:∀j,j<S.k->fL cM lim (f j):=fun j hj=>by
    have mr:j<(S.cR q).length:=by rw[gn.1];exact hj
    exact(g1.eY _ _ (part.ot j (S.cR q)[j] (by simp[mr]))).1
   have e3:=QE.back (nx:=cM) (lim:=lim) (f:=f) K.base e' (fun p hp r hr=>kK.2.1 p (by rw[kv];exact hp) r hr) (fun j hj=>hρ j (by rw[gn.1];exact hj)) ⟨rS⟩ gD;have:=hk a' X2 g3 (s1.trans s3 oC) e3 pB (uX.y3 g3 (by show X.w.heap.size<=X1.w.heap.size;rw[w1];exact aq _) w2) vo;rw[w2]at this;rw[kv];exact this
def ue:Nat->Nat->Heap C->List (Option (Obj C))
 |_,0,_=>[]
 |n,k+1,h=>h.get n::ue (n+1) k h
theorem YH:∀(k n:Nat) (h:Heap C) (os:List (Obj C)),ue n k h=os.map some->∀j,j<k->h.get (n+j)=os[j]?
 |0,_,_,_,_,j,hj=>by omega
 |k+1,n,h,[],e,j,hj=>by simp[ue]at e
 |k+1,n,h,o::os,e,j,hj=>by
  simp only[ue,List.map_cons,List.cons.injEq]at e;cases j with
  |zero=>simpa using e.1
  |succ j=>
   have:=YH k (n+1) h os e.2 j (by omega);rw[show n+(j+1)=n+1+j by omega,this];simp
def to(T:fA C)(env:Env C)(h:Heap C):du->bU->gH
 |[],dB=>some dB
 |.slot t i::r,dB=>match (c8 env t).refs[i]? with
  |some id=>to T env h r (dB++[id])
  |none=>none
 |.wW t::r,dB=>match (c8 env t).refs[0]? with
  |some id=>to T env h r (dB++[id])
  |none=>none
 |.path j p::r,dB=>match dB[j]? with
  |some th=>match h.get th with
   |some (.var _ d)=>match fg T d p with
    |some x=>match x.refs with
     |id::_=>to T env h r (dB++[id])
     |[]=>none
    |none=>none
   |_=>none
  |none=>none
def N2:Nat->bU->Bool
 |_,[]=>true
 |n,i::l=>Nat.beq i n&&N2 (n+1) l
def xJ(h:Heap C)(g:Nat->Nat):bU->Option (List (Obj C))
 |[]=>some []
 |i::l=>match h.get i,xJ h g l with
  |some o,some r=>some (o.eT g::r)
  |_,_=>none
def uE{α:Type}(k:Option α):Nat->bU->List (Obj C)->List (Obj C)->Option α
 |_,[],_,_=>k
 |n,i::l,o::os,o'::fm=>bif Nat.beq i n then uE k (n+1) l os fm else(match o,o' with
  |.cj t _ x,.cj t' _ x'=>bif decide (t'=t)then(bif Nat.blt x.length x'.length then uE k (n+1) l os fm else none)else none
  |_,_=>none)
 |_,_,_,_=>none
def settle(T:fA C)(fs:du)(k:Nat)(kc:bU)(os:List (Obj C))(env:Env C)(h:Heap C):Option ((Ev.X×Env C)×List (Option (Obj C))):=
 match to T env h fs []with
 |none=>some ((.normal,qT kc env),ue 0 k h)
 |some dB=>bif N2 0 dB then some ((.normal,qT kc env),ue 0 k h)else
  bif KJ dB&&Nat.beq dB.length k&&pE dB ((qT kc env).flatMap fun p=>p.2.refs)&&pE dB (dB.flatMap fun i=>match h.get i with|some o=>o.refs|none=>[])then(match xJ h (idx dB) dB with
   |some fm=>uE (some ((.normal,nA (idx dB) (qT kc env)),fm.map some)) 0 dB os fm
   |none=>none)else none
noncomputable def eF(T:fA C)(Φ:jv C)(g key n k:Nat)(kc kf:bU)(fs:du)(env:Env C)(os:List (Obj C)):Option ((Ev.X×Env C)×List (Option (Obj C))):=(kl T Φ n g (KF Φ g key) env).run (0,0) (ic 0 os) k [] fun a h _ _=>match a.1 with
 |.normal=>settle T fs k kc os a.2 h
 |x=>some ((x,qT kf a.2),ue 0 k h)
theorem Uo{α:Type}{k:Option α}{a:α}:∀(l:bU) (n:Nat) (os fm:List (Obj C)),uE k n l os fm=some a->k=some a/\∀j,j<l.length->l.getD j 0=n+j\/∃t dM x gF x',os[j]? = some (.cj t dM x)/\fm[j]? = some (.cj t gF x')/\x.length<x'.length
 |[],n,os,fm,h=>⟨by simpa[uE]using h,fun j hj=>by simp at hj⟩
 |i::l,n,[],_,h=>by simp[uE]at h
 |i::l,n,o::os,[],h=>by simp[uE]at h
 |i::l,n,o::os,o'::fm,h=>by
  simp only[uE]at h
  have step:uE k (n+1) l os fm=some a->(i=n\/∃t dM x gF x',o=.cj t dM x/\o'=.cj t gF x'/\x.length<x'.length)->k=some a/\∀j,j<(i::l).length->(i::l).getD j 0=n+j\/∃t dM x gF x',(o::os)[j]? = some (.cj t dM x)/\(o'::fm)[j]? = some (.cj t gF x')/\x.length<x'.length:=by
   intro h1 h2;obtain⟨h3,h4⟩:=Uo l (n+1) os fm h1;refine⟨h3,fun j hj=>?_⟩;cases j with
   |zero=>simpa using h2
   |succ j=>
    have:=h4 j (by simpa using hj);simp only[List.getD_cons_succ,List.getElem?_cons_succ];rcases this with h5|h5
    ·left;omega
    ·exact .inr h5
  cases hb:Nat.beq i n with
  |true=>rw[hb]at h;exact step h (.inl (az hb))
  |false=>
   rw[hb]at h;simp only[ah]at h;cases o with
   |var t d=>simp at h
   |map _ _ _=>simp at h
   |ek _=>simp at h
   |cj t dM x=>
    cases o' with
    |var t d=>simp at h
    |map _ _ _=>simp at h
    |ek _=>simp at h
    |cj t' gF x'=>
     simp only at h;cases ht:decide (t'=t)with
     |false=>rw[ht]at h;cases h
     |true=>
      rw[ht]at h;have ht:t'=t:=by simpa using ht
      subst ht;cases hl:Nat.blt x.length x'.length with
      |false=>rw[hl]at h;cases h
      |true=>
       rw[hl]at h;exact step h (.inr ⟨t',dM,x,gF,x',rfl,rfl,by simpa[Nat.blt_eq]using hl⟩)
theorem Up{h:Heap C}{g:Nat->Nat}:∀(l:bU) (os:List (Obj C)),xJ h g l=some os->os.length=l.length/\∀(j i:Nat),l[j]? = some i->∃o,h.get i=some o/\os[j]? = some (o.eT g)
 |[],os,e=>by simp[xJ]at e;subst e;simp
 |i::l,os,e=>by
  simp only[xJ]at e;cases h1:h.get i with
  |none=>simp[h1]at e
  |some o=>
   cases h2:xJ h g l with
   |none=>simp[h1,h2]at e
   |some r=>
    simp only[h1,h2,aD]at e;subst e;obtain⟨a1,a2⟩:=Up l r h2;refine⟨by simp[a1],fun j i' hj=>?_⟩;cases j with
    |zero=>simp at hj;subst hj;exact⟨o,h1,rfl⟩
    |succ j=>exact a2 j i' (by simpa using hj)
def CU{σ:Type}(S:v8 C σ)(s:σ)(r:(Ev.X×Env C)×List (Option (Obj C))):Prop :=
 (r.1.1=.normal/\∃s',S.Inv s'/\S.μ s'<S.μ s/\S.fin s'=S.fin s/\S.fy s'=S.fy s/\r.1.2=S.cS s'/\r.2=(S.cR s').map some)\/(r.1.1 ≠ .normal/\r.1=S.fin s/\r.2=(S.fy s).map some)
theorem QCg:∀(l:bU) (env:Env C) (p:Nat×D C),p∈qT l env->c8 env p.1=p.2:=fun l env p hp=>KG l env p hp
theorem mE{fs:du}{k:Nat}{kc:bU}{os:List (Obj C)}{env:Env C}{h:Heap C}{r:(Ev.X×Env C)×List (Option (Obj C))}(hr:settle T fs k kc os env h=some r)(qP:os.length=k) :
 (r=((.normal,qT kc env),ue 0 k h))\/∃fe fm,r=((.normal,fe),fm.map some)/\∃f,(∀p∈fe,c8 env p.1=p.2.eT f)/\(fm.length=k/\(∀j o,fm[j]? = some o->h.get (f j)=some (o.eT f))/\(∀i j,i<fm.length->j<fm.length->f i=f j->i=j))/\xh os fm f:=by
 unfold settle at hr;cases hm:to T env h fs []with
 |none=>rw[hm]at hr;simp only[aD]at hr;exact .inl hr.symm
 |some dB=>
  rw[hm]at hr;simp only at hr;cases hb:N2 0 dB with
  |true=>rw[hb]at hr;simp only[ag,aD]at hr;exact .inl hr.symm
  |false=>
   rw[hb]at hr;simp only[ah]at hr;cases hc:KJ dB&&Nat.beq dB.length k&&pE dB ((qT kc env).flatMap fun p=>p.2.refs)&&pE dB (dB.flatMap fun i=>match h.get i with|some o=>o.refs|none=>[])with
   |false=>rw[hc]at hr;cases hr
   |true=>
    rw[hc]at hr;simp only[ag]at hr;simp only[ai]at hc;obtain⟨⟨⟨c1,c2⟩,c3⟩,c4⟩:=hc;have c1:=Y2 c1;have c2:=az c2;have c3:=Vb c3;have c4:=Vb c4;cases ho:xJ h (idx dB) dB with
    |none=>rw[ho]at hr;cases hr
    |some fm=>
     rw[ho]at hr;simp only at hr;obtain⟨q1,q2⟩:=Uo _ _ _ _ hr;simp only[aD]at q1;obtain⟨o1,o2⟩:=Up _ _ ho
     have qM:∀x,x∈dB->dB.getD (idx dB x) 0=x:=fun x hx=>by
      have:=Ka dB x hx;simp only[ar,this,ba]
     refine .inr ⟨_,fm,q1.symm,fun j=>dB.getD j 0,fun p hp=>?_,⟨by rw[o1,c2],fun j o hj=>?_,fun i j hi hj lP=>?_⟩,fun j hj=>?_⟩
     ·simp only[nA,List.mem_map]at hp;obtain⟨p0,hp0,rfl⟩:=hp;simp only;rw[QCg kc env p0 hp0,D.eH];intro id dU;exact qM id (c3 id (List.mem_flatMap.2 ⟨p0,hp0,dU⟩))
     ·have hjl:j<dB.length:=by rw[<-o1];exact(av.1 hj).1
      obtain⟨o0,a1,a2⟩:=o2 j (dB.getD j 0) (by simp[hjl]);rw[hj]at a2;simp only[aD]at a2;rw[a1,a2,Obj.eH];intro id dU;exact qM id (c4 id (List.mem_flatMap.2 ⟨dB.getD j 0,by rw[ar];simp[hjl],by rw[a1];exact dU⟩))
     ·rw[o1]at hi hj
      exact(List.getElem?_inj hi c1 (j:=j)).1 (by
       simp only[ar]at lP;simp only[hi,hj,aY,ba]at lP ⊢;rw[lP])
     ·have:=q2 j (by rw[c2,<-qP];exact hj)
      simpa using this
theorem Qj.p8(K:Zq P T)(F:Qj P T Φ){g key:Nat}(lA:uD (J9 Φ g)=true){σ:Type}(S:v8 C σ)(n:Nat)(kc kf:bU)(OU fs:du)(dW:bU)(pd:Env C->List (Obj C)->RT C)
 (hr:∀q,S.Inv q->Qk S.k (S.cS q) (S.cR q)/\Qk S.k (S.fin q).2 (S.fy q)/\dw (eF T Φ g key n S.k kc kf OU (S.cS q) (S.cR q)) (CU S q))
 (kS:∀fe os x dj fm,(pd fe os).val=some ((x,dj),fm)->∃q,S.Inv q/\(∀p∈S.cS q,p∈fe)/\os=S.cR q/\S.fin q=(x,dj)/\S.fy q=fm):Qj P T (Φ.cP g key (pK T fs dW pd)):=by
 refine F.cP (Qyo K F (S:=S) (fun fn body b hf hb hm j9 q hI=>?_) kS);obtain⟨h1,h2,r,h3,h4⟩:=hr q hI;rw[eF,Ms lA hf hb hm j9]at h3;obtain⟨⟨x,dj⟩,h',cM,tr,h5,h6⟩:=Pg.fK h3;refine⟨h1,h2,n,x,dj,h',cM,tr,h5,?_⟩;cases x with
 |normal=>
  simp only at h6;rcases mE h6 h1.1 with hs|⟨fe,fm,hs,f,f1,⟨f2,f3,f4⟩,f5⟩
  ·subst hs;rcases h4 with⟨h4,s',a1,a2,a3,xQ,a4,a5⟩|⟨h4,h7,h8⟩
   ·have hg:=YH S.k 0 h' _ a5;simp only[aN]at hg;exact .inl ⟨rfl,s',a1,a2,a3,xQ,by rw[<-a4];exact KG _ _,hg⟩
   ·exact(h4 rfl).elim
  ·subst hs;rcases h4 with⟨h4,s',a1,a2,a3,xQ,a4,a5⟩|⟨h4,h7,h8⟩
   ·simp only at a4 a5;have a5:fm=S.cR s':=List.map_inj_right (fun _ _ h=>aj h) |>.1 a5;subst a4;subst a5;obtain⟨b1,_⟩:=hr s' a1;exact .inr (.inl ⟨rfl,s',f,a1,a2,a3,xQ,f1,⟨f3,f4,by rw[b1.1];exact b1.2.2⟩,f5⟩)
   ·exact(h4 rfl).elim
 |exit id=>
  simp only[aD]at h6;subst h6;rcases h4 with⟨h4,_⟩|⟨h4,h7,h8⟩
  ·cases h4
  ·have hg:=YH S.k 0 h' _ h8;simp only[aN]at hg;exact .inr (.inr ⟨by simp,by rw[<-h7],by rw[<-h7];exact KG _ _,hg⟩)
 |ret=>
  simp only[aD]at h6;subst h6;rcases h4 with⟨h4,_⟩|⟨h4,h7,h8⟩
  ·cases h4
  ·have hg:=YH S.k 0 h' _ h8;simp only[aN]at hg;exact .inr (.inr ⟨by simp,by rw[<-h7],by rw[<-h7];exact KG _ _,hg⟩)
end
section
variable {C:ij}{P:Program}{T:fA C}{Φ:jv C}
open Pg (Ex)
structure QK(C:ij)(σ:Type) where
 (k:Nat)(cS:σ->Env C)(cR:σ->List (Obj C))(fin:σ->RT C)(Inv:σ->Prop)(μ:σ->Nat)
def dF{σ:Type}(S:QK C σ)(s:σ)(r:(Ev.X×Env C)×List (Option (Obj C))):Prop :=
 (r.1.1=.normal/\∃s',S.Inv s'/\S.μ s'<S.μ s/\(S.fin s').val=(S.fin s).val/\r.1.2=S.cS s'/\r.2=(S.cR s').map some)\/(r.1.1 ≠ .normal/\∃os,(S.fin s).val=some (r.1,os)/\r.2=os.map some)
def RT.da(k:Nat):RT C->Prop
 |.fail=>False
 |.leaf _ env os=>Qk k env os
 |.br _ l r=>l.da k/\r.da k
theorem RT.ja{k:Nat}:∀{t:RT C},t.da k->∃x env os,t.val=some ((x,env),os)/\Qk k env os
 |.leaf x env os,h=>⟨x,env,os,rfl,h⟩
 |.br b l r,h=>by
  cases b with
  |true=>exact RT.ja (t:=l) h.1
  |false=>exact RT.ja (t:=r) h.2
def QK.toO{σ:Type}(S:QK C σ):v8 C σ where
 k:=S.k
 cS:=S.cS
 cR:=S.cR
 fin q:=match (S.fin q).val with
  |some r=>r.1
  |none=>(.ret,[])
 fy q:=match (S.fin q).val with
  |some r=>r.2
  |none=>[]
 Inv:=S.Inv
 μ:=S.μ
def rL{σ:Type}(S:QK C σ)(d:Env C->List (Obj C)->Option (Bool×σ))(env:Env C)(os:List (Obj C)):RT C:=match d env os with
 |some (b,q)=>.br b (S.fin q) .fail
 |none=>.fail
def eZ(T:fA C)(fs:du)(dW:bU){σ:Type}(S:QK C σ)(d:Env C->List (Obj C)->Option (Bool×σ)):Env C->Pg C (Ev.X×Env C):=pK T fs dW (rL S d)
theorem Qj.cJ(K:Zq P T)(F:Qj P T Φ){g key:Nat}(lA:uD (J9 Φ g)=true){σ:Type}(S:QK C σ)(n:Nat)(kc kf:bU)(fs:du)(dW:bU)(d:Env C->List (Obj C)->Option (Bool×σ))
 (hr:∀q,S.Inv q->Qk S.k (S.cS q) (S.cR q)/\(S.fin q).da S.k/\dw (eF T Φ g key n S.k kc kf fs (S.cS q) (S.cR q)) (dF S q))
 (hd:∀env os b q,d env os=some (b,q)->b=true->S.Inv q/\S.cS q=env/\S.cR q=os):Qj P T (Φ.cP g key (eZ T fs dW S d)):=by
 refine F.p8 K lA S.toO n kc kf fs fs dW (rL S d) (fun q hI=>?_) ?_
 ·obtain⟨h1,h2,r,h3,h4⟩:=hr q hI;obtain⟨x,env,os,hv,jk⟩:=RT.ja h2;refine⟨h1,by simp only[QK.toO,hv];exact jk,r,h3,?_⟩;rcases h4 with⟨a1,s',a2,a3,a4,a5,a6⟩|⟨a1,fm,a2,a3⟩
  ·exact .inl ⟨a1,s',a2,a3,by simp only[QK.toO,a4],by simp only[QK.toO,a4],a5,a6⟩
  ·exact .inr ⟨a1,by simp only[QK.toO,a2],by simp only[QK.toO,a2];exact a3⟩
 ·intro fe os x dj fm h;unfold rL at h
  split at h
  ·rename_i b q hq;cases b with
   |false=>simp[RT.val]at h
   |true=>
    obtain⟨h1,h2,h3⟩:=hd _ _ _ _ hq rfl;simp only[RT.val,ag]at h;exact⟨q,h1,fun p hp=>by rw[<-h2];exact hp,h3.symm,by simp only[QK.toO,h],by simp only[QK.toO,h]⟩
  ·simp[RT.val]at h
def Qv{α:Type}(b:Bool)(x:α):Option α:=bif b then some x else none
theorem Qe{α:Type}{b:Bool}{x y:α}(h:Qv b x=some y):b=true/\x=y:=by
 cases b with
 |false=>cases h
 |true=>exact⟨rfl,aj h⟩
theorem Qg{σ:Type}{S:QK C σ}{s:σ}{env:Env C}{os:List (Option (Obj C))}(s':σ)(h1:S.Inv s')(h2:S.μ s'<S.μ s)(h3:(S.fin s').val=(S.fin s).val)(h4:env=S.cS s')(h5:os=(S.cR s').map some):dw (some ((Ev.X.normal,env),os)) (dF S s):=
 Gp.2 (.inl ⟨rfl,s',h1,h2,h3,h4,h5⟩)
theorem Qi{σ:Type}{S:QK C σ}{s:σ}{i:Nat}{env:Env C}{os:List (Option (Obj C))}(fm:List (Obj C))(h1:(S.fin s).val=some ((.exit i,env),fm))(h2:os=fm.map some):dw (some ((Ev.X.exit i,env),os)) (dF S s):=
 Gp.2 (.inr ⟨by simp,fm,h1,h2⟩)
theorem QT{σ:Type}{S:QK C σ}{s:σ}{env:Env C}{os:List (Option (Obj C))}(fm:List (Obj C))(h1:(S.fin s).val=some ((.ret,env),fm))(h2:os=fm.map some):dw (some ((Ev.X.ret,env),os)) (dF S s):=
 Gp.2 (.inr ⟨by simp,fm,h1,h2⟩)
end
theorem IY{a b:Int}(h:a=b):(a==b)=true:=by simp[h]
theorem IZ{a b:Int}(h:¬a=b):(a==b)=false:=by simp[h]
theorem I0{a b:Int}(h:¬a=b):(a !=b)=true:=by simp[h]
theorem I1{a b:Int}(h:a=b):(a !=b)=false:=by simp[h]
theorem Za{a b:Nat}(h:a=b):Nat.beq a b=true:=by simp[h]
theorem Zb{n b:Nat}(h:n*b<=1099511627776):Qf n b=true:=by simp[Qf,h]
theorem uF{n:Int}(h:-9223372036854775808<=n/\n<=9223372036854775807):IntKind.i64.wrap n=n:=cu h.1 h.2
def Zu(n:Int):UInt8:=UInt8.ofNat (IntKind.u8.wrap n).toNat
def fX(n:Int):Nat->bK
 |0=>[]
 |w+1=>Zu n::fX (n.fdiv 256) w
def cf:bK->Nat
 |[]=>0
 |x::l=>x.toNat+256*cf l
def QU(n:Int)(w:Nat):Bool:=decide (0<=n)&&decide (n<256^w)
def dO(b:bK)(n:Int)(w:Nat):bK:=bif QU n w then b++fX n w else[]
theorem Qw:∀(w:Nat) (n:Int),(fX n w).length=w
 |0,_=>rfl
 |w+1,n=>by simp[fX,Qw w]
theorem DI(n:Int):IntKind.u8.wrap n=n%256:=by
 simp[IntKind.wrap,IntKind.bits,IntKind.signed]
theorem Uq n:((Zu n).toNat:Int)=n%256:=by
 rw[Zu,DI,UInt8.toNat_ofNat',Nat.mod_eq_of_lt (by omega)];omega
theorem MM:∀l:bK,cf l<256^l.length
 |[]=>by simp[cf]
 |x::l=>by
  have h1:=MM l;have h2:=x.toNat_lt;have h3:256^(x::l).length=256*256^l.length:=by simp[Nat.pow_succ,Nat.mul_comm]
  rw[h3,cf];omega
theorem KK:∀(l m:bK),cf (l++m)=cf l+256^l.length*cf m
 |[],m=>by simp[cf]
 |x::l,m=>by
  simp only[aP,cf,KK l m,aE,Nat.pow_succ];rw[Nat.mul_add,<-Nat.mul_assoc,Nat.mul_comm 256 (256^l.length),Nat.add_assoc]
theorem T6{n:Int}(h:0<=n):0<=n.fdiv 256/\n.fdiv 256=n/256:=by
 have:n.fdiv 256=n/256:=aQ n (by omega);rw[this];omega
theorem Mt:∀(w:Nat) (n:Int),0<=n->n<256^w->(cf (fX n w):Int)=n
 |0,n,h0,h1=>by simp at h1;simp[fX,cf];omega
 |w+1,n,h0,h1=>by
  obtain⟨h2,h3⟩:=T6 h0
  have h4:n.fdiv 256<256^w:=by
   rw[h3];rw[Int.pow_succ]at h1;omega
  have:=Mt w _ h2 h4;simp only[fX,cf,Int.natCast_add,Uq];rw[Int.natCast_mul,this,h3];omega
theorem Mu:∀(l:bK),fX (cf l) l.length=l
 |[]=>rfl
 |x::l=>by
  simp only[aE,fX,cf];have h:=x.toNat_lt
  have h0:((x.toNat+256*cf l:Nat):Int).fdiv 256=cf l:=by
   rw[aQ _ (by omega)];omega
  have h1:Zu ((x.toNat+256*cf l:Nat):Int)=x:=by
   apply UInt8.toNat_inj.1;have:=Uq ((x.toNat+256*cf l:Nat):Int);omega
  rw[h0,h1,Mu l]
theorem YI{n:Int}{w:Nat}:QU n w=true↔0<=n/\n<256^w:=by simp[QU]
theorem _root_.Int.hZ{n m:Int}(h0:0<=n)(hp:0<m):n/m=0↔n<m:=by
 constructor
 ·intro h;have:=Int.lt_ediv_add_one_mul_self n hp;rw[h]at this;omega
 ·intro h;exact Int.ediv_eq_zero_of_lt h0 h
theorem QgN(n i:Nat)(c:UInt8)(hn:n<256^i)(hi:i<7) :
 bits .i64 (fun _ u v=>u|||v) (n:Int) (IntKind.i64.wrap ((c.toNat:Int)*2^min (IntKind.i64.wrap (8*(i:Int))).toNat IntKind.i64.bits))=((n+c.toNat*256^i:Nat):Int):=by
 have hc:=c.toNat_lt;have hw:IntKind.i64.wrap (8*(i:Int))=((8*i:Nat):Int):=by rw[cu (by omega) (by omega)];simp
 have hm:min (8*i) 64=8*i:=by omega
 have hp:(2:Nat)^(8*i)=256^i:=by rw[Nat.pow_mul]
 have hb:256^i<=256^6:=Nat.pow_le_pow_right (by omega) (by omega);have jV:(256:Nat)^6=281474976710656:=by decide
 have hmul:c.toNat*256^i<=255*281474976710656:=Nat.mul_le_mul (by omega) (by omega)
 have e1:((c.toNat:Int)*2^min (IntKind.i64.wrap (8*(i:Int))).toNat IntKind.i64.bits)=((c.toNat*256^i:Nat):Int):=by
  rw[hw];simp only[bw,IntKind.bits,hm];rw[<-hp];simp
 rw[e1,cu (by omega) (by omega)];unfold bits
 have h1:∀x:Nat,x<2^64->(BitVec.ofInt IntKind.i64.bits (x:Int)).toNat=x:=by
  intro x hx;rw[BitVec.toNat_ofInt];simp only[IntKind.bits];omega
 rw[BitVec.toNat_or,h1 n (by omega),h1 _ (by omega)]
 have h2:n|||c.toNat*256^i=n+c.toNat*256^i:=by
  rw[<-hp]at hn ⊢;rw[Nat.or_comm,Nat.mul_comm,<-Nat.two_pow_add_eq_or_of_lt hn,Nat.add_comm]
 rw[h2,cu (by omega) (by omega)]
theorem Hs(c:UInt8):IntKind.i64.wrap (c.toNat:Int)=(c.toNat:Int):=by
 have:=c.toNat_lt;exact cu (by omega) (by omega)
theorem Qfq(n i:Nat)(c:UInt8)(hn:n<256^i)(hi:i<7) :
 bits .i64 (fun _ u v=>u|||v) (n:Int) (IntKind.i64.wrap (IntKind.i64.wrap (c.toNat:Int)*2^min (IntKind.i64.wrap (8*(i:Int))).toNat 64))=((n+c.toNat*256^i:Nat):Int):=by
 rw[Hs];exact QgN n i c hn hi
def cU(b:bK)(ot w:Int):Int×Int :=
 bif decide (1<=w)&&decide (w<=6)then
  (bif decide (0<=ot)&&decide (ot+w<=b.length)then((cf ((b.drop ot.toNat).take w.toNat):Int),0)else(0,50))
 else(0,2)
def Qm(n a b:Int):Bool:=decide (a<=n)&&decide (n<=b)
theorem Qp{x a b:Int}:Qm x a b=true↔a<=x/\x<=b:=by simp[Qm]
def QW{α:Type}(one:α->Bool)(two:α->α->Bool)(l:List α)(i:Nat):Bool:=qY one two (D8 l i) (l.drop i)
theorem Y3{α:Type}(one:α->Bool)(two:α->α->Bool)(l:List α)(i:Nat)(d:α)(cY:i<l.length) :
 QW one two l i=(one (l.getD i d)&&(decide (i=0)||two (l.getD (i-1) d) (l.getD i d))&&QW one two l (i+1)):=by
 unfold QW;rw[aJ cY];have hi:l.getD i d=l[i]:=by simp[ar,cY]
 have hn:D8 l (i+1)=some l[i]:=by simp[D8,cY]
 rw[hi,hn];simp only[qY];cases i with
 |zero=>simp[D8]
 |succ j=>
  have:j<l.length:=by omega
  simp[D8,this]
theorem LQ{α:Type}(one:α->Bool)(two:α->α->Bool)(l:List α)(i:Nat)(h:l.length<=i):QW one two l i=true:=by simp[QW,aO h,qY]
def Vy(w:Qq):Bool:=Qm w.key 0 23&&Qm w.value 0 255
def JC(x y:Qq):Bool:=decide (x.key<y.key)
def Yg(l:cA):Bool:=decide (l.length<=4)&&QW Vy JC l 0
def VI(x y:Item):Bool:=decide (x.key<y.key)
def Vh(p:Int)(x:Item):Bool:=Qm x.key 0 23&&Qm x.b8 1 p&&Qm x.value 0 255
def YW(x y:cC):Bool:=(y.offset==IntKind.i64.wrap (x.offset+1))&&(decide (x.b8<y.b8)||(x.b8==y.b8&&decide (x.j<y.j)))
def Vi(p:Int)(x:cC):Bool:=Qm x.offset 0 4194303&&Qm x.b8 1 p&&Qm x.j 0 3&&Qm x.key 0 7&&Qm x.value 0 255
def gj(r:Rec):Bool:=Qm r.b8 1 1048575&&Yg r.dV&&(r.yes||r.dV.isEmpty)
def YJ(p c:Int)(l:bJ):Bool:=Qm c 0 p&&decide (l.length<=16)&&(l.isEmpty||decide (c<(l.getD 0 ⟨0,0,0,0,0⟩).b8))&&QW (Vi p) YW l 0
def Qs(s:St):Bool:=Qm s.b8 0 1048575&&QW (Vh s.b8) VI s.bV 0&&YJ s.b8 s.c0 s.l0&&YJ s.b8 s.c1 s.l1&&YJ s.b8 s.c2 s.l2
def yb(w:Qq):Bool:=Qm w.key 0 255&&Qm w.value 0 255
def m8(x:Item):Bool:=Qm x.key 0 255&&Qm x.b8 0 16777215&&Qm x.value 0 255
def VJ(x:cC):Bool:=Qm x.b8 0 16777215&&Qm x.key 0 7&&Qm x.j 0 15&&Qm x.value 0 255
def YK(x:Item):bK:=fX x.key 1++fX x.b8 3++fX x.value 1
def ZJ(x:cC):bK:=fX x.b8 3++fX (x.key*16+x.j) 1++fX x.value 1
def QJ(l:bJ):Int:=(l.getD 0 ⟨0,0,0,0,0⟩).offset
def QB(c:Int)(l:bJ):bK:=fX c 3++fX l.length 1++fX (QJ l) 3++l.flatMap ZJ
def Vz(s:St):bK:=fX s.b8 3++fX s.bV.length 1++s.bV.flatMap YK++QB s.c0 s.l0++QB s.c1 s.l1++QB s.c2 s.l2
theorem Q7{b:bK}{n:Int}{w:Nat}(h:QU n w=true):dO b n w=b++fX n w:=by simp[dO,h]
theorem rP{n:Int}(h:Qm n 0 255=true):QU n 1=true:=by
 rw[Qp]at h;rw[YI];omega
theorem JD{n:Int}(h:Qm n 0 16777215=true):QU n 3=true:=by
 rw[Qp]at h;rw[YI];omega
theorem Qkj{k j:Int}(hk:Qm k 0 7=true)(hj:Qm j 0 15=true) :
 bits .i64 (fun _ u v=>u|||v) (IntKind.i64.wrap (k*2^min (Int.toNat 4) 64)) j=k*16+j:=by
 rw[Qp]at hk hj;obtain⟨k,rfl⟩:∃n:Nat,k=n:=⟨k.toNat,by omega⟩;obtain⟨j,rfl⟩:∃n:Nat,j=n:=⟨j.toNat,by omega⟩;have e:(k:Int)*2^min (Int.toNat 4) 64=((k*16:Nat):Int):=by simp
 rw[e,cu (by omega) (by omega)];unfold bits
 have h1:∀x:Nat,x<2^64->(BitVec.ofInt IntKind.i64.bits (x:Int)).toNat=x:=by
  intro x hx;rw[BitVec.toNat_ofInt];simp only[IntKind.bits];omega
 rw[BitVec.toNat_or,h1 _ (by omega),h1 _ (by omega)]
 have h2:k*16|||j=k*16+j:=by
  rw[Nat.mul_comm k 16,show(16:Nat)=2^4 from rfl,<-Nat.two_pow_add_eq_or_of_lt (by omega)]
 rw[h2,cu (by omega) (by omega)];simp
theorem Yh{α β:Type}(l:List α)(i:Nat)(f:α->List β)(h:i<l.length)(d:α):(l.drop i).flatMap f=f (l.getD i d)++(l.drop (i+1)).flatMap f:=by
 rw[aJ h,List.flatMap_cons];simp[h]
theorem GI{α:Type}{l:List α}{p:α->Bool}(h:l.all p=true){i:Nat}(hi:i<l.length)(d:α):p (l.getD i d)=true:=by
 have:l.getD i d=l[i]:=by simp[hi]
 rw[this];exact aX.1 h _ (bA hi)
theorem FY x:(YK x).length=5:=by simp[YK,Qw]
theorem Yz x:(ZJ x).length=5:=by simp[ZJ,Qw]
theorem Qyp{w:Qq}(h:Vy w=true):yb w=true:=by
 simp only[Vy,yb,ai,Qp]at h ⊢;omega
theorem Qyq{p:Int}{x:Item}(h:Vh p x=true)(hp:p<=1048575):m8 x=true:=by
 simp only[Vh,m8,ai,Qp]at h ⊢;omega
theorem Qyr{p:Int}{x:cC}(h:Vi p x=true)(hp:p<=1048575):VJ x=true:=by
 simp only[Vi,VJ,ai,Qp]at h ⊢;omega
theorem UX{α:Type}(one:α->Bool)(two:α->α->Bool):∀(l:List α) (p:Option α),qY one two p l=true->l.all one=true
 |[],_,_=>rfl
 |x::l,p,h=>by
  simp only[qY,ai]at h;simp only[List.all_cons,ai];exact⟨h.1.1,UX one two l _ h.2⟩
theorem YA{α:Type}{one:α->Bool}{two:α->α->Bool}{l:List α}(h:QW one two l 0=true):l.all one=true:=UX one two _ _ h
theorem Ns{α:Type}{p q:α->Bool}{l:List α}(h:l.all p=true)(oD:∀x,p x=true->q x=true):l.all q=true:=by
 rw[aX]at h ⊢;exact fun x hx=>oD x (h x hx)
theorem Xv{p:Int}:∀(l:bM) (k:Int),qY (Vh p) VI none l=true->(∀x∈l.head?,k<=x.key)->0<=k->k<=24->(l.length:Int)<=24-k
 |[],k,_,_,h0,h1=>by simp;omega
 |[x],k,h,hk,h0,h1=>by
  simp only[qY,Vh,ai,Qp]at h;have:=hk x (by simp);simp;omega
 |x::y::l,k,h,hk,h0,h1=>by
  simp only[qY,ai]at h;have hx:=h.1.1;simp only[Vh,ai,Qp]at hx;have nW:x.key<y.key:=by have:=h.2.1.2;simpa[VI]using this
  have hk':=hk x (by simp);have:=Xv (y::l) (x.key+1) (by simp only[qY,ai];exact⟨⟨h.2.1.1,trivial⟩,h.2.2⟩) (by simp;omega) (by omega) (by omega);simp only[aE]at this ⊢;omega
theorem Qrg{p:Int}{l:bM}(h:QW (Vh p) VI l 0=true):l.length<=24:=by
 have:=Xv l 0 (p:=p) h (by
  intro x hx;have h1:=YA h;have:=aX.1 h1 x (List.mem_of_mem_head? hx);simp only[Vh,ai,Qp]at this;omega) (by omega) (by omega)
 omega
theorem Qrh{p:Int}{y:Bool}{l:cA}(h:gj ⟨p,y,l⟩=true):(1<=p/\p<=1048575)/\l.length<=4/\l.all yb=true:=by
 simp only[gj,ai,Qp,Yg,aa]at h;exact⟨h.1.1,h.1.2.1,Ns (YA h.1.2.2) fun _=>Qyp⟩
theorem LR{p c:Int}{l:bJ}(hp:p<=1048575)(h:YJ p c l=true):(0<=c/\c<=1048575)/\l.length<=16/\l.all VJ=true/\(0<=QJ l/\QJ l<=4194303):=by
 simp only[YJ,ai,Qp,aa]at h;refine⟨by omega,h.1.1.2,Ns (YA h.2) fun x hx=>Qyr hx hp,?_⟩;cases l with
 |nil=>simp[QJ]
 |cons x l=>
  have:=aX.1 (YA h.2) x (by simp);simp only[Vi,ai,Qp]at this;simp only[QJ,List.getD_cons_zero];omega
theorem Vj{p:Int}{bV:bM}{l0 l1 l2:bJ}{c0 c1 c2:Int}(h:Qs ⟨p,bV,l0,l1,l2,c0,c1,c2⟩=true) :
 (0<=p/\p<=1048575)/\bV.length<=24/\bV.all m8=true /\
 ((0<=c0/\c0<=1048575)/\l0.length<=16/\l0.all VJ=true/\(0<=QJ l0/\QJ l0<=4194303)) /\
 ((0<=c1/\c1<=1048575)/\l1.length<=16/\l1.all VJ=true/\(0<=QJ l1/\QJ l1<=4194303)) /\
 ((0<=c2/\c2<=1048575)/\l2.length<=16/\l2.all VJ=true/\(0<=QJ l2/\QJ l2<=4194303)):=by
 simp only[Qs,ai,Qp]at h;obtain⟨⟨⟨⟨hp,hi⟩,h0⟩,h1⟩,h2⟩:=h;exact⟨hp,Qrg hi,Ns (YA hi) fun x hx=>Qyq hx hp.2,LR hp.2 h0,LR hp.2 h1,LR hp.2 h2⟩
theorem ZE{α β:Type}(l:List α)(f:α->List β)(n:Nat)(h:∀x,(f x).length=n):(l.flatMap f).length=n*l.length:=by
 induction l with
 |nil=>rfl
 |cons x l ih=>simp only[List.flatMap_cons,aC,h,ih,aE,Nat.mul_succ];omega
open Go.Proofs
abbrev kW:Type:=Option ((X×bX)×b9)
abbrev fG:Type:=jd
set_option maxRecDepth 100000
noncomputable def p0:jv RC:=Cl Tryz.prog 213 (fun f=>Nat.beq f 166||Nat.beq f 83||Nat.beq f 147||Nat.beq f 60||Nat.beq f 63||Nat.beq f 121||Nat.beq f 169||Nat.beq f 61||Nat.beq f 58||Nat.beq f 59||Nat.beq f 154||Nat.beq f 153||Nat.beq f 171||Nat.beq f 194)
theorem QCl:Qj Tryz.prog cF p0:=QoV (by kernel_rfl)
def Wv:bW->bO
 |[.int .i64 n,.int .i64 a,.int .i64 b]=>some (true,.bool (Qm n a b))
 |_=>none
def Xw(n a b:Int):=eU cF p0 20 110 [.int .i64 n,.int .i64 a,.int .i64 b]
theorem Qri n a b:Xw n a b=(bif decide (a<=n)then some (D.bool (decide (n<=b)))else some (D.bool false)):=by kernel_rfl
theorem Qrj n a b(h:(true)=true):Xw n a b=some (.bool (Qm n a b)):=by
 rw[Qri];rw[Qm];cases decide (a<=n)<;>simp
def Ax:=p0.cm 110 Wv
theorem Qrk:Qj Tryz.prog cF Ax:=QCl.c6 Qb fun args d h=>by
 unfold Wv at h
 split at h
 ·obtain⟨h1,rfl⟩:=ak h;exact⟨by simp[D.refs],20,Qrj _ _ _ h1⟩
 ·cases h
def Qrl:bW->bO
 |[.bI (.int .i64 a) (.bI (.int .i64 b) .bN)]=>some (true,.bool (Vy ⟨a,b⟩))
 |_=>none
def Sp(a b:Int):=eU cF Ax 20 200 [.bI (.int .i64 a) (cG b .bN)]
theorem QCm a b:Sp a b=(bif Qm a (0:Int) (23:Int)then some (D.bool (Qm b (0:Int) (255:Int)))else some (D.bool false)):=by kernel_rfl
theorem QCn a b(h:(true)=true):Sp a b=some (.bool (Vy ⟨a,b⟩)):=by
 rw[QCm];rw[Vy];cases Qm a 0 23<;>simp
def Ay:=Ax.cm 200 Qrl
theorem Qrm:Qj Tryz.prog cF Ay:=Qrk.c6 Qb fun args d h=>by
 unfold Qrl at h
 split at h
 ·obtain⟨h1,rfl⟩:=ak h;exact⟨by simp[D.refs],20,QCn _ _ h1⟩
 ·cases h
def Qrn:bW->bO
 |[.bI (.int .i64 a) (.bI (.int .i64 b) .bN),.bI (.int .i64 c) (.bI (.int .i64 d) .bN)]=>some (true,.bool (JC ⟨a,b⟩ ⟨c,d⟩))
 |_=>none
def Sq(a b c d:Int):=eU cF Ay 20 201 [.bI (.int .i64 a) (cG b .bN),.bI (.int .i64 c) (cG d .bN)]
theorem QCo a b c d:Sq a b c d=(some (D.bool (decide (a<c)))):=by kernel_rfl
theorem QCp a b c d(h:(true)=true):Sq a b c d=some (.bool (JC ⟨a,b⟩ ⟨c,d⟩)):=by
 rw[QCo];rfl
def Az:=Ay.cm 201 Qrn
theorem Qro:Qj Tryz.prog cF Az:=Qrm.c6 Qb fun args d h=>by
 unfold Qrn at h
 split at h
 ·obtain⟨h1,rfl⟩:=ak h;exact⟨by simp[D.refs],20,QCp _ _ _ _ h1⟩
 ·cases h
structure Xx where
 (c:Bool)(l:cA)(i:Nat)
def G6(c:Bool)(l:cA)(i:Nat):bX:=[(0,.sl (C:=RC) .write c l),(1,.fn 200 .bN),(2,.fn 201 .bN),(6,.bool false),(9,.int .i64 (l.length)),(10,.int .i64 (i:Int))]
def G7(c:Bool)(l:cA)(i:Nat):bR:=[]
def Qrp c l i:=eF cF Az 199 2 30 0 [0,1,2,6,9,10] [6] [] (G6 c l i) (G7 c l i)
theorem Qys c l i:Qrp c l i=(let Z0:Int:=(i:Int);let Z1:Int:=(l.length:Int);let Z2:Bool:=ep Z0 Z1;let Z3:Qq:=Qq.mk 0 0;let Z4:Qq:=List.getD l Z0.toNat Z3;let Z5:Qq:=Qq.mk (Qq.key Z4) (Qq.value Z4);let Z6:=cX (Z0-1);let Z7:Qq:=List.getD l Z6.toNat Z3;let Z8:kW:=some ((X.normal,[(0,D.sl ca.write c l),(1,D.fn 200 .bN),(2,D.fn 201 .bN),(6,D.bool false),(9,cq Z1),(10,cq (cX (Z0+1)))]),[]);bif decide (Z0<Z1)then cb Z2 (bif !Vy Z5 then some ((X.ret,[(6,D.bool false)]),[])else bif decide ((0:Int)<Z0)then cb (ep Z6 Z1) (cb Z2 (bif !JC (Qq.mk (Qq.key Z7) (Qq.value Z7)) Z5 then some ((X.ret,[(6,D.bool false)]),[])else Z8))else Z8)else some ((X.exit 0,[(6,D.bool false)]),[])):=by kernel_rfl
def KL(c:Bool)(l:cA)(i:Nat):RT RC:=.br (QW Vy JC l i) (.leaf (.exit 0) [(6,.bool false)] []) (.leaf .ret [(6,.bool false)] [])
def KM(c:Bool)(l:cA)(i:Nat):Prop:=i<=l.length/\l.length<=9223372036854775807
def VU:QK RC Xx where
 k:=0
 cS q:=G6 q.c q.l q.i
 cR q:=G7 q.c q.l q.i
 fin q:=KL q.c q.l q.i
 Inv q:=KM q.c q.l q.i
 μ q:=q.l.length-q.i
theorem Qkl c l i(hI:KM c l i):dw (Qrp c l i) (dF VU ⟨c,l,i⟩):=by
 (rw[Qys];delta cb ep cq cX;conv=>zeta)
 unfold KM at hI;obtain⟨h1,h2⟩:=hI
 by_cases cY:i<l.length
 ·have cN:=fa i (by omega)
  have ei:=gv (show i<l.length by omega)
  have ef:=fV (show i<l.length by omega)
  have dp:=bw i
  have ir:IntKind.i64.wrap ((i:Int)-1)=(i:Int)-1:=cu (by omega) (by omega);have iq:((i:Int)-1).toNat=i-1:=by omega
  simp only[cN,ei,ef,dp,ir,iq,ag];have eI:=Y3 Vy JC l i (⟨0,0⟩:Qq) cY;generalize l.getD i (⟨0,0⟩:Qq)=x at eI ⊢;generalize l.getD (i-1) (⟨0,0⟩:Qq)=y at eI ⊢
  have eM:QW Vy JC l (i+1)=QW Vy JC l i->dw (some ((X.normal,G6 c l (i+1)),[])) (dF VU ⟨c,l,i⟩):=fun he=>
   Qg ⟨c,l,i+1⟩ ⟨cY,h2⟩ (by simp only[VU];omega) (by simp only[VU,KL,he]) rfl rfl
  have gT:QW Vy JC l i=false->dw (some ((X.ret,[(6,D.bool false)]),[])) (dF VU ⟨c,l,i⟩):=fun he=>QT [] (by simp[VU,KL,he,RT.val]) rfl;rw[eI]at eM gT;cases a1:Vy x
  ·exact gT (by simp[a1])
  by_cases hi:i=0
  ·have d0:decide (0<(i:Int))=false:=by simp;omega
   simp only[d0,ah];exact eM (by simp[hi,a1])
  ·have kO:decide (0<(i:Int))=true:=by simp;omega
   have kN:decide (0<=(i:Int)-1/\(i:Int)-1<l.length)=true:=by simp;omega
   simp only[kO,kN,ag];cases a4:JC y x
   ·exact gT (by simp[hi,a4])
   ·exact eM (by simp[a4,a1])
 ·have hi:i=l.length:=by omega
  have c1:decide ((i:Int)<l.length)=false:=by simp;omega
  rw[c1];exact Qi [] (by simp[VU,KL,hi,QW,qY,RT.val]) rfl
def Nt(env:bX)(os:bR):Option (Bool×Xx):=match env,os with
 |[(0,.sl .write c l),(1,.fn 200 .bN),(2,.fn 201 .bN),(6,.bool false),(9,.int .i64 x0),(10,.int .i64 x1)],[]=>some (decide (x0=l.length)&&decide (x1=0)&&decide (l.length<=9223372036854775807),⟨c,l,0⟩)
 |_,_=>none
def AA:=Az.cP 199 2 (eZ cF [] [0,1,2,6,9,10] VU Nt)
theorem Qrq:Qj Tryz.prog cF AA:=by
 refine Qro.cJ Qb (by kernel_rfl) VU 30 [0,1,2,6,9,10] [6] [] [0,1,2,6,9,10] Nt (fun q hI=>?_) ?_
 ·obtain⟨c,l,i⟩:=q;refine⟨?_,?_,Qkl c l i hI⟩
  ·simp_all[Qk,VU,G6,G7,KM,D.refs,Obj.refs,de]
  ·simp_all[VU,KL,G7,KM,RT.da,Qk,D.refs,Obj.refs,de]
 ·intro env os b q cW hb;unfold Nt at cW
  split at cW
  ·cases cW;simp only[ai,aa]at hb;obtain⟨⟨rfl,rfl⟩,hl⟩:=hb;exact⟨⟨aK _,hl⟩,rfl,rfl⟩
  ·cases cW
def Ur:bW->bO
 |[.sl .write c l]=>some (Qc l.length,.bool (Yg l))
 |_=>none
def Ww(c:Bool)(l:cA):=eU cF AA 20 187 [.sl (C:=RC) .write c l]
theorem QoX c l:Ww c l=(let Z0:=l.length;let Z1:Int:=(Z0:Int);cb (Qc Z0) (bif decide (Z1<=4)then cb (Qc Z0) (cb (decide (Z1=Z1)&&true&&decide (Z0<=9223372036854775807)) (bif QW Vy JC l 0 then some (D.bool true)else some (D.bool false)))else some (D.bool false))):=by kernel_rfl
theorem QoY c l(h:(Qc l.length)=true):Ww c l=some (.bool (Yg l)):=by
 (rw[QoX];delta cb;conv=>zeta)
 have h2:l.length<=9223372036854775807:=Va h;have h3:(((l.length:Nat):Int)<=4)↔l.length<=4:=by omega
 rw[Yg,h]
 by_cases h4:l.length<=4
 ·simp[h4,h2,h3];cases QW Vy JC l 0<;>rfl
 ·simp[h4,h3]
def AB:=AA.cm 187 Ur
theorem Qrr:Qj Tryz.prog cF AB:=Qrq.c6 Qb fun args d h=>by
 unfold Ur at h
 split at h
 ·obtain⟨h1,rfl⟩:=ak h;exact⟨by simp[D.refs],20,QoY _ _ h1⟩
 ·cases h
def Sr:bW->bO
 |[.bI (.int .i64 p) (.bI (.bool y) (.bI (.sl .write c l) .bN))]=>some (Qc l.length,.bool (gj ⟨p,y,l⟩))
 |_=>none
def SV(p:Int)(y c:Bool)(l:cA):=eU cF AB 20 152 [.bI (.int .i64 p) (.bI (.bool y) (cL .write c l .bN))]
theorem QEB p y c l:SV p y c l=(let Z0:=Qc l.length;bif Qm p 1 1048575 then cb Z0 (bif Yg l then bif y then some (D.bool true)else cb Z0 (some (D.bool ((l.length:Int)==0)))else some (D.bool false))else some (D.bool false)):=by kernel_rfl
theorem QEC p y c l(h:(Qc l.length)=true):SV p y c l=some (.bool (gj ⟨p,y,l⟩)):=by
 (rw[QEB];delta cb;conv=>zeta)
 have h3:(((l.length:Nat):Int)=0)↔l.length=0:=by omega
 simp only[gj,h];cases Qm p 1 1048575<;>cases Yg l<;>cases y<;>simp[h3]
 cases l<;>simp
 omega
def AD:=AB.cm 152 Sr
theorem Qrs:Qj Tryz.prog cF AD:=Qrr.c6 Qb fun args d h=>by
 unfold Sr at h
 split at h
 ·obtain⟨h1,rfl⟩:=ak h;exact⟨by simp[D.refs],20,QEC _ _ _ _ h1⟩
 ·cases h
def Qrt:bW->bO
 |[.bI (.int .i64 a) (.bI (.int .i64 b) (.bI (.int .i64 c) .bN)),.bI (.int .i64 d) (.bI (.int .i64 e) (.bI (.int .i64 f) .bN))]=>some (true,.bool (VI ⟨a,b,c⟩ ⟨d,e,f⟩))
 |_=>none
def RL(a b c d e f:Int):=eU cF AD 20 113 [.bI (.int .i64 a) (cG b (cG c .bN)),.bI (.int .i64 d) (cG e (cG f .bN))]
theorem QCq a b c d e f:RL a b c d e f=(some (D.bool (decide (a<d)))):=by kernel_rfl
theorem QCr a b c d e f(h:(true)=true):RL a b c d e f=some (.bool (VI ⟨a,b,c⟩ ⟨d,e,f⟩)):=by
 rw[QCq];rfl
def AE:=AD.cm 113 Qrt
theorem Qru:Qj Tryz.prog cF AE:=Qrs.c6 Qb fun args d h=>by
 unfold Qrt at h
 split at h
 ·obtain⟨h1,rfl⟩:=ak h;exact⟨by simp[D.refs],20,QCr _ _ _ _ _ _ h1⟩
 ·cases h
def Qrv:bW->bO
 |[.bI (.int .i64 a) (.bI (.int .i64 b) (.bI (.int .i64 c) (.bI (.int .i64 d) (.bI (.int .i64 e) .bN)))),.bI (.int .i64 a') (.bI (.int .i64 b') (.bI (.int .i64 c') (.bI (.int .i64 d') (.bI (.int .i64 e') .bN))))]=>some (true,.bool (YW ⟨a,b,c,d,e⟩ ⟨a',b',c',d',e'⟩))
 |_=>none
def RM(a b c d e a' b' c' d' e':Int):=eU cF AE 20 116 [.bI (.int .i64 a) (cG b (cG c (cG d (cG e .bN)))),.bI (.int .i64 a') (cG b' (cG c' (cG d' (cG e' .bN))))]
theorem QCs a b c d e a' b' c' d' e':RM a b c d e a' b' c' d' e'=(bif a'==IntKind.wrap .i64 (a+(1:Int))then bif decide (b<b')then some (D.bool true)else bif b==b' then some (D.bool (decide (c<c')))else some (D.bool false)else some (D.bool false)):=by kernel_rfl
theorem QCt a b c d e a' b' c' d' e'(h:(true)=true):RM a b c d e a' b' c' d' e'=some (.bool (YW ⟨a,b,c,d,e⟩ ⟨a',b',c',d',e'⟩)):=by
 rw[QCs];simp only[YW];cases (a'==IntKind.i64.wrap (a+1))<;>cases decide (b<b')<;>cases (b==b')<;>simp
def AF:=AE.cm 116 Qrv
theorem Qrw:Qj Tryz.prog cF AF:=Qru.c6 Qb fun args d h=>by
 unfold Qrv at h
 split at h
 ·obtain⟨h1,rfl⟩:=ak h;exact⟨by simp[D.refs],20,QCt _ _ _ _ _ _ _ _ _ _ h1⟩
 ·cases h
structure Xy where
 (p:Int)(r:bQ)(c:Bool)(l:bM)(i:Nat)
def G8(p:Int)(r:bQ)(c:Bool)(l:bM)(i:Nat):bX:=[(0,.sl (C:=RC) .cE c l),(1,.fn 112 (.bI (.ptr 0 []) .bN)),(2,.fn 113 .bN),(6,.bool false),(9,.int .i64 (l.length)),(10,.int .i64 (i:Int))]
def KN(p:Int)(r:bQ)(c:Bool)(l:bM)(i:Nat):bR:=[.var 34 (cG p r)]
def Qrx p r c l i:=eF cF AF 111 2 40 1 [0,1,2,6,9,10] [6] [.slot 1 0] (G8 p r c l i) (KN p r c l i)
theorem Qyt p r c l i:Qrx p r c l i=(let Z0:Int:=(i:Int);let Z1:Int:=(l.length:Int);let Z2:Bool:=ep Z0 Z1;let Z3:Item:=Item.mk 0 0 0;let Z4:Item:=List.getD l Z0.toNat Z3;let Z5:b9:=[some (Obj.var 34 (.bI (cq p) r))];let Z6:kW:=some ((X.ret,[(6,D.bool false)]),Z5);let Z7:=cX (Z0-1);let Z8:Item:=List.getD l Z7.toNat Z3;let Z9:kW:=some ((X.normal,[(0,D.sl ca.cE c l),(1,D.fn 112 (.bI (D.ptr 0 []) .bN)),(2,D.fn 113 .bN),(6,D.bool false),(9,cq Z1),(10,cq (cX (Z0+1)))]),Z5);bif decide (Z0<Z1)then cb Z2 (bif Qm (Item.key Z4) 0 23 then bif Qm (Item.b8 Z4) 1 p then bif !Qm (Item.value Z4) 0 255 then Z6 else bif decide ((0:Int)<Z0)then cb (ep Z7 Z1) (cb Z2 (bif !VI (Item.mk (Item.key Z8) (Item.b8 Z8) (Item.value Z8)) (Item.mk (Item.key Z4) (Item.b8 Z4) (Item.value Z4))then Z6 else Z9))else Z9 else Z6 else Z6)else some ((X.exit 0,[(6,D.bool false)]),Z5)):=by kernel_rfl
def KO(p:Int)(r:bQ)(c:Bool)(l:bM)(i:Nat):RT RC:=.br (QW (Vh p) VI l i) (.leaf (.exit 0) [(6,.bool false)] (KN p r c l i)) (.leaf .ret [(6,.bool false)] (KN p r c l i))
def KP(p:Int)(r:bQ)(c:Bool)(l:bM)(i:Nat):Prop:=r.refs=[]/\i<=l.length/\l.length<=9223372036854775807
def VV:QK RC Xy where
 k:=1
 cS q:=G8 q.p q.r q.c q.l q.i
 cR q:=KN q.p q.r q.c q.l q.i
 fin q:=KO q.p q.r q.c q.l q.i
 Inv q:=KP q.p q.r q.c q.l q.i
 μ q:=q.l.length-q.i
theorem Qkn p r c l i(hI:KP p r c l i):dw (Qrx p r c l i) (dF VV ⟨p,r,c,l,i⟩):=by
 (rw[Qyt];delta cb ep cq cX;conv=>zeta)
 unfold KP at hI;obtain⟨h0,h1,h2⟩:=hI
 by_cases cY:i<l.length
 ·have cN:=fa i (by omega)
  have ei:=gv (show i<l.length by omega)
  have ef:=fV (show i<l.length by omega)
  have dp:=bw i
  have ir:IntKind.i64.wrap ((i:Int)-1)=(i:Int)-1:=cu (by omega) (by omega);have iq:((i:Int)-1).toNat=i-1:=by omega
  simp only[cN,ei,ef,dp,ir,iq,ag];have eI:=Y3 (Vh p) VI l i (⟨0,0,0⟩:Item) cY;generalize l.getD i (⟨0,0,0⟩:Item)=x at eI ⊢;generalize l.getD (i-1) (⟨0,0,0⟩:Item)=y at eI ⊢
  have eM:QW (Vh p) VI l (i+1)=QW (Vh p) VI l i->dw (some ((X.normal,G8 p r c l (i+1)),[some (.var 34 (cG p r))])) (dF VV ⟨p,r,c,l,i⟩):=fun he=>
   Qg ⟨p,r,c,l,i+1⟩ ⟨h0,cY,h2⟩ (by simp only[VV];omega) (by simp only[VV,KO,he];rfl) rfl rfl
  have gT:QW (Vh p) VI l i=false->dw (some ((X.ret,[(6,D.bool false)]),[some (.var 34 (cG p r))])) (dF VV ⟨p,r,c,l,i⟩):=fun he=>QT (KN p r c l i) (by simp[VV,KO,he,RT.val]) rfl;rw[eI]at eM gT;simp only[Vh]at eM gT;have jg:VI ⟨y.key,y.b8,y.value⟩ ⟨x.key,x.b8,x.value⟩=VI y x:=rfl;rw[jg]
  by_cases hi:i=0
  ·have d0:decide (0<(i:Int))=false:=by simp;omega
   simp only[d0,ah]
   repeat' (refine Yc.2 ⟨fun _=>?_,fun _=>?_⟩)
   all_goals first|exact gT (by clear eM gT eI;simp_all)|exact eM (by clear eM gT eI;simp_all)
  ·have kO:decide (0<(i:Int))=true:=by simp;omega
   have kN:decide (0<=(i:Int)-1/\(i:Int)-1<l.length)=true:=by simp;omega
   simp only[kO,kN,ag]
   repeat' (refine Yc.2 ⟨fun _=>?_,fun _=>?_⟩)
   all_goals first|exact gT (by clear eM gT eI;simp_all)|exact eM (by clear eM gT eI;simp_all)
 ·have hi:i=l.length:=by omega
  have c1:decide ((i:Int)<l.length)=false:=by simp;omega
  rw[c1];exact Qi (KN p r c l i) (by simp[VV,KO,hi,LQ,RT.val]) rfl
def Nu(env:bX)(os:bR):Option (Bool×Xy):=match env,os with
 |[(0,.sl .cE c l),(1,.fn 112 (.bI (.ptr 0 []) .bN)),(2,.fn 113 .bN),(6,.bool false),(9,.int .i64 x0),(10,.int .i64 x1)],[.var 34 (.bI (.int .i64 p) r)]=>Qv (r.refs.isEmpty) (decide (x0=l.length)&&decide (x1=0)&&decide (l.length<=9223372036854775807),⟨p,r,c,l,0⟩)
 |_,_=>none
def AG:=AF.cP 111 2 (eZ cF [.slot 1 0] [0,1,2,6,9,10] VV Nu)
theorem Qry:Qj Tryz.prog cF AG:=by
 refine Qrw.cJ Qb (by kernel_rfl) VV 40 [0,1,2,6,9,10] [6] [.slot 1 0] [0,1,2,6,9,10] Nu (fun q hI=>?_) ?_
 ·obtain⟨p,r,c,l,i⟩:=q;refine⟨?_,?_,Qkn p r c l i hI⟩
  ·simp_all[Qk,VV,G8,KN,KP,D.refs,Obj.refs,de]
  ·simp_all[VV,KO,KN,KP,RT.da,Qk,D.refs,Obj.refs,de]
 ·intro env os b q cW hb;unfold Nu at cW
  split at cW
  ·obtain⟨hs,cW⟩:=Qe cW;cases cW;simp only[ai,aa]at hb;obtain⟨⟨rfl,rfl⟩,hl⟩:=hb;exact⟨⟨List.isEmpty_iff.1 hs,aK _,hl⟩,rfl,rfl⟩
  ·cases cW
structure Qma where
 (p:Int)(r:bQ)(c:Bool)(l:bJ)(i:Nat)
def G9(p:Int)(r:bQ)(c:Bool)(l:bJ)(i:Nat):bX:=[(0,.sl (C:=RC) .bP c l),(1,.fn 115 (.bI (.ptr 0 []) .bN)),(2,.fn 116 .bN),(6,.bool false),(9,.int .i64 (l.length)),(10,.int .i64 (i:Int))]
def KQ(p:Int)(r:bQ)(c:Bool)(l:bJ)(i:Nat):bR:=[.var 34 (cG p r)]
def Qrz p r c l i:=eF cF AG 114 2 40 1 [0,1,2,6,9,10] [6] [.slot 1 0] (G9 p r c l i) (KQ p r c l i)
theorem Qyu p r c l i:Qrz p r c l i=(let Z0:Int:=(i:Int);let Z1:Int:=(l.length:Int);let Z2:Bool:=ep Z0 Z1;let Z3:cC:=cC.mk 0 0 0 0 0;let Z4:cC:=List.getD l Z0.toNat Z3;let Z5:b9:=[some (Obj.var 34 (.bI (cq p) r))];let Z6:kW:=some ((X.ret,[(6,D.bool false)]),Z5);let Z7:=cX (Z0-1);let Z8:cC:=List.getD l Z7.toNat Z3;let Z9:kW:=some ((X.normal,[(0,D.sl ca.bP c l),(1,D.fn 115 (.bI (D.ptr 0 []) .bN)),(2,D.fn 116 .bN),(6,D.bool false),(9,cq Z1),(10,cq (cX (Z0+1)))]),Z5);bif decide (Z0<Z1)then cb Z2 (bif Qm (cC.offset Z4) 0 4194303 then bif Qm (cC.b8 Z4) 1 p then bif Qm (cC.j Z4) 0 3 then bif Qm (cC.key Z4) 0 7 then bif !Qm (cC.value Z4) 0 255 then Z6 else bif decide ((0:Int)<Z0)then cb (ep Z7 Z1) (cb Z2 (bif !YW (cC.mk (cC.offset Z8) (cC.b8 Z8) (cC.j Z8) (cC.key Z8) (cC.value Z8)) (cC.mk (cC.offset Z4) (cC.b8 Z4) (cC.j Z4) (cC.key Z4) (cC.value Z4))then Z6 else Z9))else Z9 else Z6 else Z6 else Z6 else Z6)else some ((X.exit 0,[(6,D.bool false)]),Z5)):=by kernel_rfl
def KR(p:Int)(r:bQ)(c:Bool)(l:bJ)(i:Nat):RT RC:=.br (QW (Vi p) YW l i) (.leaf (.exit 0) [(6,.bool false)] (KQ p r c l i)) (.leaf .ret [(6,.bool false)] (KQ p r c l i))
def KS(p:Int)(r:bQ)(c:Bool)(l:bJ)(i:Nat):Prop:=r.refs=[]/\i<=l.length/\l.length<=9223372036854775807
def VW:QK RC Qma where
 k:=1
 cS q:=G9 q.p q.r q.c q.l q.i
 cR q:=KQ q.p q.r q.c q.l q.i
 fin q:=KR q.p q.r q.c q.l q.i
 Inv q:=KS q.p q.r q.c q.l q.i
 μ q:=q.l.length-q.i
theorem Qkp p r c l i(hI:KS p r c l i):dw (Qrz p r c l i) (dF VW ⟨p,r,c,l,i⟩):=by
 (rw[Qyu];delta cb ep cq cX;conv=>zeta)
 unfold KS at hI;obtain⟨h0,h1,h2⟩:=hI
 by_cases cY:i<l.length
 ·have cN:=fa i (by omega)
  have ei:=gv (show i<l.length by omega)
  have ef:=fV (show i<l.length by omega)
  have dp:=bw i
  have ir:IntKind.i64.wrap ((i:Int)-1)=(i:Int)-1:=cu (by omega) (by omega);have iq:((i:Int)-1).toNat=i-1:=by omega
  simp only[cN,ei,ef,dp,ir,iq,ag];have eI:=Y3 (Vi p) YW l i (⟨0,0,0,0,0⟩:cC) cY;generalize l.getD i (⟨0,0,0,0,0⟩:cC)=x at eI ⊢;generalize l.getD (i-1) (⟨0,0,0,0,0⟩:cC)=y at eI ⊢
  have eM:QW (Vi p) YW l (i+1)=QW (Vi p) YW l i->dw (some ((X.normal,G9 p r c l (i+1)),[some (.var 34 (cG p r))])) (dF VW ⟨p,r,c,l,i⟩):=fun he=>
   Qg ⟨p,r,c,l,i+1⟩ ⟨h0,cY,h2⟩ (by simp only[VW];omega) (by simp only[VW,KR,he];rfl) rfl rfl
  have gT:QW (Vi p) YW l i=false->dw (some ((X.ret,[(6,D.bool false)]),[some (.var 34 (cG p r))])) (dF VW ⟨p,r,c,l,i⟩):=fun he=>QT (KQ p r c l i) (by simp[VW,KR,he,RT.val]) rfl;rw[eI]at eM gT;simp only[Vi]at eM gT;have jg:YW ⟨y.offset,y.b8,y.j,y.key,y.value⟩ ⟨x.offset,x.b8,x.j,x.key,x.value⟩=YW y x:=rfl;rw[jg]
  by_cases hi:i=0
  ·have d0:decide (0<(i:Int))=false:=by simp;omega
   simp only[d0,ah]
   repeat' (refine Yc.2 ⟨fun _=>?_,fun _=>?_⟩)
   all_goals first|exact gT (by clear eM gT eI;simp_all)|exact eM (by clear eM gT eI;simp_all)
  ·have kO:decide (0<(i:Int))=true:=by simp;omega
   have kN:decide (0<=(i:Int)-1/\(i:Int)-1<l.length)=true:=by simp;omega
   simp only[kO,kN,ag]
   repeat' (refine Yc.2 ⟨fun _=>?_,fun _=>?_⟩)
   all_goals first|exact gT (by clear eM gT eI;simp_all)|exact eM (by clear eM gT eI;simp_all)
 ·have hi:i=l.length:=by omega
  have c1:decide ((i:Int)<l.length)=false:=by simp;omega
  rw[c1];exact Qi (KQ p r c l i) (by simp[VW,KR,hi,LQ,RT.val]) rfl
def Nv(env:bX)(os:bR):Option (Bool×Qma):=match env,os with
 |[(0,.sl .bP c l),(1,.fn 115 (.bI (.ptr 0 []) .bN)),(2,.fn 116 .bN),(6,.bool false),(9,.int .i64 x0),(10,.int .i64 x1)],[.var 34 (.bI (.int .i64 p) r)]=>Qv (r.refs.isEmpty) (decide (x0=l.length)&&decide (x1=0)&&decide (l.length<=9223372036854775807),⟨p,r,c,l,0⟩)
 |_,_=>none
def I2:=AG.cP 114 2 (eZ cF [.slot 1 0] [0,1,2,6,9,10] VW Nv)
theorem QoZ:Qj Tryz.prog cF I2:=by
 refine Qry.cJ Qb (by kernel_rfl) VW 40 [0,1,2,6,9,10] [6] [.slot 1 0] [0,1,2,6,9,10] Nv (fun q hI=>?_) ?_
 ·obtain⟨p,r,c,l,i⟩:=q;refine⟨?_,?_,Qkp p r c l i hI⟩
  ·simp_all[Qk,VW,G9,KQ,KS,D.refs,Obj.refs,de]
  ·simp_all[VW,KR,KQ,KS,RT.da,Qk,D.refs,Obj.refs,de]
 ·intro env os b q cW hb;unfold Nv at cW
  split at cW
  ·obtain⟨hs,cW⟩:=Qe cW;cases cW;simp only[ai,aa]at hb;obtain⟨⟨rfl,rfl⟩,hl⟩:=hb;exact⟨⟨List.isEmpty_iff.1 hs,aK _,hl⟩,rfl,rfl⟩
  ·cases cW
open Go.Proofs
def SW(c:Bool)(b:bK)(n w:Int):bO:=Qv (w==1||w==2||w==3||w==6) (decide (b.length<=1000000000),.cH (cL .u8 (!QU n w.toNat) (dO b n w.toNat) (cG (bif QU n w.toNat then 0 else 2) .bN)))
def RN:bW->bO
 |[.sl .u8 c b,.int .i64 n,.int .i64 w]=>SW c b n w
 |_=>none
def D7(c:Bool)(b:bK)(n w:Int):=eU cF I2 40 203 [.sl (C:=RC) .u8 c b,.int .i64 n,.int .i64 w]
theorem QCv(c:Bool)(b:bK)(n:Int):D7 c b n 1=(let Z0:fG:=some (D.cH (D.bI (D.sl ca.u8 true []) (.bI (cq 2) .bN)));let Z1:=Qc b.length;let Z2:Int:=(b.length:Int);let Z3:=List.drop 0 (List.take Z2.toNat b);let Z4:bK:=[UInt8.ofNat (IntKind.wrap IntKind.u8 n).toNat];let Z5:=Z3.length+Z4.length;bif decide ((0:Int)<=n)then bif !Int.fdiv n 256==0 then Z0 else cb Z1 (cb Z1 (cb (decide ((0:Int)<=0/\(0:Int)<=Z2/\Z2<=Z2/\Z2=Z2)) (cb (Qf Z5 1) (cb (Nat.beq Z5 (Z3++Z4).length) (some (D.cH (D.bI (D.sl ca.u8 false (Z3++Z4)) (.bI (cq 0) .bN))))))))else Z0):=by kernel_rfl
theorem QCw(c:Bool)(b:bK)(n:Int):D7 c b n 2=(let Z0:fG:=some (D.cH (D.bI (D.sl ca.u8 true []) (.bI (cq 2) .bN)));let Z1:=Qc b.length;let Z2:Int:=(b.length:Int);let Z3:=List.drop 0 (List.take Z2.toNat b);let Z4:bK:=[UInt8.ofNat (IntKind.wrap IntKind.u8 n).toNat];let Z5:=Z3.length+Z4.length;let Z6:=List.length (Z3++Z4);let Z7:bK:=[UInt8.ofNat (IntKind.wrap IntKind.u8 (Int.fdiv n 256)).toNat];bif decide ((0:Int)<=n)then bif !Int.fdiv n 65536==0 then Z0 else cb Z1 (cb Z1 (cb (decide ((0:Int)<=0/\(0:Int)<=Z2/\Z2<=Z2/\Z2=Z2)) (cb (Qf Z5 1) (cb (Nat.beq Z5 Z6&&Qf (Z5+Z7.length) 1) (cb (Nat.beq (Z6+Z7.length) (Z3++Z4++Z7).length) (some (D.cH (D.bI (D.sl ca.u8 false (Z3++Z4++Z7)) (.bI (cq 0) .bN)))))))))else Z0):=by kernel_rfl
theorem QCx(c:Bool)(b:bK)(n:Int):D7 c b n 3=(let Z0:fG:=some (D.cH (D.bI (D.sl ca.u8 true []) (.bI (cq 2) .bN)));let Z1:=Qc b.length;let Z2:Int:=(b.length:Int);let Z3:=List.drop 0 (List.take Z2.toNat b);let Z4:bK:=[UInt8.ofNat (IntKind.wrap IntKind.u8 n).toNat];let Z5:=Z3.length+Z4.length;let Z6:=List.length (Z3++Z4);let Z7:=Int.fdiv n 256;let Z8:bK:=[UInt8.ofNat (IntKind.wrap IntKind.u8 Z7).toNat];let Z9:=List.length (Z3++Z4++Z8);let dg:bK:=[UInt8.ofNat (IntKind.wrap IntKind.u8 (Int.fdiv Z7 256)).toNat];bif decide ((0:Int)<=n)then bif !Int.fdiv n 16777216==0 then Z0 else cb Z1 (cb Z1 (cb (decide ((0:Int)<=0/\(0:Int)<=Z2/\Z2<=Z2/\Z2=Z2)) (cb (Qf Z5 1) (cb (Nat.beq Z5 Z6&&Qf (Z5+Z8.length) 1) (cb (Nat.beq (Z6+Z8.length) Z9&&Qf (Z6+Z8.length+dg.length) 1) (cb (Nat.beq (Z9+dg.length) (Z3++Z4++Z8++dg).length) (some (D.cH (D.bI (D.sl ca.u8 false (Z3++Z4++Z8++dg)) (.bI (cq 0) .bN))))))))))else Z0):=by kernel_rfl
theorem QCy(c:Bool)(b:bK)(n:Int):D7 c b n 6=(let Z0:fG:=some (D.cH (D.bI (D.sl ca.u8 true []) (.bI (cq 2) .bN)));let Z1:=Qc b.length;let Z2:Int:=(b.length:Int);let Z3:=List.drop 0 (List.take Z2.toNat b);let Z4:bK:=[UInt8.ofNat (IntKind.wrap IntKind.u8 n).toNat];let Z5:=Z3.length+Z4.length;let Z6:=List.length (Z3++Z4);let Z7:=Int.fdiv n 256;let Z8:bK:=[UInt8.ofNat (IntKind.wrap IntKind.u8 Z7).toNat];let Z9:=List.length (Z3++Z4++Z8);let dg:=Int.fdiv Z7 256;let dq:bK:=[UInt8.ofNat (IntKind.wrap IntKind.u8 dg).toNat];let dE:=List.length (Z3++Z4++Z8++dq);let dQ:=Int.fdiv dg 256;let dv:bK:=[UInt8.ofNat (IntKind.wrap IntKind.u8 dQ).toNat];let dT:=List.length (Z3++Z4++Z8++dq++dv);let dL:=Int.fdiv dQ 256;let eK:bK:=[UInt8.ofNat (IntKind.wrap IntKind.u8 dL).toNat];let eo:bK:=Z3++Z4++Z8++dq++dv++eK;let eX:bK:=[UInt8.ofNat (IntKind.wrap IntKind.u8 (Int.fdiv dL 256)).toNat];bif decide ((0:Int)<=n)then bif !Int.fdiv n 281474976710656==0 then Z0 else cb Z1 (cb Z1 (cb (decide ((0:Int)<=0/\(0:Int)<=Z2/\Z2<=Z2/\Z2=Z2)) (cb (Qf Z5 1) (cb (Nat.beq Z5 Z6&&Qf (Z5+Z8.length) 1) (cb (Nat.beq (Z6+Z8.length) Z9&&Qf (Z6+Z8.length+dq.length) 1) (cb (Nat.beq (Z9+dq.length) dE&&Qf (Z9+dq.length+dv.length) 1) (cb (Nat.beq (dE+dv.length) dT&&Qf (dE+dv.length+eK.length) 1) (cb (Nat.beq (dT+eK.length) eo.length&&Qf (dT+eK.length+eX.length) 1) (cb (Nat.beq (eo.length+eX.length) (eo++eX).length) (some (D.cH (D.bI (D.sl ca.u8 false (eo++eX)) (.bI (cq 0) .bN)))))))))))))else Z0):=by kernel_rfl
theorem QEE c b n w(hs:(w==1||w==2||w==3||w==6)=true)(h:(decide (b.length<=1000000000))=true):D7 c b n w=some (.cH (cL .u8 (!QU n w.toNat) (dO b n w.toNat) (cG (bif QU n w.toNat then 0 else 2) .bN))):=by
 have hl:=af h;have kR:Qc b.length=true:=Qd (by omega);have hle:∀m,1000000000<=m->(b.length<=m):=fun m hm=>by omega
 have hz:∀(k:Nat) (m:Int),0<=n->m=256^k->0<m->((n.fdiv m==0)=QU n k):=by
  intro k m h0 hm hp;rw[aQ _ (by omega),QU,<-hm];have:(n/m=0)↔n<m:=Int.hZ h0 hp;rw[Bool.eq_iff_iff];simp[this,h0]
 simp only[Bool.or_eq_true,bi]at hs;rcases hs with((rfl|rfl)|rfl)|rfl
 ·(rw[QCv];delta cb cq;conv=>zeta)
  show _=some (D.cH (cL .u8 (!QU n 1) (dO b n 1) (cG (bif QU n 1 then 0 else 2) .bN)))
  by_cases h0:0<=n
  ·simp only[h0,aM,ag,hz 1 256 h0 (by decide) (by omega)];cases hf:QU n 1
   ·simp[dO,hf]
   ·simp[dO,hf,kR,Qf,fX,Zu,hle]
  ·have hf:QU n 1=false:=by simp[QU,h0]
   simp[h0,hf,dO]
 ·(rw[QCw];delta cb cq;conv=>zeta)
  show _=some (D.cH (cL .u8 (!QU n 2) (dO b n 2) (cG (bif QU n 2 then 0 else 2) .bN)))
  by_cases h0:0<=n
  ·simp only[h0,aM,ag,hz 2 65536 h0 (by decide) (by omega)];cases hf:QU n 2
   ·simp[dO,hf]
   ·simp[dO,hf,kR,Qf,fX,Zu,hle]
  ·have hf:QU n 2=false:=by simp[QU,h0]
   simp[h0,hf,dO]
 ·(rw[QCx];delta cb cq;conv=>zeta)
  show _=some (D.cH (cL .u8 (!QU n 3) (dO b n 3) (cG (bif QU n 3 then 0 else 2) .bN)))
  by_cases h0:0<=n
  ·simp only[h0,aM,ag,hz 3 16777216 h0 (by decide) (by omega)];cases hf:QU n 3
   ·simp[dO,hf]
   ·simp[dO,hf,kR,Qf,fX,Zu,hle]
  ·have hf:QU n 3=false:=by simp[QU,h0]
   simp[h0,hf,dO]
 ·(rw[QCy];delta cb cq;conv=>zeta)
  show _=some (D.cH (cL .u8 (!QU n 6) (dO b n 6) (cG (bif QU n 6 then 0 else 2) .bN)))
  by_cases h0:0<=n
  ·simp only[h0,aM,ag,hz 6 281474976710656 h0 (by decide) (by omega)];cases hf:QU n 6
   ·simp[dO,hf]
   ·simp[dO,hf,kR,Qf,fX,Zu,hle]
  ·have hf:QU n 6=false:=by simp[QU,h0]
   simp[h0,hf,dO]
def AH:=I2.cm 203 RN
theorem QrB:Qj Tryz.prog cF AH:=QoZ.c6 Qb fun args d h=>by
 unfold RN at h
 split at h
 ·unfold SW at h;obtain⟨hs,h⟩:=Qe h;obtain⟨h1,h2⟩:=Prod.mk.inj h;obtain rfl:_=d:=h2;exact⟨by simp[D.refs],40,QEE _ _ _ _ hs h1⟩
 ·cases h
structure Us where
 (c:Bool)(l:bK)(i:Nat)
def Gq(c:Bool)(l:bK)(i:Nat):bX:=[(40,.sl (C:=RC) .u8 c l),(41,.int .i64 (l.length)),(42,.int .i64 (i:Int)),(8,.int .i64 ((cf (l.take i):Int)))]
def Gr(c:Bool)(l:bK)(i:Nat):bR:=[]
def Wx c l i:=eF cF AH 179 7 40 0 [40,41,42,8] [8] [] (Gq c l i) (Gr c l i)
theorem Qo0 c l i:Wx c l i=(let Z0:Int:=(i:Int);let Z1:Int:=(l.length:Int);let Z2:=cX ((8:Int)*Z0);let Z3:Int:=(↑(cf (List.take i l)):Int);bif decide (Z0<Z1)then cb (ep Z0 Z1) (bif decide (Z2<0)then none else some ((X.normal,[(40,D.sl ca.u8 c l),(41,cq Z1),(42,cq (cX (Z0+1))),(8,cq (bits .i64 (fun(x:Nat) (u v:BitVec x)=>u|||v) Z3 (cX (cX (↑(UInt8.toNat (List.getD l Z0.toNat (UInt8.ofBitVec (BitVec.ofNat 8 (nat_lit 0))))):Int)*2^min Z2.toNat 64))))]),[]))else some ((X.exit 1,[(8,cq Z3)]),[])):=by kernel_rfl
def Kb(c:Bool)(l:bK)(i:Nat):RT RC:=.leaf (.exit 1) [(8,.int .i64 (cf l:Int))] []
def VX(c:Bool)(l:bK)(i:Nat):Prop:=i<=l.length/\l.length<=6
def YL:QK RC Us where
 k:=0
 cS q:=Gq q.c q.l q.i
 cR q:=Gr q.c q.l q.i
 fin q:=Kb q.c q.l q.i
 Inv q:=VX q.c q.l q.i
 μ q:=q.l.length-q.i
theorem QgS c l i(hI:VX c l i):dw (Wx c l i) (dF YL ⟨c,l,i⟩):=by
 (rw[Qo0];delta cb ep cq cX;conv=>zeta)
 unfold VX at hI;obtain⟨h1,h2⟩:=hI
 by_cases cY:i<l.length
 ·have cN:=fa i (by omega)
  have ei:=gv (show i<l.length by omega)
  have ef:=fV (show i<l.length by omega)
  have dp:=bw i
  simp only[cN,ei,ef,dp,ag];have hw8:IntKind.i64.wrap (8*(i:Int))=8*(i:Int):=cu (by omega) (by omega);have hd8:decide (IntKind.i64.wrap (8*(i:Int))<0)=false:=by rw[hw8];simp;omega
  have dc:(l.take i).length=i:=by simp;omega
  have hv:cf (l.take i)<256^i:=by have:=MM (l.take i);rwa [dc]at this
  have nU:cf (l.take (i+1))=cf (l.take i)+(l.getD i 0).toNat*256^i:=by
   rw[List.take_add_one,KK,dc];simp[cY,cf,Nat.mul_comm]
  simp only[hd8,ah];refine Qg ⟨c,l,i+1⟩ ⟨cY,h2⟩ (by simp only[YL];omega) (by simp only[YL,Kb]) ?_ rfl;simp only[YL,Gq,nU];exact ap (fun z=>[(40,D.sl (C:=RC) .u8 c l),(41,.int .i64 (l.length:Int)),(42,.int .i64 ((i+1:Nat):Int)),(8,.int .i64 z)]) (Qfq _ _ _ hv (by omega))
 ·have hi:i=l.length:=by omega
  have c1:decide ((i:Int)<l.length)=false:=by simp;omega
  rw[c1];exact Qi [] (by simp[YL,Kb,hi,RT.val]) rfl
def Mv(env:bX)(os:bR):Option (Bool×Us):=match env,os with
 |[(40,.sl .u8 c l),(41,.int .i64 x0),(42,.int .i64 x1),(8,.int .i64 x2)],[]=>some (decide (x0=l.length)&&decide (x1=0)&&decide (x2=0)&&decide (l.length<=6),⟨c,l,0⟩)
 |_,_=>none
def AI:=AH.cP 179 7 (eZ cF [] [40,41,42,8] YL Mv)
theorem QrC:Qj Tryz.prog cF AI:=by
 refine QrB.cJ Qb (by kernel_rfl) YL 40 [40,41,42,8] [8] [] [40,41,42,8] Mv (fun q hI=>?_) ?_
 ·obtain⟨c,l,i⟩:=q;refine⟨?_,?_,QgS c l i hI⟩
  ·simp_all[Qk,YL,Gq,Gr,VX,D.refs,Obj.refs,de]
  ·simp_all[YL,Kb,Gr,VX,RT.da,Qk,D.refs,Obj.refs,de]
 ·intro env os b q cW hb;unfold Mv at cW
  split at cW
  ·cases cW;simp only[ai,aa]at hb;obtain⟨⟨⟨rfl,rfl⟩,rfl⟩,hl⟩:=hb;exact⟨⟨aK _,hl⟩,rfl,rfl⟩
  ·cases cW
def RP:bW->bO
 |[.sl .u8 c b,.int .i64 a,.int .i64 w]=>some (decide (b.length<=1000000000000),.cH (cG (cU b a w).1 (cG (cU b a w).2 .bN)))
 |_=>none
def SX(c:Bool)(b:bK)(a w:Int):=eU cF AI 40 179 [.sl (C:=RC) .u8 c b,.int .i64 a,.int .i64 w]
theorem QEH c b a w:SX c b a w=(let Z0:bQ:=cq 0;let Z1:fG:=some (D.cH (D.bI Z0 (D.bI (cq 2) .bN)));let Z2:fG:=some (D.cH (D.bI Z0 (D.bI (cq 50) .bN)));let Z3:=Qc b.length;let Z4:Int:=(b.length:Int);let Z5:=cX (a+w);let Z6:=List.drop a.toNat (List.take Z5.toNat b);let Z7:=Z6.length;bif decide (w<1)then Z1 else bif decide ((6:Int)<w)then Z1 else bif decide (a<0)then Z2 else cb Z3 (bif decide (Z4<a)then Z2 else cb Z3 (bif decide (cX (Z4-a)<w)then Z2 else cb (decide ((0:Int)<=a/\a<=Z5/\Z5<=Z4)) (cb (Qc Z7) (cb (decide ((Z7:Int)=(Z7:Int))&&true&&true&&decide (Z7<=6)) (some (D.cH (D.bI (cq (↑(cf Z6):Int)) (.bI Z0 .bN))))))))):=by kernel_rfl
theorem QEI c b a w(h:(decide (b.length<=1000000000000))=true):SX c b a w=some (.cH (cG (cU b a w).1 (cG (cU b a w).2 .bN))):=by
 (rw[QEH];delta cb cq cX;conv=>zeta)
 have hl:=af h;have kR:Qc b.length=true:=Qd (by omega);rw[kR]
 by_cases hw:1<=w/\w<=6
 ·have w1:decide (w<1)=false:=by simp;omega
  have w2:decide (6<w)=false:=by simp;omega
  have w3:(decide (1<=w)&&decide (w<=6))=true:=by simp;omega
  simp only[w1,w2,ah,ag,cU,w3]
  by_cases ha:0<=a/\a+w<=b.length
  ·have a1:decide (a<0)=false:=by simp;omega
   have a2:decide ((b.length:Int)<a)=false:=by simp;omega
   have e1:IntKind.i64.wrap ((b.length:Int)-a)=b.length-a:=cu (by omega) (by omega);have e2:IntKind.i64.wrap (a+w)=a+w:=cu (by omega) (by omega);have a3:decide ((b.length:Int)-a<w)=false:=by simp;omega
   have a4:decide (0<=a/\a<=a+w/\a+w<=(b.length:Int))=true:=by simp;omega
   have a5:(decide (0<=a)&&decide (a+w<=(b.length:Int)))=true:=by simp;omega
   have e3:(List.drop a.toNat (List.take (a+w).toNat b))=List.take w.toNat (List.drop a.toNat b):=by
    rw[List.drop_take];congr 1;omega
   have e4:(List.take w.toNat (List.drop a.toNat b)).length=w.toNat:=by simp;omega
   simp only[a1,a2,e1,e2,a3,a4,a5,e3,e4,ah,ag];have a6:Qc w.toNat=true:=Qd (by omega);have a7:w.toNat<=6:=by omega
   simp[a6,a7]
  ·have a5:(decide (0<=a)&&decide (a+w<=(b.length:Int)))=false:=by simp;omega
   simp only[a5,ah]
   by_cases a1:a<0
   ·simp[a1]
   ·by_cases a2:(b.length:Int)<a
    ·simp[a1,a2]
    ·have e1:IntKind.i64.wrap ((b.length:Int)-a)=b.length-a:=cu (by omega) (by omega);have a3:decide ((b.length:Int)-a<w)=true:=by simp;omega
     simp[a1,a2,e1,a3]
 ·have w3:(decide (1<=w)&&decide (w<=6))=false:=by simp;omega
  simp only[cU,w3]
  by_cases w1:w<1
  ·simp[w1]
  ·have w2:6<w:=by omega
   simp[w1,w2]
def AJ:=AI.cm 179 RP
theorem QrD:Qj Tryz.prog cF AJ:=QrC.c6 Qb fun args d h=>by
 unfold RP at h
 split at h
 ·obtain⟨h1,rfl⟩:=ak h;exact⟨by simp[D.refs],40,QEI _ _ _ _ h1⟩
 ·cases h
open Go.Proofs
def Wy:bW->bO
 |[.bI (.int .i64 p) (.bI (.sl .cE ci bV) (.bI (.bI (.sl .bP k0 l0) (.bI (.sl .bP k1 l1) (.bI (.sl .bP k2 l2) .bN))) (.bI (.arr .int 3 [c0,c1,c2]) .bN)))]=>some (decide (bV.length<=9223372036854775807/\l0.length<=9223372036854775807/\l1.length<=9223372036854775807/\l2.length<=9223372036854775807),.bool (Qs ⟨p,bV,l0,l1,l2,c0,c1,c2⟩))
 |_=>none
def Qmc(p:Int)(ci:Bool)(bV:bM)(k0 k1 k2:Bool)(l0 l1 l2:bJ)(c0 c1 c2:Int):=eU cF AJ 30 57 [.bI (.int .i64 p) (cL .cE ci bV (.bI (cL .bP k0 l0 (cL .bP k1 l1 (cL .bP k2 l2 .bN))) (.bI (.arr (C:=RC) .int 3 [c0,c1,c2]) .bN)))]
theorem QrE p ci bV k0 k1 k2 l0 l1 l2 c0 c1 c2:Qmc p ci bV k0 k1 k2 l0 l1 l2 c0 c1 c2=(let Z0:fG:=some (D.bool false);let Z1:=bV.length;let Z2:=l0.length;let Z3:Int:=(Z2:Int);let Z4:cC:=cC.mk 0 0 0 0 0;let Z5:=l1.length;let Z6:Int:=(Z5:Int);let Z7:=l2.length;let Z8:Int:=(Z7:Int);let Z9:fG:=none;let dg:fG:=bif Qc Z7 then bif decide (Z8=Z8)&&true&&decide (Z7<=9223372036854775807)then bif QW (Vi p) YW l2 0then some (D.bool true)else Z0 else Z9 else Z9;let dq:fG:=bif Qc Z5 then bif decide (Z6=Z6)&&true&&decide (Z5<=9223372036854775807)then bif QW (Vi p) YW l1 0then bif !Qm c2 0 p then Z0 else bif Qc Z7 then bif decide ((16:Int)<Z8)then Z0 else bif Qc Z7 then bif decide ((0:Int)<Z8)then bif decide ((0:Int)<=0/\(0:Int)<Z8)then bif decide (cC.b8 (List.getD l2 0 Z4)<=c2)then Z0 else dg else Z9 else dg else Z9 else Z9 else Z0 else Z9 else Z9;let dE:fG:=bif Qc Z2 then bif decide (Z3=Z3)&&true&&decide (Z2<=9223372036854775807)then bif QW (Vi p) YW l0 0then bif !Qm c1 0 p then Z0 else bif Qc Z5 then bif decide ((16:Int)<Z6)then Z0 else bif Qc Z5 then bif decide ((0:Int)<Z6)then bif decide ((0:Int)<=0/\(0:Int)<Z6)then bif decide (cC.b8 (List.getD l1 0 Z4)<=c1)then Z0 else dq else Z9 else dq else Z9 else Z9 else Z0 else Z9 else Z9;bif !Qm p 0 1048575then Z0 else bif Qc Z1 then bif decide ((Z1:Int)=(Z1:Int))&&true&&decide (Z1<=9223372036854775807)then bif QW (Vh p) VI bV 0then bif !Qm c0 0 p then Z0 else bif Qc Z2 then bif decide ((16:Int)<Z3)then Z0 else bif Qc Z2 then bif decide ((0:Int)<Z3)then bif decide ((0:Int)<=0/\(0:Int)<Z3)then bif decide (cC.b8 (List.getD l0 0 Z4)<=c0)then Z0 else dE else Z9 else dE else Z9 else Z9 else Z0 else Z9 else Z9):=by kernel_rfl
theorem QrF p ci bV k0 k1 k2 l0 l1 l2 c0 c1 c2(h:(decide (bV.length<=9223372036854775807/\l0.length<=9223372036854775807/\l1.length<=9223372036854775807/\l2.length<=9223372036854775807))=true):Qmc p ci bV k0 k1 k2 l0 l1 l2 c0 c1 c2=some (.bool (Qs ⟨p,bV,l0,l1,l2,c0,c1,c2⟩)):=by
 (rw[QrE];conv=>zeta)
 obtain⟨h,h0,h1,h2⟩:=af h;have b:=Qd h;have b0:=Qd h0;have b1:=Qd h1;have b2:=Qd h2;have i0:∀l:bJ,decide (0<=(0:Int)/\(0:Int)<l.length) = !l.isEmpty:=fun l=>by cases l<;>simp
 have n0:∀l:bJ,decide (0<(l.length:Int)) = !l.isEmpty:=fun l=>by cases l<;>simp
 have n16:∀l:bJ,decide (16<(l.length:Int)) = !decide (l.length<=16):=fun l=>by
  by_cases h:l.length<=16<;>simp[h]
  ·omega
  ·omega
 have nle:∀a b:Int,decide (a<=b) = !decide (b<a):=fun a b=>by
  by_cases h:b<a<;>simp[h]<;>omega
 simp only[Qs,YJ,b,b0,b1,b2,h,h0,h1,h2,aM,ag,i0,n0,n16,nle (cC.b8 _)];generalize Qm p 0 1048575=x1;generalize QW (Vh p) VI bV 0=x2;generalize Qm c0 0 p=x3;generalize Qm c1 0 p=x4;generalize Qm c2 0 p=x5;generalize QW (Vi p) YW l0 0=x6;generalize QW (Vi p) YW l1 0=x7;generalize QW (Vi p) YW l2 0=x8;generalize decide (l0.length<=16)=x9;generalize decide (l1.length<=16)=x10;generalize decide (l2.length<=16)=x11;generalize decide (c0<(l0.getD 0 ⟨0,0,0,0,0⟩).b8)=BP;generalize decide (c1<(l1.getD 0 ⟨0,0,0,0,0⟩).b8)=Ir;generalize decide (c2<(l2.getD 0 ⟨0,0,0,0,0⟩).b8)=x14;generalize l0.isEmpty=BQ;generalize l1.isEmpty=pU;generalize l2.isEmpty=x17;cases x1;· rfl
 cases x2;· rfl
 cases x3;· rfl
 cases x9;· rfl
 cases x6
 ·cases BQ<;>cases BP<;>rfl
 cases x4;· cases BQ<;>cases BP<;>rfl
 cases x10;· cases BQ<;>cases BP<;>rfl
 cases x7;· cases BQ<;>cases BP<;>cases pU<;>cases Ir<;>rfl
 cases x5;· cases BQ<;>cases BP<;>cases pU<;>cases Ir<;>rfl
 cases x11;· cases BQ<;>cases BP<;>cases pU<;>cases Ir<;>rfl
 cases BQ<;>cases BP<;>cases pU<;>cases Ir<;>cases x17<;>cases x14<;>cases x8<;>rfl
def AK:=AJ.cm 57 Wy
theorem QrG:Qj Tryz.prog cF AK:=QrD.c6 Qb fun args d h=>by
 unfold Wy at h
 split at h
 ·obtain⟨h1,rfl⟩:=ak h;exact⟨by simp[D.refs],30,QrF _ _ _ _ _ _ _ _ _ _ _ _ h1⟩
 ·cases h
open Go.Proofs
structure Ut where
 (cp:Bool)(bs:bK)(c:Bool)(l:bM)(i:Nat)
def Mw(cp:Bool)(bs:bK)(c:Bool)(l:bM)(i:Nat):bX:=[(4,.ptr 0 []),(27,.sl (C:=RC) .cE c l),(28,.int .i64 (l.length)),(29,.int .i64 (i:Int))]
def JE(cp:Bool)(bs:bK)(c:Bool)(l:bM)(i:Nat):bR:=[.var 204 (cL .u8 cp bs .bN)]
def Wz cp bs c l i:=eF cF AK 188 7 40 1 [4,27,28,29] [] [.slot 4 0] (Mw cp bs c l i) (JE cp bs c l i)
theorem Qo1 cp bs c l i:Wz cp bs c l i=(let Z0:Int:=(i:Int);let Z1:Int:=(l.length:Int);let Z2:Item:=List.getD l Z0.toNat (Item.mk 0 0 0);let Z3:bK:=dO bs (Item.key Z2) 1;let Z4:bK:=dO Z3 (Item.b8 Z2) 3;bif decide (Z0<Z1)then cb (ep Z0 Z1) (cb (decide (bs.length<=1000000000)) (cb (decide (Z3.length<=1000000000)) (cb (decide (Z4.length<=1000000000)) (some ((X.normal,[(4,D.ptr 0 []),(27,D.sl ca.cE c l),(28,cq Z1),(29,cq (cX (Z0+1)))]),[some (Obj.var 204 (.bI (D.sl ca.u8 (!QU (Item.value Z2) 1) (dO Z4 (Item.value Z2) 1)) .bN))])))))else some ((X.exit 0,[]),[some (Obj.var 204 (.bI (D.sl ca.u8 cp bs) .bN))])):=by kernel_rfl
def Kc(cp:Bool)(bs:bK)(c:Bool)(l:bM)(i:Nat):RT RC:=.leaf (.exit 0) [] [.var 204 (cL .u8 (cp&&(l.drop i).isEmpty) (bs++(l.drop i).flatMap YK) .bN)]
def VY(cp:Bool)(bs:bK)(c:Bool)(l:bM)(i:Nat):Prop:=i<=l.length/\l.length<=1000000/\bs.length<=1000000+5*i/\l.all m8=true
def Vk:QK RC Ut where
 k:=1
 cS q:=Mw q.cp q.bs q.c q.l q.i
 cR q:=JE q.cp q.bs q.c q.l q.i
 fin q:=Kc q.cp q.bs q.c q.l q.i
 Inv q:=VY q.cp q.bs q.c q.l q.i
 μ q:=q.l.length-q.i
theorem QgT cp bs c l i(hI:VY cp bs c l i):dw (Wz cp bs c l i) (dF Vk ⟨cp,bs,c,l,i⟩):=by
 (rw[Qo1];delta cb ep cq cX;conv=>zeta)
 unfold VY at hI;obtain⟨h1,h2,h3,h4⟩:=hI
 by_cases cY:i<l.length
 ·have cN:=fa i (by omega)
  have ei:=gv (show i<l.length by omega)
  have ef:=fV (show i<l.length by omega)
  have dp:=bw i
  simp only[cN,ei,ef,dp,ag];have hf:=GI h4 cY (⟨0,0,0⟩:Item);have hd:(l.drop i).flatMap YK=_:=Yh l i YK cY (⟨0,0,0⟩:Item);have he:(l.drop i).isEmpty=false:=by simp;omega
  generalize l.getD i (⟨0,0,0⟩:Item)=x at hf hd ⊢;simp only[m8,ai]at hf;obtain⟨⟨f1,f2⟩,f3⟩:=hf;have n1:decide (bs.length<=1000000000)=true:=ab (by omega);have n2:decide ((bs++fX x.key 1).length<=1000000000)=true:=ab (by simp[Qw];omega);have n3:decide ((bs++fX x.key 1++fX x.b8 3).length<=1000000000)=true:=ab (by simp[Qw];omega);simp only[Int.toNat_one,show Int.toNat 3=3 from rfl,Q7 (rP f1),Q7 (JD f2),Q7 (rP f3),rP f1,JD f2,rP f3,n1,n2,n3,ag,bg];refine Qg ⟨false,bs++fX x.key 1++fX x.b8 3++fX x.value 1,c,l,i+1⟩ ⟨cY,h2,by simp[Qw];omega,h4⟩ (by simp only[Vk];omega) ?_ rfl rfl;simp[Vk,Kc,hd,he,YK,RT.val]
 ·have hi:i=l.length:=by omega
  have c1:decide ((i:Int)<l.length)=false:=by simp;omega
  rw[c1];exact Qi (JE cp bs c l i) (by simp[Vk,Kc,JE,hi,RT.val]) rfl
def Mx(env:bX)(os:bR):Option (Bool×Ut):=match env,os with
 |[(4,.ptr 0 []),(27,.sl .cE c l),(28,.int .i64 x0),(29,.int .i64 x1)],[.var 204 (.bI (.sl .u8 cp bs) .bN)]=>some (decide (x0=l.length)&&decide (x1=0)&&decide (l.length<=1000000/\bs.length<=1000000)&&l.all m8,⟨cp,bs,c,l,0⟩)
 |_,_=>none
def AL:=AK.cP 188 7 (eZ cF [.slot 4 0] [4,27,28,29] Vk Mx)
theorem QrH:Qj Tryz.prog cF AL:=by
 refine QrG.cJ Qb (by kernel_rfl) Vk 40 [4,27,28,29] [] [.slot 4 0] [4,27,28,29] Mx (fun q hI=>?_) ?_
 ·obtain⟨cp,bs,c,l,i⟩:=q;refine⟨?_,?_,QgT cp bs c l i hI⟩
  ·simp_all[Qk,Vk,Mw,JE,VY,D.refs,Obj.refs,de]
  ·simp_all[Vk,Kc,JE,VY,RT.da,Qk,D.refs,Obj.refs,de]
 ·intro env os b q cW hb;unfold Mx at cW
  split at cW
  ·cases cW;simp only[ai,aa]at hb;obtain⟨⟨⟨rfl,rfl⟩,hl⟩,ha⟩:=hb;exact⟨⟨aK _,hl.1,bk hl.2 (Nat.le_add_right _ _),ha⟩,rfl,rfl⟩
  ·cases cW
structure Uu where
 (cp:Bool)(bs:bK)(c:Bool)(l:bJ)(i:Nat)
def My(cp:Bool)(bs:bK)(c:Bool)(l:bJ)(i:Nat):bX:=[(4,.ptr 0 []),(72,.sl (C:=RC) .bP c l),(73,.int .i64 (l.length)),(74,.int .i64 (i:Int))]
def JF(cp:Bool)(bs:bK)(c:Bool)(l:bJ)(i:Nat):bR:=[.var 204 (cL .u8 cp bs .bN)]
def WA cp bs c l i:=eF cF AL 188 23 40 1 [4,72,73,74] [] [.slot 4 0] (My cp bs c l i) (JF cp bs c l i)
theorem Qo2 cp bs c l i:WA cp bs c l i=(let Z0:Int:=(i:Int);let Z1:Int:=(l.length:Int);let Z2:cC:=List.getD l Z0.toNat (cC.mk 0 0 0 0 0);let Z3:bK:=dO bs (cC.b8 Z2) 3;let Z4:bK:=dO Z3 (bits .i64 (fun(x:Nat) (u v:BitVec x)=>u|||v) (cX (cC.key Z2*16)) (cC.j Z2)) 1;bif decide (Z0<Z1)then cb (ep Z0 Z1) (cb (decide (bs.length<=1000000000)) (cb (decide (Z3.length<=1000000000)) (cb (decide (Z4.length<=1000000000)) (some ((X.normal,[(4,D.ptr 0 []),(72,D.sl ca.bP c l),(73,cq Z1),(74,cq (cX (Z0+1)))]),[some (Obj.var 204 (.bI (D.sl ca.u8 (!QU (cC.value Z2) 1) (dO Z4 (cC.value Z2) 1)) .bN))])))))else some ((X.exit 4,[]),[some (Obj.var 204 (.bI (D.sl ca.u8 cp bs) .bN))])):=by kernel_rfl
def Kd(cp:Bool)(bs:bK)(c:Bool)(l:bJ)(i:Nat):RT RC:=.leaf (.exit 4) [] [.var 204 (cL .u8 (cp&&(l.drop i).isEmpty) (bs++(l.drop i).flatMap ZJ) .bN)]
def VZ(cp:Bool)(bs:bK)(c:Bool)(l:bJ)(i:Nat):Prop:=i<=l.length/\l.length<=1000000/\bs.length<=1000000+5*i/\l.all VJ=true
def Vl:QK RC Uu where
 k:=1
 cS q:=My q.cp q.bs q.c q.l q.i
 cR q:=JF q.cp q.bs q.c q.l q.i
 fin q:=Kd q.cp q.bs q.c q.l q.i
 Inv q:=VZ q.cp q.bs q.c q.l q.i
 μ q:=q.l.length-q.i
theorem QgU cp bs c l i(hI:VZ cp bs c l i):dw (WA cp bs c l i) (dF Vl ⟨cp,bs,c,l,i⟩):=by
 (rw[Qo2];delta cb ep cq cX;conv=>zeta)
 unfold VZ at hI;obtain⟨h1,h2,h3,h4⟩:=hI
 by_cases cY:i<l.length
 ·have cN:=fa i (by omega)
  have ei:=gv (show i<l.length by omega)
  have ef:=fV (show i<l.length by omega)
  have dp:=bw i
  simp only[cN,ei,ef,dp,ag];have hf:=GI h4 cY (⟨0,0,0,0,0⟩:cC);have hd:(l.drop i).flatMap ZJ=_:=Yh l i ZJ cY (⟨0,0,0,0,0⟩:cC);have he:(l.drop i).isEmpty=false:=by simp;omega
  generalize l.getD i (⟨0,0,0,0,0⟩:cC)=x at hf hd ⊢;simp only[VJ,ai]at hf;obtain⟨⟨⟨f1,f2⟩,f3⟩,f4⟩:=hf;have f5:Qm (x.key*16+x.j) 0 255=true:=by rw[Qp]at f2 f3 ⊢;omega
  have n1:decide (bs.length<=1000000000)=true:=ab (by omega);have n2:decide ((bs++fX x.b8 3).length<=1000000000)=true:=ab (by simp[Qw];omega);have n3:decide ((bs++fX x.b8 3++fX (x.key*16+x.j) 1).length<=1000000000)=true:=ab (by simp[Qw];omega);have hb:bits .i64 (fun _ u v=>u|||v) (IntKind.i64.wrap (x.key*16)) x.j=x.key*16+x.j:=Qkj f2 f3;simp only[hb,Int.toNat_one,show Int.toNat 3=3 from rfl,Q7 (JD f1),Q7 (rP f5),Q7 (rP f4),JD f1,rP f5,rP f4,n1,n2,n3,ag,bg];refine Qg ⟨false,bs++fX x.b8 3++fX (x.key*16+x.j) 1++fX x.value 1,c,l,i+1⟩ ⟨cY,h2,by simp[Qw];omega,h4⟩ (by simp only[Vl];omega) ?_ rfl rfl;simp[Vl,Kd,hd,he,ZJ,RT.val]
 ·have hi:i=l.length:=by omega
  have c1:decide ((i:Int)<l.length)=false:=by simp;omega
  rw[c1];exact Qi (JF cp bs c l i) (by simp[Vl,Kd,JF,hi,RT.val]) rfl
def Mz(env:bX)(os:bR):Option (Bool×Uu):=match env,os with
 |[(4,.ptr 0 []),(72,.sl .bP c l),(73,.int .i64 x0),(74,.int .i64 x1)],[.var 204 (.bI (.sl .u8 cp bs) .bN)]=>some (decide (x0=l.length)&&decide (x1=0)&&decide (l.length<=1000000/\bs.length<=1000000)&&l.all VJ,⟨cp,bs,c,l,0⟩)
 |_,_=>none
def AM:=AL.cP 188 23 (eZ cF [.slot 4 0] [4,72,73,74] Vl Mz)
theorem QrI:Qj Tryz.prog cF AM:=by
 refine QrH.cJ Qb (by kernel_rfl) Vl 40 [4,72,73,74] [] [.slot 4 0] [4,72,73,74] Mz (fun q hI=>?_) ?_
 ·obtain⟨cp,bs,c,l,i⟩:=q;refine⟨?_,?_,QgU cp bs c l i hI⟩
  ·simp_all[Qk,Vl,My,JF,VZ,D.refs,Obj.refs,de]
  ·simp_all[Vl,Kd,JF,VZ,RT.da,Qk,D.refs,Obj.refs,de]
 ·intro env os b q cW hb;unfold Mz at cW
  split at cW
  ·cases cW;simp only[ai,aa]at hb;obtain⟨⟨⟨rfl,rfl⟩,hl⟩,ha⟩:=hb;exact⟨⟨aK _,hl.1,bk hl.2 (Nat.le_add_right _ _),ha⟩,rfl,rfl⟩
  ·cases cW
def Tq:bW->bO
 |[.bI (.int .i64 p) (.bI (.sl .cE ci bV) (.bI (.bI (.sl .bP k0 l0) (.bI (.sl .bP k1 l1) (.bI (.sl .bP k2 l2) .bN))) (.bI (.arr .int 3 [c0,c1,c2]) .bN)))]=>some (decide (bV.length<=9223372036854775807/\l0.length<=9223372036854775807/\l1.length<=9223372036854775807/\l2.length<=9223372036854775807),.cH (cL .u8 (!Qs ⟨p,bV,l0,l1,l2,c0,c1,c2⟩) (bif Qs ⟨p,bV,l0,l1,l2,c0,c1,c2⟩then Vz ⟨p,bV,l0,l1,l2,c0,c1,c2⟩else[]) (cG (bif Qs ⟨p,bV,l0,l1,l2,c0,c1,c2⟩then 0 else 2) .bN)))
 |_=>none
def TG(p:Int)(ci:Bool)(bV:bM)(k0 k1 k2:Bool)(l0 l1 l2:bJ)(c0 c1 c2:Int):=eU cF AM 40 188 [.bI (.int .i64 p) (cL .cE ci bV (.bI (cL .bP k0 l0 (cL .bP k1 l1 (cL .bP k2 l2 .bN))) (.bI (.arr (C:=RC) .int 3 [c0,c1,c2]) .bN)))]
set_option maxHeartbeats 4000000 in
theorem QgV p ci bV k0 k1 k2 l0 l1 l2 c0 c1 c2:TG p ci bV k0 k1 k2 l0 l1 l2 c0 c1 c2=(let Z0:=bV.length;let Z1:=l0.length;let Z2:=l1.length;let Z3:=l2.length;let Z4:Int:=(Z0:Int);let Z5:bK:=dO (dO [] p 3) Z4 1;let Z6:=Qc Z1;let Z7:Int:=(Z1:Int);let Z8:bK:=Z5++List.flatMap YK (List.drop 0 bV);let Z9:Bool:=decide (Z8.length<=1000000000);let dg:Bool:=decide (List.length (dO Z8 c0 3)<=1000000000);let dq:bK:=dO (dO Z8 c0 3) Z7 1;let dE:Bool:=decide (dq.length<=1000000000);let dQ:Bool:=decide (Z7=Z7)&&true;let dv:cC:=cC.mk 0 0 0 0 0;let dT:bK:=dO dq (cC.offset (List.getD l0 0 dv)) 3;let dL:=Qc Z2;let eK:Int:=(Z2:Int);let eo:Bool:=decide ((0:Int)<eK);let eX:Bool:=decide ((0:Int)<=0/\(0:Int)<eK);let eC:=List.flatMap ZJ (List.drop 0 l0);let eP:Bool:=decide (List.length (dT++eC)<=1000000000);let fF:bK:=dO (dT++eC) c1 3;let fz:Bool:=decide (fF.length<=1000000000);let fM:bK:=dO fF eK 1;let gf:Bool:=decide (fM.length<=1000000000);let gK:Bool:=decide (eK=eK)&&true;let iW:=cC.offset (List.getD l1 0 dv);let jO:=List.all l1 VJ;let gC:=Qc Z3;let jh:Int:=(Z3:Int);let jy:Bool:=decide ((0:Int)<jh);let jP:Bool:=decide ((0:Int)<=0/\(0:Int)<jh);let jo:=List.flatMap ZJ (List.drop 0 l1);let kb:Bool:=decide (List.length (dO fM iW 3++jo)<=1000000000);let iI:bK:=dO (dO fM iW 3++jo) c2 3;let jx:Bool:=decide (iI.length<=1000000000);let iP:bK:=dO iI jh 1;let jE:Bool:=decide (iP.length<=1000000000);let jr:Bool:=decide (jh=jh)&&true;let ki:=cC.offset (List.getD l2 0 dv);let ke:=List.all l2 VJ;let lx:=List.isEmpty (List.drop 0 l2);let j4:Bool := !QU ki 3&&lx;let kj:=List.flatMap ZJ (List.drop 0 l2);let jQ:bQ:=D.bI (D.int .i64 0) .bN;let dY:fG:=none;let kY:Bool:=false&&lx;let lT:bK:=dO fM 0 3++jo;let lU:Bool:=decide (lT.length<=1000000000);let nO:Bool:=decide (List.length (dO lT c2 3)<=1000000000);let nP:bK:=dO (dO lT c2 3) jh 1;let pi:Bool:=decide (nP.length<=1000000000);let lc:bK:=dO dq 0 3++eC;let oU:Bool:=decide (lc.length<=1000000000);let qH:Bool:=decide (List.length (dO lc c1 3)<=1000000000);let oV:bK:=dO (dO lc c1 3) eK 1;let n6:Bool:=decide (oV.length<=1000000000);let oW:Bool:=decide (List.length (dO oV iW 3++jo)<=1000000000);let n7:bK:=dO (dO oV iW 3++jo) c2 3;let mY:Bool:=decide (n7.length<=1000000000);let kE:bK:=dO n7 jh 1;let oX:Bool:=decide (kE.length<=1000000000);let pY:bK:=dO oV 0 3++jo;let qI:Bool:=decide (pY.length<=1000000000);let sf:Bool:=decide (List.length (dO pY c2 3)<=1000000000);let mn:bK:=dO (dO pY c2 3) jh 1;let mo:Bool:=decide (mn.length<=1000000000);bif decide (Z0<=9223372036854775807/\Z1<=9223372036854775807/\Z2<=9223372036854775807/\Z3<=9223372036854775807)then bif !Qs (St.mk p bV l0 l1 l2 c0 c1 c2)then some (D.cH (D.bI (D.sl ca.u8 true []) (.bI (D.int .i64 2) .bN)))else bif Qc Z0 then bif decide (List.length (dO [] p 3)<=1000000000)then bif Qc Z0 then bif decide (Z4=Z4)&&true&&decide (Z0<=1000000/\Z5.length<=1000000)&&List.all bV m8 then bif Z6 then bif decide ((0:Int)<Z7)then bif decide ((0:Int)<=0/\(0:Int)<Z7)then bif Z9 then bif Z6 then bif dg then bif dE then bif Z6 then bif dQ&&decide (Z1<=1000000/\dT.length<=1000000)&&List.all l0 VJ then bif dL then bif eo then bif eX then bif eP then bif dL then bif fz then bif gf then bif dL then bif gK&&decide (Z2<=1000000/\List.length (dO fM iW 3)<=1000000)&&jO then bif gC then bif jy then bif jP then bif kb then bif gC then bif jx then bif jE then bif gC then bif jr&&decide (Z3<=1000000/\List.length (dO iP ki 3)<=1000000)&&ke then some (D.cH (D.bI (D.sl ca.u8 j4 (dO iP ki 3++kj)) jQ))else dY else dY else dY else dY else dY else dY else dY else bif kb then bif gC then bif jx then bif jE then bif gC then bif jr&&decide (Z3<=1000000/\List.length (dO iP 0 3)<=1000000)&&ke then some (D.cH (D.bI (D.sl ca.u8 kY (dO iP 0 3++kj)) jQ))else dY else dY else dY else dY else dY else dY else dY else dY else dY else dY else dY else dY else dY else dY else bif eP then bif dL then bif fz then bif gf then bif dL then bif gK&&decide (Z2<=1000000/\List.length (dO fM 0 3)<=1000000)&&jO then bif gC then bif jy then bif jP then bif lU then bif gC then bif nO then bif pi then bif gC then bif jr&&decide (Z3<=1000000/\List.length (dO nP ki 3)<=1000000)&&ke then some (D.cH (D.bI (D.sl ca.u8 j4 (dO nP ki 3++kj)) jQ))else dY else dY else dY else dY else dY else dY else dY else bif lU then bif gC then bif nO then bif pi then bif gC then bif jr&&decide (Z3<=1000000/\List.length (dO nP 0 3)<=1000000)&&ke then some (D.cH (D.bI (D.sl ca.u8 kY (dO nP 0 3++kj)) jQ))else dY else dY else dY else dY else dY else dY else dY else dY else dY else dY else dY else dY else dY else dY else dY else dY else dY else dY else dY else dY else dY else bif Z9 then bif Z6 then bif dg then bif dE then bif Z6 then bif dQ&&decide (Z1<=1000000/\List.length (dO dq 0 3)<=1000000)&&List.all l0 VJ then bif dL then bif eo then bif eX then bif oU then bif dL then bif qH then bif n6 then bif dL then bif gK&&decide (Z2<=1000000/\List.length (dO oV iW 3)<=1000000)&&jO then bif gC then bif jy then bif jP then bif oW then bif gC then bif mY then bif oX then bif gC then bif jr&&decide (Z3<=1000000/\List.length (dO kE ki 3)<=1000000)&&ke then some (D.cH (D.bI (D.sl ca.u8 j4 (dO kE ki 3++kj)) jQ))else dY else dY else dY else dY else dY else dY else dY else bif oW then bif gC then bif mY then bif oX then bif gC then bif jr&&decide (Z3<=1000000/\List.length (dO kE 0 3)<=1000000)&&ke then some (D.cH (D.bI (D.sl ca.u8 kY (dO kE 0 3++kj)) jQ))else dY else dY else dY else dY else dY else dY else dY else dY else dY else dY else dY else dY else dY else dY else bif oU then bif dL then bif qH then bif n6 then bif dL then bif gK&&decide (Z2<=1000000/\List.length (dO oV 0 3)<=1000000)&&jO then bif gC then bif jy then bif jP then bif qI then bif gC then bif sf then bif mo then bif gC then bif jr&&decide (Z3<=1000000/\List.length (dO mn ki 3)<=1000000)&&ke then some (D.cH (D.bI (D.sl ca.u8 j4 (dO mn ki 3++kj)) jQ))else dY else dY else dY else dY else dY else dY else dY else bif qI then bif gC then bif sf then bif mo then bif gC then bif jr&&decide (Z3<=1000000/\List.length (dO mn 0 3)<=1000000)&&ke then some (D.cH (D.bI (D.sl ca.u8 kY (dO mn 0 3++kj)) jQ))else dY else dY else dY else dY else dY else dY else dY else dY else dY else dY else dY else dY else dY else dY else dY else dY else dY else dY else dY else dY else dY else dY else dY else dY else dY else dY):=by kernel_rfl
theorem QgW p ci bV k0 k1 k2 l0 l1 l2 c0 c1 c2(h:(decide (bV.length<=9223372036854775807/\l0.length<=9223372036854775807/\l1.length<=9223372036854775807/\l2.length<=9223372036854775807))=true):TG p ci bV k0 k1 k2 l0 l1 l2 c0 c1 c2=some (.cH (cL .u8 (!Qs ⟨p,bV,l0,l1,l2,c0,c1,c2⟩) (bif Qs ⟨p,bV,l0,l1,l2,c0,c1,c2⟩then Vz ⟨p,bV,l0,l1,l2,c0,c1,c2⟩else[]) (cG (bif Qs ⟨p,bV,l0,l1,l2,c0,c1,c2⟩then 0 else 2) .bN))):=by
 (rw[QgV];conv=>zeta)
 rw[h];cases hm:Qs ⟨p,bV,l0,l1,l2,c0,c1,c2⟩
 ·rfl
 ·obtain⟨hp,Po,Pn,⟨k0,m0,w0,o0⟩,⟨k1,m1,w1,o1⟩,⟨k2,m2,w2,o2⟩⟩:=Vj hm;have b:=Qd (show bV.length<=9223372036854775807 by omega);have b0:=Qd (show l0.length<=9223372036854775807 by omega);have b1:=Qd (show l1.length<=9223372036854775807 by omega);have b2:=Qd (show l2.length<=9223372036854775807 by omega);have fp:QU p 3=true:=JD (by rw[Qp];omega);have fi:QU (bV.length:Int) 1=true:=rP (by rw[Qp];omega);have fc0:QU c0 3=true:=JD (by rw[Qp];omega);have fc1:QU c1 3=true:=JD (by rw[Qp];omega);have fc2:QU c2 3=true:=JD (by rw[Qp];omega);have fl0:QU (l0.length:Int) 1=true:=rP (by rw[Qp];omega);have fl1:QU (l1.length:Int) 1=true:=rP (by rw[Qp];omega);have fl2:QU (l2.length:Int) 1=true:=rP (by rw[Qp];omega);have fo0:QU (l0.getD 0 ⟨0,0,0,0,0⟩).offset 3=true:=JD (by rw[Qp];unfold QJ at o0;omega);have fo1:QU (l1.getD 0 ⟨0,0,0,0,0⟩).offset 3=true:=JD (by rw[Qp];unfold QJ at o1;omega);have fo2:QU (l2.getD 0 ⟨0,0,0,0,0⟩).offset 3=true:=JD (by rw[Qp];unfold QJ at o2;omega);have f0:QU 0 3=true:=rfl;have L:∀b:bK,b.length<=100000->decide (b.length<=1000000000)=true:=fun b hb=>ab (by omega);have L2:∀(b:bK) (n:Nat),n<=24->b.length<=100000->decide (n<=1000000/\b.length<=1000000)=true:=fun b n hn hb=>by simp;omega
  have i0:∀l:bJ,decide (0<=(0:Int)/\(0:Int)<l.length)=decide (0<(l.length:Int)):=fun l=>by simp
  have sI:=ZE bV YK 5 FY;have s0:=ZE l0 ZJ 5 Yz;have s1:=ZE l1 ZJ 5 Yz;have s2:=ZE l2 ZJ 5 Yz;simp only[b,b0,b1,b2,show Int.toNat 1=1 from rfl,show Int.toNat 3=3 from rfl,Q7 fp,Q7 fi,Q7 fc0,Q7 fc1,Q7 fc2,Q7 fl0,Q7 fl1,Q7 fl2,Q7 fo0,Q7 fo1,Q7 fo2,Q7 f0,fp,fi,fc0,fc1,fc2,fl0,fl1,fl2,fo0,fo1,fo2,f0,Pn,w0,w1,w2,ag,ah,bg,bh,Bool.and_true,Bool.true_and,aM,bG,Bool.false_and,i0];simp(disch:=first|omega|(simp only[aC,Qw,bH,sI,s0,s1,s2];omega)) only[L,L2,ag]
  have hx:∀l:bJ,¬(0<l.length)->(l.getD 0 ⟨0,0,0,0,0⟩).offset=0:=fun l hl=>by
   have:l=[]:=by cases l with
    |nil=>rfl
    |cons _ _=>simp at hl
   rw[this];rfl
  simp only[Vz,QB,QJ];simp only[Int.natCast_pos]
  by_cases e0:0<l0.length<;>by_cases e1:0<l1.length<;>by_cases e2:0<l2.length<;>simp only[e0,e1,e2,aM,aW,ag,ah]<;>simp[e0,e1,e2,hx]
def AN:=AM.cm 188 Tq
theorem QrJ:Qj Tryz.prog cF AN:=QrI.c6 Qb fun args d h=>by
 unfold Tq at h
 split at h
 ·obtain⟨h1,rfl⟩:=ak h;exact⟨by simp[D.refs],40,QgW _ _ _ _ _ _ _ _ _ _ _ _ h1⟩
 ·cases h
theorem FZ{α:Type}[DecidableEq α](l m:List α)(i:Nat)(d:α)(cY:i<l.length)(dc:l.length=m.length) :
 decide (l.drop i=m.drop i)=(decide (l.getD i d=m.getD i d)&&decide (l.drop (i+1)=m.drop (i+1))):=by
 have e1:=aJ cY;have e2:=aJ (show i<m.length by omega);have h1:l.getD i d=l[i]:=by simp[cY]
 have h2:m.getD i d=m[i]'(by omega):=by simp[show i<m.length by omega]
 rw[h1,h2,e1,e2,Bool.eq_iff_iff];simp only[List.cons.injEq,aa,ai]
theorem Gs{α:Type}[DecidableEq α](l m:List α)(i:Nat)(h1:l.length<=i)(h2:m.length<=i):decide (l.drop i=m.drop i)=true:=by
 simp[aO h1,aO h2]
theorem Ek{α:Type}[DecidableEq α][BEq α][LawfulBEq α](a b:α):(a==b)=decide (a=b):=by rw[Bool.eq_iff_iff];simp
theorem QEJ(x y:Item):(x.key==y.key&&(x.b8==y.b8&&(x.value==y.value&&true)))=decide (x=y):=by
 rw[Bool.eq_iff_iff];cases x;cases y;simp
theorem QEK(x y:cC):(x.offset==y.offset&&(x.b8==y.b8&&(x.j==y.j&&(x.key==y.key&&(x.value==y.value&&true)))))=decide (x=y):=by
 rw[Bool.eq_iff_iff];cases x;cases y;simp
def VA(p c:Int)(l:bJ)(i:Nat):Bool:=(decide (i≠0)||l.isEmpty||decide (c<(l.getD 0 ⟨0,0,0,0,0⟩).b8))&&QW (Vi p) YW l i
theorem QrK p c l:YJ p c l=(decide (l.length<=16)&&decide (0<=c)&&decide (c<=p)&&VA p c l 0):=by
 unfold YJ VA Qm;cases decide (l.length<=16)<;>cases decide (0<=c)<;>cases decide (c<=p)<;>simp
theorem P7{n:Int}(h0:0<=n)(h1:n<=9223372036854775807):IntKind.i64.wrap (n.tdiv 256)=n.fdiv 256/\0<=n.fdiv 256/\n.fdiv 256<=9223372036854775807:=by
 obtain⟨a,b⟩:=T6 h0;rw[Int.tdiv_eq_ediv_of_nonneg h0,b];exact⟨cu (by omega) (by omega),by omega,by omega⟩
theorem P6{n:Int}(h0:0<=n):UInt8.ofNat (IntKind.u8.wrap (n.tmod 256)).toNat=Zu n:=by
 rw[Zu,DI,DI,Int.tmod_eq_emod_of_nonneg h0,Int.emod_emod_of_dvd _ (by decide)]
theorem kV n:fX n 1=[Zu n]:=rfl
theorem vp n:fX n 3=[Zu n,Zu (n.fdiv 256),Zu ((n.fdiv 256).fdiv 256)]:=rfl
def V0(c:Int)(l:bJ):Bool:=decide (0<=c)&&decide (c<=1048575)&&decide (l.length<=16)&&l.all VJ&&decide (0<=QJ l)&&decide (QJ l<=4194303)
theorem Y4{c:Int}{l:bJ}:V0 c l=true↔(0<=c/\c<=1048575)/\l.length<=16/\l.all VJ=true/\(0<=QJ l/\QJ l<=4194303):=by
 simp only[V0,ai,aa];constructor<;>(intro h;simp_all)
def Yd(s:St):Nat->bK
 |0=>QB s.c0 s.l0++(QB s.c1 s.l1++QB s.c2 s.l2)
 |1=>QB s.c1 s.l1++QB s.c2 s.l2
 |2=>QB s.c2 s.l2
 |_=>[]
open Go.Proofs
structure WB where
 (n w:Int)(i:Nat)
def MN(n w:Int)(i:Nat):bX:=[(0,.int .i64 n),(1,.int .i64 w),(5,.int .i64 (i:Int))]
def GJ(n w:Int)(i:Nat):bR:=[]
def Qmd n w i:=eF cF AN 192 4 40 0 [0,1,5] [0] [] (MN n w i) (GJ n w i)
theorem QrL(n w:Int)(i:Nat):Qmd n w i=(bif decide ((↑i:Int)<w)then some ((X.normal,[(0,D.int .i64 (IntKind.wrap .i64 (Int.tdiv n (256:Int)))),(1,D.int .i64 w),(5,D.int .i64 (IntKind.wrap .i64 ((↑i:Int)+(1:Int))))]),[])else some ((X.exit (0:Nat),[(0,D.int .i64 n)]),[])):=by kernel_rfl
def F0(n w:Int)(i:Nat):RT RC:=.leaf (.exit 0) [(0,.int .i64 (n/256^(w.toNat-i)))] []
def Y5(n w:Int)(i:Nat):Prop:=0<=n/\n<=9223372036854775807/\(i:Int)<=w/\w<=6
def Vc:QK RC WB where
 k:=0
 cS q:=MN q.n q.w q.i
 cR q:=GJ q.n q.w q.i
 fin q:=F0 q.n q.w q.i
 Inv q:=Y5 q.n q.w q.i
 μ q:=q.w.toNat-q.i
theorem Qii n w i(hI:Y5 n w i):dw (Qmd n w i) (dF Vc ⟨n,w,i⟩):=by
 rw[QrL];unfold Y5 at hI;obtain⟨h1,h2,h3,h4⟩:=hI
 by_cases cY:(i:Int)<w
 ·have cN:=fa i (by omega)
  have hd:IntKind.i64.wrap (n.tdiv 256)=n/256:=by rw[Int.tdiv_eq_ediv_of_nonneg h1];exact cu (by omega) (by omega)
  simp only[cY,aM,ag,cN,hd];refine Qg ⟨n/256,w,i+1⟩ (by simp only[Vc,Y5];omega) (by simp only[Vc];omega) ?_ rfl rfl;simp only[Vc,F0];have:w.toNat-i=(w.toNat-(i+1))+1:=by omega
  rw[this,Int.pow_succ',Int.ediv_ediv_of_nonneg (by omega)]
 ·have hi:w.toNat-i=0:=by omega
  simp only[cY,aW,ah];exact Qi [] (by simp[Vc,F0,hi,RT.val]) rfl
def MO(env:bX)(os:bR):Option (Bool×WB):=match env,os with
 |[(0,.int .i64 n),(1,.int .i64 w),(5,.int .i64 x0)],[]=>some (decide (x0=0)&&decide (0<=n/\n<=9223372036854775807/\0<=w/\w<=6),⟨n,w,0⟩)
 |_,_=>none
def AO:=AN.cP 192 4 (eZ cF [] [0,1,5] Vc MO)
theorem QrM:Qj Tryz.prog cF AO:=by
 refine QrJ.cJ Qb (by kernel_rfl) Vc 40 [0,1,5] [0] [] [0,1,5] MO (fun q hI=>?_) ?_
 ·obtain⟨n,w,i⟩:=q;refine⟨?_,?_,Qii n w i hI⟩
  ·simp_all[Qk,Vc,MN,GJ,Y5,D.refs,Obj.refs,de]
  ·simp_all[Vc,F0,GJ,Y5,RT.da,Qk,D.refs,Obj.refs,de]
 ·intro env os b q cW hb;unfold MO at cW
  split at cW
  ·cases cW;simp only[ai,aa]at hb;obtain⟨rfl,hq⟩:=hb;exact⟨by simp only[Vc,Y5];omega,rfl,rfl⟩
  ·cases cW
def WC:bW->bO
 |[.int .i64 n,.int .i64 w]=>some (decide (n<=9223372036854775807/\1<=w/\w<=6)&&QU n w.toNat,.bool true)
 |_=>none
def Qmf(n w:Int):=eU cF AO 40 192 [.int .i64 n,.int .i64 w]
theorem QrN n w:Qmf n w=(let Z0:fG:=some (D.bool false);bif decide (w<1)then Z0 else bif decide ((6:Int)<w)then Z0 else bif decide (n<0)then Z0 else bif decide ((0:Int)<=n/\n<=9223372036854775807/\(0:Int)<=w/\w<=6)then some (D.bool (n/(256:Int)^(Int.toNat w-0)==0))else none):=by kernel_rfl
theorem QrO n w(h:(decide (n<=9223372036854775807/\1<=w/\w<=6)&&QU n w.toNat)=true):Qmf n w=some (.bool true):=by
 (rw[QrN];conv=>zeta)
 simp only[ai,aa]at h;obtain⟨⟨hn,pD,hw6⟩,hf⟩:=h;have h0:0<=n:=(YI.1 hf).1;have w1:¬w<1:=by omega
 have w6:¬6<w:=by omega
 have n0:¬n<0:=by omega
 have hc:(0<=n/\n<=9223372036854775807/\0<=w/\w<=6):=by omega
 have hp:(0:Int)<256^w.toNat:=Int.pow_pos (by decide);have hz:n/256^w.toNat=0:=(Int.hZ h0 hp).2 (YI.1 hf).2;rw[ad w1,ad w6,ad n0,ab hc];simp only[ah,ag,Nat.sub_zero,hz];rfl
def AP:=AO.cm 192 WC
theorem QrP:Qj Tryz.prog cF AP:=QrM.c6 Qb fun args d h=>by
 unfold WC at h
 split at h
 ·obtain⟨h1,rfl⟩:=ak h;exact⟨by simp[D.refs],40,QrO _ _ h1⟩
 ·cases h
structure Qmg where
 (c:Bool)(b:bK)(a i:Int)(m:Nat)
def Nw(c:Bool)(b:bK)(a i:Int)(m:Nat):bX:=[(0,.sl (C:=RC) .u8 c b),(1,.int .i64 a),(9,.int .i64 i),(8,.int .i64 (m:Int))]
def Ha(c:Bool)(b:bK)(a i:Int)(m:Nat):bR:=[]
def QrQ c b a i m:=eF cF AP 157 7 40 0 [0,1,9,8] [8] [] (Nw c b a i m) (Ha c b a i m)
theorem Qyv c b a i m:QrQ c b a i m=(let Z0:=cX (a+i);bif decide ((0:Int)<=i)then cb (ep Z0 (b.length:Int)) (some ((X.normal,[(0,D.sl ca.u8 c b),(1,cq a),(9,cq (cX (i-1))),(8,cq (cX (cX ((256:Int)*(m:Int))+cX (↑(UInt8.toNat (List.getD b Z0.toNat (UInt8.ofBitVec (BitVec.ofNat 8 (nat_lit 0))))):Int))))]),[]))else some ((X.exit 0,[(8,cq (m:Int))]),[])):=by kernel_rfl
def Gt(c:Bool)(b:bK)(a i:Int)(m:Nat):RT RC:=.leaf (.exit 0) [(8,.int .i64 ((m*256^(i+1).toNat+cf ((b.drop a.toNat).take (i+1).toNat):Nat):Int))] []
def JG(c:Bool)(b:bK)(a i:Int)(m:Nat):Prop := -1<=i/\i<=5/\0<=a/\a+i+1<=b.length/\b.length<=1000000000000/\m<256^(5-i).toNat
def KT:QK RC Qmg where
 k:=0
 cS q:=Nw q.c q.b q.a q.i q.m
 cR q:=Ha q.c q.b q.a q.i q.m
 fin q:=Gt q.c q.b q.a q.i q.m
 Inv q:=JG q.c q.b q.a q.i q.m
 μ q:=(q.i+1).toNat
theorem Qks c b a i m(hI:JG c b a i m):dw (QrQ c b a i m) (dF KT ⟨c,b,a,i,m⟩):=by
 (rw[Qyv];delta cb ep cq cX;conv=>zeta)
 unfold JG at hI;obtain⟨h1,h2,h3,h4,h5,h6⟩:=hI
 by_cases cY:0<=i
 ·have w1:IntKind.i64.wrap (a+i)=a+i:=cu (by omega) (by omega);have w2:IntKind.i64.wrap (i-1)=i-1:=cu (by omega) (by omega);have d1:decide (0<=a+i/\a+i<b.length)=true:=by simp;omega
  have hm:m<256^5:=bj h6 (Nat.pow_le_pow_right (by omega) (by omega));have hx:=(b.getD (a+i).toNat ⟨0#8⟩).toNat_lt;have w3:IntKind.i64.wrap (256*(m:Int))=((256*m:Nat):Int):=by rw[cu (by omega) (by omega)];simp
  have w4:IntKind.i64.wrap (((256*m:Nat):Int)+((b.getD (a+i).toNat ⟨0#8⟩).toNat:Int))=((256*m+(b.getD (a+i).toNat ⟨0#8⟩).toNat:Nat):Int):=by
   rw[cu (by omega) (by omega)];simp
  simp only[cY,aM,ag,w1,w2,d1,w3,Hs,w4];have hk:(5-(i-1)).toNat=(5-i).toNat+1:=by omega
  have ui:JG c b a (i-1) (256*m+(b.getD (a+i).toNat ⟨0#8⟩).toNat):=⟨by omega,by omega,h3,by omega,h5,by rw[hk,Nat.pow_succ];omega⟩;refine Qg ⟨c,b,a,i-1,256*m+(b.getD (a+i).toNat ⟨0#8⟩).toNat⟩ ui (by simp only[KT];omega) ?_ rfl rfl
  ·simp only[KT,Gt];obtain⟨k,rfl⟩:∃k:Nat,i=k:=⟨i.toNat,by omega⟩;obtain⟨p,rfl⟩:∃p:Nat,a=p:=⟨a.toNat,by omega⟩;have e1:((k:Int)-1+1).toNat=k:=by omega
   have e2:((k:Int)+1).toNat=k+1:=by omega
   have e3:((p:Int)+(k:Int)).toNat=p+k:=by omega
   have e4:((p:Int)).toNat=p:=by omega
   rw[e1,e2,e3,e4];have hl:((b.drop p).take k).length=k:=by simp;omega
   have hg:(b.drop p)[k]? = some (b.getD (p+k) ⟨0#8⟩):=by
    simp[List.getElem?_drop,show p+k<b.length by omega]
   rw[List.take_add_one,KK,hl,hg];simp only[Option.toList_some,cf]
   have:(256*m+(b.getD (p+k) ⟨0#8⟩).toNat)*256^k+cf ((b.drop p).take k)=m*256^(k+1)+(cf ((b.drop p).take k)+256^k*((b.getD (p+k) ⟨0#8⟩).toNat+256*0)):=by
    rw[Nat.pow_succ,Nat.add_mul,Nat.mul_comm 256 m,Nat.mul_assoc,Nat.mul_comm 256 (256^k),Nat.mul_comm (b.getD (p+k) ⟨0#8⟩).toNat];simp;omega
   rw[this]
 ·have e0:(i+1).toNat=0:=by omega
  simp only[cY,aW,ah];exact Qi [] (by simp[KT,Gt,e0,RT.val,cf]) rfl
def Nx(env:bX)(os:bR):Option (Bool×Qmg):=match env,os with
 |[(0,.sl .u8 c b),(1,.int .i64 a),(9,.int .i64 i),(8,.int .i64 x0)],[]=>some (decide (x0=0)&&decide (-1<=i/\i<=5/\0<=a/\a+i+1<=b.length/\b.length<=1000000000000),⟨c,b,a,i,0⟩)
 |_,_=>none
def AQ:=AP.cP 157 7 (eZ cF [] [0,1,9,8] KT Nx)
theorem QrR:Qj Tryz.prog cF AQ:=by
 refine QrP.cJ Qb (by kernel_rfl) KT 40 [0,1,9,8] [8] [] [0,1,9,8] Nx (fun q hI=>?_) ?_
 ·obtain⟨c,b,a,i,m⟩:=q;refine⟨?_,?_,Qks c b a i m hI⟩
  ·simp_all[Qk,KT,Nw,Ha,JG,D.refs,Obj.refs,de]
  ·simp_all[KT,Gt,Ha,JG,RT.da,Qk,D.refs,Obj.refs,de]
 ·intro env os b q cW hb;unfold Nx at cW
  split at cW
  ·cases cW;simp only[ai,aa]at hb;obtain⟨rfl,h⟩:=hb;exact⟨⟨h.1,h.2.1,h.2.2.1,h.2.2.2.1,h.2.2.2.2,Nat.pow_pos (by omega)⟩,rfl,rfl⟩
  ·cases cW
def Qmh:bW->bO
 |[.sl .u8 c b,.int .i64 a,.int .i64 w]=>some (decide (b.length<=1000000000000),.cH (cG (cU b a w).1 (cG (cU b a w).2 .bN)))
 |_=>none
def QrT(c:Bool)(b:bK)(a w:Int):=eU cF AQ 40 157 [.sl (C:=RC) .u8 c b,.int .i64 a,.int .i64 w]
theorem Qyw c b a w:QrT c b a w=(let Z0:bQ:=cq 0;let Z1:fG:=some (D.cH (D.bI Z0 (D.bI (cq 2) .bN)));let Z2:fG:=some (D.cH (D.bI Z0 (D.bI (cq 50) .bN)));let Z3:=b.length;let Z4:Int:=(Z3:Int);let Z5:=cX (w-1);let Z6:=Int.toNat (Z5+1);bif decide (w<1)then Z1 else bif decide ((6:Int)<w)then Z1 else bif decide (a<0)then Z2 else cb (Qc Z3) (bif decide (Z4<a)then Z2 else cb (Qc Z3) (bif decide (cX (Z4-a)<w)then Z2 else cb (decide ((-1:Int)<=Z5/\Z5<=5/\(0:Int)<=a/\a+Z5+1<=Z4/\Z3<=1000000000000)) (some (D.cH (D.bI (cq (↑((0:Nat)*256^Z6+cf (List.take Z6 (List.drop a.toNat b))):Int)) (.bI Z0 .bN))))))):=by kernel_rfl
theorem Qyx c b a w(h:(decide (b.length<=1000000000000))=true):QrT c b a w=some (.cH (cG (cU b a w).1 (cG (cU b a w).2 .bN))):=by
 (rw[Qyw];delta cb cq cX;conv=>zeta)
 have hl:=af h;have kR:Qc b.length=true:=Qd (by omega);simp only[kR]
 by_cases hw:1<=w/\w<=6
 ·have w1:decide (w<1)=false:=by simp;omega
  have w2:decide (6<w)=false:=by simp;omega
  have w3:(decide (1<=w)&&decide (w<=6))=true:=by simp;omega
  have w4:IntKind.i64.wrap (w-1)=w-1:=cu (by omega) (by omega);simp only[w1,w2,ah,ag,cU,w3,w4]
  by_cases ha:0<=a/\a+w<=b.length
  ·have a1:decide (a<0)=false:=by simp;omega
   have a2:decide ((b.length:Int)<a)=false:=by simp;omega
   have e1:IntKind.i64.wrap ((b.length:Int)-a)=b.length-a:=cu (by omega) (by omega);have a3:decide ((b.length:Int)-a<w)=false:=by simp;omega
   have a5:(decide (0<=a)&&decide (a+w<=(b.length:Int)))=true:=by simp;omega
   have a6:decide (-1<=w-1/\w-1<=5/\0<=a/\a+(w-1)+1<=(b.length:Int)/\b.length<=1000000000000)=true:=by simp;omega
   have e2:(w-1+1).toNat=w.toNat:=by omega
   simp[a1,a2,e1,a3,a5,a6,e2]
  ·have a5:(decide (0<=a)&&decide (a+w<=(b.length:Int)))=false:=by simp;omega
   simp only[a5,ah]
   by_cases a1:a<0
   ·simp[a1]
   ·by_cases a2:(b.length:Int)<a
    ·simp[a1,a2]
    ·have e1:IntKind.i64.wrap ((b.length:Int)-a)=b.length-a:=cu (by omega) (by omega);have a3:decide ((b.length:Int)-a<w)=true:=by simp;omega
     simp[a1,a2,e1,a3]
 ·have w3:(decide (1<=w)&&decide (w<=6))=false:=by simp;omega
  simp only[cU,w3]
  by_cases w1:w<1
  ·simp[w1]
  ·have w2:6<w:=by omega
   simp[w1,w2]
def AR:=AQ.cm 157 Qmh
theorem QrU:Qj Tryz.prog cF AR:=QrR.c6 Qb fun args d h=>by
 unfold Qmh at h
 split at h
 ·obtain⟨h1,rfl⟩:=ak h;exact⟨by simp[D.refs],40,Qyx _ _ _ _ h1⟩
 ·cases h
open Go.Proofs
structure T7 where
 (c:Bool)(l:cA)(i:Nat)
def F3(c:Bool)(l:cA)(i:Nat):bX:=[(0,.sl (C:=RC) .write c l),(2,.bool false),(3,.int .i64 (i:Int))]
def F4(c:Bool)(l:cA)(i:Nat):bR:=[]
def Uv c l i:=eF cF AR 52 4 40 0 [0,2,3] [2] [] (F3 c l i) (F4 c l i)
theorem Qku c l i:Uv c l i=(let Z0:Int:=(i:Int);let Z1:Int:=(l.length:Int);let Z2:Bool:=ep Z0 Z1;let Z3:Qq:=Qq.mk 0 0;let Z4:Qq:=List.getD l Z0.toNat Z3;let Z5:=Qq.key Z4;let Z6:kW:=some ((X.ret,[(2,D.bool false)]),[]);let Z7:=cX (Z0-1);let Z8:kW:=some ((X.normal,[(0,D.sl ca.write c l),(2,D.bool false),(3,cq (cX (Z0+1)))]),[]);cb (Qc l.length) (bif decide (Z0<Z1)then cb Z2 (bif decide (Z5<0)then Z6 else cb Z2 (bif decide ((24:Int)<=Z5)then Z6 else cb Z2 (bif decide (Qq.value Z4<0)then Z6 else cb Z2 (bif decide ((255:Int)<Qq.value Z4)then Z6 else bif decide ((0:Int)<Z0)then cb Z2 (cb (ep Z7 Z1) (bif decide (Z5<=Qq.key (List.getD l Z7.toNat Z3))then Z6 else Z8))else Z8))))else some ((X.exit 0,[(2,D.bool false)]),[]))):=by kernel_rfl
def Vm(c:Bool)(l:cA)(i:Nat):RT RC:=.br (QW Vy JC l i) (.leaf (.exit 0) [(2,.bool false)] []) (.leaf .ret [(2,.bool false)] [])
def Vn(c:Bool)(l:cA)(i:Nat):Prop:=i<=l.length/\l.length<=9223372036854775807
def ZK:QK RC T7 where
 k:=0
 cS q:=F3 q.c q.l q.i
 cR q:=F4 q.c q.l q.i
 fin q:=Vm q.c q.l q.i
 Inv q:=Vn q.c q.l q.i
 μ q:=q.l.length-q.i
theorem Qfr c l i(hI:Vn c l i):dw (Uv c l i) (dF ZK ⟨c,l,i⟩):=by
 (rw[Qku];delta cb ep cq cX;conv=>zeta)
 unfold Vn at hI;obtain⟨h1,h2⟩:=hI;have jA:=Qd h2
 by_cases cY:i<l.length
 ·have cN:=fa i (by omega)
  have ei:=gv (show i<l.length by omega)
  have ef:=fV (show i<l.length by omega)
  have dp:=bw i
  have ir:IntKind.i64.wrap ((i:Int)-1)=(i:Int)-1:=cu (by omega) (by omega);have iq:((i:Int)-1).toNat=i-1:=by omega
  simp only[cN,ei,ef,dp,ir,iq,ag];simp only[jA,ag];have eI:=Y3 Vy JC l i (⟨0,0⟩:Qq) cY;generalize l.getD i (⟨0,0⟩:Qq)=x at eI ⊢;generalize l.getD (i-1) (⟨0,0⟩:Qq)=y at eI ⊢
  have eM:Vy x=true->(i=0\/JC y x=true)->dw (some ((X.normal,F3 c l (i+1)),[])) (dF ZK ⟨c,l,i⟩):=fun a b=>
   Qg ⟨c,l,i+1⟩ ⟨cY,h2⟩ (by simp only[ZK];omega) (by simp only[ZK,Vm,eI,a];rcases b with b|b<;>simp[b]) rfl rfl
  have gT:¬(Vy x=true/\(i=0\/JC y x=true))->dw (some ((X.ret,[(2,D.bool false)]),[])) (dF ZK ⟨c,l,i⟩):=fun he=>QT [] (by
   have:QW Vy JC l i=false:=by rw[eI];simp only[Bool.and_eq_false_iff];by_cases a:Vy x=true<;>by_cases b:i=0<;>simp_all
   simp[ZK,Vm,this,RT.val]) rfl
  simp only[Vy,JC,Qm,ai,aa]at eM gT
  by_cases hi:i=0
  ·have d0:decide (0<(i:Int))=false:=by simp;omega
   simp only[d0,ah]
   repeat' (first|(refine Yc.2 ⟨fun oz=>?_,fun oz=>?_⟩<;>simp only[aa,ae,bi,beq_eq_false_iff_ne,bne_iff_ne,ne_eq,Bool.not_eq_true,Bool.not_eq_false,bne_eq_false_iff_eq,decide_eq_decide,Bool.true_eq_false,bu]at oz))
   all_goals first|(exfalso;omega)|exact gT (by omega)|(apply eM<;>omega)
  ·have kO:decide (0<(i:Int))=true:=by simp;omega
   have kN:decide (0<=(i:Int)-1/\(i:Int)-1<l.length)=true:=by simp;omega
   simp only[kO,kN,ag]
   repeat' (first|(refine Yc.2 ⟨fun oz=>?_,fun oz=>?_⟩<;>simp only[aa,ae,bi,beq_eq_false_iff_ne,bne_iff_ne,ne_eq,Bool.not_eq_true,Bool.not_eq_false,bne_eq_false_iff_eq,decide_eq_decide,Bool.true_eq_false,bu]at oz))
   all_goals first|(exfalso;omega)|exact gT (by omega)|(apply eM<;>omega)
 ·have hi:i=l.length:=by omega
  have c1:decide ((i:Int)<l.length)=false:=by simp;omega
  simp only[jA,c1,ag,ah];exact Qi [] (by simp[ZK,Vm,hi,QW,qY,RT.val]) rfl
def LS(env:bX)(os:bR):Option (Bool×T7):=match env,os with
 |[(0,.sl .write c l),(2,.bool false),(3,.int .i64 x0)],[]=>some (decide (x0=0)&&decide (l.length<=9223372036854775807),⟨c,l,0⟩)
 |_,_=>none
def AS:=AR.cP 52 4 (eZ cF [] [0,2,3] ZK LS)
theorem QrV:Qj Tryz.prog cF AS:=by
 refine QrU.cJ Qb (by kernel_rfl) ZK 40 [0,2,3] [2] [] [0,2,3] LS (fun q hI=>?_) ?_
 ·obtain⟨c,l,i⟩:=q;refine⟨?_,?_,Qfr c l i hI⟩
  ·simp_all[Qk,ZK,F3,F4,Vn,D.refs,Obj.refs,de]
  ·simp_all[ZK,Vm,F4,Vn,RT.da,Qk,D.refs,Obj.refs,de]
 ·intro env os b q cW hb;unfold LS at cW
  split at cW
  ·cases cW;simp only[ai,aa]at hb;obtain⟨rfl,hl⟩:=hb;exact⟨⟨aK _,hl⟩,rfl,rfl⟩
  ·cases cW
def TH:bW->bO
 |[.sl .write c l]=>some (Qc l.length,.bool (Yg l))
 |_=>none
def T8(c:Bool)(l:cA):=eU cF AS 40 52 [.sl (C:=RC) .write c l]
theorem Qik c l:T8 c l=(let Z0:Nat:=List.length l;cb (Qc Z0) (bif decide ((4:Int)<(↑Z0:Int))then some (D.bool false)else cb (decide (Z0<=(9223372036854775807:Nat))) (bif QW Vy JC l (0:Nat)then some (D.bool true)else some (D.bool false)))):=by kernel_rfl
theorem Qil c l(h:(Qc l.length)=true):T8 c l=some (.bool (Yg l)):=by
 (rw[Qik];delta cb;conv=>zeta)
 have h2:l.length<=9223372036854775807:=Va h;rw[Yg,h]
 by_cases h4:l.length<=4
 ·have:¬(4:Int)<l.length:=by omega
  simp[h4,h2,this];cases QW Vy JC l 0<;>rfl
 ·have:(4:Int)<l.length:=by omega
  simp[h4,this]
def AT:=AS.cm 52 TH
theorem QrW:Qj Tryz.prog cF AT:=QrV.c6 Qb fun args d h=>by
 unfold TH at h
 split at h
 ·obtain⟨h1,rfl⟩:=ak h;exact⟨by simp[D.refs],40,Qil _ _ h1⟩
 ·cases h
def QrX:bW->bO
 |[.bI (.int .i64 p) (.bI (.bool y) (.bI (.sl .write c l) .bN))]=>some (Qc l.length,.bool (gj ⟨p,y,l⟩))
 |_=>none
def RQ(p:Int)(y c:Bool)(l:cA):=eU cF AT 40 18 [.bI (.int .i64 p) (.bI (.bool y) (cL .write c l .bN))]
theorem QCz p y c l:RQ p y c l=(let Z0:=Qc l.length;let Z1:fG:=some (D.bool false);bif decide ((1:Int)<=p)then bif decide (p<=1048575)then cb Z0 (bif Yg l then bif y then some (D.bool true)else cb Z0 (some (D.bool ((l.length:Int)==0)))else Z1)else Z1 else Z1):=by kernel_rfl
theorem QCA p y c l(h:(Qc l.length)=true):RQ p y c l=some (.bool (gj ⟨p,y,l⟩)):=by
 (rw[QCz];delta cb;conv=>zeta)
 have h3:(((l.length:Nat):Int)=0)↔l.length=0:=by omega
 simp only[gj,h,Qm];cases decide (1<=p)<;>cases decide (p<=1048575)<;>cases Yg l<;>cases y<;>simp[h3]
 cases l<;>simp
 omega
def AU:=AT.cm 18 QrX
theorem QrY:Qj Tryz.prog cF AU:=QrW.c6 Qb fun args d h=>by
 unfold QrX at h
 split at h
 ·obtain⟨h1,rfl⟩:=ak h;exact⟨by simp[D.refs],40,QCA _ _ _ _ h1⟩
 ·cases h
structure WD where
 (c:Bool)(l:bM)(p:Int)(i:Nat)
def GK(c:Bool)(l:bM)(p:Int)(i:Nat):bX:=[(0,.sl (C:=RC) .cE c l),(1,.int .i64 p),(4,.bool false),(5,.int .i64 (i:Int))]
def GL(c:Bool)(l:bM)(p:Int)(i:Nat):bR:=[]
def Qmi c l p i:=eF cF AU 125 2 40 0 [0,1,4,5] [4] [] (GK c l p i) (GL c l p i)
theorem QrZ c l p i:Qmi c l p i=(let Z0:Int:=(i:Int);let Z1:Int:=(l.length:Int);let Z2:Item:=Item.mk 0 0 0;let Z3:Item:=List.getD l Z0.toNat Z2;let Z4:=Item.key Z3;let Z5:kW:=some ((X.ret,[(4,D.bool false)]),[]);let Z6:=cX (Z0-1);let Z7:kW:=bif decide (Item.b8 Z3<1)then Z5 else bif decide (p<Item.b8 Z3)then Z5 else bif decide (Item.value Z3<0)then Z5 else bif decide ((255:Int)<Item.value Z3)then Z5 else some ((X.normal,[(0,D.sl ca.cE c l),(1,cq p),(4,D.bool false),(5,cq (cX (Z0+1)))]),[]);cb (Qc l.length) (bif decide (Z0<Z1)then cb (ep Z0 Z1) (bif decide (Z4<0)then Z5 else bif decide ((24:Int)<=Z4)then Z5 else bif decide ((0:Int)<Z0)then cb (ep Z6 Z1) (bif decide (Z4<=Item.key (List.getD l Z6.toNat Z2))then Z5 else Z7)else Z7)else some ((X.exit 0,[(4,D.bool false)]),[]))):=by kernel_rfl
def JH(c:Bool)(l:bM)(p:Int)(i:Nat):RT RC:=.br (QW (Vh p) VI l i) (.leaf (.exit 0) [(4,.bool false)] []) (.leaf .ret [(4,.bool false)] [])
def JI(c:Bool)(l:bM)(p:Int)(i:Nat):Prop:=i<=l.length/\l.length<=9223372036854775807
def YM:QK RC WD where
 k:=0
 cS q:=GK q.c q.l q.p q.i
 cR q:=GL q.c q.l q.p q.i
 fin q:=JH q.c q.l q.p q.i
 Inv q:=JI q.c q.l q.p q.i
 μ q:=q.l.length-q.i
theorem Qin c l p i(hI:JI c l p i):dw (Qmi c l p i) (dF YM ⟨c,l,p,i⟩):=by
 (rw[QrZ];delta cb ep cq cX;conv=>zeta)
 unfold JI at hI;obtain⟨h1,h2⟩:=hI;have jA:=Qd h2
 by_cases cY:i<l.length
 ·have cN:=fa i (by omega)
  have ei:=gv (show i<l.length by omega)
  have ef:=fV (show i<l.length by omega)
  have dp:=bw i
  have ir:IntKind.i64.wrap ((i:Int)-1)=(i:Int)-1:=cu (by omega) (by omega);have iq:((i:Int)-1).toNat=i-1:=by omega
  simp only[cN,ei,ef,dp,ir,iq,ag];simp only[jA,ag];have eI:=Y3 (Vh p) VI l i (⟨0,0,0⟩:Item) cY;generalize l.getD i (⟨0,0,0⟩:Item)=x at eI ⊢;generalize l.getD (i-1) (⟨0,0,0⟩:Item)=y at eI ⊢
  have eM:Vh p x=true->(i=0\/VI y x=true)->dw (some ((X.normal,GK c l p (i+1)),[])) (dF YM ⟨c,l,p,i⟩):=fun a b=>
   Qg ⟨c,l,p,i+1⟩ ⟨cY,h2⟩ (by simp only[YM];omega) (by simp only[YM,JH,eI,a];rcases b with b|b<;>simp[b]) rfl rfl
  have gT:¬(Vh p x=true/\(i=0\/VI y x=true))->dw (some ((X.ret,[(4,D.bool false)]),[])) (dF YM ⟨c,l,p,i⟩):=fun he=>QT [] (by
   have:QW (Vh p) VI l i=false:=by rw[eI];simp only[Bool.and_eq_false_iff];by_cases a:Vh p x=true<;>by_cases b:i=0<;>simp_all
   simp[YM,JH,this,RT.val]) rfl
  simp only[Vh,VI,Qm,ai,aa]at eM gT
  by_cases hi:i=0
  ·have d0:decide (0<(i:Int))=false:=by simp;omega
   simp only[d0,ah]
   repeat' (first|(refine Yc.2 ⟨fun oz=>?_,fun oz=>?_⟩<;>simp only[aa,ae,bi,beq_eq_false_iff_ne,bne_iff_ne,ne_eq,Bool.not_eq_true,Bool.not_eq_false,bne_eq_false_iff_eq,decide_eq_decide,Bool.true_eq_false,bu]at oz))
   all_goals first|(exfalso;omega)|exact gT (by omega)|(apply eM<;>omega)
  ·have kO:decide (0<(i:Int))=true:=by simp;omega
   have kN:decide (0<=(i:Int)-1/\(i:Int)-1<l.length)=true:=by simp;omega
   simp only[kO,kN,ag]
   repeat' (first|(refine Yc.2 ⟨fun oz=>?_,fun oz=>?_⟩<;>simp only[aa,ae,bi,beq_eq_false_iff_ne,bne_iff_ne,ne_eq,Bool.not_eq_true,Bool.not_eq_false,bne_eq_false_iff_eq,decide_eq_decide,Bool.true_eq_false,bu]at oz))
   all_goals first|(exfalso;omega)|exact gT (by omega)|(apply eM<;>omega)
 ·have hi:i=l.length:=by omega
  have c1:decide ((i:Int)<l.length)=false:=by simp;omega
  simp only[jA,c1,ag,ah];exact Qi [] (by simp[YM,JH,hi,QW,qY,RT.val]) rfl
def MF(env:bX)(os:bR):Option (Bool×WD):=match env,os with
 |[(0,.sl .cE c l),(1,.int .i64 p),(4,.bool false),(5,.int .i64 x0)],[]=>some (decide (x0=0)&&decide (l.length<=9223372036854775807),⟨c,l,p,0⟩)
 |_,_=>none
def AV:=AU.cP 125 2 (eZ cF [] [0,1,4,5] YM MF)
theorem Qr0:Qj Tryz.prog cF AV:=by
 refine QrY.cJ Qb (by kernel_rfl) YM 40 [0,1,4,5] [4] [] [0,1,4,5] MF (fun q hI=>?_) ?_
 ·obtain⟨c,l,p,i⟩:=q;refine⟨?_,?_,Qin c l p i hI⟩
  ·simp_all[Qk,YM,GK,GL,JI,D.refs,Obj.refs,de]
  ·simp_all[YM,JH,GL,JI,RT.da,Qk,D.refs,Obj.refs,de]
 ·intro env os b q cW hb;unfold MF at cW
  split at cW
  ·cases cW;simp only[ai,aa]at hb;obtain⟨rfl,hl⟩:=hb;exact⟨⟨aK _,hl⟩,rfl,rfl⟩
  ·cases cW
structure WE where
 (k:Bool)(l:bJ)(p c:Int)(i:Nat)
def GM(k:Bool)(l:bJ)(p c:Int)(i:Nat):bX:=[(0,.sl (C:=RC) .bP k l),(1,.int .i64 p),(2,.int .i64 c),(6,.bool false),(7,.int .i64 (i:Int))]
def GN(k:Bool)(l:bJ)(p c:Int)(i:Nat):bR:=[]
def Qmj k l p c i:=eF cF AV 126 4 60 0 [0,1,2,6,7] [6] [] (GM k l p c i) (GN k l p c i)
theorem Qr1 k l p c i:Qmj k l p c i=(let Z0:Int:=(i:Int);let Z1:Int:=(l.length:Int);let Z2:cC:=cC.mk 0 0 0 0 0;let Z3:cC:=List.getD l Z0.toNat Z2;let Z4:=cC.offset Z3;let Z5:kW:=some ((X.ret,[(6,D.bool false)]),[]);let Z6:=cC.b8 Z3;let Z7:=cX (Z0-1);let Z8:Bool:=ep Z7 Z1;let Z9:cC:=List.getD l Z7.toNat Z2;let dg:kW:=some ((X.normal,[(0,D.sl ca.bP k l),(1,cq p),(2,cq c),(6,D.bool false),(7,cq (cX (Z0+1)))]),[]);let dq:kW:=bif decide ((0:Int)<Z0)then cb Z8 (bif Z4 !=cX (cC.offset Z9+1)then Z5 else cb Z8 (bif decide (Z6<cC.b8 Z9)then Z5 else cb Z8 (bif Z6==cC.b8 Z9 then cb Z8 (bif decide (cC.j Z3<=cC.j Z9)then Z5 else dg)else dg)))else dg;cb (Qc l.length) (bif decide (Z0<Z1)then cb (ep Z0 Z1) (bif decide (Z4<0)then Z5 else bif decide ((4194304:Int)<=Z4)then Z5 else bif decide (Z6<1)then Z5 else bif decide (p<Z6)then Z5 else bif decide (cC.j Z3<0)then Z5 else bif decide ((4:Int)<=cC.j Z3)then Z5 else bif decide (cC.key Z3<0)then Z5 else bif decide ((8:Int)<=cC.key Z3)then Z5 else bif decide (cC.value Z3<0)then Z5 else bif decide ((255:Int)<cC.value Z3)then Z5 else bif Z0==0 then bif decide (Z6<=c)then Z5 else dq else dq)else some ((X.exit 0,[(6,D.bool false)]),[]))):=by kernel_rfl
def JJ(k:Bool)(l:bJ)(p c:Int)(i:Nat):RT RC:=.br (VA p c l i) (.leaf (.exit 0) [(6,.bool false)] []) (.leaf .ret [(6,.bool false)] [])
def JK(k:Bool)(l:bJ)(p c:Int)(i:Nat):Prop:=i<=l.length/\l.length<=9223372036854775807
def YN:QK RC WE where
 k:=0
 cS q:=GM q.k q.l q.p q.c q.i
 cR q:=GN q.k q.l q.p q.c q.i
 fin q:=JJ q.k q.l q.p q.c q.i
 Inv q:=JK q.k q.l q.p q.c q.i
 μ q:=q.l.length-q.i
theorem Qip k l p c i(hI:JK k l p c i):dw (Qmj k l p c i) (dF YN ⟨k,l,p,c,i⟩):=by
 (rw[Qr1];delta cb ep cq cX;conv=>zeta)
 unfold JK at hI;obtain⟨h1,h2⟩:=hI;have jA:=Qd h2
 by_cases cY:i<l.length
 ·have cN:=fa i (by omega)
  have ei:=gv (show i<l.length by omega)
  have ef:=fV (show i<l.length by omega)
  have dp:=bw i
  have ir:IntKind.i64.wrap ((i:Int)-1)=(i:Int)-1:=cu (by omega) (by omega);have iq:((i:Int)-1).toNat=i-1:=by omega
  simp only[cN,ei,ef,dp,ir,iq,ag];simp only[jA,ag];have eI:=Y3 (Vi p) YW l i (⟨0,0,0,0,0⟩:cC) cY;have gm:l.isEmpty=false:=by cases l<;>simp at cY ⊢
  have hz:VA p c l i=((decide (i≠0)||decide (c<(l.getD i ⟨0,0,0,0,0⟩).b8))&&QW (Vi p) YW l i):=by
   unfold VA
   by_cases hi:i=0
   ·subst hi;simp[gm]
   ·simp[hi]
  have hn:VA p c l (i+1)=QW (Vi p) YW l (i+1):=by simp[VA]
  rw[eI]at hz;generalize l.getD i (⟨0,0,0,0,0⟩:cC)=x at hz ⊢;generalize l.getD (i-1) (⟨0,0,0,0,0⟩:cC)=y at hz ⊢
  have eM:Vi p x=true->(i≠0\/c<x.b8)->(i=0\/YW y x=true)->dw (some ((X.normal,GM k l p c (i+1)),[])) (dF YN ⟨k,l,p,c,i⟩):=fun a b d=>
   Qg ⟨k,l,p,c,i+1⟩ ⟨cY,h2⟩ (by simp only[YN];omega) (by
    have e1:(decide (i≠0)||decide (c<x.b8))=true:=by simpa using b
    have e2:(decide (i=0)||YW y x)=true:=by simpa using d
    simp only[YN,JJ,hz,hn,a,e1,e2,Bool.true_and]) rfl rfl
  have gT:¬(Vi p x=true/\(i≠0\/c<x.b8)/\(i=0\/YW y x=true))->dw (some ((X.ret,[(6,D.bool false)]),[])) (dF YN ⟨k,l,p,c,i⟩):=fun he=>QT [] (by
   have:VA p c l i=false:=by
    rw[hz];cases hq:((decide (i≠0)||decide (c<x.b8))&&(Vi p x&&(decide (i=0)||YW y x)&&QW (Vi p) YW l (i+1)))with
    |false=>rfl
    |true=>
     exfalso;simp only[ai,Bool.or_eq_true,aa]at hq;exact he ⟨hq.2.1.1,hq.1,hq.2.1.2⟩
   simp[YN,JJ,this,RT.val]) rfl
  simp only[Vi,YW,Qm,ai,Bool.or_eq_true,aa,bi]at eM gT
  by_cases hi:i=0
  ·have d0:decide (0<(i:Int))=false:=by simp;omega
   simp only[d0,ah]
   repeat' (first|(refine Yc.2 ⟨fun oz=>?_,fun oz=>?_⟩<;>simp only[aa,ae,bi,beq_eq_false_iff_ne,bne_iff_ne,ne_eq,Bool.not_eq_true,Bool.not_eq_false,bne_eq_false_iff_eq,decide_eq_decide,Bool.true_eq_false,bu]at oz))
   all_goals first|(exfalso;omega)|exact gT (by omega)|(apply eM<;>omega)
  ·have kO:decide (0<(i:Int))=true:=by simp;omega
   have kN:decide (0<=(i:Int)-1/\(i:Int)-1<l.length)=true:=by simp;omega
   simp only[kO,kN,ag];have i0:((i:Int)==0)=false:=by simp;omega
   simp only[i0,ah];generalize IntKind.i64.wrap (y.offset+1)=z at eM gT ⊢
   repeat' (first|(refine Yc.2 ⟨fun oz=>?_,fun oz=>?_⟩<;>simp only[aa,ae,bi,beq_eq_false_iff_ne,bne_iff_ne,ne_eq,Bool.not_eq_true,Bool.not_eq_false,bne_eq_false_iff_eq,decide_eq_decide,Bool.true_eq_false,bu]at oz))
   all_goals first|(exfalso;omega)|exact gT (by omega)|(apply eM<;>omega)
 ·have hi:i=l.length:=by omega
  have c1:decide ((i:Int)<l.length)=false:=by simp;omega
  simp only[jA,c1,ag,ah]
  have hq:VA p c l i=true:=by
   unfold VA;rw[LQ _ _ _ _ (by omega)];cases l with
   |nil=>simp
   |cons _ _=>simp at hi ⊢;left;omega
  exact Qi [] (by simp[YN,JJ,hq,RT.val]) rfl
def MG(env:bX)(os:bR):Option (Bool×WE):=match env,os with
 |[(0,.sl .bP k l),(1,.int .i64 p),(2,.int .i64 c),(6,.bool false),(7,.int .i64 x0)],[]=>some (decide (x0=0)&&decide (l.length<=9223372036854775807),⟨k,l,p,c,0⟩)
 |_,_=>none
def AW:=AV.cP 126 4 (eZ cF [] [0,1,2,6,7] YN MG)
theorem Qr2:Qj Tryz.prog cF AW:=by
 refine Qr0.cJ Qb (by kernel_rfl) YN 60 [0,1,2,6,7] [6] [] [0,1,2,6,7] MG (fun q hI=>?_) ?_
 ·obtain⟨k,l,p,c,i⟩:=q;refine⟨?_,?_,Qip k l p c i hI⟩
  ·simp_all[Qk,YN,GM,GN,JK,D.refs,Obj.refs,de]
  ·simp_all[YN,JJ,GN,JK,RT.da,Qk,D.refs,Obj.refs,de]
 ·intro env os b q cW hb;unfold MG at cW
  split at cW
  ·cases cW;simp only[ai,aa]at hb;obtain⟨rfl,hl⟩:=hb;exact⟨⟨aK _,hl⟩,rfl,rfl⟩
  ·cases cW
def Uw:bW->bO
 |[.sl .bP k l,.int .i64 p,.int .i64 c]=>some (Qc l.length,.bool (YJ p c l))
 |_=>none
def WG(k:Bool)(l:bJ)(p c:Int):=eU cF AW 40 126 [.sl (C:=RC) .bP k l,.int .i64 p,.int .i64 c]
theorem Qo3 k l p c:WG k l p c=(let Z0:=l.length;let Z1:fG:=some (D.bool false);cb (Qc Z0) (bif decide ((16:Int)<(Z0:Int))then Z1 else bif decide (c<0)then Z1 else bif decide (p<c)then Z1 else cb (decide (Z0<=9223372036854775807)) (bif VA p c l 0 then some (D.bool true)else Z1))):=by kernel_rfl
theorem Qo4 k l p c(h:(Qc l.length)=true):WG k l p c=some (.bool (YJ p c l)):=by
 (rw[Qo3];delta cb;conv=>zeta)
 have h2:l.length<=9223372036854775807:=Va h;rw[QrK,h]
 by_cases h4:l.length<=16
 ·have a1:¬(16:Int)<l.length:=by omega
  by_cases c0:c<0
  ·have:¬0<=c:=by omega
   simp[h4,h2,a1,c0,this]
  ·have c0':0<=c:=by omega
   by_cases cp:p<c
   ·have:¬c<=p:=by omega
    simp[h4,h2,a1,c0,c0',cp,this]
   ·have lz:c<=p:=by omega
    simp[h4,h2,a1,c0,c0',cp,lz];cases VA p c l 0<;>rfl
 ·have:(16:Int)<l.length:=by omega
  simp[h4,this]
def AX:=AW.cm 126 Uw
theorem Qr3:Qj Tryz.prog cF AX:=Qr2.c6 Qb fun args d h=>by
 unfold Uw at h
 split at h
 ·obtain⟨h1,rfl⟩:=ak h;exact⟨by simp[D.refs],40,Qo4 _ _ _ _ h1⟩
 ·cases h
def Ux:bW->bO
 |[.bI (.int .i64 p) (.bI (.sl .cE ci bV) (.bI (.bI (.sl .bP k0 l0) (.bI (.sl .bP k1 l1) (.bI (.sl .bP k2 l2) .bN))) (.bI (.arr .int 3 [c0,c1,c2]) .bN)))]=>some (decide (bV.length<=9223372036854775807/\l0.length<=9223372036854775807/\l1.length<=9223372036854775807/\l2.length<=9223372036854775807),.bool (Qs ⟨p,bV,l0,l1,l2,c0,c1,c2⟩))
 |_=>none
def WH(p:Int)(ci:Bool)(bV:bM)(k0 k1 k2:Bool)(l0 l1 l2:bJ)(c0 c1 c2:Int):=eU cF AX 40 62 [.bI (.int .i64 p) (cL .cE ci bV (.bI (cL .bP k0 l0 (cL .bP k1 l1 (cL .bP k2 l2 .bN))) (.bI (.arr (C:=RC) .int 3 [c0,c1,c2]) .bN)))]
theorem Qo5 p ci bV k0 k1 k2 l0 l1 l2 c0 c1 c2:WH p ci bV k0 k1 k2 l0 l1 l2 c0 c1 c2=(let Z0:fG:=some (D.bool false);bif decide (p<0)then Z0 else bif decide ((1048575:Int)<p)then Z0 else cb (decide (bV.length<=9223372036854775807)) (bif QW (Vh p) VI bV 0 then cb (Qc l0.length) (bif !YJ p c0 l0 then Z0 else cb (Qc l1.length) (bif !YJ p c1 l1 then Z0 else cb (Qc l2.length) (bif !YJ p c2 l2 then Z0 else some (D.bool true))))else Z0)):=by kernel_rfl
theorem Qo6 p ci bV k0 k1 k2 l0 l1 l2 c0 c1 c2(h:(decide (bV.length<=9223372036854775807/\l0.length<=9223372036854775807/\l1.length<=9223372036854775807/\l2.length<=9223372036854775807))=true):WH p ci bV k0 k1 k2 l0 l1 l2 c0 c1 c2=some (.bool (Qs ⟨p,bV,l0,l1,l2,c0,c1,c2⟩)):=by
 (rw[Qo5];delta cb;conv=>zeta)
 obtain⟨h,h0,h1,h2⟩:=af h;simp only[Qs,Qd h,Qd h0,Qd h1,Qd h2,h,aM,ag];have e1:decide (0<=p) = !decide (p<0):=by by_cases h:p<0<;>simp[h]<;>omega
 have e2:decide (p<=1048575) = !decide (1048575<p):=by by_cases h:1048575<p<;>simp[h]<;>omega
 simp only[Qm,e1,e2];generalize decide (p<0)=x1;generalize decide (1048575<p)=x2;generalize QW (Vh p) VI bV 0=x3;generalize YJ p c0 l0=x4;generalize YJ p c1 l1=x5;generalize YJ p c2 l2=x6;cases x1<;>cases x2<;>cases x3<;>cases x4<;>cases x5<;>cases x6<;>rfl
def AY:=AX.cm 62 Ux
theorem Qr4:Qj Tryz.prog cF AY:=Qr3.c6 Qb fun args d h=>by
 unfold Ux at h
 split at h
 ·obtain⟨h1,rfl⟩:=ak h;exact⟨by simp[D.refs],40,Qo6 _ _ _ _ _ _ _ _ _ _ _ _ h1⟩
 ·cases h
open Go.Proofs
structure Ts where
 (c:Bool)(l:bJ)(d:Bool)(m:bJ)(i:Nat)
def KU(c:Bool)(l:bJ)(d:Bool)(m:bJ)(i:Nat):bX:=[(0,.sl (C:=RC) .bP c l),(1,.sl (C:=RC) .bP d m),(4,.bool false),(5,.int .i64 (i:Int))]
def Jj(c:Bool)(l:bJ)(d:Bool)(m:bJ)(i:Nat):bR:=[]
def TI c l d m i:=eF cF AY 50 4 40 0 [0,1,4,5] [4] [] (KU c l d m i) (Jj c l d m i)
theorem Qg2 c l d m i:TI c l d m i=(let Z0:Int:=(i:Int);let Z1:cC:=cC.mk 0 0 0 0 0;let Z2:cC:=List.getD l Z0.toNat Z1;let Z3:cC:=List.getD m Z0.toNat Z1;cb (Qc l.length) (bif decide (Z0<(l.length:Int))then cb (ep Z0 (l.length:Int)) (cb (ep Z0 (m.length:Int)) (bif !(cC.offset Z2==cC.offset Z3&&(cC.b8 Z2==cC.b8 Z3&&(cC.j Z2==cC.j Z3&&(cC.key Z2==cC.key Z3&&(cC.value Z2==cC.value Z3&&true)))))then some ((X.ret,[(4,D.bool false)]),[])else some ((X.normal,[(0,D.sl ca.bP c l),(1,D.sl ca.bP d m),(4,D.bool false),(5,cq (cX (Z0+1)))]),[])))else some ((X.exit 0,[(4,D.bool false)]),[]))):=by kernel_rfl
def Yn(c:Bool)(l:bJ)(d:Bool)(m:bJ)(i:Nat):RT RC:=.br (decide (l.drop i=m.drop i)) (.leaf (.exit 0) [(4,.bool false)] []) (.leaf .ret [(4,.bool false)] [])
def Yo(c:Bool)(l:bJ)(d:Bool)(m:bJ)(i:Nat):Prop:=i<=l.length/\l.length<=9223372036854775807/\l.length=m.length
def ZB:QK RC Ts where
 k:=0
 cS q:=KU q.c q.l q.d q.m q.i
 cR q:=Jj q.c q.l q.d q.m q.i
 fin q:=Yn q.c q.l q.d q.m q.i
 Inv q:=Yo q.c q.l q.d q.m q.i
 μ q:=q.l.length-q.i
theorem Qdx c l d m i(hI:Yo c l d m i):dw (TI c l d m i) (dF ZB ⟨c,l,d,m,i⟩):=by
 (rw[Qg2];delta cb ep cq cX;conv=>zeta)
 unfold Yo at hI;obtain⟨h1,h2,h3⟩:=hI;have jA:=Qd h2
 by_cases cY:i<l.length
 ·have cN:=fa i (by omega)
  have ei:=gv (show i<l.length by omega)
  have ef:=fV (show i<l.length by omega)
  have dp:=bw i
  simp only[cN,ei,ef,dp,ag];have E3:i<m.length:=by omega
  have pq:decide (0<=(i:Int)/\(i:Int)<m.length)=true:=by simp;omega
  have eI:=FZ l m i (⟨0,0,0,0,0⟩:cC) cY h3;simp only[pq,ag,jA,QEK];generalize l.getD i (⟨0,0,0,0,0⟩:cC)=x at eI ⊢;generalize m.getD i (⟨0,0,0,0,0⟩:cC)=y at eI ⊢
  by_cases nW:x=y
  ·simp only[nW,aM,bg,ah];exact Qg ⟨c,l,d,m,i+1⟩ ⟨cY,h2,h3⟩ (by simp only[ZB];omega) (by simp only[ZB,Yn,eI,nW,aM,Bool.true_and]) rfl rfl
  ·simp only[nW,aW,bh,ag];exact QT [] (by simp[ZB,Yn,eI,nW,RT.val]) rfl
 ·have hi:i=l.length:=by omega
  have c1:decide ((i:Int)<l.length)=false:=by simp;omega
  simp only[jA,ag,c1,ah];exact Qi [] (by simp only[ZB,Yn,Gs l m i (by omega) (by omega),RT.val,ag]) rfl
def KV(env:bX)(os:bR):Option (Bool×Ts):=match env,os with
 |[(0,.sl .bP c l),(1,.sl .bP d m),(4,.bool false),(5,.int .i64 x0)],[]=>some (decide (x0=0)&&decide (l.length<=9223372036854775807/\l.length=m.length),⟨c,l,d,m,0⟩)
 |_,_=>none
def AZ:=AY.cP 50 4 (eZ cF [] [0,1,4,5] ZB KV)
theorem Qr5:Qj Tryz.prog cF AZ:=by
 refine Qr4.cJ Qb (by kernel_rfl) ZB 40 [0,1,4,5] [4] [] [0,1,4,5] KV (fun q hI=>?_) ?_
 ·obtain⟨c,l,d,m,i⟩:=q;refine⟨?_,?_,Qdx c l d m i hI⟩
  ·simp_all[Qk,ZB,KU,Jj,Yo,D.refs,Obj.refs,de]
  ·simp_all[ZB,Yn,Jj,Yo,RT.da,Qk,D.refs,Obj.refs,de]
 ·intro env os b q cW hb;unfold KV at cW
  split at cW
  ·cases cW;simp only[ai,aa]at hb;obtain⟨rfl,hl⟩:=hb;exact⟨⟨aK _,hl.1,hl.2⟩,rfl,rfl⟩
  ·cases cW
def Tn:bW->bO
 |[.sl .bP c l,.sl .bP d m]=>some (Qc l.length&&Qc m.length,.bool (decide (l=m)))
 |_=>none
def Tt(c:Bool)(l:bJ)(d:Bool)(m:bJ):=eU cF AZ 40 50 [.sl (C:=RC) .bP c l,.sl (C:=RC) .bP d m]
theorem Qfs c l d m:Tt c l d m=(let Z0:=l.length;let Z1:=m.length;cb (Qc Z0) (cb (Qc Z1) (bif (Z0:Int)!=(Z1:Int)then some (D.bool false)else cb (decide (Z0<=9223372036854775807/\Z0=Z1)) (bif decide (List.drop 0 l=List.drop 0 m)then some (D.bool true)else some (D.bool false))))):=by kernel_rfl
theorem Qft c l d m(h:(Qc l.length&&Qc m.length)=true):Tt c l d m=some (.bool (decide (l=m))):=by
 (rw[Qfs];delta cb;conv=>zeta)
 simp only[ai]at h;have h1:l.length<=9223372036854775807:=Va h.1;simp only[h.1,h.2,ag]
 by_cases hl:l.length=m.length
 ·have e1:((l.length:Int)!=(m.length:Int))=false:=by simp[hl]
  have e2:(l.length<=9223372036854775807/\l.length=m.length):=⟨h1,hl⟩;rw[e1,ab e2];simp only[ag,ah,bG];cases decide (l=m)<;>rfl
 ·have e1:((l.length:Int)!=(m.length:Int))=true:=by simp;omega
  have:¬l=m:=fun e=>hl (by rw[e]);simp[e1,this]
def A0:=AZ.cm 50 Tn
theorem Qr6:Qj Tryz.prog cF A0:=Qr5.c6 Qb fun args d h=>by
 unfold Tn at h
 split at h
 ·obtain⟨h1,rfl⟩:=ak h;exact⟨by simp[D.refs],40,Qft _ _ _ _ h1⟩
 ·cases h
structure T9 where
 (p:Int)(ci:Bool)(bV:bM)(k0 k1 k2:Bool)(l0 l1 l2:bJ)(c0 c1 c2 q:Int)(di:Bool)(dJ:bM)(j0 j1 j2:Bool)(m0 m1 m2:bJ)(d0 d1 d2:Int)(i:Nat)
def LU(p:Int)(ci:Bool)(bV:bM)(k0 k1 k2:Bool)(l0 l1 l2:bJ)(c0 c1 c2 q:Int)(di:Bool)(dJ:bM)(j0 j1 j2:Bool)(m0 m1 m2:bJ)(d0 d1 d2:Int)(i:Nat):bX:=[(2,.ptr 0 []),(3,.ptr 1 []),(4,.bool false),(5,.int .i64 (i:Int))]
def Yi(p:Int)(ci:Bool)(bV:bM)(k0 k1 k2:Bool)(l0 l1 l2:bJ)(c0 c1 c2 q:Int)(di:Bool)(dJ:bM)(j0 j1 j2:Bool)(m0 m1 m2:bJ)(d0 d1 d2:Int)(i:Nat):bR:=[.var 34 (cG p (cL .cE ci bV (.bI (cL .bP k0 l0 (cL .bP k1 l1 (cL .bP k2 l2 .bN))) (.bI (.arr (C:=RC) .int 3 [c0,c1,c2]) .bN)))),.var 34 (cG q (cL .cE di dJ (.bI (cL .bP j0 m0 (cL .bP j1 m1 (cL .bP j2 m2 .bN))) (.bI (.arr (C:=RC) .int 3 [d0,d1,d2]) .bN))))]
def Uy p ci bV k0 k1 k2 l0 l1 l2 c0 c1 c2 q di dJ j0 j1 j2 m0 m1 m2 d0 d1 d2 i:=eF cF A0 15 4 40 2 [2,3,4,5] [4] [.slot 2 0,.slot 3 0] (LU p ci bV k0 k1 k2 l0 l1 l2 c0 c1 c2 q di dJ j0 j1 j2 m0 m1 m2 d0 d1 d2 i) (Yi p ci bV k0 k1 k2 l0 l1 l2 c0 c1 c2 q di dJ j0 j1 j2 m0 m1 m2 d0 d1 d2 i)
theorem Qkv p ci bV k0 k1 k2 l0 l1 l2 c0 c1 c2 q di dJ j0 j1 j2 m0 m1 m2 d0 d1 d2 i:Uy p ci bV k0 k1 k2 l0 l1 l2 c0 c1 c2 q di dJ j0 j1 j2 m0 m1 m2 d0 d1 d2 i=(let Z0:Int:=(i:Int);let Z1:Item:=Item.mk 0 0 0;let Z2:Item:=List.getD bV Z0.toNat Z1;let Z3:Item:=List.getD dJ Z0.toNat Z1;let Z4:b9:=[some (Obj.var 34 (.bI (cq p) (.bI (D.sl ca.cE ci bV) (.bI (D.bI (D.sl ca.bP k0 l0) (.bI (D.sl ca.bP k1 l1) (.bI (D.sl ca.bP k2 l2) .bN))) (.bI (D.arr ca.int 3 [c0,c1,c2]) .bN))))),some (Obj.var 34 (.bI (cq q) (.bI (D.sl ca.cE di dJ) (.bI (D.bI (D.sl ca.bP j0 m0) (.bI (D.sl ca.bP j1 m1) (.bI (D.sl ca.bP j2 m2) .bN))) (.bI (D.arr ca.int 3 [d0,d1,d2]) .bN)))))];cb (Qc bV.length) (bif decide (Z0<(bV.length:Int))then cb (ep Z0 (bV.length:Int)) (cb (ep Z0 (dJ.length:Int)) (bif !(Item.key Z2==Item.key Z3&&(Item.b8 Z2==Item.b8 Z3&&(Item.value Z2==Item.value Z3&&true)))then some ((X.ret,[(4,D.bool false)]),Z4)else some ((X.normal,[(2,D.ptr 0 []),(3,D.ptr 1 []),(4,D.bool false),(5,cq (cX (Z0+1)))]),Z4)))else some ((X.exit 0,[(4,D.bool false)]),Z4))):=by kernel_rfl
def Vo(p:Int)(ci:Bool)(bV:bM)(k0 k1 k2:Bool)(l0 l1 l2:bJ)(c0 c1 c2 q:Int)(di:Bool)(dJ:bM)(j0 j1 j2:Bool)(m0 m1 m2:bJ)(d0 d1 d2:Int)(i:Nat):RT RC:=.br (decide (bV.drop i=dJ.drop i)) (.leaf (.exit 0) [(4,.bool false)] (Yi p ci bV k0 k1 k2 l0 l1 l2 c0 c1 c2 q di dJ j0 j1 j2 m0 m1 m2 d0 d1 d2 i)) (.leaf .ret [(4,.bool false)] (Yi p ci bV k0 k1 k2 l0 l1 l2 c0 c1 c2 q di dJ j0 j1 j2 m0 m1 m2 d0 d1 d2 i))
def Vp(p:Int)(ci:Bool)(bV:bM)(k0 k1 k2:Bool)(l0 l1 l2:bJ)(c0 c1 c2 q:Int)(di:Bool)(dJ:bM)(j0 j1 j2:Bool)(m0 m1 m2:bJ)(d0 d1 d2:Int)(i:Nat):Prop:=i<=bV.length/\bV.length<=9223372036854775807/\bV.length=dJ.length
def Yj:QK RC T9 where
 k:=2
 cS q:=LU q.p q.ci q.bV q.k0 q.k1 q.k2 q.l0 q.l1 q.l2 q.c0 q.c1 q.c2 q.q q.di q.dJ q.j0 q.j1 q.j2 q.m0 q.m1 q.m2 q.d0 q.d1 q.d2 q.i
 cR q:=Yi q.p q.ci q.bV q.k0 q.k1 q.k2 q.l0 q.l1 q.l2 q.c0 q.c1 q.c2 q.q q.di q.dJ q.j0 q.j1 q.j2 q.m0 q.m1 q.m2 q.d0 q.d1 q.d2 q.i
 fin q:=Vo q.p q.ci q.bV q.k0 q.k1 q.k2 q.l0 q.l1 q.l2 q.c0 q.c1 q.c2 q.q q.di q.dJ q.j0 q.j1 q.j2 q.m0 q.m1 q.m2 q.d0 q.d1 q.d2 q.i
 Inv q:=Vp q.p q.ci q.bV q.k0 q.k1 q.k2 q.l0 q.l1 q.l2 q.c0 q.c1 q.c2 q.q q.di q.dJ q.j0 q.j1 q.j2 q.m0 q.m1 q.m2 q.d0 q.d1 q.d2 q.i
 μ q:=q.bV.length-q.i
theorem Qfu p ci bV k0 k1 k2 l0 l1 l2 c0 c1 c2 q di dJ j0 j1 j2 m0 m1 m2 d0 d1 d2 i(hI:Vp p ci bV k0 k1 k2 l0 l1 l2 c0 c1 c2 q di dJ j0 j1 j2 m0 m1 m2 d0 d1 d2 i):dw (Uy p ci bV k0 k1 k2 l0 l1 l2 c0 c1 c2 q di dJ j0 j1 j2 m0 m1 m2 d0 d1 d2 i) (dF Yj ⟨p,ci,bV,k0,k1,k2,l0,l1,l2,c0,c1,c2,q,di,dJ,j0,j1,j2,m0,m1,m2,d0,d1,d2,i⟩):=by
 (rw[Qkv];delta cb ep cq cX;conv=>zeta)
 unfold Vp at hI;obtain⟨h1,h2,h3⟩:=hI;have jA:=Qd h2
 by_cases cY:i<bV.length
 ·have cN:=fa i (by omega)
  have ei:=gv (show i<bV.length by omega)
  have ef:=fV (show i<bV.length by omega)
  have dp:=bw i
  simp only[cN,ei,ef,dp,ag];have E3:i<dJ.length:=by omega
  have pq:decide (0<=(i:Int)/\(i:Int)<dJ.length)=true:=by simp;omega
  have eI:=FZ bV dJ i (⟨0,0,0⟩:Item) cY h3;simp only[pq,ag,jA,QEJ];generalize bV.getD i (⟨0,0,0⟩:Item)=x at eI ⊢;generalize dJ.getD i (⟨0,0,0⟩:Item)=w at eI ⊢
  by_cases nW:x=w
  ·simp only[nW,aM,bg,ah];exact Qg ⟨p,ci,bV,k0,k1,k2,l0,l1,l2,c0,c1,c2,q,di,dJ,j0,j1,j2,m0,m1,m2,d0,d1,d2,i+1⟩ ⟨cY,h2,h3⟩ (by simp only[Yj];omega) (by simp only[Yj,Vo,Yi,eI,nW,aM,Bool.true_and]) rfl rfl
  ·simp only[nW,aW,bh,ag];exact QT (Yi p ci bV k0 k1 k2 l0 l1 l2 c0 c1 c2 q di dJ j0 j1 j2 m0 m1 m2 d0 d1 d2 i) (by simp[Yj,Vo,eI,nW,RT.val]) rfl
 ·have hi:i=bV.length:=by omega
  have c1:decide ((i:Int)<bV.length)=false:=by simp;omega
  simp only[jA,ag,c1,ah];exact Qi (Yi p ci bV k0 k1 k2 l0 l1 l2 c0 _ c2 q di dJ j0 j1 j2 m0 m1 m2 d0 d1 d2 i) (by simp only[Yj,Vo,Gs bV dJ i (by omega) (by omega),RT.val,ag]) rfl
def LV(env:bX)(os:bR):Option (Bool×T9):=match env,os with
 |[(2,.ptr 0 []),(3,.ptr 1 []),(4,.bool false),(5,.int .i64 x0)],[.var 34 (.bI (.int .i64 p) (.bI (.sl .cE ci bV) (.bI (.bI (.sl .bP k0 l0) (.bI (.sl .bP k1 l1) (.bI (.sl .bP k2 l2) .bN))) (.bI (.arr .int 3 [c0,c1,c2]) .bN)))),.var 34 (.bI (.int .i64 q) (.bI (.sl .cE di dJ) (.bI (.bI (.sl .bP j0 m0) (.bI (.sl .bP j1 m1) (.bI (.sl .bP j2 m2) .bN))) (.bI (.arr .int 3 [d0,d1,d2]) .bN))))]=>some (decide (x0=0)&&decide (bV.length<=9223372036854775807/\bV.length=dJ.length),⟨p,ci,bV,k0,k1,k2,l0,l1,l2,c0,c1,c2,q,di,dJ,j0,j1,j2,m0,m1,m2,d0,d1,d2,0⟩)
 |_,_=>none
def A1:=A0.cP 15 4 (eZ cF [.slot 2 0,.slot 3 0] [2,3,4,5] Yj LV)
theorem Qr7:Qj Tryz.prog cF A1:=by
 refine Qr6.cJ Qb (by kernel_rfl) Yj 40 [2,3,4,5] [4] [.slot 2 0,.slot 3 0] [2,3,4,5] LV (fun q hI=>?_) ?_
 ·obtain⟨p,ci,bV,k0,k1,k2,l0,l1,l2,c0,c1,c2,q,di,dJ,j0,j1,j2,m0,m1,m2,d0,d1,d2,i⟩:=q;refine⟨?_,?_,Qfu p ci bV k0 k1 k2 l0 l1 l2 c0 c1 c2 q di dJ j0 j1 j2 m0 m1 m2 d0 d1 d2 i hI⟩
  ·simp_all[Qk,Yj,LU,Yi,Vp,D.refs,Obj.refs,de]
  ·simp_all[Yj,Vo,Yi,Vp,RT.da,Qk,D.refs,Obj.refs,de]
 ·intro env os b q cW hb;unfold LV at cW
  split at cW
  ·cases cW;simp only[ai,aa]at hb;obtain⟨rfl,hl⟩:=hb;exact⟨⟨aK _,hl.1,hl.2⟩,rfl,rfl⟩
  ·cases cW
def Uz:bW->bO
 |[.bI (.int .i64 p) (.bI (.sl .cE ci bV) (.bI (.bI (.sl .bP k0 l0) (.bI (.sl .bP k1 l1) (.bI (.sl .bP k2 l2) .bN))) (.bI (.arr .int 3 [c0,c1,c2]) .bN))),.bI (.int .i64 q) (.bI (.sl .cE di dJ) (.bI (.bI (.sl .bP j0 m0) (.bI (.sl .bP j1 m1) (.bI (.sl .bP j2 m2) .bN))) (.bI (.arr .int 3 [d0,d1,d2]) .bN)))]=>some (Qc bV.length&&Qc dJ.length&&(Qc l0.length&&Qc m0.length)&&(Qc l1.length&&Qc m1.length)&&(Qc l2.length&&Qc m2.length),.bool (decide ((⟨p,bV,l0,l1,l2,c0,c1,c2⟩:St)=⟨q,dJ,m0,m1,m2,d0,d1,d2⟩)))
 |_=>none
def WI(p:Int)(ci:Bool)(bV:bM)(k0 k1 k2:Bool)(l0 l1 l2:bJ)(c0 c1 c2 q:Int)(di:Bool)(dJ:bM)(j0 j1 j2:Bool)(m0 m1 m2:bJ)(d0 d1 d2:Int):=eU cF A1 40 15 [.bI (.int .i64 p) (cL .cE ci bV (.bI (cL .bP k0 l0 (cL .bP k1 l1 (cL .bP k2 l2 .bN))) (.bI (.arr (C:=RC) .int 3 [c0,c1,c2]) .bN))),.bI (.int .i64 q) (cL .cE di dJ (.bI (cL .bP j0 m0 (cL .bP j1 m1 (cL .bP j2 m2 .bN))) (.bI (.arr (C:=RC) .int 3 [d0,d1,d2]) .bN)))]
theorem Qo7 p ci bV k0 k1 k2 l0 l1 l2 c0 c1 c2 q di dJ j0 j1 j2 m0 m1 m2 d0 d1 d2:WI p ci bV k0 k1 k2 l0 l1 l2 c0 c1 c2 q di dJ j0 j1 j2 m0 m1 m2 d0 d1 d2=(let Z0:fG:=some (D.bool false);let Z1:=bV.length;let Z2:=dJ.length;bif p !=q then Z0 else bif !(c0==d0&&(c1==d1&&(c2==d2&&true)))then Z0 else cb (Qc Z1) (cb (Qc Z2) (bif (Z1:Int)!=(Z2:Int)then Z0 else cb (decide (Z1<=9223372036854775807/\Z1=Z2)) (bif decide (List.drop 0 bV=List.drop 0 dJ)then cb (Qc l0.length&&Qc m0.length) (bif !decide (l0=m0)then Z0 else cb (Qc l1.length&&Qc m1.length) (bif !decide (l1=m1)then Z0 else cb (Qc l2.length&&Qc m2.length) (bif !decide (l2=m2)then Z0 else some (D.bool true))))else Z0)))):=by kernel_rfl
theorem Qo8 p ci bV k0 k1 k2 l0 l1 l2 c0 c1 c2 q di dJ j0 j1 j2 m0 m1 m2 d0 d1 d2(h:(Qc bV.length&&Qc dJ.length&&(Qc l0.length&&Qc m0.length)&&(Qc l1.length&&Qc m1.length)&&(Qc l2.length&&Qc m2.length))=true):WI p ci bV k0 k1 k2 l0 l1 l2 c0 c1 c2 q di dJ j0 j1 j2 m0 m1 m2 d0 d1 d2=some (.bool (decide ((⟨p,bV,l0,l1,l2,c0,c1,c2⟩:St)=⟨q,dJ,m0,m1,m2,d0,d1,d2⟩))):=by
 (rw[Qo7];delta cb;conv=>zeta)
 simp only[ai]at h;obtain⟨⟨⟨⟨a1,a2⟩,b1,b2⟩,b3,b4⟩,b5,b6⟩:=h;have hl:=Va a1;simp only[a1,a2,b1,b2,b3,b4,b5,b6,Bool.and_true,ag]
 by_cases h0:bV.length=dJ.length
 ·have e1:((bV.length:Int)!=(dJ.length:Int))=false:=by simp[h0]
  have e2:(bV.length<=9223372036854775807/\bV.length=dJ.length):=⟨hl,h0⟩;rw[e1,ab e2]
  by_cases h1:l0=m0<;>by_cases h2:l1=m1<;>by_cases h3:l2=m2<;>by_cases h4:p=q<;>by_cases h5:c0=d0<;>by_cases h6:c1=d1<;>by_cases h7:c2=d2<;>by_cases h8:bV=dJ<;>simp[h1,h2,h3,h4,h5,h6,h7,h8,bne,Ek]
 ·have e1:((bV.length:Int)!=(dJ.length:Int))=true:=by simp;omega
  have h8:¬bV=dJ:=fun e=>h0 (by rw[e]);rw[e1]
  by_cases h4:p=q<;>by_cases h5:c0=d0<;>by_cases h6:c1=d1<;>by_cases h7:c2=d2<;>simp[h4,h5,h6,h7,h8,bne,Ek]
def A2:=A1.cm 15 Uz
theorem Qr8:Qj Tryz.prog cF A2:=Qr7.c6 Qb fun args d h=>by
 unfold Uz at h
 split at h
 ·obtain⟨h1,rfl⟩:=ak h;exact⟨by simp[D.refs],40,Qo8 _ _ _ _ _ _ _ _ _ _ _ _ _ _ _ _ _ _ _ _ _ _ _ _ h1⟩
 ·cases h
open Go.Proofs
structure Qr9 where
 (n w:Int)(out:bK)(i:Nat)
def HA(n w:Int)(out:bK)(i:Nat):bX:=[(1,.int .i64 n),(2,.int .i64 w),(8,.vs 0 (out.length)),(9,.int .i64 (i:Int))]
def xC(n w:Int)(out:bK)(i:Nat):bR:=[.cj (C:=RC) .u8 true out]
def RR n w out i:=eF cF A2 166 6 40 1 [1,2,8,9] [8] [.slot 8 0] (HA n w out i) (xC n w out i)
theorem QCB n w out i:RR n w out i=(let Z0:=out.length;let Z1:bK:=[UInt8.ofNat (IntKind.wrap IntKind.u8 (Int.tmod n 256)).toNat];bif decide ((i:Int)<w)then cb (Nat.beq Z0 Z0&&Qf (Z0+Z1.length) 1) (some ((X.normal,[(1,cq (cX (Int.tdiv n 256))),(2,cq w),(8,D.vs 0 (Z0+Z1.length)),(9,cq (cX ((i:Int)+1)))]),[some (Obj.cj ca.u8 true (out++Z1))]))else some ((X.exit 0,[(8,D.vs 0 Z0)]),[some (Obj.cj ca.u8 true out)])):=by kernel_rfl
def GO(n w:Int)(out:bK)(i:Nat):RT RC:=.leaf (.exit 0) [(8,.vs 0 (out++fX n (w.toNat-i)).length)] [.cj (C:=RC) .u8 true (out++fX n (w.toNat-i))]
def Di(n w:Int)(out:bK)(i:Nat):Prop:=0<=n/\n<=9223372036854775807/\(i:Int)<=w/\w<=6/\out.length<=1000000+i
def ub:QK RC Qr9 where
 k:=1
 cS q:=HA q.n q.w q.out q.i
 cR q:=xC q.n q.w q.out q.i
 fin q:=GO q.n q.w q.out q.i
 Inv q:=Di q.n q.w q.out q.i
 μ q:=q.w.toNat-q.i
theorem Qo9 n w out i(hI:Di n w out i):dw (RR n w out i) (dF ub ⟨n,w,out,i⟩):=by
 (rw[QCB];delta cb cq cX;conv=>zeta)
 unfold Di at hI;obtain⟨h1,h2,h3,h4,h5⟩:=hI
 by_cases cY:(i:Int)<w
 ·have cN:=fa i (by omega)
  obtain⟨d1,d2,d3⟩:=P7 h1 h2;have e1:Qf (out.length+1) 1=true:=Zb (by omega);have eb:∀n:Nat,n.beq n=true:=fun n=>by simp
  simp only[cY,aM,ag,cN,d1,P6 h1,aE,bH,aN,e1,eb,au];refine Qg ⟨n.fdiv 256,w,out++[Zu n],i+1⟩ (by refine⟨d2,d3,cY,h4,?_⟩;simp;omega) (by simp only[ub];omega) ?_ (by simp[ub,HA]) (by simp[ub,xC]);have:w.toNat-i=(w.toNat-(i+1))+1:=by omega
  simp only[ub,GO,this,fX,ay,aP,aH]
 ·have hi:w.toNat-i=0:=by omega
  simp only[cY,aW,ah];exact Qi (xC n w out i) (by simp only[ub,GO,xC,hi,fX,RT.val,aR]) rfl
def Oc(env:bX)(os:bR):Option (Bool×Qr9):=match env,os with
 |[(1,.int .i64 n),(2,.int .i64 w),(8,.vs 0 x0),(9,.int .i64 x1)],[.cj .u8 true out]=>some (decide (x0=out.length)&&decide (x1=0)&&decide (0<=n/\n<=9223372036854775807/\0<=w/\w<=6/\out.length<=1000000),⟨n,w,out,0⟩)
 |_,_=>none
def A3:=A2.cP 166 6 (eZ cF [.slot 8 0] [1,2,8,9] ub Oc)
theorem Qsb:Qj Tryz.prog cF A3:=by
 refine Qr8.cJ Qb (by kernel_rfl) ub 40 [1,2,8,9] [8] [.slot 8 0] [1,2,8,9] Oc (fun q hI=>?_) ?_
 ·obtain⟨n,w,out,i⟩:=q;refine⟨?_,?_,Qo9 n w out i hI⟩
  ·simp_all[Qk,ub,HA,xC,Di,D.refs,Obj.refs,de]
  ·simp_all[ub,GO,xC,Di,RT.da,Qk,D.refs,Obj.refs,de]
 ·intro env os b q cW hb;unfold Oc at cW
  split at cW
  ·cases cW;simp only[ai,aa]at hb;obtain⟨⟨rfl,rfl⟩,hl⟩:=hb;exact⟨by refine⟨hl.1,hl.2.1,by simpa using hl.2.2.1,hl.2.2.2.1,by simpa using hl.2.2.2.2⟩,rfl,rfl⟩
  ·cases cW
open Go.Proofs
structure Qml where
 (p:Int)(ci:Bool)(bV:bM)(k0 k1 k2:Bool)(l0 l1 l2:bJ)(c0 c1 c2:Int)(bs:bK)(i:Nat)
def G2(p:Int)(ci:Bool)(bV:bM)(k0 k1 k2:Bool)(l0 l1 l2:bJ)(c0 c1 c2:Int)(bs:bK)(i:Nat):bX:=[(1,.ptr 0 []),(4,.vs 1 (bs.length)),(6,.int .i64 (i:Int))]
def xo(p:Int)(ci:Bool)(bV:bM)(k0 k1 k2:Bool)(l0 l1 l2:bJ)(c0 c1 c2:Int)(bs:bK)(i:Nat):bR:=[.var 34 (cG p (cL .cE ci bV (.bI (cL .bP k0 l0 (cL .bP k1 l1 (cL .bP k2 l2 .bN))) (.bI (.arr (C:=RC) .int 3 [c0,c1,c2]) .bN)))),.cj (C:=RC) .u8 true bs]
def Qsc p ci bV k0 k1 k2 l0 l1 l2 c0 c1 c2 bs i:=eF cF A3 106 6 40 2 [1,4,6] [4] [.slot 1 0,.slot 4 0] (G2 p ci bV k0 k1 k2 l0 l1 l2 c0 c1 c2 bs i) (xo p ci bV k0 k1 k2 l0 l1 l2 c0 c1 c2 bs i)
theorem Qyy p ci bV k0 k1 k2 l0 l1 l2 c0 c1 c2 bs i:Qsc p ci bV k0 k1 k2 l0 l1 l2 c0 c1 c2 bs i=(let Z0:Int:=(i:Int);let Z1:Bool:=ep Z0 (bV.length:Int);let Z2:=bs.length;let Z3:Item:=List.getD bV Z0.toNat (Item.mk 0 0 0);let Z4:bK:=[UInt8.ofNat (IntKind.wrap IntKind.u8 (Item.key Z3)).toNat];let Z5:=Item.b8 Z3;let Z6:=List.length (bs++Z4);let Z7:=List.length ([]++(bs++Z4));let Z8:bK:=[]++(bs++Z4)++fX Z5 3;let Z9:=Z8.length;let dg:bK:=[UInt8.ofNat (IntKind.wrap IntKind.u8 (Item.value Z3)).toNat];let dq:bZ:=some (Obj.var 34 (.bI (cq p) (.bI (D.sl ca.cE ci bV) (.bI (D.bI (D.sl ca.bP k0 l0) (.bI (D.sl ca.bP k1 l1) (.bI (D.sl ca.bP k2 l2) .bN))) (.bI (D.arr ca.int 3 [c0,c1,c2]) .bN)))));cb (Qc bV.length) (bif decide (Z0<(bV.length:Int))then cb Z1 (cb (Nat.beq Z2 Z2&&Qf (Z2+Z4.length) 1) (cb Z1 (cb (decide (Z5<=9223372036854775807/\(1:Int)<=3/\(3:Int)<=6)&&QU Z5 3) (cb (Nat.beq (Z2+Z4.length) Z6) (cb (Qf ((0:Nat)+Z6) 1) (cb (decide ((0:Nat)+Z6=Z7)&&true&&decide ((0:Int)<=Z5/\Z5<=9223372036854775807/\(0:Int)<=3/\(3:Int)<=6/\Z7<=1000000)) (cb Z1 (cb (Nat.beq Z9 Z9&&Qf (Z9+dg.length) 1) (cb (Nat.blt Z2 (Z8++dg).length) (some ((X.normal,[(1,D.ptr 0 []),(4,D.vs 1 (Z9+dg.length)),(6,cq (cX (Z0+1)))]),[dq,some (Obj.cj ca.u8 true (Z8++dg))])))))))))))else some ((X.exit 0,[(4,D.vs 1 Z2)]),[dq,some (Obj.cj ca.u8 true bs)]))):=by kernel_rfl
def Gu(p:Int)(ci:Bool)(bV:bM)(k0 k1 k2:Bool)(l0 l1 l2:bJ)(c0 c1 c2:Int)(bs:bK)(i:Nat):RT RC:=.leaf (.exit 0) [(4,.vs 1 (bs++(bV.drop i).flatMap YK).length)] [.var 34 (cG p (cL .cE ci bV (.bI (cL .bP k0 l0 (cL .bP k1 l1 (cL .bP k2 l2 .bN))) (.bI (.arr (C:=RC) .int 3 [c0,c1,c2]) .bN)))),.cj (C:=RC) .u8 true (bs++(bV.drop i).flatMap YK)]
def KW(p:Int)(ci:Bool)(bV:bM)(k0 k1 k2:Bool)(l0 l1 l2:bJ)(c0 c1 c2:Int)(bs:bK)(i:Nat):Prop:=i<=bV.length/\bV.length<=1000/\bs.length<=900000+5*i/\bV.all m8=true
def Jv:QK RC Qml where
 k:=2
 cS q:=G2 q.p q.ci q.bV q.k0 q.k1 q.k2 q.l0 q.l1 q.l2 q.c0 q.c1 q.c2 q.bs q.i
 cR q:=xo q.p q.ci q.bV q.k0 q.k1 q.k2 q.l0 q.l1 q.l2 q.c0 q.c1 q.c2 q.bs q.i
 fin q:=Gu q.p q.ci q.bV q.k0 q.k1 q.k2 q.l0 q.l1 q.l2 q.c0 q.c1 q.c2 q.bs q.i
 Inv q:=KW q.p q.ci q.bV q.k0 q.k1 q.k2 q.l0 q.l1 q.l2 q.c0 q.c1 q.c2 q.bs q.i
 μ q:=q.bV.length-q.i
theorem Qkw p ci bV k0 k1 k2 l0 l1 l2 c0 c1 c2 bs i(hI:KW p ci bV k0 k1 k2 l0 l1 l2 c0 c1 c2 bs i):dw (Qsc p ci bV k0 k1 k2 l0 l1 l2 c0 c1 c2 bs i) (dF Jv ⟨p,ci,bV,k0,k1,k2,l0,l1,l2,c0,c1,c2,bs,i⟩):=by
 (rw[Qyy];delta cb ep cq cX;conv=>zeta)
 unfold KW at hI;obtain⟨h1,h2,h3,h4⟩:=hI;have jA:=Qd (show bV.length<=9223372036854775807 by omega)
 by_cases cY:i<bV.length
 ·have cN:=fa i (by omega)
  have ei:=gv (show i<bV.length by omega)
  have ef:=fV (show i<bV.length by omega)
  have dp:=bw i
  simp only[cN,ei,ef,dp,ag];have hf:=GI h4 cY (⟨0,0,0⟩:Item);have hd:(bV.drop i).flatMap YK=_:=Yh bV i YK cY (⟨0,0,0⟩:Item);generalize bV.getD i (⟨0,0,0⟩:Item)=x at hd hf ⊢;simp only[m8,ai]at hf;obtain⟨⟨f1,f2⟩,f3⟩:=hf;have g2:=Qp.1 f2;have hk:UInt8.ofNat (IntKind.u8.wrap x.key).toNat=Zu x.key:=rfl;have hv:UInt8.ofNat (IntKind.u8.wrap x.value).toNat=Zu x.value:=rfl;have e0:decide (x.b8<=9223372036854775807/\1<=(3:Int)/\(3:Int)<=6)=true:=by simp;omega
  have e1:Qf (bs.length+1) 1=true:=Zb (by omega);have e2:decide (0<=x.b8/\x.b8<=9223372036854775807/\0<=(3:Int)/\(3:Int)<=6/\bs.length+1<=1000000)=true:=by simp;omega
  have e3:Qf (bs.length+1+3+1) 1=true:=Zb (by omega);have e6:Nat.blt bs.length (bs.length+1+3+1)=true:=by simp[Nat.blt_eq];omega
  have t3:(3:Int).toNat-0=3:=rfl;have eb:∀n:Nat,n.beq n=true:=fun n=>by simp
  simp only[jA,ag,hk,hv,JD f2,e0,aC,aE,bH,aN,eb,e1,e2,e3,e6,t3,Qw,aM,au,aH];refine Qg ⟨p,ci,bV,k0,k1,k2,l0,l1,l2,c0,c1,c2,bs++YK x,i+1⟩ (by refine⟨cY,h2,?_,h4⟩;simp[FY];omega) (by simp only[Jv];omega) ?_ (by simp[Jv,G2,YK,kV,vp]) (by simp[Jv,xo,YK,kV,vp]);simp only[Jv,Gu,hd,ay]
 ·have hi:i=bV.length:=by omega
  have wE:decide ((i:Int)<bV.length)=false:=by simp;omega
  simp only[jA,ag,wE,ah];have O9:bV.drop i=[]:=aO (by omega);exact Qi (xo p ci bV k0 k1 k2 l0 l1 l2 c0 c1 c2 bs i) (by simp only[Jv,Gu,xo,O9,RT.val,List.flatMap_nil,aR]) rfl
def Ny(env:bX)(os:bR):Option (Bool×Qml):=match env,os with
 |[(1,.ptr 0 []),(4,.vs 1 x0),(6,.int .i64 x1)],[.var 34 (.bI (.int .i64 p) (.bI (.sl .cE ci bV) (.bI (.bI (.sl .bP k0 l0) (.bI (.sl .bP k1 l1) (.bI (.sl .bP k2 l2) .bN))) (.bI (.arr .int 3 [c0,c1,c2]) .bN)))),.cj .u8 true bs]=>some (decide (x0=bs.length)&&decide (x1=0)&&decide (bV.length<=1000/\bs.length<=900000)&&bV.all m8,⟨p,ci,bV,k0,k1,k2,l0,l1,l2,c0,c1,c2,bs,0⟩)
 |_,_=>none
def A4:=A3.cP 106 6 (eZ cF [.slot 1 0,.slot 4 0] [1,4,6] Jv Ny)
theorem Qsd:Qj Tryz.prog cF A4:=by
 refine Qsb.cJ Qb (by kernel_rfl) Jv 40 [1,4,6] [4] [.slot 1 0,.slot 4 0] [1,4,6] Ny (fun q hI=>?_) ?_
 ·obtain⟨p,ci,bV,k0,k1,k2,l0,l1,l2,c0,c1,c2,bs,i⟩:=q;refine⟨?_,?_,Qkw p ci bV k0 k1 k2 l0 l1 l2 c0 c1 c2 bs i hI⟩
  ·simp_all[Qk,Jv,G2,xo,KW,D.refs,Obj.refs,de]
  ·simp_all[Jv,Gu,xo,KW,RT.da,Qk,D.refs,Obj.refs,de]
 ·intro env os b q cW hb;unfold Ny at cW
  split at cW
  ·cases cW;simp only[ai,aa]at hb;obtain⟨⟨⟨rfl,rfl⟩,hl⟩,ha⟩:=hb;exact⟨⟨aK _,hl.1,hl.2,ha⟩,rfl,rfl⟩
  ·cases cW
structure Qmm where
 (c:Bool)(l:bJ)(bs:bK)(i:Nat)
def G3(c:Bool)(l:bJ)(bs:bK)(i:Nat):bX:=[(4,.vs 0 (bs.length)),(8,.sl (C:=RC) .bP c l),(10,.int .i64 (i:Int))]
def xp(c:Bool)(l:bJ)(bs:bK)(i:Nat):bR:=[.cj (C:=RC) .u8 true bs]
def Qse c l bs i:=eF cF A4 106 22 40 1 [4,8,10] [4] [.slot 4 0] (G3 c l bs i) (xp c l bs i)
theorem Qyz c l bs i:Qse c l bs i=(let Z0:Int:=(i:Int);let Z1:Bool:=ep Z0 (l.length:Int);let Z2:cC:=List.getD l Z0.toNat (cC.mk 0 0 0 0 0);let Z3:=cC.b8 Z2;let Z4:=bs.length;let Z5:=List.length ([]++bs);let Z6:bK:=[]++bs++fX Z3 3;let Z7:=Z6.length;let Z8:bK:=[UInt8.ofNat (IntKind.wrap IntKind.u8 (cX (cC.j Z2+cX ((16:Int)*cC.key Z2)))).toNat,UInt8.ofNat (IntKind.wrap IntKind.u8 (cC.value Z2)).toNat];cb (Qc l.length) (bif decide (Z0<(l.length:Int))then cb Z1 (cb (decide (Z3<=9223372036854775807/\(1:Int)<=3/\(3:Int)<=6)&&QU Z3 3) (cb (Nat.beq Z4 Z4) (cb (Qf ((0:Nat)+Z4) 1) (cb (decide ((0:Nat)+Z4=Z5)&&true&&decide ((0:Int)<=Z3/\Z3<=9223372036854775807/\(0:Int)<=3/\(3:Int)<=6/\Z5<=1000000)) (cb Z1 (cb Z1 (cb Z1 (cb (Nat.beq Z7 Z7&&Qf (Z7+Z8.length) 1) (cb (Nat.blt Z4 (Z6++Z8).length) (some ((X.normal,[(4,D.vs 0 (Z7+Z8.length)),(8,D.sl ca.bP c l),(10,cq (cX (Z0+1)))]),[some (Obj.cj ca.u8 true (Z6++Z8))])))))))))))else some ((X.exit 4,[(4,D.vs 0 Z4)]),[some (Obj.cj ca.u8 true bs)]))):=by kernel_rfl
def Gv(c:Bool)(l:bJ)(bs:bK)(i:Nat):RT RC:=.leaf (.exit 4) [(4,.vs 0 (bs++(l.drop i).flatMap ZJ).length)] [.cj (C:=RC) .u8 true (bs++(l.drop i).flatMap ZJ)]
def KX(c:Bool)(l:bJ)(bs:bK)(i:Nat):Prop:=i<=l.length/\l.length<=1000/\bs.length<=900000+5*i/\l.all VJ=true
def Jw:QK RC Qmm where
 k:=1
 cS q:=G3 q.c q.l q.bs q.i
 cR q:=xp q.c q.l q.bs q.i
 fin q:=Gv q.c q.l q.bs q.i
 Inv q:=KX q.c q.l q.bs q.i
 μ q:=q.l.length-q.i
theorem Qky c l bs i(hI:KX c l bs i):dw (Qse c l bs i) (dF Jw ⟨c,l,bs,i⟩):=by
 (rw[Qyz];delta cb ep cq cX;conv=>zeta)
 unfold KX at hI;obtain⟨h1,h2,h3,h4⟩:=hI;have jA:=Qd (show l.length<=9223372036854775807 by omega)
 by_cases cY:i<l.length
 ·have cN:=fa i (by omega)
  have ei:=gv (show i<l.length by omega)
  have ef:=fV (show i<l.length by omega)
  have dp:=bw i
  simp only[cN,ei,ef,dp,ag];have hf:=GI h4 cY (⟨0,0,0,0,0⟩:cC);have hd:(l.drop i).flatMap ZJ=_:=Yh l i ZJ cY (⟨0,0,0,0,0⟩:cC);generalize l.getD i (⟨0,0,0,0,0⟩:cC)=x at hd hf ⊢;simp only[VJ,ai]at hf;obtain⟨⟨⟨f1,f2⟩,f3⟩,f4⟩:=hf;have g1:=Qp.1 f1;have g2:=Qp.1 f2;have g3:=Qp.1 f3;have w1:IntKind.i64.wrap (16*x.key)=16*x.key:=cu (by omega) (by omega);have w2:IntKind.i64.wrap (x.j+16*x.key)=x.key*16+x.j:=by rw[cu (by omega) (by omega)];omega
  have hk:UInt8.ofNat (IntKind.u8.wrap (x.key*16+x.j)).toNat=Zu (x.key*16+x.j):=rfl;have hv:UInt8.ofNat (IntKind.u8.wrap x.value).toNat=Zu x.value:=rfl;have e0:decide (x.b8<=9223372036854775807/\1<=(3:Int)/\(3:Int)<=6)=true:=by simp;omega
  have e1:Qf (bs.length+1) 1=true:=Zb (by omega);have e0':Qf (0+bs.length) 1=true:=Zb (by omega);have e2:decide (0<=x.b8/\x.b8<=9223372036854775807/\0<=(3:Int)/\(3:Int)<=6/\bs.length<=1000000)=true:=by simp;omega
  have e5:Qf (bs.length+3+2) 1=true:=Zb (by omega);have e6:Nat.blt bs.length (bs.length+3+2)=true:=by simp[Nat.blt_eq];omega
  have t3:(3:Int).toNat-0=3:=rfl;have eb:∀n:Nat,n.beq n=true:=fun n=>by simp
  have e7:Qf bs.length 1=true:=Zb (by omega);simp only[jA,ag,w1,w2,hk,hv,JD f1,e0,aC,aE,bH,aN,Nat.reduceAdd,eb,e1,e2,e5,e6,e7,t3,Qw,aM,au,aH];refine Qg ⟨c,l,bs++ZJ x,i+1⟩ (by refine⟨cY,h2,?_,h4⟩;simp[Yz];omega) (by simp only[Jw];omega) ?_ (by simp[Jw,G3,ZJ,kV,vp]) (by simp[Jw,xp,ZJ,kV,vp]);simp only[Jw,Gv,hd,ay]
 ·have hi:i=l.length:=by omega
  have wE:decide ((i:Int)<l.length)=false:=by simp;omega
  simp only[jA,ag,wE,ah];have O9:l.drop i=[]:=aO (by omega);exact Qi (xp c l bs i) (by simp only[Jw,Gv,xp,O9,RT.val,List.flatMap_nil,aR]) rfl
def Nz(env:bX)(os:bR):Option (Bool×Qmm):=match env,os with
 |[(4,.vs 0 x0),(8,.sl .bP c l),(10,.int .i64 x1)],[.cj .u8 true bs]=>some (decide (x0=bs.length)&&decide (x1=0)&&decide (l.length<=1000/\bs.length<=900000)&&l.all VJ,⟨c,l,bs,0⟩)
 |_,_=>none
def A5:=A4.cP 106 22 (eZ cF [.slot 4 0] [4,8,10] Jw Nz)
theorem Qsf:Qj Tryz.prog cF A5:=by
 refine Qsd.cJ Qb (by kernel_rfl) Jw 40 [4,8,10] [4] [.slot 4 0] [4,8,10] Nz (fun q hI=>?_) ?_
 ·obtain⟨c,l,bs,i⟩:=q;refine⟨?_,?_,Qky c l bs i hI⟩
  ·simp_all[Qk,Jw,G3,xp,KX,D.refs,Obj.refs,de]
  ·simp_all[Jw,Gv,xp,KX,RT.da,Qk,D.refs,Obj.refs,de]
 ·intro env os b q cW hb;unfold Nz at cW
  split at cW
  ·cases cW;simp only[ai,aa]at hb;obtain⟨⟨⟨rfl,rfl⟩,hl⟩,ha⟩:=hb;exact⟨⟨aK _,hl.1,hl.2,ha⟩,rfl,rfl⟩
  ·cases cW
structure Qsg where
 (p:Int)(ci:Bool)(bV:bM)(k0 k1 k2:Bool)(l0 l1 l2:bJ)(c0 c1 c2:Int)(bs:bK)(q:Nat)
def uw(p:Int)(ci:Bool)(bV:bM)(k0 k1 k2:Bool)(l0 l1 l2:bJ)(c0 c1 c2:Int)(bs:bK)(q:Nat):bX:=[(1,.ptr 0 []),(4,.vs 1 (bs.length)),(7,.int .i64 (q:Int))]
def Kv(p:Int)(ci:Bool)(bV:bM)(k0 k1 k2:Bool)(l0 l1 l2:bJ)(c0 c1 c2:Int)(bs:bK)(q:Nat):bR:=[.var 34 (cG p (cL .cE ci bV (.bI (cL .bP k0 l0 (cL .bP k1 l1 (cL .bP k2 l2 .bN))) (.bI (.arr (C:=RC) .int 3 [c0,c1,c2]) .bN)))),.cj (C:=RC) .u8 true bs]
def DX p ci bV k0 k1 k2 l0 l1 l2 c0 c1 c2 bs q:=eF cF A5 106 12 60 2 [1,4,7] [4] [.slot 1 0,.slot 4 0] (uw p ci bV k0 k1 k2 l0 l1 l2 c0 c1 c2 bs q) (Kv p ci bV k0 k1 k2 l0 l1 l2 c0 c1 c2 bs q)
theorem QyA(p:Int)(ci:Bool)(bV:bM)(k0 k1 k2:Bool)(l0 l1 l2:bJ)(c0 c1 c2:Int)(bs:bK):DX p ci bV k0 k1 k2 l0 l1 l2 c0 c1 c2 bs 0=(let Z0:=bs.length;let Z1:=List.length ([]++bs);let Z2:=l0.length;let Z3:bK:=[]++bs++fX c0 3;let Z4:=Z3.length;let Z5:bK:=[UInt8.ofNat (IntKind.wrap IntKind.u8 (Z2:Int)).toNat];let Z6:=cC.offset (List.getD l0 0 (cC.mk 0 0 0 0 0));let Z7:=List.length (Z3++Z5);let Z8:=Nat.beq (Z4+Z5.length) Z7;let Z9:=Qf ((0:Nat)+Z7) 1;let dg:bK:=[]++(Z3++Z5);let dq:Bool:=decide ((0:Nat)+Z7=dg.length)&&true;let dE:=List.length (dg++fX Z6 3);let dQ:=List.flatMap ZJ (List.drop 0 l0);let dv:bK:=dg++fX Z6 3++dQ;let dT:Nat×bQ:=(1,D.ptr 0 []);let dL:fB:=[(7,cq 1)];let eK:bZ:=some (Obj.var 34 (.bI (cq p) (.bI (D.sl ca.cE ci bV) (.bI (D.bI (D.sl ca.bP k0 l0) (.bI (D.sl ca.bP k1 l1) (.bI (D.sl ca.bP k2 l2) .bN))) (.bI (D.arr ca.int 3 [c0,c1,c2]) .bN)))));let eo:bK:=dg++fX 0 3;let eX:=eo.length;let eC:=List.length (eo++dQ);cb (decide (c0<=9223372036854775807/\(1:Int)<=3/\(3:Int)<=6)&&QU c0 3) (cb (Nat.beq Z0 Z0) (cb (Qf ((0:Nat)+Z0) 1) (cb (decide ((0:Nat)+Z0=Z1)&&true&&decide ((0:Int)<=c0/\c0<=9223372036854775807/\(0:Int)<=3/\(3:Int)<=6/\Z1<=1000000)) (cb (Qc Z2) (cb (Nat.beq Z4 Z4&&Qf (Z4+Z5.length) 1) (cb (Qc Z2) (bif decide ((0:Int)<(Z2:Int))then cb (decide ((0:Int)<=0/\(0:Int)<(Z2:Int))) (cb (decide (Z6<=9223372036854775807/\(1:Int)<=3/\(3:Int)<=6)&&QU Z6 3) (cb Z8 (cb Z9 (cb (dq&&decide ((0:Int)<=Z6/\Z6<=9223372036854775807/\(0:Int)<=3/\(3:Int)<=6/\dg.length<=1000000)) (cb (decide (dE=dE)&&true&&decide (Z2<=1000/\dE<=900000)&&List.all l0 VJ) (cb (Nat.blt Z0 dv.length) (some ((X.normal,dT::(4,D.vs 1 dv.length)::dL),[eK,some (Obj.cj ca.u8 true dv)]))))))))else cb Z8 (cb Z9 (cb (dq&&decide ((0:Int)<=0/\(0:Int)<=9223372036854775807/\(0:Int)<=3/\(3:Int)<=6/\dg.length<=1000000)) (cb (decide (eX=eX)&&true&&decide (Z2<=1000/\eX<=900000)&&List.all l0 VJ) (cb (Nat.blt Z0 eC) (some ((X.normal,dT::(4,D.vs 1 eC)::dL),[eK,some (Obj.cj ca.u8 true (eo++dQ))])))))))))))))):=by kernel_rfl
theorem QyB(p:Int)(ci:Bool)(bV:bM)(k0 k1 k2:Bool)(l0 l1 l2:bJ)(c0 c1 c2:Int)(bs:bK):DX p ci bV k0 k1 k2 l0 l1 l2 c0 c1 c2 bs 1=(let Z0:=bs.length;let Z1:=List.length ([]++bs);let Z2:=l1.length;let Z3:bK:=[]++bs++fX c1 3;let Z4:=Z3.length;let Z5:bK:=[UInt8.ofNat (IntKind.wrap IntKind.u8 (Z2:Int)).toNat];let Z6:=cC.offset (List.getD l1 0 (cC.mk 0 0 0 0 0));let Z7:=List.length (Z3++Z5);let Z8:=Nat.beq (Z4+Z5.length) Z7;let Z9:=Qf ((0:Nat)+Z7) 1;let dg:bK:=[]++(Z3++Z5);let dq:Bool:=decide ((0:Nat)+Z7=dg.length)&&true;let dE:=List.length (dg++fX Z6 3);let dQ:=List.flatMap ZJ (List.drop 0 l1);let dv:bK:=dg++fX Z6 3++dQ;let dT:Nat×bQ:=(1,D.ptr 0 []);let dL:fB:=[(7,cq 2)];let eK:bZ:=some (Obj.var 34 (.bI (cq p) (.bI (D.sl ca.cE ci bV) (.bI (D.bI (D.sl ca.bP k0 l0) (.bI (D.sl ca.bP k1 l1) (.bI (D.sl ca.bP k2 l2) .bN))) (.bI (D.arr ca.int 3 [c0,c1,c2]) .bN)))));let eo:bK:=dg++fX 0 3;let eX:=eo.length;let eC:=List.length (eo++dQ);cb (decide (c1<=9223372036854775807/\(1:Int)<=3/\(3:Int)<=6)&&QU c1 3) (cb (Nat.beq Z0 Z0) (cb (Qf ((0:Nat)+Z0) 1) (cb (decide ((0:Nat)+Z0=Z1)&&true&&decide ((0:Int)<=c1/\c1<=9223372036854775807/\(0:Int)<=3/\(3:Int)<=6/\Z1<=1000000)) (cb (Qc Z2) (cb (Nat.beq Z4 Z4&&Qf (Z4+Z5.length) 1) (cb (Qc Z2) (bif decide ((0:Int)<(Z2:Int))then cb (decide ((0:Int)<=0/\(0:Int)<(Z2:Int))) (cb (decide (Z6<=9223372036854775807/\(1:Int)<=3/\(3:Int)<=6)&&QU Z6 3) (cb Z8 (cb Z9 (cb (dq&&decide ((0:Int)<=Z6/\Z6<=9223372036854775807/\(0:Int)<=3/\(3:Int)<=6/\dg.length<=1000000)) (cb (decide (dE=dE)&&true&&decide (Z2<=1000/\dE<=900000)&&List.all l1 VJ) (cb (Nat.blt Z0 dv.length) (some ((X.normal,dT::(4,D.vs 1 dv.length)::dL),[eK,some (Obj.cj ca.u8 true dv)]))))))))else cb Z8 (cb Z9 (cb (dq&&decide ((0:Int)<=0/\(0:Int)<=9223372036854775807/\(0:Int)<=3/\(3:Int)<=6/\dg.length<=1000000)) (cb (decide (eX=eX)&&true&&decide (Z2<=1000/\eX<=900000)&&List.all l1 VJ) (cb (Nat.blt Z0 eC) (some ((X.normal,dT::(4,D.vs 1 eC)::dL),[eK,some (Obj.cj ca.u8 true (eo++dQ))])))))))))))))):=by kernel_rfl
theorem QyC(p:Int)(ci:Bool)(bV:bM)(k0 k1 k2:Bool)(l0 l1 l2:bJ)(c0 c1 c2:Int)(bs:bK):DX p ci bV k0 k1 k2 l0 l1 l2 c0 c1 c2 bs 2=(let Z0:=bs.length;let Z1:=List.length ([]++bs);let Z2:=l2.length;let Z3:bK:=[]++bs++fX c2 3;let Z4:=Z3.length;let Z5:bK:=[UInt8.ofNat (IntKind.wrap IntKind.u8 (Z2:Int)).toNat];let Z6:=cC.offset (List.getD l2 0 (cC.mk 0 0 0 0 0));let Z7:=List.length (Z3++Z5);let Z8:=Nat.beq (Z4+Z5.length) Z7;let Z9:=Qf ((0:Nat)+Z7) 1;let dg:bK:=[]++(Z3++Z5);let dq:Bool:=decide ((0:Nat)+Z7=dg.length)&&true;let dE:=List.length (dg++fX Z6 3);let dQ:=List.flatMap ZJ (List.drop 0 l2);let dv:bK:=dg++fX Z6 3++dQ;let dT:Nat×bQ:=(1,D.ptr 0 []);let dL:fB:=[(7,cq 3)];let eK:bZ:=some (Obj.var 34 (.bI (cq p) (.bI (D.sl ca.cE ci bV) (.bI (D.bI (D.sl ca.bP k0 l0) (.bI (D.sl ca.bP k1 l1) (.bI (D.sl ca.bP k2 l2) .bN))) (.bI (D.arr ca.int 3 [c0,c1,c2]) .bN)))));let eo:bK:=dg++fX 0 3;let eX:=eo.length;let eC:=List.length (eo++dQ);cb (decide (c2<=9223372036854775807/\(1:Int)<=3/\(3:Int)<=6)&&QU c2 3) (cb (Nat.beq Z0 Z0) (cb (Qf ((0:Nat)+Z0) 1) (cb (decide ((0:Nat)+Z0=Z1)&&true&&decide ((0:Int)<=c2/\c2<=9223372036854775807/\(0:Int)<=3/\(3:Int)<=6/\Z1<=1000000)) (cb (Qc Z2) (cb (Nat.beq Z4 Z4&&Qf (Z4+Z5.length) 1) (cb (Qc Z2) (bif decide ((0:Int)<(Z2:Int))then cb (decide ((0:Int)<=0/\(0:Int)<(Z2:Int))) (cb (decide (Z6<=9223372036854775807/\(1:Int)<=3/\(3:Int)<=6)&&QU Z6 3) (cb Z8 (cb Z9 (cb (dq&&decide ((0:Int)<=Z6/\Z6<=9223372036854775807/\(0:Int)<=3/\(3:Int)<=6/\dg.length<=1000000)) (cb (decide (dE=dE)&&true&&decide (Z2<=1000/\dE<=900000)&&List.all l2 VJ) (cb (Nat.blt Z0 dv.length) (some ((X.normal,dT::(4,D.vs 1 dv.length)::dL),[eK,some (Obj.cj ca.u8 true dv)]))))))))else cb Z8 (cb Z9 (cb (dq&&decide ((0:Int)<=0/\(0:Int)<=9223372036854775807/\(0:Int)<=3/\(3:Int)<=6/\dg.length<=1000000)) (cb (decide (eX=eX)&&true&&decide (Z2<=1000/\eX<=900000)&&List.all l2 VJ) (cb (Nat.blt Z0 eC) (some ((X.normal,dT::(4,D.vs 1 eC)::dL),[eK,some (Obj.cj ca.u8 true (eo++dQ))])))))))))))))):=by kernel_rfl
theorem QyD(p:Int)(ci:Bool)(bV:bM)(k0 k1 k2:Bool)(l0 l1 l2:bJ)(c0 c1 c2:Int)(bs:bK):DX p ci bV k0 k1 k2 l0 l1 l2 c0 c1 c2 bs 3=(some ((X.exit 2,[(4,D.vs 1 bs.length)]),[some (Obj.var 34 (.bI (D.int .i64 p) (.bI (D.sl ca.cE ci bV) (.bI (D.bI (D.sl ca.bP k0 l0) (.bI (D.sl ca.bP k1 l1) (.bI (D.sl ca.bP k2 l2) .bN))) (.bI (D.arr ca.int 3 [c0,c1,c2]) .bN))))),some (Obj.cj ca.u8 true bs)])):=by kernel_rfl
def VK(p:Int)(ci:Bool)(bV:bM)(k0 k1 k2:Bool)(l0 l1 l2:bJ)(c0 c1 c2:Int)(bs:bK)(q:Nat):RT RC:=.leaf (.exit 2) [(4,.vs 1 (bs++Yd ⟨p,bV,l0,l1,l2,c0,c1,c2⟩ q).length)] [.var 34 (cG p (cL .cE ci bV (.bI (cL .bP k0 l0 (cL .bP k1 l1 (cL .bP k2 l2 .bN))) (.bI (.arr (C:=RC) .int 3 [c0,c1,c2]) .bN)))),.cj (C:=RC) .u8 true (bs++Yd ⟨p,bV,l0,l1,l2,c0,c1,c2⟩ q)]
def Dj(p:Int)(ci:Bool)(bV:bM)(k0 k1 k2:Bool)(l0 l1 l2:bJ)(c0 c1 c2:Int)(bs:bK)(q:Nat):Prop:=q<=3/\bs.length<=10000+100*q/\V0 c0 l0=true/\V0 c1 l1=true/\V0 c2 l2=true
def Zz:QK RC Qsg where
 k:=2
 cS q:=uw q.p q.ci q.bV q.k0 q.k1 q.k2 q.l0 q.l1 q.l2 q.c0 q.c1 q.c2 q.bs q.q
 cR q:=Kv q.p q.ci q.bV q.k0 q.k1 q.k2 q.l0 q.l1 q.l2 q.c0 q.c1 q.c2 q.bs q.q
 fin q:=VK q.p q.ci q.bV q.k0 q.k1 q.k2 q.l0 q.l1 q.l2 q.c0 q.c1 q.c2 q.bs q.q
 Inv q:=Dj q.p q.ci q.bV q.k0 q.k1 q.k2 q.l0 q.l1 q.l2 q.c0 q.c1 q.c2 q.bs q.q
 μ q:=3-q.q
theorem Qpa p ci bV k0 k1 k2 l0 l1 l2 c0 c1 c2 bs q(hI:Dj p ci bV k0 k1 k2 l0 l1 l2 c0 c1 c2 bs q):dw (DX p ci bV k0 k1 k2 l0 l1 l2 c0 c1 c2 bs q) (dF Zz ⟨p,ci,bV,k0,k1,k2,l0,l1,l2,c0,c1,c2,bs,q⟩):=by
 unfold Dj at hI;obtain⟨h1,h2,f0,f1,f2⟩:=hI;have rG:∀{a b:Nat},a<b->Nat.blt a b=true:=fun h=>by simpa[Nat.blt_eq]using h
 have eb:∀n:Nat,n.beq n=true:=fun n=>by simp
 have t3:(3:Int).toNat-0=3:=rfl
 by_cases h3:q=3
 ·subst h3;rw[QyD];exact Qi (Kv p ci bV k0 k1 k2 l0 l1 l2 c0 c1 c2 bs 3) (by simp only[Zz,VK,Kv,Yd,RT.val,aR]) rfl
 by_cases e0:q=0
 ·subst e0
  (rw[QyA];delta cb cq;conv=>zeta)
  obtain⟨hc,hl,ln,ho⟩:=Y4.1 f0;have jA:Qc l0.length=true:=Qd (by omega);have fc:QU c0 3=true:=JD (by rw[Qp];omega);have hb:UInt8.ofNat (IntKind.u8.wrap (l0.length:Int)).toNat=Zu l0.length:=rfl;have sl:=ZE l0 ZJ 5 Yz;unfold QJ at ho;have fo:QU (l0.getD 0 ⟨0,0,0,0,0⟩).offset 3=true:=JD (by rw[Qp];omega);simp only[jA,fc,fo,hb,ln,t3,aC,aE,bH,Qw,sl,eb,aN,aH,au,Bool.and_true,ag,bG]
  by_cases hp:0<l0.length
  ·simp(disch:=omega) only[ab,Zb,rG,ag,au];refine Qg ⟨p,ci,bV,k0,k1,k2,l0,l1,l2,c0,c1,c2,bs++QB c0 l0,1⟩ (by refine⟨by simp,?_,f0,f1,f2⟩;simp[QB,Qw,sl];omega) (by simp only[Zz];omega) ?_ (by simp[Zz,uw,QB,Qw,sl,kV,QJ];omega) (by simp[Zz,Kv,QB,kV,QJ]);simp only[Zz,VK,Yd,ay,aR]
  ·have e:l0=[]:=by cases hq:l0 with
    |nil=>rfl
    |cons _ _=>rw[hq]at hp;simp at hp
   simp(disch:=omega) only[ab,ad,Zb,rG,ag,ah,au];refine Qg ⟨p,ci,bV,k0,k1,k2,l0,l1,l2,c0,c1,c2,bs++QB c0 l0,1⟩ (by refine⟨by simp,?_,f0,f1,f2⟩;simp[QB,Qw,sl];omega) (by simp only[Zz];omega) ?_ (by simp[Zz,uw,QB,Qw,sl,kV,QJ,e]) (by simp[Zz,Kv,QB,kV,QJ,e]);simp only[Zz,VK,Yd,ay,aR]
 by_cases e1:q=1
 ·subst e1
  (rw[QyB];delta cb cq;conv=>zeta)
  obtain⟨hc,hl,ln,ho⟩:=Y4.1 f1;have jA:Qc l1.length=true:=Qd (by omega);have fc:QU c1 3=true:=JD (by rw[Qp];omega);have hb:UInt8.ofNat (IntKind.u8.wrap (l1.length:Int)).toNat=Zu l1.length:=rfl;have sl:=ZE l1 ZJ 5 Yz;unfold QJ at ho;have fo:QU (l1.getD 0 ⟨0,0,0,0,0⟩).offset 3=true:=JD (by rw[Qp];omega);simp only[jA,fc,fo,hb,ln,t3,aC,aE,bH,Qw,sl,eb,aN,aH,au,Bool.and_true,ag,bG]
  by_cases hp:0<l1.length
  ·simp(disch:=omega) only[ab,Zb,rG,ag,au];refine Qg ⟨p,ci,bV,k0,k1,k2,l0,l1,l2,c0,c1,c2,bs++QB c1 l1,2⟩ (by refine⟨by simp,?_,f0,f1,f2⟩;simp[QB,Qw,sl];omega) (by simp only[Zz];omega) ?_ (by simp[Zz,uw,QB,Qw,sl,kV,QJ];omega) (by simp[Zz,Kv,QB,kV,QJ]);simp only[Zz,VK,Yd,ay,aR]
  ·have e:l1=[]:=by cases hq:l1 with
    |nil=>rfl
    |cons _ _=>rw[hq]at hp;simp at hp
   simp(disch:=omega) only[ab,ad,Zb,rG,ag,ah,au];refine Qg ⟨p,ci,bV,k0,k1,k2,l0,l1,l2,c0,c1,c2,bs++QB c1 l1,2⟩ (by refine⟨by simp,?_,f0,f1,f2⟩;simp[QB,Qw,sl];omega) (by simp only[Zz];omega) ?_ (by simp[Zz,uw,QB,Qw,sl,kV,QJ,e]) (by simp[Zz,Kv,QB,kV,QJ,e]);simp only[Zz,VK,Yd,ay,aR]
 by_cases e2:q=2
 ·subst e2
  (rw[QyC];delta cb cq;conv=>zeta)
  obtain⟨hc,hl,ln,ho⟩:=Y4.1 f2;have jA:Qc l2.length=true:=Qd (by omega);have fc:QU c2 3=true:=JD (by rw[Qp];omega);have hb:UInt8.ofNat (IntKind.u8.wrap (l2.length:Int)).toNat=Zu l2.length:=rfl;have sl:=ZE l2 ZJ 5 Yz;unfold QJ at ho;have fo:QU (l2.getD 0 ⟨0,0,0,0,0⟩).offset 3=true:=JD (by rw[Qp];omega);simp only[jA,fc,fo,hb,ln,t3,aC,aE,bH,Qw,sl,eb,aN,aH,au,Bool.and_true,ag,bG]
  by_cases hp:0<l2.length
  ·simp(disch:=omega) only[ab,Zb,rG,ag,au];refine Qg ⟨p,ci,bV,k0,k1,k2,l0,l1,l2,c0,c1,c2,bs++QB c2 l2,3⟩ (by refine⟨by simp,?_,f0,f1,f2⟩;simp[QB,Qw,sl];omega) (by simp only[Zz];omega) ?_ (by simp[Zz,uw,QB,Qw,sl,kV,QJ];omega) (by simp[Zz,Kv,QB,kV,QJ]);simp only[Zz,VK,Yd,ay,aR]
  ·have e:l2=[]:=by cases hq:l2 with
    |nil=>rfl
    |cons _ _=>rw[hq]at hp;simp at hp
   simp(disch:=omega) only[ab,ad,Zb,rG,ag,ah,au];refine Qg ⟨p,ci,bV,k0,k1,k2,l0,l1,l2,c0,c1,c2,bs++QB c2 l2,3⟩ (by refine⟨by simp,?_,f0,f1,f2⟩;simp[QB,Qw,sl];omega) (by simp only[Zz];omega) ?_ (by simp[Zz,uw,QB,Qw,sl,kV,QJ,e]) (by simp[Zz,Kv,QB,kV,QJ,e]);simp only[Zz,VK,Yd,ay,aR]
 omega
def Od(env:bX)(os:bR):Option (Bool×Qsg):=match env,os with
 |[(1,.ptr 0 []),(4,.vs 1 x0),(7,.int .i64 x1)],[.var 34 (.bI (.int .i64 p) (.bI (.sl .cE ci bV) (.bI (.bI (.sl .bP k0 l0) (.bI (.sl .bP k1 l1) (.bI (.sl .bP k2 l2) .bN))) (.bI (.arr .int 3 [c0,c1,c2]) .bN)))),.cj .u8 true bs]=>some (decide (x0=bs.length)&&decide (x1=0)&&decide (bs.length<=10000)&&(V0 c0 l0&&V0 c1 l1&&V0 c2 l2),⟨p,ci,bV,k0,k1,k2,l0,l1,l2,c0,c1,c2,bs,0⟩)
 |_,_=>none
def A6:=A5.cP 106 12 (eZ cF [.slot 1 0,.slot 4 0] [1,4,7] Zz Od)
theorem Qsi:Qj Tryz.prog cF A6:=by
 refine Qsf.cJ Qb (by kernel_rfl) Zz 60 [1,4,7] [4] [.slot 1 0,.slot 4 0] [1,4,7] Od (fun q hI=>?_) ?_
 ·obtain⟨p,ci,bV,k0,k1,k2,l0,l1,l2,c0,c1,c2,bs,q⟩:=q;refine⟨?_,?_,Qpa p ci bV k0 k1 k2 l0 l1 l2 c0 c1 c2 bs q hI⟩
  ·simp_all[Qk,Zz,uw,Kv,Dj,D.refs,Obj.refs,de]
  ·simp_all[Zz,VK,Kv,Dj,RT.da,Qk,D.refs,Obj.refs,de]
 ·intro env os b q cW hb;unfold Od at cW
  split at cW
  ·cases cW;simp only[ai,aa]at hb;obtain⟨⟨⟨rfl,rfl⟩,hl⟩,ha⟩:=hb;exact⟨⟨aK _,hl,ha.1.1,ha.1.2,ha.2⟩,rfl,rfl⟩
  ·cases cW
def KY:bW->bO
 |[.bI (.int .i64 p) (.bI (.sl .cE ci bV) (.bI (.bI (.sl .bP k0 l0) (.bI (.sl .bP k1 l1) (.bI (.sl .bP k2 l2) .bN))) (.bI (.arr .int 3 [c0,c1,c2]) .bN)))]=>some (decide (bV.length<=9223372036854775807/\l0.length<=9223372036854775807/\l1.length<=9223372036854775807/\l2.length<=9223372036854775807),.cH (cL .u8 (!Qs ⟨p,bV,l0,l1,l2,c0,c1,c2⟩) (bif Qs ⟨p,bV,l0,l1,l2,c0,c1,c2⟩then Vz ⟨p,bV,l0,l1,l2,c0,c1,c2⟩else[]) (cG (bif Qs ⟨p,bV,l0,l1,l2,c0,c1,c2⟩then 0 else 2) .bN)))
 |_=>none
def Tm(p:Int)(ci:Bool)(bV:bM)(k0 k1 k2:Bool)(l0 l1 l2:bJ)(c0 c1 c2:Int):=eU cF A6 40 106 [.bI (.int .i64 p) (cL .cE ci bV (.bI (cL .bP k0 l0 (cL .bP k1 l1 (cL .bP k2 l2 .bN))) (.bI (.arr (C:=RC) .int 3 [c0,c1,c2]) .bN)))]
theorem Qex p ci bV k0 k1 k2 l0 l1 l2 c0 c1 c2:Tm p ci bV k0 k1 k2 l0 l1 l2 c0 c1 c2=(let Z0:=bV.length;let Z1:St:=St.mk p bV l0 l1 l2 c0 c1 c2;let Z2:bK:=[]++[]++fX p 3;let Z3:bK:=[UInt8.ofNat (IntKind.wrap IntKind.u8 (Z0:Int)).toNat];let Z4:=List.length (Z2++Z3);let Z5:bK:=Z2++Z3++List.flatMap YK (List.drop 0 bV);let Z6:=Z5.length;let Z7:bK:=Z5++Yd Z1 0;cb (decide (Z0<=9223372036854775807/\l0.length<=9223372036854775807/\l1.length<=9223372036854775807/\l2.length<=9223372036854775807)) (bif !Qs Z1 then some (D.cH (D.bI (D.sl ca.u8 true []) (.bI (cq 2) .bN)))else cb (decide (p<=9223372036854775807/\(1:Int)<=3/\(3:Int)<=6)&&QU p 3) (cb (decide ((0:Int)<=p/\p<=9223372036854775807/\(0:Int)<=3/\(3:Int)<=6/\(0:Nat)<=1000000)) (cb (Qc Z0) (cb (decide (Z2.length+Z3.length=Z4)&&true&&decide (Z0<=1000/\Z4<=900000)&&List.all bV m8) (cb (decide (Z6=Z6)&&true&&decide (Z6<=10000)&&(V0 c0 l0&&V0 c1 l1&&V0 c2 l2)) (cb (Nat.beq Z7.length Z7.length) (some (D.cH (D.bI (D.sl ca.u8 false Z7) (.bI (cq 0) .bN))))))))))):=by kernel_rfl
theorem Qey p ci bV k0 k1 k2 l0 l1 l2 c0 c1 c2(h:(decide (bV.length<=9223372036854775807/\l0.length<=9223372036854775807/\l1.length<=9223372036854775807/\l2.length<=9223372036854775807))=true):Tm p ci bV k0 k1 k2 l0 l1 l2 c0 c1 c2=some (.cH (cL .u8 (!Qs ⟨p,bV,l0,l1,l2,c0,c1,c2⟩) (bif Qs ⟨p,bV,l0,l1,l2,c0,c1,c2⟩then Vz ⟨p,bV,l0,l1,l2,c0,c1,c2⟩else[]) (cG (bif Qs ⟨p,bV,l0,l1,l2,c0,c1,c2⟩then 0 else 2) .bN))):=by
 (rw[Qex];delta cb cq;conv=>zeta)
 obtain⟨h,h0,h1,h2⟩:=af h;rw[ab (show(bV.length<=9223372036854775807/\l0.length<=9223372036854775807/\l1.length<=9223372036854775807/\l2.length<=9223372036854775807)from⟨h,h0,h1,h2⟩)];cases hm:Qs ⟨p,bV,l0,l1,l2,c0,c1,c2⟩
 ·rfl
 ·obtain⟨hp,Po,Pn,q0,q1,q2⟩:=Vj hm;have fp:QU p 3=true:=JD (by rw[Qp];omega);have b:=Qd h;have hb:UInt8.ofNat (IntKind.u8.wrap (bV.length:Int)).toNat=Zu bV.length:=rfl;have sI:=ZE bV YK 5 FY;have eb:∀n:Nat,n.beq n=true:=fun n=>by simp
  have t3:(3:Int).toNat-0=3:=rfl;simp only[fp,b,hb,Pn,Y4.2 q0,Y4.2 q1,Y4.2 q2,t3,aC,aE,bH,Qw,sI,eb,aN,aH,au,Bool.and_true,bg,ag,ah,bG];simp(disch:=omega) only[ab,Zb,ag,au];simp[Vz,kV,Yd]
def A7:=A6.cm 106 KY
theorem Qsj:Qj Tryz.prog cF A7:=Qsi.c6 Qb fun args d h=>by
 unfold KY at h
 split at h
 ·obtain⟨h1,rfl⟩:=ak h;exact⟨by simp[D.refs],40,Qey _ _ _ _ _ _ _ _ _ _ _ _ h1⟩
 ·cases h
structure Rd where
 (c:Bool)(b:bK)(c7:Bool)
def df(w:Nat)(r:Rd):Int×Rd:=if w<=r.b.length then((cf (r.b.take w):Int),⟨r.c,r.b.drop w,r.c7⟩)else(0,⟨true,[],true⟩)
def Ye:Nat->Rd->Rd×cA
 |0,r=>(r,[])
 |n+1,r=>
  let k:=df 1 r
  let v:=df 1 k.2
  let q:=Ye n v.2
  (q.1,⟨k.1,v.1⟩::q.2)
theorem Zc{w:Nat}{c c7:Bool}{b:bK}(h:w<=b.length):df w ⟨c,b,c7⟩=((cf (b.take w):Int),⟨c,b.drop w,c7⟩):=by simp[df,h]
theorem Zj{w:Nat}{c c7:Bool}{b:bK}(h:b.length<w):df w ⟨c,b,c7⟩=(0,⟨true,[],true⟩):=by simp[df,Nat.not_le.2 h]
theorem Yp(b:bK):((cU b 0 1).2 !=0)=decide (b.length<1):=by
 by_cases h:b.length<1
 ·have:¬((1:Int)<=b.length):=by omega
  simp only[cU,h];simp[this]
 ·have:((1:Int)<=b.length):=by omega
  simp only[cU,h];simp[this]
theorem YO(b:bK):((cU b 0 3).2 !=0)=decide (b.length<3):=by
 by_cases h:b.length<3
 ·have:¬((3:Int)<=b.length):=by omega
  simp only[cU,h];simp[this]
 ·have:((3:Int)<=b.length):=by omega
  simp only[cU,h];simp[this]
theorem Zm{b:bK}(h:¬b.length<1):(cU b 0 1).1=(cf (b.take 1):Int):=by
 have:((1:Int)<=b.length):=by omega
 simp only[cU];simp[this]
theorem ZL{b:bK}(h:¬b.length<3):(cU b 0 3).1=(cf (b.take 3):Int):=by
 have:((3:Int)<=b.length):=by omega
 simp only[cU];simp[this]
theorem Yu{b:bK}(h:1<=b.length):cf (b.take 1)=(b.getD 0 0).toNat:=by
 cases b with
 |nil=>simp at h
 |cons x t=>simp[cf]
def YP:Nat->bK->cA
 |0,_=>[]
 |n+1,b=>⟨(b.getD 0 0).toNat,(b.getD 1 0).toNat⟩::YP n (b.drop 2)
theorem UA:∀(n:Nat) (c:Bool) (b:bK) (c7:Bool),2*n<=b.length->Ye n ⟨c,b,c7⟩=(⟨c,b.drop (2*n),c7⟩,YP n b)
 |0,c,b,c7,_=>by simp[Ye,YP]
 |n+1,c,b,c7,h=>by
  have h1:1<=b.length:=by omega
  have h2:1<=(b.drop 1).length:=by simp;omega
  have h3:=UA n c ((b.drop 1).drop 1) c7 (by simp;omega);have e:(b.drop 1).getD 0 0=b.getD 1 0:=by simp[List.getElem?_drop]
  have e2:((b.drop 1).drop 1).drop (2*n)=b.drop (2*(n+1)):=by rw[bD,bD];congr 1;omega
  have e3:(b.drop 1).drop 1=b.drop 2:=by rw[bD]
  simp only[Ye,Zc h1,Zc h2,h3,Yu h1,Yu h2,e,YP,e2];rw[e3]
theorem GP{w:Nat}{r:Rd}(h:r.c7=true):(df w r).2.c7=true:=by
 unfold df;split<;>simp[h]
theorem LG:∀(n:Nat) (r:Rd),r.c7=true->(Ye n r).1.c7=true
 |0,r,h=>h
 |n+1,r,h=>LG n _ (GP (GP h))
theorem Tu:∀(n:Nat) (c:Bool) (b:bK) (c7:Bool),b.length<2*n->(Ye n ⟨c,b,c7⟩).1.c7=true
 |0,c,b,c7,h=>by omega
 |n+1,c,b,c7,h=>by
  simp only[Ye]
  by_cases h1:b.length<1
  ·rw[Zj h1];exact LG n _ (GP rfl)
  ·rw[Zc (show 1<=b.length by omega)]
   by_cases h2:(b.drop 1).length<1
   ·simp only[Zj h2];exact LG n _ rfl
   ·simp only[Zc (show 1<=(b.drop 1).length by omega)];exact Tu n _ _ _ (by simp at h2 ⊢;omega)
theorem LW:∀(n:Nat) (b:bK),(YP n b).length=n
 |0,_=>rfl
 |n+1,b=>by simp[YP,LW n]
def Zd(b:bK):gB :=
 if 5<=b.length/\(b.getD 3 0).toNat<=1/\b.length=5+2*(b.getD 4 0).toNat/\gj ⟨cf (b.take 3),(b.getD 3 0).toNat==1,YP (b.getD 4 0).toNat (b.drop 5)⟩=true then
  some ⟨cf (b.take 3),(b.getD 3 0).toNat==1,YP (b.getD 4 0).toNat (b.drop 5)⟩else none
def fJ(o:gB):Rec:=o.getD ⟨0,false,[]⟩
end Go.Ev
