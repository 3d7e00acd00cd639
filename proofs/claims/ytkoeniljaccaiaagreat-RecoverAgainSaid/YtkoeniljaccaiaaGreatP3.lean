/-
  A part of the proof of a statement of this seat: the model is run over values by content, proved sound; what the functions come to. No condition beyond the given statements. (text 4)
-/
import Derived.Test.YtkoeniljaccaiaaGreatP2
import Derived.KernelRfl
noncomputable section
namespace Go.Ev
set_option linter.unusedVariables false
set_option linter.unusedSimpArgs false
section
variable {C:gR}{P:Program}{T:fh C}{Φ:iR C}
open Pg (Ex)
structure wY(C:gR)(σ:Type) where
 (k:Nat)(cM:σ->Env C)(cK:σ->List (Obj C))(fin:σ->Ev.X×Env C)(eZ:σ->List (Obj C))(Inv:σ->Prop)(μ:σ->Nat)
def Qj(k:Nat)(env:Env C)(os:List (Obj C)):Prop:=os.length=k/\(∀q∈env,∀r∈q.2.refs,r<k)/\∀o∈os,∀r∈Obj.refs o,r<k
def xN(os eV:List (Obj C))(f:Nat->Nat):Prop:=∀j,j<os.length->f j=j\/∃t own l gm l',os[j]? = some (.vec t own l)/\eV[j]? = some (.vec t gm l')/\l.length<l'.length
def Cx.fP(X:Cx)(k:Nat)(f:Nat->Nat):Cx:=⟨X.w,fun j=>if j<k then X.ρ (f j)else none,X.O⟩
theorem Cx.je{X:Cx}{k:Nat}{f:Nat->Nat}{b o:Nat}:(X.fP k f).du b o↔∃j l,j<k/\X.ρ (f j)=some l/\l.owns b o:=by
 constructor
 ·rintro ⟨j,l,h1,h2⟩
  simp only[Cx.fP]at h1
  split at h1
  ·exact⟨j,l,by assumption,h1,h2⟩
  ·cases h1
 ·rintro ⟨j,l,h0,h1,h2⟩
  exact⟨j,l,by simp[Cx.fP,h0,h1],h2⟩
theorem Cx.np{X:Cx}{k:Nat}{f:Nat->Nat}{b o:Nat}(h:X.free b o):(X.fP k f).free b o :=
 ⟨h.1,fun hm=>by obtain⟨j,l,_,hl,ho⟩:=Cx.je.1 hm;exact h.2 ⟨f j,l,hl,ho⟩⟩
theorem Part.Ru(L:Laws T){X:Cx}{h:Heap C}{nx:Nat}{lim:ek}(g:G T X h nx lim){os:List (Obj C)}{f:Nat->Nat}(p:Part h os f)(top:Nat):G T (X.fP os.length f) (gO 0 os) os.length (eA top):=by
 obtain⟨fi,mP⟩:=E8 p.inj;have hX:ul X (X.fP os.length f):=⟨fun b o v h1 h2=>⟨h1,Cx.np h2⟩⟩;refine⟨?_,?_,?_,?_,?_,?_,?_,?_,?_,aK _,?_⟩
 ·intro id t d ho;rw[QE]at ho;have cU:id<os.length:=(av.1 ho).1;obtain⟨b,c,h1,h2,h3,h4⟩:=g.var (f id) t (d.eF f) (p.mN id _ ho);have hrefs:∀r∈d.refs,r<os.length:=p.refs _ (List.mem_of_getElem? ho);refine⟨b,c,by simp[Cx.fP,cU,h1],h2,?_,by rw[ya]at h4;exact h4⟩
  have h5:=h3.eF (X':=X.fP os.length f) fi L.gX hX (fun r hr=>by
   rw[D.eW,List.mem_map]at hr;obtain⟨r0,o8,rfl⟩:=hr;have:=hrefs r0 o8;simp only[mP r0 this,Cx.fP,this,aU];exact .refl _)
  rwa [D.dZ f fi d (fun r hr=>mP r (hrefs r hr))]at h5
 ·intro id t own l ho;rw[QE]at ho;have cU:id<os.length:=(av.1 ho).1;obtain⟨v,b,lo,hi,h1,h2⟩:=g.vec (f id) t own l (p.mN id _ ho);refine⟨v,b,lo,hi,by simp[Cx.fP,cU,h1],?_⟩;exact h2.move L hX.cell (fun _=>rfl) (L.tV t)
 ·intro id ck cv l ho;rw[QE]at ho;have cU:id<os.length:=(av.1 ho).1;obtain⟨b,es,k,h1,h2,h3⟩:=g.map (f id) ck cv l (p.mN id _ ho);exact⟨b,es,k,by simp[Cx.fP,cU,h1],h2,h3.move L hX.cell⟩
 ·intro id cc ho;rw[QE]at ho;have cU:id<os.length:=(av.1 ho).1;obtain⟨s,h1,h2⟩:=g.dG (f id) cc (p.mN id _ ho);exact⟨s,by simp[Cx.fP,cU,h1],h2.move L hX.cell fun _ _=>rfl⟩
 ·intro id l hr;simp only[Cx.fP]at hr
  split at hr
  ·rename_i cU;rw[QE];simp[cU]
  ·cases hr
 ·intro id o ho;rw[QE]at ho;have cU:id<os.length:=(av.1 ho).1;exact⟨⟨.inl cU,fun h=>h⟩,fun r hr=>⟨.inl (p.refs _ (List.mem_of_getElem? ho) r hr),fun h=>h⟩⟩
 ·intro i j l l' b o o' h1 h2 h3 h4;simp only[Cx.fP]at h1 h2
  split at h1
  ·split at h2
   ·exact p.inj i j (by assumption) (by assumption) (g.apart _ _ _ _ _ _ _ h1 h2 h3 h4)
   ·cases h2
  ·cases h1
 ·intro b o hm;obtain⟨j,l,hj,hl,ho⟩:=Cx.je.1 hm;exact g.outer b o ⟨_,l,hl,ho⟩
 ·intro b o ho;exact g.outs b o ho
 ·exact fun q hq=>⟨(g.pre q hq).1,fun o hm=>by
   obtain⟨j,l,hj,hl,ho⟩:=Cx.je.1 hm;exact(g.pre q hq).2 o ⟨_,l,hl,ho⟩⟩
theorem QB.fP(L:Laws T){X:Cx}{nx:Nat}{lim:ek}{env eQ:Env C}{tmps:bY}{k top:Nat}{f:Nat->Nat}(he:QB T X nx lim env tmps)(yZ:∀i j,i<k->j<k->f i=f j->i=j)
 (hs:∀q∈eQ,cR env q.1=q.2.eF f) (hr:∀q∈eQ,∀r∈q.2.refs,r<k):QB T (X.fP k f) k (eA top) eQ tmps:=by
 obtain⟨fi,mP⟩:=E8 yZ;intro t;rcases ic eQ t with h|h
 ·rw[h];exact RO.mk (RV.top _ _ _) rfl
 ·have oM:∀r∈(cR eQ t).refs,r<k:=hr _ h;refine⟨?_,fun r hh=>⟨.inl (oM r hh),fun h=>h⟩⟩;have h1:=(he t).1;have h2:=hs _ h;simp only at h2;rw[h2]at h1
  have h3:=RV.eF (X:=X) (X':=X.fP k f) fi L.gX (h:=h1) ⟨fun b o v a1 a2=>⟨a1,Cx.np a2⟩⟩ (fun r hh=>by
   rw[D.eW,List.mem_map]at hh;obtain⟨r0,o8,rfl⟩:=hh;have:=oM r0 o8;simp only[mP r0 this,Cx.fP,this,aU];exact .refl _)
  rwa [D.dZ f fi _ (fun r hh=>mP r (oM r hh))]at h3
theorem VJ.gJ{X:Cx}{t:C.Ty}{own:Bool}{l:List (C.A t)}{v:Value}{b lo hi:Nat}(h:VJ T X t own l v b lo hi):Ev.gJ v=l.length:=by
 rcases h with⟨⟨a,rfl,_⟩,rfl,_⟩|⟨off,cp,rfl,_⟩<;>rfl
theorem Part.Hf{X X1:Cx}{h':Heap C}{cF:Nat}{os eV:List (Obj C)}{f:Nat->Nat}(g:G T X (gO 0 os) os.length (eA os.length))(g1:G T X1 h' cF (eA cF))(s:Step X os.length (eA cF) X1)(p:Part h' eV f)(hlen:eV.length=os.length)(hg:xN os eV f) :
 Step X os.length (eA os.length) (X1.fP os.length f):=by
 refine⟨s.O,s.os,s.tape,s.output,s.size,fun id ho=>?_,fun b o hb hm=>?_,s.cell,s.block,s.frz⟩
 ·by_cases dD:id<os.length
  ·simp only[Cx.fP,dD,aU];rcases hg id dD with hf|⟨t,own,l,gm,l',h1,h2,h3⟩
   ·rw[hf];exact s.ρ id ⟨.inl dD,fun h=>h⟩
   ·obtain⟨v,b,lo,hi,a1,a2⟩:=g.vec id t own l (by rw[QE];exact h1);obtain⟨v',b',iP,jl,c1,c2⟩:=g1.vec (f id) t gm l' (p.mN id _ h2);rw[a1,c1];have e1:=a2.gJ;have e2:=c2.gJ;exact⟨rfl,by omega,fun h=>by omega⟩
  ·have:(X1.fP os.length f).ρ id=none:=by simp[Cx.fP,dD]
   rw[this];cases X.ρ id<;>simp[Qp]
 ·obtain⟨j,l,hj,hl,ho⟩:=Cx.je.1 hm;exact s.du b o hb ⟨f j,l,hl,ho⟩
def PD(T:fh C)(Φ:iR C)(g:FuncId)(b:Code){σ:Type}(S:wY C σ):Prop :=
 ∀s,S.Inv s->Qj S.k (S.cM s) (S.cK s)/\Qj S.k (S.fin s).2 (S.eZ s)/\∃n x cZ h' cF tr,Ex (0,0) (jE T Φ n g b (S.cM s)) (gO 0 (S.cK s)) S.k (x,cZ) h' cF tr /\
  ((x=.normal/\∃s',S.Inv s'/\S.μ s'<S.μ s/\S.fin s'=S.fin s/\S.eZ s'=S.eZ s/\Sub cZ (S.cM s')/\∀j,j<S.k->h'.get j=(S.cK s')[j]?) \/
   (x=.normal/\∃s' f,S.Inv s'/\S.μ s'<S.μ s/\S.fin s'=S.fin s/\S.eZ s'=S.eZ s/\(∀p∈S.cM s',cR cZ p.1=p.2.eF f)/\Part h' (S.cK s') f/\xN (S.cK s) (S.cK s') f) \/
   (x ≠ .normal/\x=(S.fin s).1/\Sub cZ (S.fin s).2/\∀j,j<S.k->h'.get j=(S.eZ s)[j]?))
theorem G.l8{X:Cx}{h:Heap C}{nx cF k:Nat}{lim lY:ek}(g:G T X h nx lim)(hk:∀id o,h.get id=some o->id<k/\∀r∈o.refs,r<k)(hn:k<=cF)(hl:lY.lo<=cF)(hH:∀id,¬lY.H id):G T X h cF lY :=
 ⟨g.var,g.vec,g.map,g.dG,g.jA,fun id o ho=>⟨⟨.inl (by have:=(hk id o ho).1;omega),hH id⟩,fun r hr=>⟨.inl (by have:=(hk id o ho).2 r hr;omega),hH r⟩⟩,g.apart,g.outer,g.outs,hl,g.pre⟩
theorem JN{os:List (Obj C)}{k:Nat}(hl:os.length=k)(hr:∀o∈os,∀r∈Obj.refs o,r<k):∀id o,(gO 0 os).get id=some o->id<k/\∀r∈o.refs,r<k:=by
 intro id o ho;rw[QE]at ho;exact⟨by rw[<-hl];exact(av.1 ho).1,hr o (List.mem_of_getElem? ho)⟩
theorem XZ(K:Zo P T)(F:Qk P T Φ){g:FuncId}{fn:Func}{body b:Code}{σ:Type}{S:wY C σ}(hr:PD T Φ g b S)(hf:Φ.fn g=some fn)(hb:fn.body=some body)(nJ:Y0 fn.ntmps b=true)(hl:∀b'∈Zd b,b'∈Zd body){B:Nat->Bool}(hB:yd B b)
 {Q:Exit->Act->World->Prop}:∀(m:Nat) (s:σ) (X:Cx) (a:Act),S.Inv s->S.μ s<m->G T X (gO 0 (S.cK s)) S.k (eA S.k)->QB T X S.k (eA S.k) (S.cM s) a.tmps->fn.ntmps<=a.tmps.size ->
  (∀a' X',G T X' (gO 0 (S.eZ s)) S.k (eA S.k)->Step X S.k (eA S.k) X'->QB T X' S.k (eA S.k) (S.fin s).2 a'.tmps->a'.tmps.size=a.tmps.size->VP X X' a'.defers a.defers->Kp B a.tmps a'.tmps->Q (u6 (S.fin s).1) a' X'.w)->Code.rounds P b Q m a X.w:=by
 intro m
 induction m with
 |zero=>intro s X a _ hm;omega
 |succ m ih=>
  intro s X a hI hm hg he fB hk;obtain⟨fZ,ks,n,x,cZ,h',cF,tr,hx,jF⟩:=hr s hI;rw[rounds_succ];have hle:S.k<=cF:=hx.le;have g0:G T X (gO 0 (S.cK s)) S.k (eA cF):=hg.l8 (JN fZ.1 fZ.2.2) (aq _) (aK _) (fun _ h=>h)
  have e0:QB T X S.k (eA cF) (S.cM s) a.tmps:=fun t=>⟨(he t).1,fun r hh=>⟨.inl (by
   rcases ic (S.cM s) t with h|h
   ·rw[h]at hh;simp[D.refs]at hh
   ·exact fZ.2.1 _ h r hh),fun h=>h⟩⟩
  refine(wpIn_wide (n:=0)).1 ((IC K F n).1 none 0 g fn.ntmps b (.inr ⟨rfl,fn,body,hf,rfl,hb,hl⟩) nJ B hB X (gO 0 (S.cK s)) S.k (eA cF) (0,0) (S.cM s) x cZ h' cF tr a _ g0 e0 (aq _) fB hx ?_);intro a1 X1 g1 s1 e1 lF my mS
  -- wy wo zM are kept
  have key:∀(os:List (Obj C)) (eQ:Env C),Qj S.k eQ os->(∀j,j<S.k->h'.get j=os[j]?)->Sub cZ eQ ->
   ∃X2,X2.w=X1.w/\G T X2 (gO 0 os) S.k (eA S.k)/\Step X S.k (eA S.k) X2/\QB T X2 S.k (eA S.k) eQ a1.tmps/\VP X X2 a1.defers a.defers:=by
   intro os eQ ⟨q1,q2,q3⟩ iq kn
   obtain⟨X2,w2,g2,s2,hρ⟩:=G.drop K.base g1 (h':=gO 0 os) (fun id=>by
    rw[QE]
    by_cases dD:id<S.k
    ·exact .inl (iq id dD).symm
    ·exact .inr (bc (by omega)))
   have mh:∀id,¬id<S.k->X2.ρ id=none:=fun id dD=>by
    cases hq:X2.ρ id with
    |none=>rfl
    |some l=>
     have:=g2.jA id l hq;rw[QE,bc (by omega)]at this;cases this
   have s3:=s1.trans s2 hle;refine⟨X2,w2,g2.l8 (JN q1 q3) (aq _) (aK _) (fun _ h=>h),⟨s3.O,s3.os,s3.tape,s3.output,s3.size,fun id ho=>?_,s3.du,s3.cell,s3.block,s3.frz⟩,fun t=>?_,my.sub w2 s2.du⟩
   ·by_cases dD:id<S.k
    ·exact s3.ρ id ⟨.inl dD,fun h=>h⟩
    ·rw[mh id dD];cases X.ρ id<;>simp[Qp]
   ·rcases ic eQ t with h|h
    ·rw[h];exact RO.mk (RV.top _ _ _) rfl
    ·have oM:∀r∈(cR eQ t).refs,r<S.k:=q2 _ h;have h2:=kn _ h;simp only at h2;have h3:=(e1 t).1;rw[h2]at h3;exact⟨h3.mono T K.base.gX s2.keeps fun r hh=>s2.ρ r ⟨.inl (by have:=oM r hh;omega),fun h=>h⟩,fun r hh=>⟨.inl (oM r hh),fun h=>h⟩⟩
  rcases jF with⟨rfl,s',xh,hmu,c9,kT,kn,iq⟩|⟨rfl,s',f,xh,hmu,c9,kT,kn,tu,rf⟩|⟨fg,Du,kn,iq⟩
  ·obtain⟨mB,_,_⟩:=hr s' xh;obtain⟨X2,w2,g2,s2,e2,oG⟩:=key _ _ mB iq kn;rw[<-w2];refine ih s' X2 a1 xh (by omega) g2 e2 (by omega) fun a3 X3 g3 s3 e3 so yN S1=>?_;rw[c9]at e3 ⊢;rw[kT]at g3;exact hk a3 X3 g3 (s2.trans s3 (aq _)) e3 (by omega) (oG.trans s2 s3 yN) (mS.trans S1)
  ·obtain⟨mB,_,_⟩:=hr s' xh;have jG:(S.cK s').length=(S.cK s).length:=by rw[mB.1,fZ.1]
   have g2:=Part.Ru K.base g1 tu (S.cK s').length;have e2:QB T (X1.fP (S.cK s').length f) (S.cK s').length (eA (S.cK s').length) (S.cM s') a1.tmps:=QB.fP K.base e1 tu.inj kn (by rw[mB.1];exact mB.2.1);have s2:=Part.Hf (by rw[fZ.1];exact hg) g1 (by rw[fZ.1];exact s1) tu jG rf;rw[mB.1]at g2 e2;rw[fZ.1]at s2;refine ih s' (X1.fP S.k f) a1 xh (by omega) g2 e2 (by omega) fun a3 X3 g3 s3 e3 so yN S1=>?_;rw[c9]at e3 ⊢;rw[kT]at g3;exact hk a3 X3 g3 (s2.trans s3 (aq _)) e3 (by omega) ((my.sub (X2:=X1.fP S.k f) rfl (fun b o _ hm=>by obtain⟨j,q,_,hl,ho⟩:=Cx.je.1 hm;exact⟨f j,q,hl,ho⟩)).trans s2 s3 yN) (mS.trans S1)
  ·obtain⟨X2,w2,g2,s2,e2,oG⟩:=key _ _ ks iq kn;have qv:Q (u6 (S.fin s).1) a1 X2.w:=hk a1 X2 g2 s2 e2 lF oG mS;rw[w2,<-Du]at qv;cases x with
   |normal=>exact(fg rfl).elim
   |exit id=>exact qv
   |ret=>exact qv
theorem Qjk{X:Cx}{t:C.Ty}{l:List (C.A t)}{v:Value}(h:R T X false (.sl t true l) [v]):∃a,v=.slice a l.length l.length/\∃b lo,VJ T X t l.isEmpty l v b lo lo:=by
 have key:∀a:dw,∃b lo,VJ T X t true [] (.slice a 0 0) b lo lo:=by
  intro a
  by_cases hq:∃b off,a=some ⟨b,off,none⟩
  ·obtain⟨b,off,rfl⟩:=hq;exact⟨b,off,.inr ⟨off,0,rfl,aq _,by simp,.inl ⟨rfl,rfl,.inl rfl⟩⟩⟩
  ·exact⟨0,0,.inl ⟨⟨a,rfl,fun b off e=>hq ⟨b,off,e⟩⟩,rfl,aq _⟩⟩
 cases h with
 |kN _ _ a=>exact⟨a,rfl,key a⟩
 | @sl _ _ _ b off _ _ ha hr hc kz=>
  have:=kz rfl;subst this;cases l with
  |nil=>exact⟨_,rfl,key _⟩
  |cons x l=>exact⟨_,rfl,b,off+(x::l).length*T.size (T.dp t),.inr ⟨off,(x::l).length,rfl,aq _,rfl,.inr ⟨rfl,rfl,⟨_,ha,hr⟩,.inl rfl⟩⟩⟩
theorem VU(K:Zo P T){X:Cx}{h:Heap C}{nx t:Nat}{lim:ek}{env:Env C}{tmps:bY}{ty:C.Ty}{l:List (C.A ty)}(g:G T X h nx lim)(he:QB T X nx lim env tmps)(hn:nx<lim.top)(hs:cR env t=.sl ty true l) :
 ∃X',X'.w=X.w/\G T X' ((nx,.vec ty l.isEmpty l)::h) (nx+1) lim/\Step X nx lim X'/\QB T X' (nx+1) lim ((t,.vs nx l.length)::env) tmps:=by
 have h1:=(he t).1;rw[hs]at h1;have h2:=h1.one rfl;obtain⟨a,hv,b,lo,hV⟩:=Qjk h2;obtain⟨X',w',ρ',g',s'⟩:=G.qG K g hn (aq _) hV;refine⟨X',w',g',s',fun u=>?_⟩;rw[QG]
 by_cases hu:u=t
 ·subst hu;simp only[aU];refine⟨.inr ⟨rfl,?_⟩,by simpa[D.refs]using g.new hn⟩;rw[hv];refine .vs fun v e b' iP jl hq=>?_;rw[ρ']at hq;simp only[aD,Loc.vec.injEq]at hq;obtain⟨rfl,_⟩:=hq;rw[hv];exact⟨by simp[gJ],fun _=>rfl⟩
 ·simp only[hu,aL];exact(he u).step K.base s' (by omega)
def Y3(T:fh C):TypeId->bU->Bool
 |_,[]=>true
 |t,i::p=>match T.ty t with
  |.struct _ fs=>Nat.blt i fs.length&&Y3 T (fs.getD i 0) p
  |.arr n e _=>Nat.blt i n&&Y3 T e p
  |_=>false
theorem K7:∀(p:bU) (t:TypeId),Y3 T t p=true->Zq T t p:=by
 intro p
 induction p with
 |nil=>intro t _;trivial
 |cons i p ih=>
  intro t h;simp only[Y3]at h;simp only[Zq];cases ht:T.ty t<;>simp only[ht,ai,bu]at h ⊢
  ·exact⟨by simpa[Nat.blt_eq]using h.1,ih _ h.2⟩
  ·exact⟨by simpa[Nat.blt_eq]using h.1,ih _ h.2⟩
theorem HG(K:Zo P T){X:Cx}{h:Heap C}{nx id:Nat}{lim:ek}{env:Env C}{tmps:bY}{ty:C.Ty}{l:List (C.A ty)}{u t':TypeId}{d d':D C}{p:bU}(g:G T X h nx lim)(he:QB T X nx lim env tmps)(hn:nx<lim.top)
 (ho:h.get id=some (.var u d)) (hp:Y3 T u p=true) (hg:eT T d p=some (.sl ty true l)) (hs:Ev.setPath T d p (.vs nx l.length)=some d') (ht:gn T u p=some t') (hf:fit T (.vs nx l.length:D C) (.inl t')=true) :
 ∃X',X'.w=X.w/\G T X' (Heap.put id (.var u d') ((nx,.vec ty l.isEmpty l)::h)) (nx+1) lim/\Step X nx lim X'/\QB T X' (nx+1) lim env tmps:=by
 obtain⟨b0,c0,h1,h2,h3,h4⟩:=g.var id u d ho;obtain⟨c1,c2,c3,hc,hl,hr,_⟩:=h3.path K.base p (K7 p u hp) h4 hg;have fg:id≠nx:=fun e=>by have:=(g.eL id _ ho).1.1;omega
 have lm:∃v,c2=[v]:=by
  cases hr with
  |kN=>exact⟨_,rfl⟩
  |sl=>exact⟨_,rfl⟩
 obtain⟨v,rfl⟩:=lm;obtain⟨a,hv,b,lo,hV⟩:=Qjk hr;obtain⟨X',w',ρ',g',s'⟩:=G.qG K g hn (aq _) hV
 have nY:R T X' false (.vs nx l.length) [v]:=by
  rw[hv];refine .vs fun v e b' iP jl hq=>?_;rw[ρ']at hq;simp only[aD,Loc.vec.injEq]at hq;obtain⟨rfl,_⟩:=hq;rw[hv];exact⟨by simp[gJ],fun _=>rfl⟩
 have hrefs:∀r∈d.refs,ft nx lim r:=(g.eL id _ ho).2;have gz:Heap.get id ((nx,.vec ty l.isEmpty l)::h)=some (.var u d):=by rw[Qy];simp[fg,ho]
 obtain⟨b1,xb,e1,e2,e3,e4⟩:=g'.var id u d gz;refine⟨X',w',?_,s',fun t=>(he t).step K.base s' (by omega)⟩
 -- wy tP is seen Dz;dJ cells are as aax aay
 have kJ:(Heap.get id ((nx,.vec ty l.isEmpty l)::h)).isSome=true:=by rw[gz];rfl
 obtain⟨k1,k2,k3,q1,q2,q3,q4,q5⟩:=e3.setPath K.base p (K7 p u hp) e4 hs nY ht hf;obtain⟨m1,m2,m3,n1,n2,n3,_⟩:=e3.path K.base p (K7 p u hp) e4 hg
 have rT:m2.length=1:=by
  cases n3 with
  |kN=>rfl
  |sl=>rfl
 have qt:xb.toList=c0.toList:=by
  have hw:X'.w.heap[b1]? = X.w.heap[b0]? := by
   have:X'.ρ id=X.ρ id\/True:=.inr trivial;rw[w'];have hρ:Qp (X.ρ id) (X'.ρ id):=s'.ρ id (g.eL id _ ho).1;rw[h1,e1]at hρ;simp only[Qp,Loc.var.injEq]at hρ;rw[hρ.1]
  rw[e2,h2]at hw;simp only[aD,Obj.cells.injEq]at hw;rw[hw.1]
 have Gh:k1++[v]++k3=xb.toList:=by
  have a1:k1=c1:=by
   have:(k1++k2++k3).take (dL T u p)=(c1++[v]++c3).take (dL T u p):=by rw[<-q1,<-hc,qt]
   rw[ay,ay,List.take_append_of_le_length (by omega),List.take_append_of_le_length (by omega),List.take_of_length_le (by omega),List.take_of_length_le (by omega)]at this;exact this
  have a2:k2++k3=[v]++c3:=by
   have:k1++(k2++k3)=c1++([v]++c3):=by rw[<-ay,<-ay,<-q1,<-hc,qt]
   rw[a1]at this;exact List.append_cancel_left this
  have a3:k3=c3:=by
   simp only[List.length_singleton]at q3;obtain⟨y,rfl⟩:=List.length_eq_one_iff.1 q3;simp at a2;exact a2.2
  rw[a1,a3,qt,hc]
 rw[Gh]at q4;refine⟨?_,?_,?_,?_,?_,?_,g'.apart,g'.outer,g'.outs,g'.low,g'.pre⟩
 ·intro j t e hj;rw[Qv kJ]at hj
  by_cases mc:j=id
  ·simp only[mc,aU,aD,Ev.Obj.var.injEq]at hj;obtain⟨rfl,rfl⟩:=hj;exact⟨b1,xb,by rw[mc];exact e1,e2,q4,q5⟩
  ·simp only[mc,aL]at hj;exact g'.var j t e hj
 ·intro j t own l hj;rw[Qv kJ]at hj
  by_cases mc:j=id
  ·simp[mc]at hj
  ·simp only[mc,aL]at hj;exact g'.vec j t own l hj
 ·intro j ck cv l hj;rw[Qv kJ]at hj
  by_cases mc:j=id
  ·simp[mc]at hj
  ·simp only[mc,aL]at hj;exact g'.map j ck cv l hj
 ·intro j cc hj;rw[Qv kJ]at hj
  by_cases mc:j=id
  ·simp[mc]at hj
  ·simp only[mc,aL]at hj;exact g'.dG j cc hj
 ·intro j l hj;rw[Qv kJ]
  by_cases mc:j=id
  ·simp[mc]
  ·simp only[mc,aL];exact g'.jA j l hj
 ·intro j o hj;rw[Qv kJ]at hj
  by_cases mc:j=id
  ·simp only[mc,aU,aD]at hj;subst hj;refine⟨by rw[mc];exact(g'.eL id _ gz).1,fun r hr=>?_⟩;rcases lu K.base p hs r hr with h5|h5
   ·exact(hrefs r h5).mono (by omega)
   ·simp only[D.refs,bE]at h5;rw[h5];exact g.new hn
  ·simp only[mc,aL]at hj;exact g'.eL j o hj
inductive Fnd where
 |slot (t i:Nat)
 |path (j:Nat) (p:bU)
 |xD (t:Nat)
abbrev c7:=List Fnd
def sb{α:Type}(T:fh C):c7->Env C->bU->(Env C->bU->Pg C α)->Pg C α
 |[],env,ids,k=>k env ids
 |.slot t i::r,env,ids,k=>match cR env t with
  |.sl ty true []=>.nw (.vec ty true []) fun id=>sb T r ((t,.vs id 0)::env) (ids++[id]) k
  |.sl ty true (x::l)=>.nw (.vec ty false (x::l)) fun id=>sb T r ((t,.vs id (x::l).length)::env) (ids++[id]) k
  |d=>match d.refs[i]? with
   |some id=>sb T r env (ids++[id]) k
   |none=>.fail
 |.xD t::r,env,ids,k=>match cR env t with
  |.sl ty true l=>.nw (.vec ty l.isEmpty l) fun id=>sb T r ((t,.vs id l.length)::env) (ids++[id]) k
  |_=>.fail
 |.path j p::r,env,ids,k=>match ids[j]? with
  |none=>.fail
  |some tH=>.rd tH fun
   |.var u d=>match eT T d p with
    |some (.sl ty true [])=>match gn T u p with
     |some t'=>bif Y3 T u p&&fit T (.vs 0 0:D C) (.inl t')then .nw (.vec ty true []) fun id=>match Ev.setPath T d p (.vs id 0)with
      |some d'=>.wr tH (.var u d') (sb T r env (ids++[id]) k)
      |none=>.fail
      else .fail
     |none=>.fail
    |some (.sl ty true (x::l))=>match gn T u p with
     |some t'=>bif Y3 T u p&&fit T (.vs 0 0:D C) (.inl t')then .nw (.vec ty false (x::l)) fun id=>match Ev.setPath T d p (.vs id (x::l).length)with
      |some d'=>.wr tH (.var u d') (sb T r env (ids++[id]) k)
      |none=>.fail
      else .fail
     |none=>.fail
    |some x=>match x.refs with
     |id::_=>sb T r env (ids++[id]) k
     |[]=>.fail
    |none=>.fail
   |_=>.fail
theorem Oq(K:Zo P T){α:Type}{e:Pg.Lv}{a:α}{h':Heap C}{cF:Nat}{lim:ek}(dP:cF<=lim.top){k:Env C->bU->Pg C α}{tmps:bY}:∀(l:c7) (X:Cx) (h:Heap C) (nx:Nat) (tr:Tr) (env:Env C) (ids:bU),
 G T X h nx lim->QB T X nx lim env tmps->Ex e (sb T l env ids k) h nx a h' cF tr ->
 ∃X1 h1 pZ dS zm oW,X1.w=X.w/\G T X1 h1 pZ lim/\Step X nx lim X1/\nx<=pZ/\QB T X1 pZ lim dS tmps/\Ex e (k dS zm) h1 pZ a h' cF oW:=by
 intro l
 induction l with
 |nil=>intro X h nx tr env ids g he hx;exact⟨X,h,nx,env,ids,tr,rfl,g,.refl _ _ _,aq _,he,hx⟩
 |cons f l ih=>
  intro X h nx tr env ids g he hx;cases f with
  |slot t i=>
   simp only[sb]at hx
   split at hx
   ·rename_i ty hq;obtain⟨t',hx,_⟩:=Ex.nw hx;have hle:=hx.le;obtain⟨X1,w1,g1,s1,e1⟩:=VU K g he (by omega) hq;obtain⟨X2,h2,n2,fE,jS,mI,w2,g2,s2,na,e2,fN⟩:=ih X1 _ _ _ _ _ g1 e1 hx;exact⟨X2,h2,n2,fE,jS,mI,by rw[w2,w1],g2,s1.trans s2 (by omega),by omega,e2,fN⟩
   ·rename_i ty x l0 hq;obtain⟨t',hx,_⟩:=Ex.nw hx;have hle:=hx.le;obtain⟨X1,w1,g1,s1,e1⟩:=VU K g he (by omega) hq;obtain⟨X2,h2,n2,fE,jS,mI,w2,g2,s2,na,e2,fN⟩:=ih X1 _ _ _ _ _ g1 e1 hx;exact⟨X2,h2,n2,fE,jS,mI,by rw[w2,w1],g2,s1.trans s2 (by omega),by omega,e2,fN⟩
   ·split at hx
    ·exact ih X h nx tr env _ g he hx
    ·exact Ex.cB hx
  |xD t=>
   simp only[sb]at hx
   split at hx
   ·rename_i ty l0 hq;obtain⟨t',hx,_⟩:=Ex.nw hx;have hle:=hx.le;obtain⟨X1,w1,g1,s1,e1⟩:=VU K g he (by omega) hq;obtain⟨X2,h2,n2,fE,jS,mI,w2,g2,s2,na,e2,fN⟩:=ih X1 _ _ _ _ _ g1 e1 hx;exact⟨X2,h2,n2,fE,jS,mI,by rw[w2,w1],g2,s1.trans s2 (by omega),by omega,e2,fN⟩
   ·exact Ex.cB hx
  |path j p=>
   simp only[sb]at hx
   split at hx
   ·exact Ex.cB hx
   ·rename_i tH hj;obtain⟨o,t',ho,hx,_⟩:=Ex.rd hx;cases o with
    |vec _ _ _=>exact Ex.cB hx
    |map _ _ _=>exact Ex.cB hx
    |dG _=>exact Ex.cB hx
    |var u d=>
     simp only at hx
     split at hx
     ·rename_i ty hq
      split at hx
      ·rename_i t' ht;cases hb:Y3 T u p&&fit T (.vs 0 0:D C) (.inl t')with
       |false=>rw[hb]at hx;exact Ex.cB hx
       |true=>
        rw[hb]at hx;simp only[ag]at hx;simp only[ai]at hb;obtain⟨t1,hx,_⟩:=Ex.nw hx
        split at hx
        ·rename_i d' hs;obtain⟨o',t2,gz,hx,_⟩:=Ex.wr hx;have hle:=hx.le;obtain⟨X1,w1,g1,s1,e1⟩:=HG K g he (by omega) ho hb.1 hq hs ht (by simpa[fit]using hb.2);obtain⟨X2,h2,n2,fE,jS,mI,w2,g2,s2,na,e2,fN⟩:=ih X1 _ _ _ _ _ g1 e1 hx;exact⟨X2,h2,n2,fE,jS,mI,by rw[w2,w1],g2,s1.trans s2 (by omega),by omega,e2,fN⟩
        ·exact Ex.cB hx
      ·exact Ex.cB hx
     ·rename_i ty x l0 hq
      split at hx
      ·rename_i t' ht;cases hb:Y3 T u p&&fit T (.vs 0 0:D C) (.inl t')with
       |false=>rw[hb]at hx;exact Ex.cB hx
       |true=>
        rw[hb]at hx;simp only[ag]at hx;simp only[ai]at hb;obtain⟨t1,hx,_⟩:=Ex.nw hx
        split at hx
        ·rename_i d' hs;obtain⟨o',t2,gz,hx,_⟩:=Ex.wr hx;have hle:=hx.le;obtain⟨X1,w1,g1,s1,e1⟩:=HG K g he (by omega) ho hb.1 hq hs ht (by simpa[fit]using hb.2);obtain⟨X2,h2,n2,fE,jS,mI,w2,g2,s2,na,e2,fN⟩:=ih X1 _ _ _ _ _ g1 e1 hx;exact⟨X2,h2,n2,fE,jS,mI,by rw[w2,w1],g2,s1.trans s2 (by omega),by omega,e2,fN⟩
        ·exact Ex.cB hx
      ·exact Ex.cB hx
     ·split at hx
      ·exact ih X h nx _ env _ g he hx
      ·exact Ex.cB hx
     ·exact Ex.cB hx
def Hq{α:Type}:bU->(List (Obj C)->Pg C α)->Pg C α
 |[],k=>k []
 |id::r,k=>.rd id fun o=>Hq r fun os=>k (o::os)
theorem Ea{α:Type}{e:Pg.Lv}{a:α}{h h':Heap C}{nx cF:Nat}:∀(ids:bU) (k:List (Obj C)->Pg C α) (tr:Tr),Ex e (Hq ids k) h nx a h' cF tr->∃os oW,os.length=ids.length/\(∀(j id:Nat) (o:Obj C),ids[j]? = some id->os[j]? = some o->h.get id=some o)/\Ex e (k os) h nx a h' cF oW
 |[],k,tr,hx=>⟨[],tr,rfl,by simp,hx⟩
 |id::r,k,tr,hx=>by
  obtain⟨o,t',ho,hx,_⟩:=Ex.rd hx;obtain⟨os,oW,h1,h2,h3⟩:=Ea r _ _ hx;refine⟨o::os,oW,by simp[h1],fun j i o' hj gz=>?_,h3⟩;cases j with
  |zero=>simp at hj gz;rw[<-hj,<-gz];exact ho
  |succ j=>exact h2 j i o' (by simpa using hj) (by simpa using gz)
def CV{α:Type}:bU->List (Obj C)->Pg C α->Pg C α
 |[],[],k=>k
 |id::r,o::os,k=>.wr id o (CV r os k)
 |_,_,_=>.fail
theorem Eb{α:Type}{e:Pg.Lv}{a:α}{h':Heap C}{nx cF:Nat}{k:Pg C α}:∀(ids:bU) (os:List (Obj C)) (h:Heap C) (tr:Tr),ids.Nodup->Ex e (CV ids os k) h nx a h' cF tr ->
 ∃h1 oW,os.length=ids.length/\(∀(j id:Nat) (o:Obj C),ids[j]? = some id->os[j]? = some o->h1.get id=some o)/\(∀id,id∉ids->h1.get id=h.get id)/\Ex e k h1 nx a h' cF oW
 |[],[],h,tr,_,hx=>⟨h,tr,rfl,by simp,fun _ _=>rfl,hx⟩
 |id::r,o::os,h,tr,hn,hx=>by
  obtain⟨o',t',ho,hx,_⟩:=Ex.wr hx;have hs:(h.get id).isSome=true:=by rw[ho];rfl
  obtain⟨oJ,na⟩:=List.nodup_cons.1 hn;obtain⟨h1,oW,q1,q2,q3,q4⟩:=Eb r os _ _ na hx;refine⟨h1,oW,by simp[q1],fun j i p hj hp=>?_,fun i hi=>?_,q4⟩
  ·cases j with
   |zero=>
    simp at hj hp;subst hj;subst hp;rw[q3 _ oJ,Qv hs];simp
   |succ j=>exact q2 j i p (by simpa using hj) (by simpa using hp)
  ·simp only[aZ,not_or]at hi;rw[q3 i hi.2,Qv hs];simp[hi.1]
 |[],_::_,_,_,_,hx=>Ex.cB hx
 |_::_,[],_,_,_,hx=>Ex.cB hx
def idx:bU->Nat->Nat
 |[],_=>0
 |a::l,n=>bif Nat.beq a n then 0 else idx l n+1
theorem Kl:∀(l:bU) (n:Nat),n∈l->l[idx l n]? = some n
 |[],n,h=>by simp at h
 |a::l,n,h=>by
  rw[idx];cases hb:Nat.beq a n with
  |true=>simp[az hb]
  |false=>
   have fg:=Nat.ne_of_beq_eq_false hb;simp only[aZ]at h;rcases h with h|h
   ·exact absurd h.symm fg
   ·simpa using Kl l n h
def I9(n:Nat):bU->Bool
 |[]=>true
 |a::l=>!(Nat.beq a n)&&I9 n l
theorem WZ{n:Nat}:∀{l:bU},I9 n l=true->n∉l
 |[],_=>by simp
 |a::l,h=>by
  simp only[I9,ai,Bool.not_eq_true']at h;simp only[aZ,not_or];exact⟨fun e=>Nat.ne_of_beq_eq_false h.1 e.symm,WZ h.2⟩
def K8:bU->Bool
 |[]=>true
 |a::l=>I9 a l&&K8 l
theorem Y4:∀{l:bU},K8 l=true->l.Nodup
 |[],_=>List.nodup_nil
 |a::l,h=>by
  simp only[K8,ai]at h;exact List.nodup_cons.2 ⟨WZ h.1,Y4 h.2⟩
def pD(ids l:bU):Bool:=l.all fun r=>ids.any (Nat.beq r)
theorem Vl{ids l:bU}(h:pD ids l=true):∀r∈l,r∈ids:=by
 intro r hr;have:=aX.1 h r hr;obtain⟨x,hx,e⟩:=List.any_eq_true.1 this;rw[az e];exact hx
inductive RT(C:gR) where
 |fail
 |leaf (x:Ev.X) (env:Env C) (os:List (Obj C))
 |br (b:Bool) (l r:RT C)
def RT.val:RT C->Option ((Ev.X×Env C)×List (Obj C))
 |.fail=>none
 |.leaf x env os=>some ((x,env),os)
 |.br b l r=>bif b then l.val else r.val
def RT.pg(ids:bU):RT C->Pg C (Ev.X×Env C)
 |.fail=>.fail
 |.leaf x env os=>CV ids (os.map (Obj.eF fun j=>ids.getD j 0)) (.ret (x,nr (fun j=>ids.getD j 0) env))
 |.br b l r=>.br b (l.pg ids) (r.pg ids)
theorem RT.pJ{e:Pg.Lv}{a:Ev.X×Env C}{h h':Heap C}{nx cF:Nat}{ids:bU}:∀(t:RT C) (tr:Tr),Ex e (t.pg ids) h nx a h' cF tr->∃x env os,t.val=some ((x,env),os)/\Ex e (CV ids (os.map (Obj.eF fun j=>ids.getD j 0)) (.ret (x,nr (fun j=>ids.getD j 0) env))) h nx a h' cF tr
 |.fail,tr,hx=>Ex.cB hx
 |.leaf x env os,tr,hx=>⟨x,env,os,rfl,hx⟩
 |.br b l r,tr,hx=>by
  rcases Ex.br hx with⟨rfl,hx⟩|⟨rfl,hx⟩
  ·exact RT.pJ l tr hx
  ·exact RT.pJ r tr hx
def pM(T:fh C)(fs:c7)(dE:bU)(pe:Env C->List (Obj C)->RT C)(env:Env C):Pg C (Ev.X×Env C):=
 sb T fs env [] fun env ids=>bif K8 ids then Hq ids fun os=>
  bif pD ids (dE.flatMap fun t=>(cR env t).refs)&&pD ids (os.flatMap Obj.refs)then
   (pe (dE.map fun t=>(t,(cR env t).eF (idx ids))) (os.map (Obj.eF (idx ids)))).pg ids
  else .fail
 else .fail
theorem Obj.dZ(f g:Nat->Nat)(o:Obj C)(h:∀id∈o.refs,g (f id)=id):(o.eF f).eF g=o:=by
 cases o with
 |var t d=>simp only[Obj.eF];rw[D.dZ f g d h]
 |vec t own l=>rfl
 |map _ _ _=>rfl
 |dG _=>rfl
theorem QAx(K:Zo P T)(F:Qk P T Φ){g key:Nat}{fs:c7}{dE:bU}{pe:Env C->List (Obj C)->RT C}{σ:Type}{S:wY C σ}
 (hr:∀fn body b,Φ.fn g=some fn->fn.body=some body->b∈Zd body->QC b=key->PD T Φ g b S)
 (kl:∀eQ os x cZ eV,(pe eQ os).val=some ((x,cZ),eV)->∃q,S.Inv q/\(∀p∈S.cM q,p∈eQ)/\os=S.cK q/\S.fin q=(x,cZ)/\S.eZ q=eV):ID P T Φ g key (pM T fs dE pe):=by
 intro fn body b hf hb sQ ju B hB X h nx lim e env x cZ h' cF tr a Q gg he dP fB hx hk;obtain⟨f1,f2,f3⟩:=F.fn g fn hf;obtain⟨c1,c2⟩:=ZR body (f3 body hb) b sQ;have ng:=hr fn body b hf hb sQ ju;obtain⟨X1,h1,pZ,dS,ids,oW,w1,g1,s1,oJ,e1,lU⟩:=Oq K dP fs X h nx tr env [] gg he hx;cases ll:K8 ids with
 |false=>rw[ll]at lU;exact Ex.cB lU
 |true=>
 rw[ll]at lU;simp only[ag]at lU;have iO:=Y4 ll;obtain⟨os,mI,hlen,ri,fN⟩:=Ea ids _ _ lU;cases iB:pD ids (dE.flatMap fun t=>(cR dS t).refs)&&pD ids (os.flatMap Obj.refs)with
 |false=>rw[iB]at fN;exact Ex.cB fN
 |true=>
 rw[iB]at fN;simp only[ag]at fN;simp only[ai]at iB;have qx:=Vl iB.1;have pu:=Vl iB.2;obtain⟨xx,ee,eV,hq,zk⟩:=RT.pJ _ _ fN
 ··obtain⟨q,hI,kn,jX,c9,kT⟩:=kl _ _ _ _ _ hq;obtain⟨fZ,ks,_⟩:=ng q hI;obtain⟨h2,Tp,me,pC,tD,zl⟩:=Eb ids _ h1 _ iO zk;obtain⟨jB,eh,en,_⟩:=Ex.ret zl;obtain⟨rfl,rfl⟩:=Prod.mk.inj jB;subst eh;subst en
   let f:Nat->Nat:=fun j=>ids.getD j 0
   have oH:∀j,j<ids.length->ids[j]? = some (f j):=fun j hj=>by simp[f,hj]
   have tf:ids.length=S.k:=by rw[<-fZ.1,<-jX];simp[hlen]
   have re:∀r,r∈ids->f (idx ids r)=r:=fun r hr=>by
    have:=Kl ids r hr;simp only[f,ar,this,ba]
   have jb:(S.cK q).length=ids.length:=by rw[fZ.1,tf]
   have part:Part h1 (S.cK q) f:=by
    refine⟨fun j o ho=>?_,fun i j hi hj lf=>?_,fun o ho r hr=>by rw[fZ.1];exact fZ.2.2 o ho r hr⟩
    ·rw[<-jX,bB]at ho;cases kj:os[j]? with
     |none=>simp[kj]at ho
     |some o0=>
      simp only[kj,bC,aD]at ho;have hj:j<ids.length:=by rw[<-hlen];exact(av.1 kj).1
      rw[ri j (f j) o0 (oH j hj) kj,<-ho,Obj.dZ];intro id dD;exact re id (pu id (List.mem_flatMap.2 ⟨o0,List.mem_of_getElem? kj,dD⟩))
    ·rw[jb]at hi hj;have:=(List.getElem?_inj hi iO (j:=j)).1 (by rw[oH i hi,oH j hj];simp only[f]at lf ⊢;rw[lf]);exact this
   have g2:=Part.ctx K.base g1 part (S.cK q).length
   have e2:QB T (X1.part (S.cK q).length f) (S.cK q).length (eA (S.cK q).length) (S.cM q) a.tmps:=by
    refine QB.part K.base e1 part.inj (fun p hp=>?_) (fun p hp r hr=>by rw[fZ.1];exact fZ.2.1 p hp r hr);have:=kn p hp;simp only[List.mem_map]at this;obtain⟨t,ht,rfl⟩:=this;simp only;rw[D.dZ];intro id dD;exact re id (qx id (List.mem_flatMap.2 ⟨t,ht,dD⟩))
   rw[fZ.1]at g2 e2;rw[<-w1];show(Code.loop b).wp P Q a (X1.part S.k f).w;refine wp_loop_rounds (S.μ q+1) (XZ K F ng hf hb c1 c2 hB (S.μ q+1) q (X1.part S.k f) a hI (by omega) g2 e2 fB fun a' X' g' s' e' pA vJ v9=>?_);rw[kT]at g';rw[c9]at e';have jG:eV.length=(S.cK q).length:=by rw[<-kT,ks.1,fZ.1]
   have kU:∀o∈eV,∀r∈Obj.refs o,r<(S.cK q).length:=fun o ho r hr=>by rw[fZ.1];exact ks.2.2 o (by rw[kT];exact ho) r hr
   obtain⟨X2,w2,g3,s3,hρ,sd⟩:=Part.back K.base g1 part jG kU (X1:=X') (lim1:=eA S.k) (h':=h') (by rw[fZ.1];exact g') (by rw[fZ.1];exact s') (fun j o hj=>by
    have cU:j<ids.length:=by rw[<-jb,<-jG];exact(av.1 hj).1
    exact pC j (f j) _ (oH j cU) (by rw[bB,hj];rfl)) (fun id dD=>by
    refine tD id fun hm=>?_;obtain⟨j,hj,y3⟩:=List.getElem_of_mem hm;refine dD j (by rw[jb];exact hj) ?_;simp[f,hj,y3])
   have hold:∀j,j<S.k->ft cF lim (f j):=fun j hj=>by
    have mb:j<(S.cK q).length:=by rw[fZ.1];exact hj
    exact(g1.eL _ _ (part.mN j (S.cK q)[j] (by simp[mb]))).1
   have e3:=QB.back (nx:=cF) (lim:=lim) (f:=f) K.base e' (fun p hp r hr=>ks.2.1 p (by rw[c9];exact hp) r hr) (fun j hj=>hρ j (by rw[fZ.1];exact hj)) ⟨sd⟩ hold;have:=hk a' X2 g3 (s1.trans s3 oJ) e3 pA (vJ.zu g3 (by show X.w.heap.size<=X1.w.heap.size;rw[w1];exact aq _) w2) v9;rw[w2]at this;rw[c9];exact this
def ux:Nat->Nat->Heap C->List (Option (Obj C))
 |_,0,_=>[]
 |n,k+1,h=>h.get n::ux (n+1) k h
theorem YM:∀(k n:Nat) (h:Heap C) (os:List (Obj C)),ux n k h=os.map some->∀j,j<k->h.get (n+j)=os[j]?
 |0,_,_,_,_,j,hj=>by omega
 |k+1,n,h,[],e,j,hj=>by simp[ux]at e
 |k+1,n,h,o::os,e,j,hj=>by
  simp only[ux,List.map_cons,List.cons.injEq]at e;cases j with
  |zero=>simpa using e.1
  |succ j=>
   have:=YM k (n+1) h os e.2 j (by omega);rw[show n+(j+1)=n+1+j by omega,this];simp
def tL(T:fh C)(env:Env C)(h:Heap C):c7->bU->gu
 |[],ids=>some ids
 |.slot t i::r,ids=>match (cR env t).refs[i]? with
  |some id=>tL T env h r (ids++[id])
  |none=>none
 |.xD t::r,ids=>match (cR env t).refs[0]? with
  |some id=>tL T env h r (ids++[id])
  |none=>none
 |.path j p::r,ids=>match ids[j]? with
  |some tH=>match h.get tH with
   |some (.var _ d)=>match eT T d p with
    |some x=>match x.refs with
     |id::_=>tL T env h r (ids++[id])
     |[]=>none
    |none=>none
   |_=>none
  |none=>none
def PE:Nat->bU->Bool
 |_,[]=>true
 |n,i::l=>Nat.beq i n&&PE (n+1) l
def ym(h:Heap C)(g:Nat->Nat):bU->Option (List (Obj C))
 |[]=>some []
 |i::l=>match h.get i,ym h g l with
  |some o,some r=>some (o.eF g::r)
  |_,_=>none
def u3{α:Type}(k:Option α):Nat->bU->List (Obj C)->List (Obj C)->Option α
 |_,[],_,_=>k
 |n,i::l,o::os,o'::eV=>bif Nat.beq i n then u3 k (n+1) l os eV else(match o,o' with
  |.vec t _ x,.vec t' _ x'=>bif decide (t'=t)then(bif Nat.blt x.length x'.length then u3 k (n+1) l os eV else none)else none
  |_,_=>none)
 |_,_,_,_=>none
def settle(T:fh C)(fs:c7)(k:Nat)(kc:bU)(os:List (Obj C))(env:Env C)(h:Heap C):Option ((Ev.X×Env C)×List (Option (Obj C))):=
 match tL T env h fs []with
 |none=>some ((.normal,rn kc env),ux 0 k h)
 |some ids=>bif PE 0 ids then some ((.normal,rn kc env),ux 0 k h)else
  bif K8 ids&&Nat.beq ids.length k&&pD ids ((rn kc env).flatMap fun p=>p.2.refs)&&pD ids (ids.flatMap fun i=>match h.get i with|some o=>o.refs|none=>[])then(match ym h (idx ids) ids with
   |some eV=>u3 (some ((.normal,nr (idx ids) (rn kc env)),eV.map some)) 0 ids os eV
   |none=>none)else none
noncomputable def dQ(T:fh C)(Φ:iR C)(g key n k:Nat)(kc kf:bU)(fs:c7)(env:Env C)(os:List (Obj C)):Option ((Ev.X×Env C)×List (Option (Obj C))):=(jE T Φ n g (K5 Φ g key) env).run (0,0) (gO 0 os) k [] fun a h _ _=>match a.1 with
 |.normal=>settle T fs k kc os a.2 h
 |x=>some ((x,rn kf a.2),ux 0 k h)
theorem X5{α:Type}{k:Option α}{a:α}:∀(l:bU) (n:Nat) (os eV:List (Obj C)),u3 k n l os eV=some a->k=some a/\∀j,j<l.length->l.getD j 0=n+j\/∃t own x gm x',os[j]? = some (.vec t own x)/\eV[j]? = some (.vec t gm x')/\x.length<x'.length
 |[],n,os,eV,h=>⟨by simpa[u3]using h,fun j hj=>by simp at hj⟩
 |i::l,n,[],_,h=>by simp[u3]at h
 |i::l,n,o::os,[],h=>by simp[u3]at h
 |i::l,n,o::os,o'::eV,h=>by
  simp only[u3]at h
  have step:u3 k (n+1) l os eV=some a->(i=n\/∃t own x gm x',o=.vec t own x/\o'=.vec t gm x'/\x.length<x'.length)->k=some a/\∀j,j<(i::l).length->(i::l).getD j 0=n+j\/∃t own x gm x',(o::os)[j]? = some (.vec t own x)/\(o'::eV)[j]? = some (.vec t gm x')/\x.length<x'.length:=by
   intro h1 h2;obtain⟨h3,h4⟩:=X5 l (n+1) os eV h1;refine⟨h3,fun j hj=>?_⟩;cases j with
   |zero=>simpa using h2
   |succ j=>
    have:=h4 j (by simpa using hj);simp only[List.getD_cons_succ,List.getElem?_cons_succ];rcases this with h5|h5
    ·left;omega
    ·exact .inr h5
  cases hb:Nat.beq i n with
  |true=>rw[hb]at h;exact step h (.inl (az hb))
  |false=>
   rw[hb]at h;simp only[ah]at h;cases o with
   |var t d=>simp at h
   |map _ _ _=>simp at h
   |dG _=>simp at h
   |vec t own x=>
    cases o' with
    |var t d=>simp at h
    |map _ _ _=>simp at h
    |dG _=>simp at h
    |vec t' gm x'=>
     simp only at h;cases ht:decide (t'=t)with
     |false=>rw[ht]at h;cases h
     |true=>
      rw[ht]at h;have ht:t'=t:=by simpa using ht
      subst ht;cases hl:Nat.blt x.length x'.length with
      |false=>rw[hl]at h;cases h
      |true=>
       rw[hl]at h;exact step h (.inr ⟨t',own,x,gm,x',rfl,rfl,by simpa[Nat.blt_eq]using hl⟩)
theorem X8{h:Heap C}{g:Nat->Nat}:∀(l:bU) (os:List (Obj C)),ym h g l=some os->os.length=l.length/\∀(j i:Nat),l[j]? = some i->∃o,h.get i=some o/\os[j]? = some (o.eF g)
 |[],os,e=>by simp[ym]at e;subst e;simp
 |i::l,os,e=>by
  simp only[ym]at e;cases h1:h.get i with
  |none=>simp[h1]at e
  |some o=>
   cases h2:ym h g l with
   |none=>simp[h1,h2]at e
   |some r=>
    simp only[h1,h2,aD]at e;subst e;obtain⟨a1,a2⟩:=X8 l r h2;refine⟨by simp[a1],fun j i' hj=>?_⟩;cases j with
    |zero=>simp at hj;subst hj;exact⟨o,h1,rfl⟩
    |succ j=>exact a2 j i' (by simpa using hj)
def DD{σ:Type}(S:wY C σ)(s:σ)(r:(Ev.X×Env C)×List (Option (Obj C))):Prop :=
 (r.1.1=.normal/\∃s',S.Inv s'/\S.μ s'<S.μ s/\S.fin s'=S.fin s/\S.eZ s'=S.eZ s/\r.1.2=S.cM s'/\r.2=(S.cK s').map some)\/(r.1.1 ≠ .normal/\r.1=S.fin s/\r.2=(S.eZ s).map some)
theorem QEQ:∀(l:bU) (env:Env C) (p:Nat×D C),p∈rn l env->cR env p.1=p.2:=fun l env p hp=>K6 l env p hp
theorem mr{fs:c7}{k:Nat}{kc:bU}{os:List (Obj C)}{env:Env C}{h:Heap C}{r:(Ev.X×Env C)×List (Option (Obj C))}(hr:settle T fs k kc os env h=some r)(ri:os.length=k) :
 (r=((.normal,rn kc env),ux 0 k h))\/∃eQ eV,r=((.normal,eQ),eV.map some)/\∃f,(∀p∈eQ,cR env p.1=p.2.eF f)/\(eV.length=k/\(∀j o,eV[j]? = some o->h.get (f j)=some (o.eF f))/\(∀i j,i<eV.length->j<eV.length->f i=f j->i=j))/\xN os eV f:=by
 unfold settle at hr;cases hm:tL T env h fs []with
 |none=>rw[hm]at hr;simp only[aD]at hr;exact .inl hr.symm
 |some ids=>
  rw[hm]at hr;simp only at hr;cases hb:PE 0 ids with
  |true=>rw[hb]at hr;simp only[ag,aD]at hr;exact .inl hr.symm
  |false=>
   rw[hb]at hr;simp only[ah]at hr;cases hc:K8 ids&&Nat.beq ids.length k&&pD ids ((rn kc env).flatMap fun p=>p.2.refs)&&pD ids (ids.flatMap fun i=>match h.get i with|some o=>o.refs|none=>[])with
   |false=>rw[hc]at hr;cases hr
   |true=>
    rw[hc]at hr;simp only[ag]at hr;simp only[ai]at hc;obtain⟨⟨⟨c1,c2⟩,c3⟩,c4⟩:=hc;have c1:=Y4 c1;have c2:=az c2;have c3:=Vl c3;have c4:=Vl c4;cases ho:ym h (idx ids) ids with
    |none=>rw[ho]at hr;cases hr
    |some eV=>
     rw[ho]at hr;simp only at hr;obtain⟨q1,q2⟩:=X5 _ _ _ _ hr;simp only[aD]at q1;obtain⟨o1,o2⟩:=X8 _ _ ho
     have re:∀x,x∈ids->ids.getD (idx ids x) 0=x:=fun x hx=>by
      have:=Kl ids x hx;simp only[ar,this,ba]
     refine .inr ⟨_,eV,q1.symm,fun j=>ids.getD j 0,fun p hp=>?_,⟨by rw[o1,c2],fun j o hj=>?_,fun i j hi hj lf=>?_⟩,fun j hj=>?_⟩
     ·simp only[nr,List.mem_map]at hp;obtain⟨p0,hp0,rfl⟩:=hp;simp only;rw[QEQ kc env p0 hp0,D.dZ];intro id dD;exact re id (c3 id (List.mem_flatMap.2 ⟨p0,hp0,dD⟩))
     ·have hjl:j<ids.length:=by rw[<-o1];exact(av.1 hj).1
      obtain⟨o0,a1,a2⟩:=o2 j (ids.getD j 0) (by simp[hjl]);rw[hj]at a2;simp only[aD]at a2;rw[a1,a2,Obj.dZ];intro id dD;exact re id (c4 id (List.mem_flatMap.2 ⟨ids.getD j 0,by rw[ar];simp[hjl],by rw[a1];exact dD⟩))
     ·rw[o1]at hi hj
      exact(List.getElem?_inj hi c1 (j:=j)).1 (by
       simp only[ar]at lf;simp only[hi,hj,aY,ba]at lf ⊢;rw[lf])
     ·have:=q2 j (by rw[c2,<-ri];exact hj)
      simpa using this
theorem Qk.qk(K:Zo P T)(F:Qk P T Φ){g key:Nat}(lj:u0 (Kk Φ g)=true){σ:Type}(S:wY C σ)(n:Nat)(kc kf:bU)(RL fs:c7)(dE:bU)(pe:Env C->List (Obj C)->RT C)
 (hr:∀q,S.Inv q->Qj S.k (S.cM q) (S.cK q)/\Qj S.k (S.fin q).2 (S.eZ q)/\c8 (dQ T Φ g key n S.k kc kf RL (S.cM q) (S.cK q)) (DD S q))
 (kl:∀eQ os x cZ eV,(pe eQ os).val=some ((x,cZ),eV)->∃q,S.Inv q/\(∀p∈S.cM q,p∈eQ)/\os=S.cK q/\S.fin q=(x,cZ)/\S.eZ q=eV):Qk P T (Φ.cJ g key (pM T fs dE pe)):=by
 refine F.cJ (QAx K F (S:=S) (fun fn body b hf hb hm ju q hI=>?_) kl);obtain⟨h1,h2,r,h3,h4⟩:=hr q hI;rw[dQ,NO lj hf hb hm ju]at h3;obtain⟨⟨x,cZ⟩,h',cF,tr,h5,h6⟩:=Pg.fw h3;refine⟨h1,h2,n,x,cZ,h',cF,tr,h5,?_⟩;cases x with
 |normal=>
  simp only at h6;rcases mr h6 h1.1 with hs|⟨eQ,eV,hs,f,f1,⟨f2,f3,f4⟩,f5⟩
  ·subst hs;rcases h4 with⟨h4,s',a1,a2,a3,yr,a4,a5⟩|⟨h4,h7,h8⟩
   ·have hg:=YM S.k 0 h' _ a5;simp only[aN]at hg;exact .inl ⟨rfl,s',a1,a2,a3,yr,by rw[<-a4];exact K6 _ _,hg⟩
   ·exact(h4 rfl).elim
  ·subst hs;rcases h4 with⟨h4,s',a1,a2,a3,yr,a4,a5⟩|⟨h4,h7,h8⟩
   ·simp only at a4 a5;have a5:eV=S.cK s':=List.map_inj_right (fun _ _ h=>aj h) |>.1 a5;subst a4;subst a5;obtain⟨b1,_⟩:=hr s' a1;exact .inr (.inl ⟨rfl,s',f,a1,a2,a3,yr,f1,⟨f3,f4,by rw[b1.1];exact b1.2.2⟩,f5⟩)
   ·exact(h4 rfl).elim
 |exit id=>
  simp only[aD]at h6;subst h6;rcases h4 with⟨h4,_⟩|⟨h4,h7,h8⟩
  ·cases h4
  ·have hg:=YM S.k 0 h' _ h8;simp only[aN]at hg;exact .inr (.inr ⟨by simp,by rw[<-h7],by rw[<-h7];exact K6 _ _,hg⟩)
 |ret=>
  simp only[aD]at h6;subst h6;rcases h4 with⟨h4,_⟩|⟨h4,h7,h8⟩
  ·cases h4
  ·have hg:=YM S.k 0 h' _ h8;simp only[aN]at hg;exact .inr (.inr ⟨by simp,by rw[<-h7],by rw[<-h7];exact K6 _ _,hg⟩)
end
section
variable {C:gR}{P:Program}{T:fh C}{Φ:iR C}
open Pg (Ex)
structure QD(C:gR)(σ:Type) where
 (k:Nat)(cM:σ->Env C)(cK:σ->List (Obj C))(fin:σ->RT C)(Inv:σ->Prop)(μ:σ->Nat)
def dj{σ:Type}(S:QD C σ)(s:σ)(r:(Ev.X×Env C)×List (Option (Obj C))):Prop :=
 (r.1.1=.normal/\∃s',S.Inv s'/\S.μ s'<S.μ s/\(S.fin s').val=(S.fin s).val/\r.1.2=S.cM s'/\r.2=(S.cK s').map some)\/(r.1.1 ≠ .normal/\∃os,(S.fin s).val=some (r.1,os)/\r.2=os.map some)
def RT.cT(k:Nat):RT C->Prop
 |.fail=>False
 |.leaf _ env os=>Qj k env os
 |.br _ l r=>l.cT k/\r.cT k
theorem RT.iD{k:Nat}:∀{t:RT C},t.cT k->∃x env os,t.val=some ((x,env),os)/\Qj k env os
 |.leaf x env os,h=>⟨x,env,os,rfl,h⟩
 |.br b l r,h=>by
  cases b with
  |true=>exact RT.iD (t:=l) h.1
  |false=>exact RT.iD (t:=r) h.2
def QD.toO{σ:Type}(S:QD C σ):wY C σ where
 k:=S.k
 cM:=S.cM
 cK:=S.cK
 fin q:=match (S.fin q).val with
  |some r=>r.1
  |none=>(.ret,[])
 eZ q:=match (S.fin q).val with
  |some r=>r.2
  |none=>[]
 Inv:=S.Inv
 μ:=S.μ
def sa{σ:Type}(S:QD C σ)(d:Env C->List (Obj C)->Option (Bool×σ))(env:Env C)(os:List (Obj C)):RT C:=match d env os with
 |some (b,q)=>.br b (S.fin q) .fail
 |none=>.fail
def ey(T:fh C)(fs:c7)(dE:bU){σ:Type}(S:QD C σ)(d:Env C->List (Obj C)->Option (Bool×σ)):Env C->Pg C (Ev.X×Env C):=pM T fs dE (sa S d)
theorem Qk.cq(K:Zo P T)(F:Qk P T Φ){g key:Nat}(lj:u0 (Kk Φ g)=true){σ:Type}(S:QD C σ)(n:Nat)(kc kf:bU)(fs:c7)(dE:bU)(d:Env C->List (Obj C)->Option (Bool×σ))
 (hr:∀q,S.Inv q->Qj S.k (S.cM q) (S.cK q)/\(S.fin q).cT S.k/\c8 (dQ T Φ g key n S.k kc kf fs (S.cM q) (S.cK q)) (dj S q))
 (hd:∀env os b q,d env os=some (b,q)->b=true->S.Inv q/\S.cM q=env/\S.cK q=os):Qk P T (Φ.cJ g key (ey T fs dE S d)):=by
 refine F.qk K lj S.toO n kc kf fs fs dE (sa S d) (fun q hI=>?_) ?_
 ·obtain⟨h1,h2,r,h3,h4⟩:=hr q hI;obtain⟨x,env,os,hv,ig⟩:=RT.iD h2;refine⟨h1,by simp only[QD.toO,hv];exact ig,r,h3,?_⟩;rcases h4 with⟨a1,s',a2,a3,a4,a5,a6⟩|⟨a1,eV,a2,a3⟩
  ·exact .inl ⟨a1,s',a2,a3,by simp only[QD.toO,a4],by simp only[QD.toO,a4],a5,a6⟩
  ·exact .inr ⟨a1,by simp only[QD.toO,a2],by simp only[QD.toO,a2];exact a3⟩
 ·intro eQ os x cZ eV h;unfold sa at h
  split at h
  ·rename_i b q hq;cases b with
   |false=>simp[RT.val]at h
   |true=>
    obtain⟨h1,h2,h3⟩:=hd _ _ _ _ hq rfl;simp only[RT.val,ag]at h;exact⟨q,h1,fun p hp=>by rw[<-h2];exact hp,h3.symm,by simp only[QD.toO,h],by simp only[QD.toO,h]⟩
  ·simp[RT.val]at h
def Qt{α:Type}(b:Bool)(x:α):Option α:=bif b then some x else none
theorem Qc{α:Type}{b:Bool}{x y:α}(h:Qt b x=some y):b=true/\x=y:=by
 cases b with
 |false=>cases h
 |true=>exact⟨rfl,aj h⟩
theorem Qi{σ:Type}{S:QD C σ}{s:σ}{env:Env C}{os:List (Option (Obj C))}(s':σ)(h1:S.Inv s')(h2:S.μ s'<S.μ s)(h3:(S.fin s').val=(S.fin s).val)(h4:env=S.cM s')(h5:os=(S.cK s').map some):c8 (some ((Ev.X.normal,env),os)) (dj S s):=
 HP.2 (.inl ⟨rfl,s',h1,h2,h3,h4,h5⟩)
theorem Qh{σ:Type}{S:QD C σ}{s:σ}{i:Nat}{env:Env C}{os:List (Option (Obj C))}(eV:List (Obj C))(h1:(S.fin s).val=some ((.exit i,env),eV))(h2:os=eV.map some):c8 (some ((Ev.X.exit i,env),os)) (dj S s):=
 HP.2 (.inr ⟨by simp,eV,h1,h2⟩)
theorem QW{σ:Type}{S:QD C σ}{s:σ}{env:Env C}{os:List (Option (Obj C))}(eV:List (Obj C))(h1:(S.fin s).val=some ((.ret,env),eV))(h2:os=eV.map some):c8 (some ((Ev.X.ret,env),os)) (dj S s):=
 HP.2 (.inr ⟨by simp,eV,h1,h2⟩)
end
theorem CW{a b:Int}(h:a=b):(a==b)=true:=by simp[h]
theorem CX{a b:Int}(h:¬a=b):(a==b)=false:=by simp[h]
theorem Mh{a b:Int}(h:¬a=b):(a !=b)=true:=by simp[h]
theorem u4{a b:Int}(h:a=b):(a !=b)=false:=by simp[h]
theorem Zp{a b:Nat}(h:a=b):Nat.beq a b=true:=by simp[h]
theorem Zt{n b:Nat}(h:n*b<=1099511627776):Qg n b=true:=by simp[Qg,h]
theorem sA{n:Int}(h:-9223372036854775808<=n/\n<=9223372036854775807):IntKind.i64.wrap n=n:=cC h.1 h.2
def QI(n:Int):UInt8:=UInt8.ofNat (IntKind.u8.wrap n).toNat
def fC(n:Int):Nat->bL
 |0=>[]
 |w+1=>QI n::fC (n.fdiv 256) w
def cI:bL->Nat
 |[]=>0
 |x::l=>x.toNat+256*cI l
def QL(n:Int)(w:Nat):Bool:=decide (0<=n)&&decide (n<256^w)
def dy(b:bL)(n:Int)(w:Nat):bL:=bif QL n w then b++fC n w else[]
theorem Qs:∀(w:Nat) (n:Int),(fC n w).length=w
 |0,_=>rfl
 |w+1,n=>by simp[fC,Qs w]
theorem EI(n:Int):IntKind.u8.wrap n=n%256:=by
 simp[IntKind.wrap,IntKind.bits,IntKind.signed]
theorem Nu n:((QI n).toNat:Int)=n%256:=by
 rw[QI,EI,UInt8.toNat_ofNat',Nat.mod_eq_of_lt (by omega)];omega
theorem Ot:∀l:bL,cI l<256^l.length
 |[]=>by simp[cI]
 |x::l=>by
  have h1:=Ot l;have h2:=x.toNat_lt;have h3:256^(x::l).length=256*256^l.length:=by simp[Nat.pow_succ,Nat.mul_comm]
  rw[h3,cI];omega
theorem WK:∀(l m:bL),cI (l++m)=cI l+256^l.length*cI m
 |[],m=>by simp[cI]
 |x::l,m=>by
  simp only[aP,cI,WK l m,aE,Nat.pow_succ];rw[Nat.mul_add,<-Nat.mul_assoc,Nat.mul_comm 256 (256^l.length),Nat.add_assoc]
theorem W0{n:Int}(h:0<=n):0<=n.fdiv 256/\n.fdiv 256=n/256:=by
 have:n.fdiv 256=n/256:=aQ n (by omega);rw[this];omega
theorem K9:∀(w:Nat) (n:Int),0<=n->n<256^w->(cI (fC n w):Int)=n
 |0,n,h0,h1=>by simp at h1;simp[fC,cI];omega
 |w+1,n,h0,h1=>by
  obtain⟨h2,h3⟩:=W0 h0
  have h4:n.fdiv 256<256^w:=by
   rw[h3];rw[Int.pow_succ]at h1;omega
  have:=K9 w _ h2 h4;simp only[fC,cI,Int.natCast_add,Nu];rw[Int.natCast_mul,this,h3];omega
theorem NP:∀(l:bL),fC (cI l) l.length=l
 |[]=>rfl
 |x::l=>by
  simp only[aE,fC,cI];have h:=x.toNat_lt
  have h0:((x.toNat+256*cI l:Nat):Int).fdiv 256=cI l:=by
   rw[aQ _ (by omega)];omega
  have h1:QI ((x.toNat+256*cI l:Nat):Int)=x:=by
   apply UInt8.toNat_inj.1;have:=Nu ((x.toNat+256*cI l:Nat):Int);omega
  rw[h0,h1,NP l]
theorem Yn{n:Int}{w:Nat}:QL n w=true↔0<=n/\n<256^w:=by simp[QL]
theorem _root_.Int.gM{n m:Int}(h0:0<=n)(hp:0<m):n/m=0↔n<m:=by
 constructor
 ·intro h;have:=Int.lt_ediv_add_one_mul_self n hp;rw[h]at this;omega
 ·intro h;exact Int.ediv_eq_zero_of_lt h0 h
theorem QhK(n i:Nat)(c:UInt8)(hn:n<256^i)(hi:i<7) :
 bits .i64 (fun _ u v=>u|||v) (n:Int) (IntKind.i64.wrap ((c.toNat:Int)*2^min (IntKind.i64.wrap (8*(i:Int))).toNat IntKind.i64.bits))=((n+c.toNat*256^i:Nat):Int):=by
 have hc:=c.toNat_lt;have hw:IntKind.i64.wrap (8*(i:Int))=((8*i:Nat):Int):=by rw[cC (by omega) (by omega)];simp
 have hm:min (8*i) 64=8*i:=by omega
 have hp:(2:Nat)^(8*i)=256^i:=by rw[Nat.pow_mul]
 have hb:256^i<=256^6:=Nat.pow_le_pow_right (by omega) (by omega);have iW:(256:Nat)^6=281474976710656:=by decide
 have hmul:c.toNat*256^i<=255*281474976710656:=Nat.mul_le_mul (by omega) (by omega)
 have e1:((c.toNat:Int)*2^min (IntKind.i64.wrap (8*(i:Int))).toNat IntKind.i64.bits)=((c.toNat*256^i:Nat):Int):=by
  rw[hw];simp only[bw,IntKind.bits,hm];rw[<-hp];simp
 rw[e1,cC (by omega) (by omega)];unfold bits
 have h1:∀x:Nat,x<2^64->(BitVec.ofInt IntKind.i64.bits (x:Int)).toNat=x:=by
  intro x hx;rw[BitVec.toNat_ofInt];simp only[IntKind.bits];omega
 rw[BitVec.toNat_or,h1 n (by omega),h1 _ (by omega)]
 have h2:n|||c.toNat*256^i=n+c.toNat*256^i:=by
  rw[<-hp]at hn ⊢;rw[Nat.or_comm,Nat.mul_comm,<-Nat.two_pow_add_eq_or_of_lt hn,Nat.add_comm]
 rw[h2,cC (by omega) (by omega)]
theorem QHv(c:UInt8):IntKind.i64.wrap (c.toNat:Int)=(c.toNat:Int):=by
 have:=c.toNat_lt;exact cC (by omega) (by omega)
theorem Qf2(n i:Nat)(c:UInt8)(hn:n<256^i)(hi:i<7) :
 bits .i64 (fun _ u v=>u|||v) (n:Int) (IntKind.i64.wrap (IntKind.i64.wrap (c.toNat:Int)*2^min (IntKind.i64.wrap (8*(i:Int))).toNat 64))=((n+c.toNat*256^i:Nat):Int):=by
 rw[QHv];exact QhK n i c hn hi
def dT(b:bL)(mN w:Int):Int×Int :=
 bif decide (1<=w)&&decide (w<=6)then
  (bif decide (0<=mN)&&decide (mN+w<=b.length)then((cI ((b.drop mN.toNat).take w.toNat):Int),0)else(0,50))
 else(0,2)
def Qm(n a b:Int):Bool:=decide (a<=n)&&decide (n<=b)
theorem Qf{x a b:Int}:Qm x a b=true↔a<=x/\x<=b:=by simp[Qm]
def QN{α:Type}(one:α->Bool)(two:α->α->Bool)(l:List α)(i:Nat):Bool:=pO one two (Ff l i) (l.drop i)
theorem Yz{α:Type}(one:α->Bool)(two:α->α->Bool)(l:List α)(i:Nat)(d:α)(cU:i<l.length) :
 QN one two l i=(one (l.getD i d)&&(decide (i=0)||two (l.getD (i-1) d) (l.getD i d))&&QN one two l (i+1)):=by
 unfold QN;rw[aJ cU];have hi:l.getD i d=l[i]:=by simp[ar,cU]
 have hn:Ff l (i+1)=some l[i]:=by simp[Ff,cU]
 rw[hi,hn];simp only[pO];cases i with
 |zero=>simp[Ff]
 |succ j=>
  have:j<l.length:=by omega
  simp[Ff,this]
theorem HH{α:Type}(one:α->Bool)(two:α->α->Bool)(l:List α)(i:Nat)(h:l.length<=i):QN one two l i=true:=by simp[QN,aO h,pO]
def Vu(w:Qo):Bool:=Qm w.key 0 23&&Qm w.value 0 255
def JO(x y:Qo):Bool:=decide (x.key<y.key)
def ZV(l:ca):Bool:=decide (l.length<=4)&&QN Vu JO l 0
def VQ(x y:Item):Bool:=decide (x.key<y.key)
def Y5(p:Int)(x:Item):Bool:=Qm x.key 0 23&&Qm x.place 1 p&&Qm x.value 0 255
def YA(x y:cg):Bool:=(y.offset==IntKind.i64.wrap (x.offset+1))&&(decide (x.place<y.place)||(x.place==y.place&&decide (x.j<y.j)))
def YN(p:Int)(x:cg):Bool:=Qm x.offset 0 4194303&&Qm x.place 1 p&&Qm x.j 0 3&&Qm x.key 0 7&&Qm x.value 0 255
def dW(r:Rec):Bool:=Qm r.place 1 1048575&&ZV r.writes&&(r.yes||r.writes.isEmpty)
def ZW(p c:Int)(l:bJ):Bool:=Qm c 0 p&&decide (l.length<=16)&&(l.isEmpty||decide (c<(l.getD 0 ⟨0,0,0,0,0⟩).place))&&QN (YN p) YA l 0
def Qu(s:St):Bool:=Qm s.place 0 1048575&&QN (Y5 s.place) VQ s.items 0&&ZW s.place s.c0 s.l0&&ZW s.place s.c1 s.l1&&ZW s.place s.c2 s.l2
def sN(w:Qo):Bool:=Qm w.key 0 255&&Qm w.value 0 255
def lO(x:Item):Bool:=Qm x.key 0 255&&Qm x.place 0 16777215&&Qm x.value 0 255
def Y6(x:cg):Bool:=Qm x.place 0 16777215&&Qm x.key 0 7&&Qm x.j 0 15&&Qm x.value 0 255
def Js(w:Qo):bL:=[QI w.key,QI w.value]
def Yo(x:Item):bL:=fC x.key 1++fC x.place 3++fC x.value 1
def Zz(x:cg):bL:=fC x.place 3++fC (x.key*16+x.j) 1++fC x.value 1
def VL(r:Rec):bL:=fC r.place 3++fC (bif r.yes then 1 else 0) 1++fC r.writes.length 1++r.writes.flatMap Js
def QA(l:bJ):Int:=(l.getD 0 ⟨0,0,0,0,0⟩).offset
def Qx(c:Int)(l:bJ):bL:=fC c 3++fC l.length 1++fC (QA l) 3++l.flatMap Zz
def YB(s:St):bL:=fC s.place 3++fC s.items.length 1++s.items.flatMap Yo++Qx s.c0 s.l0++Qx s.c1 s.l1++Qx s.c2 s.l2
theorem QZ{b:bL}{n:Int}{w:Nat}(h:QL n w=true):dy b n w=b++fC n w:=by simp[dy,h]
theorem KS{n:Int}(h:Qm n 0 255=true):QL n 1=true:=by
 rw[Qf]at h;rw[Yn];omega
theorem Vv{n:Int}(h:Qm n 0 16777215=true):QL n 3=true:=by
 rw[Qf]at h;rw[Yn];omega
theorem QlN{k j:Int}(hk:Qm k 0 7=true)(hj:Qm j 0 15=true) :
 bits .i64 (fun _ u v=>u|||v) (IntKind.i64.wrap (k*2^min (Int.toNat 4) 64)) j=k*16+j:=by
 rw[Qf]at hk hj;obtain⟨k,rfl⟩:∃n:Nat,k=n:=⟨k.toNat,by omega⟩;obtain⟨j,rfl⟩:∃n:Nat,j=n:=⟨j.toNat,by omega⟩;have e:(k:Int)*2^min (Int.toNat 4) 64=((k*16:Nat):Int):=by simp
 rw[e,cC (by omega) (by omega)];unfold bits
 have h1:∀x:Nat,x<2^64->(BitVec.ofInt IntKind.i64.bits (x:Int)).toNat=x:=by
  intro x hx;rw[BitVec.toNat_ofInt];simp only[IntKind.bits];omega
 rw[BitVec.toNat_or,h1 _ (by omega),h1 _ (by omega)]
 have h2:k*16|||j=k*16+j:=by
  rw[Nat.mul_comm k 16,show(16:Nat)=2^4 from rfl,<-Nat.two_pow_add_eq_or_of_lt (by omega)]
 rw[h2,cC (by omega) (by omega)];simp
theorem ZE{α β:Type}(l:List α)(i:Nat)(f:α->List β)(h:i<l.length)(d:α):(l.drop i).flatMap f=f (l.getD i d)++(l.drop (i+1)).flatMap f:=by
 rw[aJ h,List.flatMap_cons];simp[h]
theorem Io{α:Type}{l:List α}{p:α->Bool}(h:l.all p=true){i:Nat}(hi:i<l.length)(d:α):p (l.getD i d)=true:=by
 have:l.getD i d=l[i]:=by simp[hi]
 rw[this];exact aX.1 h _ (bA hi)
theorem Qgn w:(Js w).length=2:=rfl
theorem HI x:(Yo x).length=5:=by simp[Yo,Qs]
theorem YH x:(Zz x).length=5:=by simp[Zz,Qs]
theorem QAy{w:Qo}(h:Vu w=true):sN w=true:=by
 simp only[Vu,sN,ai,Qf]at h ⊢;omega
theorem QAz{p:Int}{x:Item}(h:Y5 p x=true)(hp:p<=1048575):lO x=true:=by
 simp only[Y5,lO,ai,Qf]at h ⊢;omega
theorem QAA{p:Int}{x:cg}(h:YN p x=true)(hp:p<=1048575):Y6 x=true:=by
 simp only[YN,Y6,ai,Qf]at h ⊢;omega
theorem Qjl{α:Type}(one:α->Bool)(two:α->α->Bool):∀(l:List α) (p:Option α),pO one two p l=true->l.all one=true
 |[],_,_=>rfl
 |x::l,p,h=>by
  simp only[pO,ai]at h;simp only[List.all_cons,ai];exact⟨h.1.1,Qjl one two l _ h.2⟩
theorem Yf{α:Type}{one:α->Bool}{two:α->α->Bool}{l:List α}(h:QN one two l 0=true):l.all one=true:=Qjl one two _ _ h
theorem O2{α:Type}{p q:α->Bool}{l:List α}(h:l.all p=true)(oL:∀x,p x=true->q x=true):l.all q=true:=by
 rw[aX]at h ⊢;exact fun x hx=>oL x (h x hx)
theorem Qnn{p:Int}:∀(l:bM) (k:Int),pO (Y5 p) VQ none l=true->(∀x∈l.head?,k<=x.key)->0<=k->k<=24->(l.length:Int)<=24-k
 |[],k,_,_,h0,h1=>by simp;omega
 |[x],k,h,hk,h0,h1=>by
  simp only[pO,Y5,ai,Qf]at h;have:=hk x (by simp);simp;omega
 |x::y::l,k,h,hk,h0,h1=>by
  simp only[pO,ai]at h;have hx:=h.1.1;simp only[Y5,ai,Qf]at hx;have tF:x.key<y.key:=by have:=h.2.1.2;simpa[VQ]using this
  have hk':=hk x (by simp);have:=Qnn (y::l) (x.key+1) (by simp only[pO,ai];exact⟨⟨h.2.1.1,trivial⟩,h.2.2⟩) (by simp;omega) (by omega) (by omega);simp only[aE]at this ⊢;omega
theorem Qs6{p:Int}{l:bM}(h:QN (Y5 p) VQ l 0=true):l.length<=24:=by
 have:=Qnn l 0 (p:=p) h (by
  intro x hx;have h1:=Yf h;have:=aX.1 h1 x (List.mem_of_mem_head? hx);simp only[Y5,ai,Qf]at this;omega) (by omega) (by omega)
 omega
theorem Vw{p:Int}{y:Bool}{l:ca}(h:dW ⟨p,y,l⟩=true):(1<=p/\p<=1048575)/\l.length<=4/\l.all sN=true:=by
 simp only[dW,ai,Qf,ZV,aa]at h;exact⟨h.1.1,h.1.2.1,O2 (Yf h.1.2.2) fun _=>QAy⟩
theorem Nv{p c:Int}{l:bJ}(hp:p<=1048575)(h:ZW p c l=true):(0<=c/\c<=1048575)/\l.length<=16/\l.all Y6=true/\(0<=QA l/\QA l<=4194303):=by
 simp only[ZW,ai,Qf,aa]at h;refine⟨by omega,h.1.1.2,O2 (Yf h.2) fun x hx=>QAA hx hp,?_⟩;cases l with
 |nil=>simp[QA]
 |cons x l=>
  have:=aX.1 (Yf h.2) x (by simp);simp only[YN,ai,Qf]at this;simp only[QA,List.getD_cons_zero];omega
theorem YI{p:Int}{items:bM}{l0 l1 l2:bJ}{c0 c1 c2:Int}(h:Qu ⟨p,items,l0,l1,l2,c0,c1,c2⟩=true) :
 (0<=p/\p<=1048575)/\items.length<=24/\items.all lO=true /\
 ((0<=c0/\c0<=1048575)/\l0.length<=16/\l0.all Y6=true/\(0<=QA l0/\QA l0<=4194303)) /\
 ((0<=c1/\c1<=1048575)/\l1.length<=16/\l1.all Y6=true/\(0<=QA l1/\QA l1<=4194303)) /\
 ((0<=c2/\c2<=1048575)/\l2.length<=16/\l2.all Y6=true/\(0<=QA l2/\QA l2<=4194303)):=by
 simp only[Qu,ai,Qf]at h;obtain⟨⟨⟨⟨hp,hi⟩,h0⟩,h1⟩,h2⟩:=h;exact⟨hp,Qs6 hi,O2 (Yf hi) fun x hx=>QAz hx hp.2,Nv hp.2 h0,Nv hp.2 h1,Nv hp.2 h2⟩
theorem Zi{α β:Type}(l:List α)(f:α->List β)(n:Nat)(h:∀x,(f x).length=n):(l.flatMap f).length=n*l.length:=by
 induction l with
 |nil=>rfl
 |cons x l ih=>simp only[List.flatMap_cons,aC,h,ih,aE,Nat.mul_succ];omega
theorem Nw{n:Int}(h:Qm n 0 255=true):((QI n).toNat:Int)=n:=by
 rw[Nu];rw[Qf]at h;omega
open Go.Proofs
abbrev mL:Type:=Option ((X×bX)×cb)
abbrev fI:Type:=iF
set_option maxRecDepth 100000
noncomputable def p0:iR RC:=CU Tryz.prog 213 (fun f=>Nat.beq f 166||Nat.beq f 83||Nat.beq f 147||Nat.beq f 60||Nat.beq f 63||Nat.beq f 121||Nat.beq f 169||Nat.beq f 61||Nat.beq f 58||Nat.beq f 59||Nat.beq f 154||Nat.beq f 153||Nat.beq f 171||Nat.beq f 194)
theorem QES:Qk Tryz.prog cu p0:=Qqf (by kernel_rfl)
def Qjm:bW->bO
 |[.int .i64 n,.int .i64 a,.int .i64 b]=>some (true,.bool (Qm n a b))
 |_=>none
def Qnp(n a b:Int):=eO cu p0 20 110 [.int .i64 n,.int .i64 a,.int .i64 b]
theorem Qs7 n a b:Qnp n a b=(bif decide (a<=n)then some (D.bool (decide (n<=b)))else some (D.bool false)):=by kernel_rfl
theorem Qs8 n a b(h:(true)=true):Qnp n a b=some (.bool (Qm n a b)):=by
 rw[Qs7];rw[Qm];cases decide (a<=n)<;>simp
def Au:=p0.b8 110 Qjm
theorem Qs9:Qk Tryz.prog cu Au:=QES.cQ Qb fun args d h=>by
 unfold Qjm at h
 split at h
 ·obtain⟨h1,rfl⟩:=ak h;exact⟨by simp[D.refs],20,Qs8 _ _ _ h1⟩
 ·cases h
def Qta:bW->bO
 |[.bI (.int .i64 a) (.bI (.int .i64 b) .bN)]=>some (true,.bool (Vu ⟨a,b⟩))
 |_=>none
def T4(a b:Int):=eO cu Au 20 200 [.bI (.int .i64 a) (cH b .bN)]
theorem QET a b:T4 a b=(bif Qm a (0:Int) (23:Int)then some (D.bool (Qm b (0:Int) (255:Int)))else some (D.bool false)):=by kernel_rfl
theorem QEU a b(h:(true)=true):T4 a b=some (.bool (Vu ⟨a,b⟩)):=by
 rw[QET];rw[Vu];cases Qm a 0 23<;>simp
def Av:=Au.b8 200 Qta
theorem Qtb:Qk Tryz.prog cu Av:=Qs9.cQ Qb fun args d h=>by
 unfold Qta at h
 split at h
 ·obtain⟨h1,rfl⟩:=ak h;exact⟨by simp[D.refs],20,QEU _ _ h1⟩
 ·cases h
def Qtc:bW->bO
 |[.bI (.int .i64 a) (.bI (.int .i64 b) .bN),.bI (.int .i64 c) (.bI (.int .i64 d) .bN)]=>some (true,.bool (JO ⟨a,b⟩ ⟨c,d⟩))
 |_=>none
def T5(a b c d:Int):=eO cu Av 20 201 [.bI (.int .i64 a) (cH b .bN),.bI (.int .i64 c) (cH d .bN)]
theorem QEV a b c d:T5 a b c d=(some (D.bool (decide (a<c)))):=by kernel_rfl
theorem QEW a b c d(h:(true)=true):T5 a b c d=some (.bool (JO ⟨a,b⟩ ⟨c,d⟩)):=by
 rw[QEV];rfl
def Aw:=Av.b8 201 Qtc
theorem Qtd:Qk Tryz.prog cu Aw:=Qtb.cQ Qb fun args d h=>by
 unfold Qtc at h
 split at h
 ·obtain⟨h1,rfl⟩:=ak h;exact⟨by simp[D.refs],20,QEW _ _ _ _ h1⟩
 ·cases h
structure Qnq where
 (c:Bool)(l:ca)(i:Nat)
def IE(c:Bool)(l:ca)(i:Nat):bX:=[(0,.sl (C:=RC) .write c l),(1,.fn 200 .bN),(2,.fn 201 .bN),(6,.bool false),(9,.int .i64 (l.length)),(10,.int .i64 (i:Int))]
def IF(c:Bool)(l:ca)(i:Nat):bP:=[]
def Qte c l i:=dQ cu Aw 199 2 30 0 [0,1,2,6,9,10] [6] [] (IE c l i) (IF c l i)
theorem QAB c l i:Qte c l i=(let Z0:Int:=(i:Int);let Z1:Int:=(l.length:Int);let Z2:Bool:=dH Z0 Z1;let Z3:Qo:=Qo.mk 0 0;let Z4:Qo:=List.getD l Z0.toNat Z3;let Z5:Qo:=Qo.mk (Qo.key Z4) (Qo.value Z4);let Z6:=c6 (Z0-1);let Z7:Qo:=List.getD l Z6.toNat Z3;let Z8:mL:=some ((X.normal,[(0,D.sl b9.write c l),(1,D.fn 200 .bN),(2,D.fn 201 .bN),(6,D.bool false),(9,cj Z1),(10,cj (c6 (Z0+1)))]),[]);bif decide (Z0<Z1)then b7 Z2 (bif !Vu Z5 then some ((X.ret,[(6,D.bool false)]),[])else bif decide ((0:Int)<Z0)then b7 (dH Z6 Z1) (b7 Z2 (bif !JO (Qo.mk (Qo.key Z7) (Qo.value Z7)) Z5 then some ((X.ret,[(6,D.bool false)]),[])else Z8))else Z8)else some ((X.exit 0,[(6,D.bool false)]),[])):=by kernel_rfl
def DQ(c:Bool)(l:ca)(i:Nat):RT RC:=.br (QN Vu JO l i) (.leaf (.exit 0) [(6,.bool false)] []) (.leaf .ret [(6,.bool false)] [])
def DR(c:Bool)(l:ca)(i:Nat):Prop:=i<=l.length/\l.length<=9223372036854775807
def V1:QD RC Qnq where
 k:=0
 cM q:=IE q.c q.l q.i
 cK q:=IF q.c q.l q.i
 fin q:=DQ q.c q.l q.i
 Inv q:=DR q.c q.l q.i
 μ q:=q.l.length-q.i
theorem QlP c l i(hI:DR c l i):c8 (Qte c l i) (dj V1 ⟨c,l,i⟩):=by
 (rw[QAB];delta b7 dH cj c6;conv=>zeta)
 unfold DR at hI;obtain⟨h1,h2⟩:=hI
 by_cases cU:i<l.length
 ·have cP:=eG i (by omega)
  have eu:=ga (show i<l.length by omega)
  have et:=fL (show i<l.length by omega)
  have dh:=bw i
  have gU:IntKind.i64.wrap ((i:Int)-1)=(i:Int)-1:=cC (by omega) (by omega);have gT:((i:Int)-1).toNat=i-1:=by omega
  simp only[cP,eu,et,dh,gU,gT,ag];have dV:=Yz Vu JO l i (⟨0,0⟩:Qo) cU;generalize l.getD i (⟨0,0⟩:Qo)=x at dV ⊢;generalize l.getD (i-1) (⟨0,0⟩:Qo)=y at dV ⊢
  have fe:QN Vu JO l (i+1)=QN Vu JO l i->c8 (some ((X.normal,IE c l (i+1)),[])) (dj V1 ⟨c,l,i⟩):=fun he=>
   Qi ⟨c,l,i+1⟩ ⟨cU,h2⟩ (by simp only[V1];omega) (by simp only[V1,DQ,he]) rfl rfl
  have gv:QN Vu JO l i=false->c8 (some ((X.ret,[(6,D.bool false)]),[])) (dj V1 ⟨c,l,i⟩):=fun he=>QW [] (by simp[V1,DQ,he,RT.val]) rfl;rw[dV]at fe gv;cases a1:Vu x
  ·exact gv (by simp[a1])
  by_cases hi:i=0
  ·have d0:decide (0<(i:Int))=false:=by simp;omega
   simp only[d0,ah];exact fe (by simp[hi,a1])
  ·have ke:decide (0<(i:Int))=true:=by simp;omega
   have kb:decide (0<=(i:Int)-1/\(i:Int)-1<l.length)=true:=by simp;omega
   simp only[ke,kb,ag];cases a4:JO y x
   ·exact gv (by simp[hi,a4])
   ·exact fe (by simp[a4,a1])
 ·have hi:i=l.length:=by omega
  have c1:decide ((i:Int)<l.length)=false:=by simp;omega
  rw[c1];exact Qh [] (by simp[V1,DQ,hi,QN,pO,RT.val]) rfl
def O3(env:bX)(os:bP):Option (Bool×Qnq):=match env,os with
 |[(0,.sl .write c l),(1,.fn 200 .bN),(2,.fn 201 .bN),(6,.bool false),(9,.int .i64 x0),(10,.int .i64 x1)],[]=>some (decide (x0=l.length)&&decide (x1=0)&&decide (l.length<=9223372036854775807),⟨c,l,0⟩)
 |_,_=>none
def Ax:=Aw.cJ 199 2 (ey cu [] [0,1,2,6,9,10] V1 O3)
theorem Qtf:Qk Tryz.prog cu Ax:=by
 refine Qtd.cq Qb (by kernel_rfl) V1 30 [0,1,2,6,9,10] [6] [] [0,1,2,6,9,10] O3 (fun q hI=>?_) ?_
 ·obtain⟨c,l,i⟩:=q;refine⟨?_,?_,QlP c l i hI⟩
  ·simp_all[Qj,V1,IE,IF,DR,D.refs,Obj.refs,cV]
  ·simp_all[V1,DQ,IF,DR,RT.cT,Qj,D.refs,Obj.refs,cV]
 ·intro env os b q cN hb;unfold O3 at cN
  split at cN
  ·cases cN;simp only[ai,aa]at hb;obtain⟨⟨rfl,rfl⟩,hl⟩:=hb;exact⟨⟨aK _,hl⟩,rfl,rfl⟩
  ·cases cN
def Qgo:bW->bO
 |[.sl .write c l]=>some (Qd l.length,.bool (ZV l))
 |_=>none
def Qjo(c:Bool)(l:ca):=eO cu Ax 20 187 [.sl (C:=RC) .write c l]
theorem Qqj c l:Qjo c l=(let Z0:=l.length;let Z1:Int:=(Z0:Int);b7 (Qd Z0) (bif decide (Z1<=4)then b7 (Qd Z0) (b7 (decide (Z1=Z1)&&true&&decide (Z0<=9223372036854775807)) (bif QN Vu JO l 0 then some (D.bool true)else some (D.bool false)))else some (D.bool false))):=by kernel_rfl
theorem Qqk c l(h:(Qd l.length)=true):Qjo c l=some (.bool (ZV l)):=by
 (rw[Qqj];delta b7;conv=>zeta)
 have h2:l.length<=9223372036854775807:=VM h;have h3:(((l.length:Nat):Int)<=4)↔l.length<=4:=by omega
 rw[ZV,h]
 by_cases h4:l.length<=4
 ·simp[h4,h2,h3];cases QN Vu JO l 0<;>rfl
 ·simp[h4,h3]
def Ay:=Ax.b8 187 Qgo
theorem Qtg:Qk Tryz.prog cu Ay:=Qtf.cQ Qb fun args d h=>by
 unfold Qgo at h
 split at h
 ·obtain⟨h1,rfl⟩:=ak h;exact⟨by simp[D.refs],20,Qqk _ _ h1⟩
 ·cases h
def T6:bW->bO
 |[.bI (.int .i64 p) (.bI (.bool y) (.bI (.sl .write c l) .bN))]=>some (Qd l.length,.bool (dW ⟨p,y,l⟩))
 |_=>none
def Wk(p:Int)(y c:Bool)(l:ca):=eO cu Ay 20 152 [.bI (.int .i64 p) (.bI (.bool y) (cL .write c l .bN))]
theorem QHy p y c l:Wk p y c l=(let Z0:=Qd l.length;bif Qm p 1 1048575 then b7 Z0 (bif ZV l then bif y then some (D.bool true)else b7 Z0 (some (D.bool ((l.length:Int)==0)))else some (D.bool false))else some (D.bool false)):=by kernel_rfl
theorem QHz p y c l(h:(Qd l.length)=true):Wk p y c l=some (.bool (dW ⟨p,y,l⟩)):=by
 (rw[QHy];delta b7;conv=>zeta)
 have h3:(((l.length:Nat):Int)=0)↔l.length=0:=by omega
 simp only[dW,h];cases Qm p 1 1048575<;>cases ZV l<;>cases y<;>simp[h3]
 cases l<;>simp
 omega
def Az:=Ay.b8 152 T6
theorem Qth:Qk Tryz.prog cu Az:=Qtg.cQ Qb fun args d h=>by
 unfold T6 at h
 split at h
 ·obtain⟨h1,rfl⟩:=ak h;exact⟨by simp[D.refs],20,QHz _ _ _ _ h1⟩
 ·cases h
def Qti:bW->bO
 |[.bI (.int .i64 a) (.bI (.int .i64 b) (.bI (.int .i64 c) .bN)),.bI (.int .i64 d) (.bI (.int .i64 e) (.bI (.int .i64 f) .bN))]=>some (true,.bool (VQ ⟨a,b,c⟩ ⟨d,e,f⟩))
 |_=>none
def T7(a b c d e f:Int):=eO cu Az 20 113 [.bI (.int .i64 a) (cH b (cH c .bN)),.bI (.int .i64 d) (cH e (cH f .bN))]
theorem QEX a b c d e f:T7 a b c d e f=(some (D.bool (decide (a<d)))):=by kernel_rfl
theorem QEY a b c d e f(h:(true)=true):T7 a b c d e f=some (.bool (VQ ⟨a,b,c⟩ ⟨d,e,f⟩)):=by
 rw[QEX];rfl
def AA:=Az.b8 113 Qti
theorem Qtj:Qk Tryz.prog cu AA:=Qth.cQ Qb fun args d h=>by
 unfold Qti at h
 split at h
 ·obtain⟨h1,rfl⟩:=ak h;exact⟨by simp[D.refs],20,QEY _ _ _ _ _ _ h1⟩
 ·cases h
def Qtk:bW->bO
 |[.bI (.int .i64 a) (.bI (.int .i64 b) (.bI (.int .i64 c) (.bI (.int .i64 d) (.bI (.int .i64 e) .bN)))),.bI (.int .i64 a') (.bI (.int .i64 b') (.bI (.int .i64 c') (.bI (.int .i64 d') (.bI (.int .i64 e') .bN))))]=>some (true,.bool (YA ⟨a,b,c,d,e⟩ ⟨a',b',c',d',e'⟩))
 |_=>none
def T8(a b c d e a' b' c' d' e':Int):=eO cu AA 20 116 [.bI (.int .i64 a) (cH b (cH c (cH d (cH e .bN)))),.bI (.int .i64 a') (cH b' (cH c' (cH d' (cH e' .bN))))]
theorem QEZ a b c d e a' b' c' d' e':T8 a b c d e a' b' c' d' e'=(bif a'==IntKind.wrap .i64 (a+(1:Int))then bif decide (b<b')then some (D.bool true)else bif b==b' then some (D.bool (decide (c<c')))else some (D.bool false)else some (D.bool false)):=by kernel_rfl
theorem QE0 a b c d e a' b' c' d' e'(h:(true)=true):T8 a b c d e a' b' c' d' e'=some (.bool (YA ⟨a,b,c,d,e⟩ ⟨a',b',c',d',e'⟩)):=by
 rw[QEZ];simp only[YA];cases (a'==IntKind.i64.wrap (a+1))<;>cases decide (b<b')<;>cases (b==b')<;>simp
def AB:=AA.b8 116 Qtk
theorem Qtl:Qk Tryz.prog cu AB:=Qtj.cQ Qb fun args d h=>by
 unfold Qtk at h
 split at h
 ·obtain⟨h1,rfl⟩:=ak h;exact⟨by simp[D.refs],20,QE0 _ _ _ _ _ _ _ _ _ _ h1⟩
 ·cases h
structure Qnr where
 (p:Int)(r:bV)(c:Bool)(l:bM)(i:Nat)
def IG(p:Int)(r:bV)(c:Bool)(l:bM)(i:Nat):bX:=[(0,.sl (C:=RC) .item c l),(1,.fn 112 (.bI (.ptr 0 []) .bN)),(2,.fn 113 .bN),(6,.bool false),(9,.int .i64 (l.length)),(10,.int .i64 (i:Int))]
def wC(p:Int)(r:bV)(c:Bool)(l:bM)(i:Nat):bP:=[.var 34 (cH p r)]
def Qtm p r c l i:=dQ cu AB 111 2 40 1 [0,1,2,6,9,10] [6] [.slot 1 0] (IG p r c l i) (wC p r c l i)
theorem QAC p r c l i:Qtm p r c l i=(let Z0:Int:=(i:Int);let Z1:Int:=(l.length:Int);let Z2:Bool:=dH Z0 Z1;let Z3:Item:=Item.mk 0 0 0;let Z4:Item:=List.getD l Z0.toNat Z3;let Z5:cb:=[some (Obj.var 34 (.bI (cj p) r))];let Z6:mL:=some ((X.ret,[(6,D.bool false)]),Z5);let Z7:=c6 (Z0-1);let Z8:Item:=List.getD l Z7.toNat Z3;let Z9:mL:=some ((X.normal,[(0,D.sl b9.item c l),(1,D.fn 112 (.bI (D.ptr 0 []) .bN)),(2,D.fn 113 .bN),(6,D.bool false),(9,cj Z1),(10,cj (c6 (Z0+1)))]),Z5);bif decide (Z0<Z1)then b7 Z2 (bif Qm (Item.key Z4) 0 23 then bif Qm (Item.place Z4) 1 p then bif !Qm (Item.value Z4) 0 255 then Z6 else bif decide ((0:Int)<Z0)then b7 (dH Z7 Z1) (b7 Z2 (bif !VQ (Item.mk (Item.key Z8) (Item.place Z8) (Item.value Z8)) (Item.mk (Item.key Z4) (Item.place Z4) (Item.value Z4))then Z6 else Z9))else Z9 else Z6 else Z6)else some ((X.exit 0,[(6,D.bool false)]),Z5)):=by kernel_rfl
def DS(p:Int)(r:bV)(c:Bool)(l:bM)(i:Nat):RT RC:=.br (QN (Y5 p) VQ l i) (.leaf (.exit 0) [(6,.bool false)] (wC p r c l i)) (.leaf .ret [(6,.bool false)] (wC p r c l i))
def DT(p:Int)(r:bV)(c:Bool)(l:bM)(i:Nat):Prop:=r.refs=[]/\i<=l.length/\l.length<=9223372036854775807
def V2:QD RC Qnr where
 k:=1
 cM q:=IG q.p q.r q.c q.l q.i
 cK q:=wC q.p q.r q.c q.l q.i
 fin q:=DS q.p q.r q.c q.l q.i
 Inv q:=DT q.p q.r q.c q.l q.i
 μ q:=q.l.length-q.i
theorem QlR p r c l i(hI:DT p r c l i):c8 (Qtm p r c l i) (dj V2 ⟨p,r,c,l,i⟩):=by
 (rw[QAC];delta b7 dH cj c6;conv=>zeta)
 unfold DT at hI;obtain⟨h0,h1,h2⟩:=hI
 by_cases cU:i<l.length
 ·have cP:=eG i (by omega)
  have eu:=ga (show i<l.length by omega)
  have et:=fL (show i<l.length by omega)
  have dh:=bw i
  have gU:IntKind.i64.wrap ((i:Int)-1)=(i:Int)-1:=cC (by omega) (by omega);have gT:((i:Int)-1).toNat=i-1:=by omega
  simp only[cP,eu,et,dh,gU,gT,ag];have dV:=Yz (Y5 p) VQ l i (⟨0,0,0⟩:Item) cU;generalize l.getD i (⟨0,0,0⟩:Item)=x at dV ⊢;generalize l.getD (i-1) (⟨0,0,0⟩:Item)=y at dV ⊢
  have fe:QN (Y5 p) VQ l (i+1)=QN (Y5 p) VQ l i->c8 (some ((X.normal,IG p r c l (i+1)),[some (.var 34 (cH p r))])) (dj V2 ⟨p,r,c,l,i⟩):=fun he=>
   Qi ⟨p,r,c,l,i+1⟩ ⟨h0,cU,h2⟩ (by simp only[V2];omega) (by simp only[V2,DS,he];rfl) rfl rfl
  have gv:QN (Y5 p) VQ l i=false->c8 (some ((X.ret,[(6,D.bool false)]),[some (.var 34 (cH p r))])) (dj V2 ⟨p,r,c,l,i⟩):=fun he=>QW (wC p r c l i) (by simp[V2,DS,he,RT.val]) rfl;rw[dV]at fe gv;simp only[Y5]at fe gv;have iI:VQ ⟨y.key,y.place,y.value⟩ ⟨x.key,x.place,x.value⟩=VQ y x:=rfl;rw[iI]
  by_cases hi:i=0
  ·have d0:decide (0<(i:Int))=false:=by simp;omega
   simp only[d0,ah]
   repeat' (refine ZO.2 ⟨fun _=>?_,fun _=>?_⟩)
   all_goals first|exact gv (by clear fe gv dV;simp_all)|exact fe (by clear fe gv dV;simp_all)
  ·have ke:decide (0<(i:Int))=true:=by simp;omega
   have kb:decide (0<=(i:Int)-1/\(i:Int)-1<l.length)=true:=by simp;omega
   simp only[ke,kb,ag]
   repeat' (refine ZO.2 ⟨fun _=>?_,fun _=>?_⟩)
   all_goals first|exact gv (by clear fe gv dV;simp_all)|exact fe (by clear fe gv dV;simp_all)
 ·have hi:i=l.length:=by omega
  have c1:decide ((i:Int)<l.length)=false:=by simp;omega
  rw[c1];exact Qh (wC p r c l i) (by simp[V2,DS,hi,HH,RT.val]) rfl
def O4(env:bX)(os:bP):Option (Bool×Qnr):=match env,os with
 |[(0,.sl .item c l),(1,.fn 112 (.bI (.ptr 0 []) .bN)),(2,.fn 113 .bN),(6,.bool false),(9,.int .i64 x0),(10,.int .i64 x1)],[.var 34 (.bI (.int .i64 p) r)]=>Qt (r.refs.isEmpty) (decide (x0=l.length)&&decide (x1=0)&&decide (l.length<=9223372036854775807),⟨p,r,c,l,0⟩)
 |_,_=>none
def AD:=AB.cJ 111 2 (ey cu [.slot 1 0] [0,1,2,6,9,10] V2 O4)
theorem Qtn:Qk Tryz.prog cu AD:=by
 refine Qtl.cq Qb (by kernel_rfl) V2 40 [0,1,2,6,9,10] [6] [.slot 1 0] [0,1,2,6,9,10] O4 (fun q hI=>?_) ?_
 ·obtain⟨p,r,c,l,i⟩:=q;refine⟨?_,?_,QlR p r c l i hI⟩
  ·simp_all[Qj,V2,IG,wC,DT,D.refs,Obj.refs,cV]
  ·simp_all[V2,DS,wC,DT,RT.cT,Qj,D.refs,Obj.refs,cV]
 ·intro env os b q cN hb;unfold O4 at cN
  split at cN
  ·obtain⟨hs,cN⟩:=Qc cN;cases cN;simp only[ai,aa]at hb;obtain⟨⟨rfl,rfl⟩,hl⟩:=hb;exact⟨⟨List.isEmpty_iff.1 hs,aK _,hl⟩,rfl,rfl⟩
  ·cases cN
structure Qns where
 (p:Int)(r:bV)(c:Bool)(l:bJ)(i:Nat)
def IH(p:Int)(r:bV)(c:Bool)(l:bJ)(i:Nat):bX:=[(0,.sl (C:=RC) .line c l),(1,.fn 115 (.bI (.ptr 0 []) .bN)),(2,.fn 116 .bN),(6,.bool false),(9,.int .i64 (l.length)),(10,.int .i64 (i:Int))]
def wD(p:Int)(r:bV)(c:Bool)(l:bJ)(i:Nat):bP:=[.var 34 (cH p r)]
def Qto p r c l i:=dQ cu AD 114 2 40 1 [0,1,2,6,9,10] [6] [.slot 1 0] (IH p r c l i) (wD p r c l i)
theorem QAD p r c l i:Qto p r c l i=(let Z0:Int:=(i:Int);let Z1:Int:=(l.length:Int);let Z2:Bool:=dH Z0 Z1;let Z3:cg:=cg.mk 0 0 0 0 0;let Z4:cg:=List.getD l Z0.toNat Z3;let Z5:cb:=[some (Obj.var 34 (.bI (cj p) r))];let Z6:mL:=some ((X.ret,[(6,D.bool false)]),Z5);let Z7:=c6 (Z0-1);let Z8:cg:=List.getD l Z7.toNat Z3;let Z9:mL:=some ((X.normal,[(0,D.sl b9.line c l),(1,D.fn 115 (.bI (D.ptr 0 []) .bN)),(2,D.fn 116 .bN),(6,D.bool false),(9,cj Z1),(10,cj (c6 (Z0+1)))]),Z5);bif decide (Z0<Z1)then b7 Z2 (bif Qm (cg.offset Z4) 0 4194303 then bif Qm (cg.place Z4) 1 p then bif Qm (cg.j Z4) 0 3 then bif Qm (cg.key Z4) 0 7 then bif !Qm (cg.value Z4) 0 255 then Z6 else bif decide ((0:Int)<Z0)then b7 (dH Z7 Z1) (b7 Z2 (bif !YA (cg.mk (cg.offset Z8) (cg.place Z8) (cg.j Z8) (cg.key Z8) (cg.value Z8)) (cg.mk (cg.offset Z4) (cg.place Z4) (cg.j Z4) (cg.key Z4) (cg.value Z4))then Z6 else Z9))else Z9 else Z6 else Z6 else Z6 else Z6)else some ((X.exit 0,[(6,D.bool false)]),Z5)):=by kernel_rfl
def DU(p:Int)(r:bV)(c:Bool)(l:bJ)(i:Nat):RT RC:=.br (QN (YN p) YA l i) (.leaf (.exit 0) [(6,.bool false)] (wD p r c l i)) (.leaf .ret [(6,.bool false)] (wD p r c l i))
def DV(p:Int)(r:bV)(c:Bool)(l:bJ)(i:Nat):Prop:=r.refs=[]/\i<=l.length/\l.length<=9223372036854775807
def V3:QD RC Qns where
 k:=1
 cM q:=IH q.p q.r q.c q.l q.i
 cK q:=wD q.p q.r q.c q.l q.i
 fin q:=DU q.p q.r q.c q.l q.i
 Inv q:=DV q.p q.r q.c q.l q.i
 μ q:=q.l.length-q.i
theorem QlT p r c l i(hI:DV p r c l i):c8 (Qto p r c l i) (dj V3 ⟨p,r,c,l,i⟩):=by
 (rw[QAD];delta b7 dH cj c6;conv=>zeta)
 unfold DV at hI;obtain⟨h0,h1,h2⟩:=hI
 by_cases cU:i<l.length
 ·have cP:=eG i (by omega)
  have eu:=ga (show i<l.length by omega)
  have et:=fL (show i<l.length by omega)
  have dh:=bw i
  have gU:IntKind.i64.wrap ((i:Int)-1)=(i:Int)-1:=cC (by omega) (by omega);have gT:((i:Int)-1).toNat=i-1:=by omega
  simp only[cP,eu,et,dh,gU,gT,ag];have dV:=Yz (YN p) YA l i (⟨0,0,0,0,0⟩:cg) cU;generalize l.getD i (⟨0,0,0,0,0⟩:cg)=x at dV ⊢;generalize l.getD (i-1) (⟨0,0,0,0,0⟩:cg)=y at dV ⊢
  have fe:QN (YN p) YA l (i+1)=QN (YN p) YA l i->c8 (some ((X.normal,IH p r c l (i+1)),[some (.var 34 (cH p r))])) (dj V3 ⟨p,r,c,l,i⟩):=fun he=>
   Qi ⟨p,r,c,l,i+1⟩ ⟨h0,cU,h2⟩ (by simp only[V3];omega) (by simp only[V3,DU,he];rfl) rfl rfl
  have gv:QN (YN p) YA l i=false->c8 (some ((X.ret,[(6,D.bool false)]),[some (.var 34 (cH p r))])) (dj V3 ⟨p,r,c,l,i⟩):=fun he=>QW (wD p r c l i) (by simp[V3,DU,he,RT.val]) rfl;rw[dV]at fe gv;simp only[YN]at fe gv;have iI:YA ⟨y.offset,y.place,y.j,y.key,y.value⟩ ⟨x.offset,x.place,x.j,x.key,x.value⟩=YA y x:=rfl;rw[iI]
  by_cases hi:i=0
  ·have d0:decide (0<(i:Int))=false:=by simp;omega
   simp only[d0,ah]
   repeat' (refine ZO.2 ⟨fun _=>?_,fun _=>?_⟩)
   all_goals first|exact gv (by clear fe gv dV;simp_all)|exact fe (by clear fe gv dV;simp_all)
  ·have ke:decide (0<(i:Int))=true:=by simp;omega
   have kb:decide (0<=(i:Int)-1/\(i:Int)-1<l.length)=true:=by simp;omega
   simp only[ke,kb,ag]
   repeat' (refine ZO.2 ⟨fun _=>?_,fun _=>?_⟩)
   all_goals first|exact gv (by clear fe gv dV;simp_all)|exact fe (by clear fe gv dV;simp_all)
 ·have hi:i=l.length:=by omega
  have c1:decide ((i:Int)<l.length)=false:=by simp;omega
  rw[c1];exact Qh (wD p r c l i) (by simp[V3,DU,hi,HH,RT.val]) rfl
def O5(env:bX)(os:bP):Option (Bool×Qns):=match env,os with
 |[(0,.sl .line c l),(1,.fn 115 (.bI (.ptr 0 []) .bN)),(2,.fn 116 .bN),(6,.bool false),(9,.int .i64 x0),(10,.int .i64 x1)],[.var 34 (.bI (.int .i64 p) r)]=>Qt (r.refs.isEmpty) (decide (x0=l.length)&&decide (x1=0)&&decide (l.length<=9223372036854775807),⟨p,r,c,l,0⟩)
 |_,_=>none
def Ma:=AD.cJ 114 2 (ey cu [.slot 1 0] [0,1,2,6,9,10] V3 O5)
theorem Qql:Qk Tryz.prog cu Ma:=by
 refine Qtn.cq Qb (by kernel_rfl) V3 40 [0,1,2,6,9,10] [6] [.slot 1 0] [0,1,2,6,9,10] O5 (fun q hI=>?_) ?_
 ·obtain⟨p,r,c,l,i⟩:=q;refine⟨?_,?_,QlT p r c l i hI⟩
  ·simp_all[Qj,V3,IH,wD,DV,D.refs,Obj.refs,cV]
  ·simp_all[V3,DU,wD,DV,RT.cT,Qj,D.refs,Obj.refs,cV]
 ·intro env os b q cN hb;unfold O5 at cN
  split at cN
  ·obtain⟨hs,cN⟩:=Qc cN;cases cN;simp only[ai,aa]at hb;obtain⟨⟨rfl,rfl⟩,hl⟩:=hb;exact⟨⟨List.isEmpty_iff.1 hs,aK _,hl⟩,rfl,rfl⟩
  ·cases cN
def U3(c:Bool)(b:bL)(n w:Int):bO:=Qt (w==1||w==2||w==3||w==6) (decide (b.length<=1000000000),.cG (cL .u8 (!QL n w.toNat) (dy b n w.toNat) (cH (bif QL n w.toNat then 0 else 2) .bN)))
def TF:bW->bO
 |[.sl .u8 c b,.int .i64 n,.int .i64 w]=>U3 c b n w
 |_=>none
def Fs(c:Bool)(b:bL)(n w:Int):=eO cu Ma 40 203 [.sl (C:=RC) .u8 c b,.int .i64 n,.int .i64 w]
theorem QE2(c:Bool)(b:bL)(n:Int):Fs c b n 1=(let Z0:fI:=some (D.cG (D.bI (D.sl b9.u8 true []) (.bI (cj 2) .bN)));let Z1:=Qd b.length;let Z2:Int:=(b.length:Int);let Z3:=List.drop 0 (List.take Z2.toNat b);let Z4:bL:=[UInt8.ofNat (IntKind.wrap IntKind.u8 n).toNat];let Z5:=Z3.length+Z4.length;bif decide ((0:Int)<=n)then bif !Int.fdiv n 256==0 then Z0 else b7 Z1 (b7 Z1 (b7 (decide ((0:Int)<=0/\(0:Int)<=Z2/\Z2<=Z2/\Z2=Z2)) (b7 (Qg Z5 1) (b7 (Nat.beq Z5 (Z3++Z4).length) (some (D.cG (D.bI (D.sl b9.u8 false (Z3++Z4)) (.bI (cj 0) .bN))))))))else Z0):=by kernel_rfl
theorem QE3(c:Bool)(b:bL)(n:Int):Fs c b n 2=(let Z0:fI:=some (D.cG (D.bI (D.sl b9.u8 true []) (.bI (cj 2) .bN)));let Z1:=Qd b.length;let Z2:Int:=(b.length:Int);let Z3:=List.drop 0 (List.take Z2.toNat b);let Z4:bL:=[UInt8.ofNat (IntKind.wrap IntKind.u8 n).toNat];let Z5:=Z3.length+Z4.length;let Z6:=List.length (Z3++Z4);let Z7:bL:=[UInt8.ofNat (IntKind.wrap IntKind.u8 (Int.fdiv n 256)).toNat];bif decide ((0:Int)<=n)then bif !Int.fdiv n 65536==0 then Z0 else b7 Z1 (b7 Z1 (b7 (decide ((0:Int)<=0/\(0:Int)<=Z2/\Z2<=Z2/\Z2=Z2)) (b7 (Qg Z5 1) (b7 (Nat.beq Z5 Z6&&Qg (Z5+Z7.length) 1) (b7 (Nat.beq (Z6+Z7.length) (Z3++Z4++Z7).length) (some (D.cG (D.bI (D.sl b9.u8 false (Z3++Z4++Z7)) (.bI (cj 0) .bN)))))))))else Z0):=by kernel_rfl
theorem QE4(c:Bool)(b:bL)(n:Int):Fs c b n 3=(let Z0:fI:=some (D.cG (D.bI (D.sl b9.u8 true []) (.bI (cj 2) .bN)));let Z1:=Qd b.length;let Z2:Int:=(b.length:Int);let Z3:=List.drop 0 (List.take Z2.toNat b);let Z4:bL:=[UInt8.ofNat (IntKind.wrap IntKind.u8 n).toNat];let Z5:=Z3.length+Z4.length;let Z6:=List.length (Z3++Z4);let Z7:=Int.fdiv n 256;let Z8:bL:=[UInt8.ofNat (IntKind.wrap IntKind.u8 Z7).toNat];let Z9:=List.length (Z3++Z4++Z8);let db:bL:=[UInt8.ofNat (IntKind.wrap IntKind.u8 (Int.fdiv Z7 256)).toNat];bif decide ((0:Int)<=n)then bif !Int.fdiv n 16777216==0 then Z0 else b7 Z1 (b7 Z1 (b7 (decide ((0:Int)<=0/\(0:Int)<=Z2/\Z2<=Z2/\Z2=Z2)) (b7 (Qg Z5 1) (b7 (Nat.beq Z5 Z6&&Qg (Z5+Z8.length) 1) (b7 (Nat.beq (Z6+Z8.length) Z9&&Qg (Z6+Z8.length+db.length) 1) (b7 (Nat.beq (Z9+db.length) (Z3++Z4++Z8++db).length) (some (D.cG (D.bI (D.sl b9.u8 false (Z3++Z4++Z8++db)) (.bI (cj 0) .bN))))))))))else Z0):=by kernel_rfl
theorem QE5(c:Bool)(b:bL)(n:Int):Fs c b n 6=(let Z0:fI:=some (D.cG (D.bI (D.sl b9.u8 true []) (.bI (cj 2) .bN)));let Z1:=Qd b.length;let Z2:Int:=(b.length:Int);let Z3:=List.drop 0 (List.take Z2.toNat b);let Z4:bL:=[UInt8.ofNat (IntKind.wrap IntKind.u8 n).toNat];let Z5:=Z3.length+Z4.length;let Z6:=List.length (Z3++Z4);let Z7:=Int.fdiv n 256;let Z8:bL:=[UInt8.ofNat (IntKind.wrap IntKind.u8 Z7).toNat];let Z9:=List.length (Z3++Z4++Z8);let db:=Int.fdiv Z7 256;let dB:bL:=[UInt8.ofNat (IntKind.wrap IntKind.u8 db).toNat];let eo:=List.length (Z3++Z4++Z8++dB);let fa:=Int.fdiv db 256;let fM:bL:=[UInt8.ofNat (IntKind.wrap IntKind.u8 fa).toNat];let fz:=List.length (Z3++Z4++Z8++dB++fM);let fy:=Int.fdiv fa 256;let fR:bL:=[UInt8.ofNat (IntKind.wrap IntKind.u8 fy).toNat];let eH:bL:=Z3++Z4++Z8++dB++fM++fR;let fW:bL:=[UInt8.ofNat (IntKind.wrap IntKind.u8 (Int.fdiv fy 256)).toNat];bif decide ((0:Int)<=n)then bif !Int.fdiv n 281474976710656==0 then Z0 else b7 Z1 (b7 Z1 (b7 (decide ((0:Int)<=0/\(0:Int)<=Z2/\Z2<=Z2/\Z2=Z2)) (b7 (Qg Z5 1) (b7 (Nat.beq Z5 Z6&&Qg (Z5+Z8.length) 1) (b7 (Nat.beq (Z6+Z8.length) Z9&&Qg (Z6+Z8.length+dB.length) 1) (b7 (Nat.beq (Z9+dB.length) eo&&Qg (Z9+dB.length+fM.length) 1) (b7 (Nat.beq (eo+fM.length) fz&&Qg (eo+fM.length+fR.length) 1) (b7 (Nat.beq (fz+fR.length) eH.length&&Qg (fz+fR.length+fW.length) 1) (b7 (Nat.beq (eH.length+fW.length) (eH++fW).length) (some (D.cG (D.bI (D.sl b9.u8 false (eH++fW)) (.bI (cj 0) .bN)))))))))))))else Z0):=by kernel_rfl
theorem QHB c b n w(hs:(w==1||w==2||w==3||w==6)=true)(h:(decide (b.length<=1000000000))=true):Fs c b n w=some (.cG (cL .u8 (!QL n w.toNat) (dy b n w.toNat) (cH (bif QL n w.toNat then 0 else 2) .bN))):=by
 have hl:=af h;have kA:Qd b.length=true:=Qe (by omega);have hle:∀m,1000000000<=m->(b.length<=m):=fun m hm=>by omega
 have hz:∀(k:Nat) (m:Int),0<=n->m=256^k->0<m->((n.fdiv m==0)=QL n k):=by
  intro k m h0 hm hp;rw[aQ _ (by omega),QL,<-hm];have:(n/m=0)↔n<m:=Int.gM h0 hp;rw[Bool.eq_iff_iff];simp[this,h0]
 simp only[Bool.or_eq_true,bi]at hs;rcases hs with((rfl|rfl)|rfl)|rfl
 ·(rw[QE2];delta b7 cj;conv=>zeta)
  show _=some (D.cG (cL .u8 (!QL n 1) (dy b n 1) (cH (bif QL n 1 then 0 else 2) .bN)))
  by_cases h0:0<=n
  ·simp only[h0,aM,ag,hz 1 256 h0 (by decide) (by omega)];cases hf:QL n 1
   ·simp[dy,hf]
   ·simp[dy,hf,kA,Qg,fC,QI,hle]
  ·have hf:QL n 1=false:=by simp[QL,h0]
   simp[h0,hf,dy]
 ·(rw[QE3];delta b7 cj;conv=>zeta)
  show _=some (D.cG (cL .u8 (!QL n 2) (dy b n 2) (cH (bif QL n 2 then 0 else 2) .bN)))
  by_cases h0:0<=n
  ·simp only[h0,aM,ag,hz 2 65536 h0 (by decide) (by omega)];cases hf:QL n 2
   ·simp[dy,hf]
   ·simp[dy,hf,kA,Qg,fC,QI,hle]
  ·have hf:QL n 2=false:=by simp[QL,h0]
   simp[h0,hf,dy]
 ·(rw[QE4];delta b7 cj;conv=>zeta)
  show _=some (D.cG (cL .u8 (!QL n 3) (dy b n 3) (cH (bif QL n 3 then 0 else 2) .bN)))
  by_cases h0:0<=n
  ·simp only[h0,aM,ag,hz 3 16777216 h0 (by decide) (by omega)];cases hf:QL n 3
   ·simp[dy,hf]
   ·simp[dy,hf,kA,Qg,fC,QI,hle]
  ·have hf:QL n 3=false:=by simp[QL,h0]
   simp[h0,hf,dy]
 ·(rw[QE5];delta b7 cj;conv=>zeta)
  show _=some (D.cG (cL .u8 (!QL n 6) (dy b n 6) (cH (bif QL n 6 then 0 else 2) .bN)))
  by_cases h0:0<=n
  ·simp only[h0,aM,ag,hz 6 281474976710656 h0 (by decide) (by omega)];cases hf:QL n 6
   ·simp[dy,hf]
   ·simp[dy,hf,kA,Qg,fC,QI,hle]
  ·have hf:QL n 6=false:=by simp[QL,h0]
   simp[h0,hf,dy]
def Mb:=Ma.b8 203 TF
theorem Qqm:Qk Tryz.prog cu Mb:=Qql.cQ Qb fun args d h=>by
 unfold TF at h
 split at h
 ·unfold U3 at h;obtain⟨hs,h⟩:=Qc h;obtain⟨h1,h2⟩:=Prod.mk.inj h;obtain rfl:_=d:=h2;exact⟨by simp[D.refs],40,QHB _ _ _ _ hs h1⟩
 ·cases h
structure Qgp where
 (c:Bool)(l:bL)(i:Nat)
def HM(c:Bool)(l:bL)(i:Nat):bX:=[(40,.sl (C:=RC) .u8 c l),(41,.int .i64 (l.length)),(42,.int .i64 (i:Int)),(8,.int .i64 ((cI (l.take i):Int)))]
def HN(c:Bool)(l:bL)(i:Nat):bP:=[]
def Qjp c l i:=dQ cu Mb 179 7 40 0 [40,41,42,8] [8] [] (HM c l i) (HN c l i)
theorem Qqn c l i:Qjp c l i=(let Z0:Int:=(i:Int);let Z1:Int:=(l.length:Int);let Z2:=c6 ((8:Int)*Z0);let Z3:Int:=(↑(cI (List.take i l)):Int);bif decide (Z0<Z1)then b7 (dH Z0 Z1) (bif decide (Z2<0)then none else some ((X.normal,[(40,D.sl b9.u8 c l),(41,cj Z1),(42,cj (c6 (Z0+1))),(8,cj (bits .i64 (fun(x:Nat) (u v:BitVec x)=>u|||v) Z3 (c6 (c6 (↑(UInt8.toNat (List.getD l Z0.toNat (UInt8.ofBitVec (BitVec.ofNat 8 (nat_lit 0))))):Int)*2^min Z2.toNat 64))))]),[]))else some ((X.exit 1,[(8,cj Z3)]),[])):=by kernel_rfl
def Km(c:Bool)(l:bL)(i:Nat):RT RC:=.leaf (.exit 1) [(8,.int .i64 (cI l:Int))] []
def V4(c:Bool)(l:bL)(i:Nat):Prop:=i<=l.length/\l.length<=6
def YO:QD RC Qgp where
 k:=0
 cM q:=HM q.c q.l q.i
 cK q:=HN q.c q.l q.i
 fin q:=Km q.c q.l q.i
 Inv q:=V4 q.c q.l q.i
 μ q:=q.l.length-q.i
theorem QhP c l i(hI:V4 c l i):c8 (Qjp c l i) (dj YO ⟨c,l,i⟩):=by
 (rw[Qqn];delta b7 dH cj c6;conv=>zeta)
 unfold V4 at hI;obtain⟨h1,h2⟩:=hI
 by_cases cU:i<l.length
 ·have cP:=eG i (by omega)
  have eu:=ga (show i<l.length by omega)
  have et:=fL (show i<l.length by omega)
  have dh:=bw i
  simp only[cP,eu,et,dh,ag];have hw8:IntKind.i64.wrap (8*(i:Int))=8*(i:Int):=cC (by omega) (by omega);have hd8:decide (IntKind.i64.wrap (8*(i:Int))<0)=false:=by rw[hw8];simp;omega
  have hlen:(l.take i).length=i:=by simp;omega
  have hv:cI (l.take i)<256^i:=by have:=Ot (l.take i);rwa [hlen]at this
  have nX:cI (l.take (i+1))=cI (l.take i)+(l.getD i 0).toNat*256^i:=by
   rw[List.take_add_one,WK,hlen];simp[cU,cI,Nat.mul_comm]
  simp only[hd8,ah];refine Qi ⟨c,l,i+1⟩ ⟨cU,h2⟩ (by simp only[YO];omega) (by simp only[YO,Km]) ?_ rfl;simp only[YO,HM,nX];exact ap (fun z=>[(40,D.sl (C:=RC) .u8 c l),(41,.int .i64 (l.length:Int)),(42,.int .i64 ((i+1:Nat):Int)),(8,.int .i64 z)]) (Qf2 _ _ _ hv (by omega))
 ·have hi:i=l.length:=by omega
  have c1:decide ((i:Int)<l.length)=false:=by simp;omega
  rw[c1];exact Qh [] (by simp[YO,Km,hi,RT.val]) rfl
def NQ(env:bX)(os:bP):Option (Bool×Qgp):=match env,os with
 |[(40,.sl .u8 c l),(41,.int .i64 x0),(42,.int .i64 x1),(8,.int .i64 x2)],[]=>some (decide (x0=l.length)&&decide (x1=0)&&decide (x2=0)&&decide (l.length<=6),⟨c,l,0⟩)
 |_,_=>none
def Mc:=Mb.cJ 179 7 (ey cu [] [40,41,42,8] YO NQ)
theorem Qqo:Qk Tryz.prog cu Mc:=by
 refine Qqm.cq Qb (by kernel_rfl) YO 40 [40,41,42,8] [8] [] [40,41,42,8] NQ (fun q hI=>?_) ?_
 ·obtain⟨c,l,i⟩:=q;refine⟨?_,?_,QhP c l i hI⟩
  ·simp_all[Qj,YO,HM,HN,V4,D.refs,Obj.refs,cV]
  ·simp_all[YO,Km,HN,V4,RT.cT,Qj,D.refs,Obj.refs,cV]
 ·intro env os b q cN hb;unfold NQ at cN
  split at cN
  ·cases cN;simp only[ai,aa]at hb;obtain⟨⟨⟨rfl,rfl⟩,rfl⟩,hl⟩:=hb;exact⟨⟨aK _,hl⟩,rfl,rfl⟩
  ·cases cN
def TG:bW->bO
 |[.sl .u8 c b,.int .i64 a,.int .i64 w]=>some (decide (b.length<=1000000000000),.cG (cH (dT b a w).1 (cH (dT b a w).2 .bN)))
 |_=>none
def U4(c:Bool)(b:bL)(a w:Int):=eO cu Mc 40 179 [.sl (C:=RC) .u8 c b,.int .i64 a,.int .i64 w]
theorem QHE c b a w:U4 c b a w=(let Z0:bV:=cj 0;let Z1:fI:=some (D.cG (D.bI Z0 (D.bI (cj 2) .bN)));let Z2:fI:=some (D.cG (D.bI Z0 (D.bI (cj 50) .bN)));let Z3:=Qd b.length;let Z4:Int:=(b.length:Int);let Z5:=c6 (a+w);let Z6:=List.drop a.toNat (List.take Z5.toNat b);let Z7:=Z6.length;bif decide (w<1)then Z1 else bif decide ((6:Int)<w)then Z1 else bif decide (a<0)then Z2 else b7 Z3 (bif decide (Z4<a)then Z2 else b7 Z3 (bif decide (c6 (Z4-a)<w)then Z2 else b7 (decide ((0:Int)<=a/\a<=Z5/\Z5<=Z4)) (b7 (Qd Z7) (b7 (decide ((Z7:Int)=(Z7:Int))&&true&&true&&decide (Z7<=6)) (some (D.cG (D.bI (cj (↑(cI Z6):Int)) (.bI Z0 .bN))))))))):=by kernel_rfl
theorem QHF c b a w(h:(decide (b.length<=1000000000000))=true):U4 c b a w=some (.cG (cH (dT b a w).1 (cH (dT b a w).2 .bN))):=by
 (rw[QHE];delta b7 cj c6;conv=>zeta)
 have hl:=af h;have kA:Qd b.length=true:=Qe (by omega);rw[kA]
 by_cases hw:1<=w/\w<=6
 ·have w1:decide (w<1)=false:=by simp;omega
  have w2:decide (6<w)=false:=by simp;omega
  have w3:(decide (1<=w)&&decide (w<=6))=true:=by simp;omega
  simp only[w1,w2,ah,ag,dT,w3]
  by_cases ha:0<=a/\a+w<=b.length
  ·have a1:decide (a<0)=false:=by simp;omega
   have a2:decide ((b.length:Int)<a)=false:=by simp;omega
   have e1:IntKind.i64.wrap ((b.length:Int)-a)=b.length-a:=cC (by omega) (by omega);have e2:IntKind.i64.wrap (a+w)=a+w:=cC (by omega) (by omega);have a3:decide ((b.length:Int)-a<w)=false:=by simp;omega
   have a4:decide (0<=a/\a<=a+w/\a+w<=(b.length:Int))=true:=by simp;omega
   have a5:(decide (0<=a)&&decide (a+w<=(b.length:Int)))=true:=by simp;omega
   have e3:(List.drop a.toNat (List.take (a+w).toNat b))=List.take w.toNat (List.drop a.toNat b):=by
    rw[List.drop_take];congr 1;omega
   have e4:(List.take w.toNat (List.drop a.toNat b)).length=w.toNat:=by simp;omega
   simp only[a1,a2,e1,e2,a3,a4,a5,e3,e4,ah,ag];have a6:Qd w.toNat=true:=Qe (by omega);have a7:w.toNat<=6:=by omega
   simp[a6,a7]
  ·have a5:(decide (0<=a)&&decide (a+w<=(b.length:Int)))=false:=by simp;omega
   simp only[a5,ah]
   by_cases a1:a<0
   ·simp[a1]
   ·by_cases a2:(b.length:Int)<a
    ·simp[a1,a2]
    ·have e1:IntKind.i64.wrap ((b.length:Int)-a)=b.length-a:=cC (by omega) (by omega);have a3:decide ((b.length:Int)-a<w)=true:=by simp;omega
     simp[a1,a2,e1,a3]
 ·have w3:(decide (1<=w)&&decide (w<=6))=false:=by simp;omega
  simp only[dT,w3]
  by_cases w1:w<1
  ·simp[w1]
  ·have w2:6<w:=by omega
   simp[w1,w2]
def Md:=Mc.b8 179 TG
theorem Qqp:Qk Tryz.prog cu Md:=Qqo.cQ Qb fun args d h=>by
 unfold TG at h
 split at h
 ·obtain⟨h1,rfl⟩:=ak h;exact⟨by simp[D.refs],40,QHF _ _ _ _ h1⟩
 ·cases h
def Qjq:bW->bO
 |[.bI (.int .i64 p) (.bI (.sl .item ci items) (.bI (.bI (.sl .line k0 l0) (.bI (.sl .line k1 l1) (.bI (.sl .line k2 l2) .bN))) (.bI (.arr .int 3 [c0,c1,c2]) .bN)))]=>some (decide (items.length<=9223372036854775807/\l0.length<=9223372036854775807/\l1.length<=9223372036854775807/\l2.length<=9223372036854775807),.bool (Qu ⟨p,items,l0,l1,l2,c0,c1,c2⟩))
 |_=>none
def Qnu(p:Int)(ci:Bool)(items:bM)(k0 k1 k2:Bool)(l0 l1 l2:bJ)(c0 c1 c2:Int):=eO cu Md 30 57 [.bI (.int .i64 p) (cL .item ci items (.bI (cL .line k0 l0 (cL .line k1 l1 (cL .line k2 l2 .bN))) (.bI (.arr (C:=RC) .int 3 [c0,c1,c2]) .bN)))]
theorem Qtq p ci items k0 k1 k2 l0 l1 l2 c0 c1 c2:Qnu p ci items k0 k1 k2 l0 l1 l2 c0 c1 c2=(let Z0:fI:=some (D.bool false);let Z1:=items.length;let Z2:=l0.length;let Z3:Int:=(Z2:Int);let Z4:cg:=cg.mk 0 0 0 0 0;let Z5:=l1.length;let Z6:Int:=(Z5:Int);let Z7:=l2.length;let Z8:Int:=(Z7:Int);let Z9:fI:=none;let db:fI:=bif Qd Z7 then bif decide (Z8=Z8)&&true&&decide (Z7<=9223372036854775807)then bif QN (YN p) YA l2 0then some (D.bool true)else Z0 else Z9 else Z9;let dB:fI:=bif Qd Z5 then bif decide (Z6=Z6)&&true&&decide (Z5<=9223372036854775807)then bif QN (YN p) YA l1 0then bif !Qm c2 0 p then Z0 else bif Qd Z7 then bif decide ((16:Int)<Z8)then Z0 else bif Qd Z7 then bif decide ((0:Int)<Z8)then bif decide ((0:Int)<=0/\(0:Int)<Z8)then bif decide (cg.place (List.getD l2 0 Z4)<=c2)then Z0 else db else Z9 else db else Z9 else Z9 else Z0 else Z9 else Z9;let eo:fI:=bif Qd Z2 then bif decide (Z3=Z3)&&true&&decide (Z2<=9223372036854775807)then bif QN (YN p) YA l0 0then bif !Qm c1 0 p then Z0 else bif Qd Z5 then bif decide ((16:Int)<Z6)then Z0 else bif Qd Z5 then bif decide ((0:Int)<Z6)then bif decide ((0:Int)<=0/\(0:Int)<Z6)then bif decide (cg.place (List.getD l1 0 Z4)<=c1)then Z0 else dB else Z9 else dB else Z9 else Z9 else Z0 else Z9 else Z9;bif !Qm p 0 1048575then Z0 else bif Qd Z1 then bif decide ((Z1:Int)=(Z1:Int))&&true&&decide (Z1<=9223372036854775807)then bif QN (Y5 p) VQ items 0then bif !Qm c0 0 p then Z0 else bif Qd Z2 then bif decide ((16:Int)<Z3)then Z0 else bif Qd Z2 then bif decide ((0:Int)<Z3)then bif decide ((0:Int)<=0/\(0:Int)<Z3)then bif decide (cg.place (List.getD l0 0 Z4)<=c0)then Z0 else eo else Z9 else eo else Z9 else Z9 else Z0 else Z9 else Z9):=by kernel_rfl
theorem Qtr p ci items k0 k1 k2 l0 l1 l2 c0 c1 c2(h:(decide (items.length<=9223372036854775807/\l0.length<=9223372036854775807/\l1.length<=9223372036854775807/\l2.length<=9223372036854775807))=true):Qnu p ci items k0 k1 k2 l0 l1 l2 c0 c1 c2=some (.bool (Qu ⟨p,items,l0,l1,l2,c0,c1,c2⟩)):=by
 (rw[Qtq];conv=>zeta)
 obtain⟨h,h0,h1,h2⟩:=af h;have b:=Qe h;have b0:=Qe h0;have b1:=Qe h1;have b2:=Qe h2;have i0:∀l:bJ,decide (0<=(0:Int)/\(0:Int)<l.length) = !l.isEmpty:=fun l=>by cases l<;>simp
 have n0:∀l:bJ,decide (0<(l.length:Int)) = !l.isEmpty:=fun l=>by cases l<;>simp
 have n16:∀l:bJ,decide (16<(l.length:Int)) = !decide (l.length<=16):=fun l=>by
  by_cases h:l.length<=16<;>simp[h]
  ·omega
  ·omega
 have nle:∀a b:Int,decide (a<=b) = !decide (b<a):=fun a b=>by
  by_cases h:b<a<;>simp[h]<;>omega
 simp only[Qu,ZW,b,b0,b1,b2,h,h0,h1,h2,aM,ag,i0,n0,n16,nle (cg.place _)];generalize Qm p 0 1048575=x1;generalize QN (Y5 p) VQ items 0=x2;generalize Qm c0 0 p=x3;generalize Qm c1 0 p=x4;generalize Qm c2 0 p=x5;generalize QN (YN p) YA l0 0=x6;generalize QN (YN p) YA l1 0=x7;generalize QN (YN p) YA l2 0=x8;generalize decide (l0.length<=16)=x9;generalize decide (l1.length<=16)=x10;generalize decide (l2.length<=16)=x11;generalize decide (c0<(l0.getD 0 ⟨0,0,0,0,0⟩).place)=Cf;generalize decide (c1<(l1.getD 0 ⟨0,0,0,0,0⟩).place)=LZ;generalize decide (c2<(l2.getD 0 ⟨0,0,0,0,0⟩).place)=x14;generalize l0.isEmpty=Cg;generalize l1.isEmpty=L6;generalize l2.isEmpty=x17;cases x1;· rfl
 cases x2;· rfl
 cases x3;· rfl
 cases x9;· rfl
 cases x6
 ·cases Cg<;>cases Cf<;>rfl
 cases x4;· cases Cg<;>cases Cf<;>rfl
 cases x10;· cases Cg<;>cases Cf<;>rfl
 cases x7;· cases Cg<;>cases Cf<;>cases L6<;>cases LZ<;>rfl
 cases x5;· cases Cg<;>cases Cf<;>cases L6<;>cases LZ<;>rfl
 cases x11;· cases Cg<;>cases Cf<;>cases L6<;>cases LZ<;>rfl
 cases Cg<;>cases Cf<;>cases L6<;>cases LZ<;>cases x17<;>cases x14<;>cases x8<;>rfl
def Me:=Md.b8 57 Qjq
theorem Qqq:Qk Tryz.prog cu Me:=Qqp.cQ Qb fun args d h=>by
 unfold Qjq at h
 split at h
 ·obtain⟨h1,rfl⟩:=ak h;exact⟨by simp[D.refs],30,Qtr _ _ _ _ _ _ _ _ _ _ _ _ h1⟩
 ·cases h
structure Qgq where
 (cp:Bool)(bs:bL)(c:Bool)(l:bM)(i:Nat)
def NR(cp:Bool)(bs:bL)(c:Bool)(l:bM)(i:Nat):bX:=[(4,.ptr 0 []),(27,.sl (C:=RC) .item c l),(28,.int .i64 (l.length)),(29,.int .i64 (i:Int))]
def JP(cp:Bool)(bs:bL)(c:Bool)(l:bM)(i:Nat):bP:=[.var 204 (cL .u8 cp bs .bN)]
def Qjr cp bs c l i:=dQ cu Me 188 7 40 1 [4,27,28,29] [] [.slot 4 0] (NR cp bs c l i) (JP cp bs c l i)
theorem Qqr cp bs c l i:Qjr cp bs c l i=(let Z0:Int:=(i:Int);let Z1:Int:=(l.length:Int);let Z2:Item:=List.getD l Z0.toNat (Item.mk 0 0 0);let Z3:bL:=dy bs (Item.key Z2) 1;let Z4:bL:=dy Z3 (Item.place Z2) 3;bif decide (Z0<Z1)then b7 (dH Z0 Z1) (b7 (decide (bs.length<=1000000000)) (b7 (decide (Z3.length<=1000000000)) (b7 (decide (Z4.length<=1000000000)) (some ((X.normal,[(4,D.ptr 0 []),(27,D.sl b9.item c l),(28,cj Z1),(29,cj (c6 (Z0+1)))]),[some (Obj.var 204 (.bI (D.sl b9.u8 (!QL (Item.value Z2) 1) (dy Z4 (Item.value Z2) 1)) .bN))])))))else some ((X.exit 0,[]),[some (Obj.var 204 (.bI (D.sl b9.u8 cp bs) .bN))])):=by kernel_rfl
def Kn(cp:Bool)(bs:bL)(c:Bool)(l:bM)(i:Nat):RT RC:=.leaf (.exit 0) [] [.var 204 (cL .u8 (cp&&(l.drop i).isEmpty) (bs++(l.drop i).flatMap Yo) .bN)]
def V5(cp:Bool)(bs:bL)(c:Bool)(l:bM)(i:Nat):Prop:=i<=l.length/\l.length<=1000000/\bs.length<=1000000+5*i/\l.all lO=true
def Vx:QD RC Qgq where
 k:=1
 cM q:=NR q.cp q.bs q.c q.l q.i
 cK q:=JP q.cp q.bs q.c q.l q.i
 fin q:=Kn q.cp q.bs q.c q.l q.i
 Inv q:=V5 q.cp q.bs q.c q.l q.i
 μ q:=q.l.length-q.i
theorem QhQ cp bs c l i(hI:V5 cp bs c l i):c8 (Qjr cp bs c l i) (dj Vx ⟨cp,bs,c,l,i⟩):=by
 (rw[Qqr];delta b7 dH cj c6;conv=>zeta)
 unfold V5 at hI;obtain⟨h1,h2,h3,h4⟩:=hI
 by_cases cU:i<l.length
 ·have cP:=eG i (by omega)
  have eu:=ga (show i<l.length by omega)
  have et:=fL (show i<l.length by omega)
  have dh:=bw i
  simp only[cP,eu,et,dh,ag];have hf:=Io h4 cU (⟨0,0,0⟩:Item);have hd:(l.drop i).flatMap Yo=_:=ZE l i Yo cU (⟨0,0,0⟩:Item);have he:(l.drop i).isEmpty=false:=by simp;omega
  generalize l.getD i (⟨0,0,0⟩:Item)=x at hf hd ⊢;simp only[lO,ai]at hf;obtain⟨⟨f1,f2⟩,f3⟩:=hf;have n1:decide (bs.length<=1000000000)=true:=ab (by omega);have n2:decide ((bs++fC x.key 1).length<=1000000000)=true:=ab (by simp[Qs];omega);have n3:decide ((bs++fC x.key 1++fC x.place 3).length<=1000000000)=true:=ab (by simp[Qs];omega);simp only[Int.toNat_one,show Int.toNat 3=3 from rfl,QZ (KS f1),QZ (Vv f2),QZ (KS f3),KS f1,Vv f2,KS f3,n1,n2,n3,ag,bg];refine Qi ⟨false,bs++fC x.key 1++fC x.place 3++fC x.value 1,c,l,i+1⟩ ⟨cU,h2,by simp[Qs];omega,h4⟩ (by simp only[Vx];omega) ?_ rfl rfl;simp[Vx,Kn,hd,he,Yo,RT.val]
 ·have hi:i=l.length:=by omega
  have c1:decide ((i:Int)<l.length)=false:=by simp;omega
  rw[c1];exact Qh (JP cp bs c l i) (by simp[Vx,Kn,JP,hi,RT.val]) rfl
def NS(env:bX)(os:bP):Option (Bool×Qgq):=match env,os with
 |[(4,.ptr 0 []),(27,.sl .item c l),(28,.int .i64 x0),(29,.int .i64 x1)],[.var 204 (.bI (.sl .u8 cp bs) .bN)]=>some (decide (x0=l.length)&&decide (x1=0)&&decide (l.length<=1000000/\bs.length<=1000000)&&l.all lO,⟨cp,bs,c,l,0⟩)
 |_,_=>none
def MM:=Me.cJ 188 7 (ey cu [.slot 4 0] [4,27,28,29] Vx NS)
theorem Qqs:Qk Tryz.prog cu MM:=by
 refine Qqq.cq Qb (by kernel_rfl) Vx 40 [4,27,28,29] [] [.slot 4 0] [4,27,28,29] NS (fun q hI=>?_) ?_
 ·obtain⟨cp,bs,c,l,i⟩:=q;refine⟨?_,?_,QhQ cp bs c l i hI⟩
  ·simp_all[Qj,Vx,NR,JP,V5,D.refs,Obj.refs,cV]
  ·simp_all[Vx,Kn,JP,V5,RT.cT,Qj,D.refs,Obj.refs,cV]
 ·intro env os b q cN hb;unfold NS at cN
  split at cN
  ·cases cN;simp only[ai,aa]at hb;obtain⟨⟨⟨rfl,rfl⟩,hl⟩,ha⟩:=hb;exact⟨⟨aK _,hl.1,bk hl.2 (Nat.le_add_right _ _),ha⟩,rfl,rfl⟩
  ·cases cN
structure Qgr where
 (cp:Bool)(bs:bL)(c:Bool)(l:bJ)(i:Nat)
def NT(cp:Bool)(bs:bL)(c:Bool)(l:bJ)(i:Nat):bX:=[(4,.ptr 0 []),(72,.sl (C:=RC) .line c l),(73,.int .i64 (l.length)),(74,.int .i64 (i:Int))]
def JQ(cp:Bool)(bs:bL)(c:Bool)(l:bJ)(i:Nat):bP:=[.var 204 (cL .u8 cp bs .bN)]
def Qjs cp bs c l i:=dQ cu MM 188 23 40 1 [4,72,73,74] [] [.slot 4 0] (NT cp bs c l i) (JQ cp bs c l i)
theorem Qqt cp bs c l i:Qjs cp bs c l i=(let Z0:Int:=(i:Int);let Z1:Int:=(l.length:Int);let Z2:cg:=List.getD l Z0.toNat (cg.mk 0 0 0 0 0);let Z3:bL:=dy bs (cg.place Z2) 3;let Z4:bL:=dy Z3 (bits .i64 (fun(x:Nat) (u v:BitVec x)=>u|||v) (c6 (cg.key Z2*16)) (cg.j Z2)) 1;bif decide (Z0<Z1)then b7 (dH Z0 Z1) (b7 (decide (bs.length<=1000000000)) (b7 (decide (Z3.length<=1000000000)) (b7 (decide (Z4.length<=1000000000)) (some ((X.normal,[(4,D.ptr 0 []),(72,D.sl b9.line c l),(73,cj Z1),(74,cj (c6 (Z0+1)))]),[some (Obj.var 204 (.bI (D.sl b9.u8 (!QL (cg.value Z2) 1) (dy Z4 (cg.value Z2) 1)) .bN))])))))else some ((X.exit 4,[]),[some (Obj.var 204 (.bI (D.sl b9.u8 cp bs) .bN))])):=by kernel_rfl
def Ko(cp:Bool)(bs:bL)(c:Bool)(l:bJ)(i:Nat):RT RC:=.leaf (.exit 4) [] [.var 204 (cL .u8 (cp&&(l.drop i).isEmpty) (bs++(l.drop i).flatMap Zz) .bN)]
def V6(cp:Bool)(bs:bL)(c:Bool)(l:bJ)(i:Nat):Prop:=i<=l.length/\l.length<=1000000/\bs.length<=1000000+5*i/\l.all Y6=true
def Vy:QD RC Qgr where
 k:=1
 cM q:=NT q.cp q.bs q.c q.l q.i
 cK q:=JQ q.cp q.bs q.c q.l q.i
 fin q:=Ko q.cp q.bs q.c q.l q.i
 Inv q:=V6 q.cp q.bs q.c q.l q.i
 μ q:=q.l.length-q.i
theorem QhR cp bs c l i(hI:V6 cp bs c l i):c8 (Qjs cp bs c l i) (dj Vy ⟨cp,bs,c,l,i⟩):=by
 (rw[Qqt];delta b7 dH cj c6;conv=>zeta)
 unfold V6 at hI;obtain⟨h1,h2,h3,h4⟩:=hI
 by_cases cU:i<l.length
 ·have cP:=eG i (by omega)
  have eu:=ga (show i<l.length by omega)
  have et:=fL (show i<l.length by omega)
  have dh:=bw i
  simp only[cP,eu,et,dh,ag];have hf:=Io h4 cU (⟨0,0,0,0,0⟩:cg);have hd:(l.drop i).flatMap Zz=_:=ZE l i Zz cU (⟨0,0,0,0,0⟩:cg);have he:(l.drop i).isEmpty=false:=by simp;omega
  generalize l.getD i (⟨0,0,0,0,0⟩:cg)=x at hf hd ⊢;simp only[Y6,ai]at hf;obtain⟨⟨⟨f1,f2⟩,f3⟩,f4⟩:=hf;have f5:Qm (x.key*16+x.j) 0 255=true:=by rw[Qf]at f2 f3 ⊢;omega
  have n1:decide (bs.length<=1000000000)=true:=ab (by omega);have n2:decide ((bs++fC x.place 3).length<=1000000000)=true:=ab (by simp[Qs];omega);have n3:decide ((bs++fC x.place 3++fC (x.key*16+x.j) 1).length<=1000000000)=true:=ab (by simp[Qs];omega);have hb:bits .i64 (fun _ u v=>u|||v) (IntKind.i64.wrap (x.key*16)) x.j=x.key*16+x.j:=QlN f2 f3;simp only[hb,Int.toNat_one,show Int.toNat 3=3 from rfl,QZ (Vv f1),QZ (KS f5),QZ (KS f4),Vv f1,KS f5,KS f4,n1,n2,n3,ag,bg];refine Qi ⟨false,bs++fC x.place 3++fC (x.key*16+x.j) 1++fC x.value 1,c,l,i+1⟩ ⟨cU,h2,by simp[Qs];omega,h4⟩ (by simp only[Vy];omega) ?_ rfl rfl;simp[Vy,Ko,hd,he,Zz,RT.val]
 ·have hi:i=l.length:=by omega
  have c1:decide ((i:Int)<l.length)=false:=by simp;omega
  rw[c1];exact Qh (JQ cp bs c l i) (by simp[Vy,Ko,JQ,hi,RT.val]) rfl
def NU(env:bX)(os:bP):Option (Bool×Qgr):=match env,os with
 |[(4,.ptr 0 []),(72,.sl .line c l),(73,.int .i64 x0),(74,.int .i64 x1)],[.var 204 (.bI (.sl .u8 cp bs) .bN)]=>some (decide (x0=l.length)&&decide (x1=0)&&decide (l.length<=1000000/\bs.length<=1000000)&&l.all Y6,⟨cp,bs,c,l,0⟩)
 |_,_=>none
def MN:=MM.cJ 188 23 (ey cu [.slot 4 0] [4,72,73,74] Vy NU)
theorem Qqu:Qk Tryz.prog cu MN:=by
 refine Qqs.cq Qb (by kernel_rfl) Vy 40 [4,72,73,74] [] [.slot 4 0] [4,72,73,74] NU (fun q hI=>?_) ?_
 ·obtain⟨cp,bs,c,l,i⟩:=q;refine⟨?_,?_,QhR cp bs c l i hI⟩
  ·simp_all[Qj,Vy,NT,JQ,V6,D.refs,Obj.refs,cV]
  ·simp_all[Vy,Ko,JQ,V6,RT.cT,Qj,D.refs,Obj.refs,cV]
 ·intro env os b q cN hb;unfold NU at cN
  split at cN
  ·cases cN;simp only[ai,aa]at hb;obtain⟨⟨⟨rfl,rfl⟩,hl⟩,ha⟩:=hb;exact⟨⟨aK _,hl.1,bk hl.2 (Nat.le_add_right _ _),ha⟩,rfl,rfl⟩
  ·cases cN
def Wz:bW->bO
 |[.bI (.int .i64 p) (.bI (.sl .item ci items) (.bI (.bI (.sl .line k0 l0) (.bI (.sl .line k1 l1) (.bI (.sl .line k2 l2) .bN))) (.bI (.arr .int 3 [c0,c1,c2]) .bN)))]=>some (decide (items.length<=9223372036854775807/\l0.length<=9223372036854775807/\l1.length<=9223372036854775807/\l2.length<=9223372036854775807),.cG (cL .u8 (!Qu ⟨p,items,l0,l1,l2,c0,c1,c2⟩) (bif Qu ⟨p,items,l0,l1,l2,c0,c1,c2⟩then YB ⟨p,items,l0,l1,l2,c0,c1,c2⟩else[]) (cH (bif Qu ⟨p,items,l0,l1,l2,c0,c1,c2⟩then 0 else 2) .bN)))
 |_=>none
def WL(p:Int)(ci:Bool)(items:bM)(k0 k1 k2:Bool)(l0 l1 l2:bJ)(c0 c1 c2:Int):=eO cu MN 40 188 [.bI (.int .i64 p) (cL .item ci items (.bI (cL .line k0 l0 (cL .line k1 l1 (cL .line k2 l2 .bN))) (.bI (.arr (C:=RC) .int 3 [c0,c1,c2]) .bN)))]
set_option maxHeartbeats 4000000 in
theorem QhS p ci items k0 k1 k2 l0 l1 l2 c0 c1 c2:WL p ci items k0 k1 k2 l0 l1 l2 c0 c1 c2=(let Z0:=items.length;let Z1:=l0.length;let Z2:=l1.length;let Z3:=l2.length;let Z4:Int:=(Z0:Int);let Z5:bL:=dy (dy [] p 3) Z4 1;let Z6:=Qd Z1;let Z7:Int:=(Z1:Int);let Z8:bL:=Z5++List.flatMap Yo (List.drop 0 items);let Z9:Bool:=decide (Z8.length<=1000000000);let db:Bool:=decide (List.length (dy Z8 c0 3)<=1000000000);let dB:bL:=dy (dy Z8 c0 3) Z7 1;let eo:Bool:=decide (dB.length<=1000000000);let fa:Bool:=decide (Z7=Z7)&&true;let fM:cg:=cg.mk 0 0 0 0 0;let fz:bL:=dy dB (cg.offset (List.getD l0 0 fM)) 3;let fy:=Qd Z2;let fR:Int:=(Z2:Int);let eH:Bool:=decide ((0:Int)<fR);let fW:Bool:=decide ((0:Int)<=0/\(0:Int)<fR);let gD:=List.flatMap Zz (List.drop 0 l0);let iJ:Bool:=decide (List.length (fz++gD)<=1000000000);let gQ:bL:=dy (fz++gD) c1 3;let iY:Bool:=decide (gQ.length<=1000000000);let im:bL:=dy gQ fR 1;let nE:Bool:=decide (im.length<=1000000000);let nG:Bool:=decide (fR=fR)&&true;let nH:=cg.offset (List.getD l1 0 fM);let od:=List.all l1 Y6;let ji:=Qd Z3;let la:Int:=(Z3:Int);let oe:Bool:=decide ((0:Int)<la);let oz:Bool:=decide ((0:Int)<=0/\(0:Int)<la);let mM:=List.flatMap Zz (List.drop 0 l1);let oA:Bool:=decide (List.length (dy im nH 3++mM)<=1000000000);let pS:bL:=dy (dy im nH 3++mM) c2 3;let qh:Bool:=decide (pS.length<=1000000000);let og:bL:=dy pS la 1;let mW:Bool:=decide (og.length<=1000000000);let mX:Bool:=decide (la=la)&&true;let nI:=cg.offset (List.getD l2 0 fM);let l9:=List.all l2 Y6;let pk:=List.isEmpty (List.drop 0 l2);let lD:Bool := !QL nI 3&&pk;let mv:=List.flatMap Zz (List.drop 0 l2);let lJ:bV:=D.bI (D.int .i64 0) .bN;let ep:fI:=none;let oh:Bool:=false&&pk;let sE:bL:=dy im 0 3++mM;let sF:Bool:=decide (sE.length<=1000000000);let vr:Bool:=decide (List.length (dy sE c2 3)<=1000000000);let sc:bL:=dy (dy sE c2 3) la 1;let xa:Bool:=decide (sc.length<=1000000000);let qY:bL:=dy dB 0 3++gD;let vu:Bool:=decide (qY.length<=1000000000);let Fv:Bool:=decide (List.length (dy qY c1 3)<=1000000000);let vw:bL:=dy (dy qY c1 3) fR 1;let Fw:Bool:=decide (vw.length<=1000000000);let C4:Bool:=decide (List.length (dy vw nH 3++mM)<=1000000000);let Fx:bL:=dy (dy vw nH 3++mM) c2 3;let Fy:Bool:=decide (Fx.length<=1000000000);let lE:bL:=dy Fx la 1;let C5:Bool:=decide (lE.length<=1000000000);let Rs:bL:=dy vw 0 3++mM;let Z64:Bool:=decide (Rs.length<=1000000000);let Z65:Bool:=decide (List.length (dy Rs c2 3)<=1000000000);let Fz:bL:=dy (dy Rs c2 3) la 1;let Z67:Bool:=decide (Fz.length<=1000000000);bif decide (Z0<=9223372036854775807/\Z1<=9223372036854775807/\Z2<=9223372036854775807/\Z3<=9223372036854775807)then bif !Qu (St.mk p items l0 l1 l2 c0 c1 c2)then some (D.cG (D.bI (D.sl b9.u8 true []) (.bI (D.int .i64 2) .bN)))else bif Qd Z0 then bif decide (List.length (dy [] p 3)<=1000000000)then bif Qd Z0 then bif decide (Z4=Z4)&&true&&decide (Z0<=1000000/\Z5.length<=1000000)&&List.all items lO then bif Z6 then bif decide ((0:Int)<Z7)then bif decide ((0:Int)<=0/\(0:Int)<Z7)then bif Z9 then bif Z6 then bif db then bif eo then bif Z6 then bif fa&&decide (Z1<=1000000/\fz.length<=1000000)&&List.all l0 Y6 then bif fy then bif eH then bif fW then bif iJ then bif fy then bif iY then bif nE then bif fy then bif nG&&decide (Z2<=1000000/\List.length (dy im nH 3)<=1000000)&&od then bif ji then bif oe then bif oz then bif oA then bif ji then bif qh then bif mW then bif ji then bif mX&&decide (Z3<=1000000/\List.length (dy og nI 3)<=1000000)&&l9 then some (D.cG (D.bI (D.sl b9.u8 lD (dy og nI 3++mv)) lJ))else ep else ep else ep else ep else ep else ep else ep else bif oA then bif ji then bif qh then bif mW then bif ji then bif mX&&decide (Z3<=1000000/\List.length (dy og 0 3)<=1000000)&&l9 then some (D.cG (D.bI (D.sl b9.u8 oh (dy og 0 3++mv)) lJ))else ep else ep else ep else ep else ep else ep else ep else ep else ep else ep else ep else ep else ep else ep else bif iJ then bif fy then bif iY then bif nE then bif fy then bif nG&&decide (Z2<=1000000/\List.length (dy im 0 3)<=1000000)&&od then bif ji then bif oe then bif oz then bif sF then bif ji then bif vr then bif xa then bif ji then bif mX&&decide (Z3<=1000000/\List.length (dy sc nI 3)<=1000000)&&l9 then some (D.cG (D.bI (D.sl b9.u8 lD (dy sc nI 3++mv)) lJ))else ep else ep else ep else ep else ep else ep else ep else bif sF then bif ji then bif vr then bif xa then bif ji then bif mX&&decide (Z3<=1000000/\List.length (dy sc 0 3)<=1000000)&&l9 then some (D.cG (D.bI (D.sl b9.u8 oh (dy sc 0 3++mv)) lJ))else ep else ep else ep else ep else ep else ep else ep else ep else ep else ep else ep else ep else ep else ep else ep else ep else ep else ep else ep else ep else ep else bif Z9 then bif Z6 then bif db then bif eo then bif Z6 then bif fa&&decide (Z1<=1000000/\List.length (dy dB 0 3)<=1000000)&&List.all l0 Y6 then bif fy then bif eH then bif fW then bif vu then bif fy then bif Fv then bif Fw then bif fy then bif nG&&decide (Z2<=1000000/\List.length (dy vw nH 3)<=1000000)&&od then bif ji then bif oe then bif oz then bif C4 then bif ji then bif Fy then bif C5 then bif ji then bif mX&&decide (Z3<=1000000/\List.length (dy lE nI 3)<=1000000)&&l9 then some (D.cG (D.bI (D.sl b9.u8 lD (dy lE nI 3++mv)) lJ))else ep else ep else ep else ep else ep else ep else ep else bif C4 then bif ji then bif Fy then bif C5 then bif ji then bif mX&&decide (Z3<=1000000/\List.length (dy lE 0 3)<=1000000)&&l9 then some (D.cG (D.bI (D.sl b9.u8 oh (dy lE 0 3++mv)) lJ))else ep else ep else ep else ep else ep else ep else ep else ep else ep else ep else ep else ep else ep else ep else bif vu then bif fy then bif Fv then bif Fw then bif fy then bif nG&&decide (Z2<=1000000/\List.length (dy vw 0 3)<=1000000)&&od then bif ji then bif oe then bif oz then bif Z64 then bif ji then bif Z65 then bif Z67 then bif ji then bif mX&&decide (Z3<=1000000/\List.length (dy Fz nI 3)<=1000000)&&l9 then some (D.cG (D.bI (D.sl b9.u8 lD (dy Fz nI 3++mv)) lJ))else ep else ep else ep else ep else ep else ep else ep else bif Z64 then bif ji then bif Z65 then bif Z67 then bif ji then bif mX&&decide (Z3<=1000000/\List.length (dy Fz 0 3)<=1000000)&&l9 then some (D.cG (D.bI (D.sl b9.u8 oh (dy Fz 0 3++mv)) lJ))else ep else ep else ep else ep else ep else ep else ep else ep else ep else ep else ep else ep else ep else ep else ep else ep else ep else ep else ep else ep else ep else ep else ep else ep else ep else ep):=by kernel_rfl
theorem QhT p ci items k0 k1 k2 l0 l1 l2 c0 c1 c2(h:(decide (items.length<=9223372036854775807/\l0.length<=9223372036854775807/\l1.length<=9223372036854775807/\l2.length<=9223372036854775807))=true):WL p ci items k0 k1 k2 l0 l1 l2 c0 c1 c2=some (.cG (cL .u8 (!Qu ⟨p,items,l0,l1,l2,c0,c1,c2⟩) (bif Qu ⟨p,items,l0,l1,l2,c0,c1,c2⟩then YB ⟨p,items,l0,l1,l2,c0,c1,c2⟩else[]) (cH (bif Qu ⟨p,items,l0,l1,l2,c0,c1,c2⟩then 0 else 2) .bN))):=by
 (rw[QhS];conv=>zeta)
 rw[h];cases hm:Qu ⟨p,items,l0,l1,l2,c0,c1,c2⟩
 ·rfl
 ·obtain⟨hp,Se,Sd,⟨k0,m0,w0,o0⟩,⟨k1,m1,w1,o1⟩,⟨k2,m2,w2,o2⟩⟩:=YI hm;have b:=Qe (show items.length<=9223372036854775807 by omega);have b0:=Qe (show l0.length<=9223372036854775807 by omega);have b1:=Qe (show l1.length<=9223372036854775807 by omega);have b2:=Qe (show l2.length<=9223372036854775807 by omega);have fp:QL p 3=true:=Vv (by rw[Qf];omega);have fi:QL (items.length:Int) 1=true:=KS (by rw[Qf];omega);have fc0:QL c0 3=true:=Vv (by rw[Qf];omega);have fc1:QL c1 3=true:=Vv (by rw[Qf];omega);have fc2:QL c2 3=true:=Vv (by rw[Qf];omega);have fl0:QL (l0.length:Int) 1=true:=KS (by rw[Qf];omega);have fl1:QL (l1.length:Int) 1=true:=KS (by rw[Qf];omega);have fl2:QL (l2.length:Int) 1=true:=KS (by rw[Qf];omega);have fo0:QL (l0.getD 0 ⟨0,0,0,0,0⟩).offset 3=true:=Vv (by rw[Qf];unfold QA at o0;omega);have fo1:QL (l1.getD 0 ⟨0,0,0,0,0⟩).offset 3=true:=Vv (by rw[Qf];unfold QA at o1;omega);have fo2:QL (l2.getD 0 ⟨0,0,0,0,0⟩).offset 3=true:=Vv (by rw[Qf];unfold QA at o2;omega);have f0:QL 0 3=true:=rfl;have L:∀b:bL,b.length<=100000->decide (b.length<=1000000000)=true:=fun b hb=>ab (by omega);have L2:∀(b:bL) (n:Nat),n<=24->b.length<=100000->decide (n<=1000000/\b.length<=1000000)=true:=fun b n hn hb=>by simp;omega
  have i0:∀l:bJ,decide (0<=(0:Int)/\(0:Int)<l.length)=decide (0<(l.length:Int)):=fun l=>by simp
  have sI:=Zi items Yo 5 HI;have s0:=Zi l0 Zz 5 YH;have s1:=Zi l1 Zz 5 YH;have s2:=Zi l2 Zz 5 YH;simp only[b,b0,b1,b2,show Int.toNat 1=1 from rfl,show Int.toNat 3=3 from rfl,QZ fp,QZ fi,QZ fc0,QZ fc1,QZ fc2,QZ fl0,QZ fl1,QZ fl2,QZ fo0,QZ fo1,QZ fo2,QZ f0,fp,fi,fc0,fc1,fc2,fl0,fl1,fl2,fo0,fo1,fo2,f0,Sd,w0,w1,w2,ag,ah,bg,bh,Bool.and_true,Bool.true_and,aM,bG,Bool.false_and,i0];simp(disch:=first|omega|(simp only[aC,Qs,bH,sI,s0,s1,s2];omega)) only[L,L2,ag]
  have hx:∀l:bJ,¬(0<l.length)->(l.getD 0 ⟨0,0,0,0,0⟩).offset=0:=fun l hl=>by
   have:l=[]:=by cases l with
    |nil=>rfl
    |cons _ _=>simp at hl
   rw[this];rfl
  simp only[YB,Qx,QA];simp only[Int.natCast_pos]
  by_cases e0:0<l0.length<;>by_cases e1:0<l1.length<;>by_cases e2:0<l2.length<;>simp only[e0,e1,e2,aM,aW,ag,ah]<;>simp[e0,e1,e2,hx]
def MO:=MN.b8 188 Wz
theorem Qqv:Qk Tryz.prog cu MO:=Qqu.cQ Qb fun args d h=>by
 unfold Wz at h
 split at h
 ·obtain⟨h1,rfl⟩:=ak h;exact⟨by simp[D.refs],40,QhT _ _ _ _ _ _ _ _ _ _ _ _ h1⟩
 ·cases h
theorem Qgs{α:Type}[DecidableEq α](l m:List α)(i:Nat)(d:α)(cU:i<l.length)(hlen:l.length=m.length) :
 decide (l.drop i=m.drop i)=(decide (l.getD i d=m.getD i d)&&decide (l.drop (i+1)=m.drop (i+1))):=by
 have e1:=aJ cU;have e2:=aJ (show i<m.length by omega);have h1:l.getD i d=l[i]:=by simp[cU]
 have h2:m.getD i d=m[i]'(by omega):=by simp[show i<m.length by omega]
 rw[h1,h2,e1,e2,Bool.eq_iff_iff];simp only[List.cons.injEq,aa,ai]
theorem Qjt{α:Type}[DecidableEq α](l m:List α)(i:Nat)(h1:l.length<=i)(h2:m.length<=i):decide (l.drop i=m.drop i)=true:=by
 simp[aO h1,aO h2]
theorem FG{α:Type}[DecidableEq α][BEq α][LawfulBEq α](a b:α):(a==b)=decide (a=b):=by rw[Bool.eq_iff_iff];simp
theorem QHG(x y:Item):(x.key==y.key&&(x.place==y.place&&(x.value==y.value&&true)))=decide (x=y):=by
 rw[Bool.eq_iff_iff];cases x;cases y;simp
theorem QHH(x y:cg):(x.offset==y.offset&&(x.place==y.place&&(x.j==y.j&&(x.key==y.key&&(x.value==y.value&&true)))))=decide (x=y):=by
 rw[Bool.eq_iff_iff];cases x;cases y;simp
def VK(p c:Int)(l:bJ)(i:Nat):Bool:=(decide (i≠0)||l.isEmpty||decide (c<(l.getD 0 ⟨0,0,0,0,0⟩).place))&&QN (YN p) YA l i
theorem Qts p c l:ZW p c l=(decide (l.length<=16)&&decide (0<=c)&&decide (c<=p)&&VK p c l 0):=by
 unfold ZW VK Qm;cases decide (l.length<=16)<;>cases decide (0<=c)<;>cases decide (c<=p)<;>simp
theorem Ta{n:Int}(h0:0<=n)(h1:n<=9223372036854775807):IntKind.i64.wrap (n.tdiv 256)=n.fdiv 256/\0<=n.fdiv 256/\n.fdiv 256<=9223372036854775807:=by
 obtain⟨a,b⟩:=W0 h0;rw[Int.tdiv_eq_ediv_of_nonneg h0,b];exact⟨cC (by omega) (by omega),by omega,by omega⟩
theorem S9{n:Int}(h0:0<=n):UInt8.ofNat (IntKind.u8.wrap (n.tmod 256)).toNat=QI n:=by
 rw[QI,EI,EI,Int.tmod_eq_emod_of_nonneg h0,Int.emod_emod_of_dvd _ (by decide)]
theorem jT n:fC n 1=[QI n]:=rfl
theorem tJ n:fC n 3=[QI n,QI (n.fdiv 256),QI ((n.fdiv 256).fdiv 256)]:=rfl
def V7(c:Int)(l:bJ):Bool:=decide (0<=c)&&decide (c<=1048575)&&decide (l.length<=16)&&l.all Y6&&decide (0<=QA l)&&decide (QA l<=4194303)
theorem Y7{c:Int}{l:bJ}:V7 c l=true↔(0<=c/\c<=1048575)/\l.length<=16/\l.all Y6=true/\(0<=QA l/\QA l<=4194303):=by
 simp only[V7,ai,aa];constructor<;>(intro h;simp_all)
def ZZ(s:St):Nat->bL
 |0=>Qx s.c0 s.l0++(Qx s.c1 s.l1++Qx s.c2 s.l2)
 |1=>Qx s.c1 s.l1++Qx s.c2 s.l2
 |2=>Qx s.c2 s.l2
 |_=>[]
open Go.Proofs
structure Qju where
 (n w:Int)(i:Nat)
def Ou(n w:Int)(i:Nat):bX:=[(0,.int .i64 n),(1,.int .i64 w),(5,.int .i64 (i:Int))]
def H7(n w:Int)(i:Nat):bP:=[]
def Qnv n w i:=dQ cu MO 192 4 40 0 [0,1,5] [0] [] (Ou n w i) (H7 n w i)
theorem Qtt(n w:Int)(i:Nat):Qnv n w i=(bif decide ((↑i:Int)<w)then some ((X.normal,[(0,D.int .i64 (IntKind.wrap .i64 (Int.tdiv n (256:Int)))),(1,D.int .i64 w),(5,D.int .i64 (IntKind.wrap .i64 ((↑i:Int)+(1:Int))))]),[])else some ((X.exit (0:Nat),[(0,D.int .i64 n)]),[])):=by kernel_rfl
def HJ(n w:Int)(i:Nat):RT RC:=.leaf (.exit 0) [(0,.int .i64 (n/256^(w.toNat-i)))] []
def Y8(n w:Int)(i:Nat):Prop:=0<=n/\n<=9223372036854775807/\(i:Int)<=w/\w<=6
def Vm:QD RC Qju where
 k:=0
 cM q:=Ou q.n q.w q.i
 cK q:=H7 q.n q.w q.i
 fin q:=HJ q.n q.w q.i
 Inv q:=Y8 q.n q.w q.i
 μ q:=q.w.toNat-q.i
theorem Qjv n w i(hI:Y8 n w i):c8 (Qnv n w i) (dj Vm ⟨n,w,i⟩):=by
 rw[Qtt];unfold Y8 at hI;obtain⟨h1,h2,h3,h4⟩:=hI
 by_cases cU:(i:Int)<w
 ·have cP:=eG i (by omega)
  have hd:IntKind.i64.wrap (n.tdiv 256)=n/256:=by rw[Int.tdiv_eq_ediv_of_nonneg h1];exact cC (by omega) (by omega)
  simp only[cU,aM,ag,cP,hd];refine Qi ⟨n/256,w,i+1⟩ (by simp only[Vm,Y8];omega) (by simp only[Vm];omega) ?_ rfl rfl;simp only[Vm,HJ];have:w.toNat-i=(w.toNat-(i+1))+1:=by omega
  rw[this,Int.pow_succ',Int.ediv_ediv_of_nonneg (by omega)]
 ·have hi:w.toNat-i=0:=by omega
  simp only[cU,aW,ah];exact Qh [] (by simp[Vm,HJ,hi,RT.val]) rfl
def Ov(env:bX)(os:bP):Option (Bool×Qju):=match env,os with
 |[(0,.int .i64 n),(1,.int .i64 w),(5,.int .i64 x0)],[]=>some (decide (x0=0)&&decide (0<=n/\n<=9223372036854775807/\0<=w/\w<=6),⟨n,w,0⟩)
 |_,_=>none
def AE:=MO.cJ 192 4 (ey cu [] [0,1,5] Vm Ov)
theorem Qtu:Qk Tryz.prog cu AE:=by
 refine Qqv.cq Qb (by kernel_rfl) Vm 40 [0,1,5] [0] [] [0,1,5] Ov (fun q hI=>?_) ?_
 ·obtain⟨n,w,i⟩:=q;refine⟨?_,?_,Qjv n w i hI⟩
  ·simp_all[Qj,Vm,Ou,H7,Y8,D.refs,Obj.refs,cV]
  ·simp_all[Vm,HJ,H7,Y8,RT.cT,Qj,D.refs,Obj.refs,cV]
 ·intro env os b q cN hb;unfold Ov at cN
  split at cN
  ·cases cN;simp only[ai,aa]at hb;obtain⟨rfl,hq⟩:=hb;exact⟨by simp only[Vm,Y8];omega,rfl,rfl⟩
  ·cases cN
def Qjw:bW->bO
 |[.int .i64 n,.int .i64 w]=>some (decide (n<=9223372036854775807/\1<=w/\w<=6)&&QL n w.toNat,.bool true)
 |_=>none
def Qnx(n w:Int):=eO cu AE 40 192 [.int .i64 n,.int .i64 w]
theorem Qtv n w:Qnx n w=(let Z0:fI:=some (D.bool false);bif decide (w<1)then Z0 else bif decide ((6:Int)<w)then Z0 else bif decide (n<0)then Z0 else bif decide ((0:Int)<=n/\n<=9223372036854775807/\(0:Int)<=w/\w<=6)then some (D.bool (n/(256:Int)^(Int.toNat w-0)==0))else none):=by kernel_rfl
theorem Qtw n w(h:(decide (n<=9223372036854775807/\1<=w/\w<=6)&&QL n w.toNat)=true):Qnx n w=some (.bool true):=by
 (rw[Qtv];conv=>zeta)
 simp only[ai,aa]at h;obtain⟨⟨hn,pC,hw6⟩,hf⟩:=h;have h0:0<=n:=(Yn.1 hf).1;have w1:¬w<1:=by omega
 have w6:¬6<w:=by omega
 have n0:¬n<0:=by omega
 have hc:(0<=n/\n<=9223372036854775807/\0<=w/\w<=6):=by omega
 have hp:(0:Int)<256^w.toNat:=Int.pow_pos (by decide);have hz:n/256^w.toNat=0:=(Int.gM h0 hp).2 (Yn.1 hf).2;rw[ad w1,ad w6,ad n0,ab hc];simp only[ah,ag,Nat.sub_zero,hz];rfl
def AF:=AE.b8 192 Qjw
theorem Qtx:Qk Tryz.prog cu AF:=Qtu.cQ Qb fun args d h=>by
 unfold Qjw at h
 split at h
 ·obtain⟨h1,rfl⟩:=ak h;exact⟨by simp[D.refs],40,Qtw _ _ h1⟩
 ·cases h
structure W3 where
 (c:Bool)(l:ca)(i:Nat)
def HK(c:Bool)(l:ca)(i:Nat):bX:=[(0,.sl (C:=RC) .write c l),(2,.bool false),(3,.int .i64 (i:Int))]
def HL(c:Bool)(l:ca)(i:Nat):bP:=[]
def Qgt c l i:=dQ cu AF 52 4 40 0 [0,2,3] [2] [] (HK c l i) (HL c l i)
theorem QlV c l i:Qgt c l i=(let Z0:Int:=(i:Int);let Z1:Int:=(l.length:Int);let Z2:Bool:=dH Z0 Z1;let Z3:Qo:=Qo.mk 0 0;let Z4:Qo:=List.getD l Z0.toNat Z3;let Z5:=Qo.key Z4;let Z6:mL:=some ((X.ret,[(2,D.bool false)]),[]);let Z7:=c6 (Z0-1);let Z8:mL:=some ((X.normal,[(0,D.sl b9.write c l),(2,D.bool false),(3,cj (c6 (Z0+1)))]),[]);b7 (Qd l.length) (bif decide (Z0<Z1)then b7 Z2 (bif decide (Z5<0)then Z6 else b7 Z2 (bif decide ((24:Int)<=Z5)then Z6 else b7 Z2 (bif decide (Qo.value Z4<0)then Z6 else b7 Z2 (bif decide ((255:Int)<Qo.value Z4)then Z6 else bif decide ((0:Int)<Z0)then b7 Z2 (b7 (dH Z7 Z1) (bif decide (Z5<=Qo.key (List.getD l Z7.toNat Z3))then Z6 else Z8))else Z8))))else some ((X.exit 0,[(2,D.bool false)]),[]))):=by kernel_rfl
def Vz(c:Bool)(l:ca)(i:Nat):RT RC:=.br (QN Vu JO l i) (.leaf (.exit 0) [(2,.bool false)] []) (.leaf .ret [(2,.bool false)] [])
def VA(c:Bool)(l:ca)(i:Nat):Prop:=i<=l.length/\l.length<=9223372036854775807
def ZF:QD RC W3 where
 k:=0
 cM q:=HK q.c q.l q.i
 cK q:=HL q.c q.l q.i
 fin q:=Vz q.c q.l q.i
 Inv q:=VA q.c q.l q.i
 μ q:=q.l.length-q.i
theorem Qf3 c l i(hI:VA c l i):c8 (Qgt c l i) (dj ZF ⟨c,l,i⟩):=by
 (rw[QlV];delta b7 dH cj c6;conv=>zeta)
 unfold VA at hI;obtain⟨h1,h2⟩:=hI;have jo:=Qe h2
 by_cases cU:i<l.length
 ·have cP:=eG i (by omega)
  have eu:=ga (show i<l.length by omega)
  have et:=fL (show i<l.length by omega)
  have dh:=bw i
  have gU:IntKind.i64.wrap ((i:Int)-1)=(i:Int)-1:=cC (by omega) (by omega);have gT:((i:Int)-1).toNat=i-1:=by omega
  simp only[cP,eu,et,dh,gU,gT,ag];simp only[jo,ag];have dV:=Yz Vu JO l i (⟨0,0⟩:Qo) cU;generalize l.getD i (⟨0,0⟩:Qo)=x at dV ⊢;generalize l.getD (i-1) (⟨0,0⟩:Qo)=y at dV ⊢
  have fe:Vu x=true->(i=0\/JO y x=true)->c8 (some ((X.normal,HK c l (i+1)),[])) (dj ZF ⟨c,l,i⟩):=fun a b=>
   Qi ⟨c,l,i+1⟩ ⟨cU,h2⟩ (by simp only[ZF];omega) (by simp only[ZF,Vz,dV,a];rcases b with b|b<;>simp[b]) rfl rfl
  have gv:¬(Vu x=true/\(i=0\/JO y x=true))->c8 (some ((X.ret,[(2,D.bool false)]),[])) (dj ZF ⟨c,l,i⟩):=fun he=>QW [] (by
   have:QN Vu JO l i=false:=by rw[dV];simp only[Bool.and_eq_false_iff];by_cases a:Vu x=true<;>by_cases b:i=0<;>simp_all
   simp[ZF,Vz,this,RT.val]) rfl
  simp only[Vu,JO,Qm,ai,aa]at fe gv
  by_cases hi:i=0
  ·have d0:decide (0<(i:Int))=false:=by simp;omega
   simp only[d0,ah]
   repeat' (first|(refine ZO.2 ⟨fun oE=>?_,fun oE=>?_⟩<;>simp only[aa,ae,bi,beq_eq_false_iff_ne,bne_iff_ne,ne_eq,Bool.not_eq_true,Bool.not_eq_false,bne_eq_false_iff_eq,decide_eq_decide,Bool.true_eq_false,bu]at oE))
   all_goals first|(exfalso;omega)|exact gv (by omega)|(apply fe<;>omega)
  ·have ke:decide (0<(i:Int))=true:=by simp;omega
   have kb:decide (0<=(i:Int)-1/\(i:Int)-1<l.length)=true:=by simp;omega
   simp only[ke,kb,ag]
   repeat' (first|(refine ZO.2 ⟨fun oE=>?_,fun oE=>?_⟩<;>simp only[aa,ae,bi,beq_eq_false_iff_ne,bne_iff_ne,ne_eq,Bool.not_eq_true,Bool.not_eq_false,bne_eq_false_iff_eq,decide_eq_decide,Bool.true_eq_false,bu]at oE))
   all_goals first|(exfalso;omega)|exact gv (by omega)|(apply fe<;>omega)
 ·have hi:i=l.length:=by omega
  have c1:decide ((i:Int)<l.length)=false:=by simp;omega
  simp only[jo,c1,ag,ah];exact Qh [] (by simp[ZF,Vz,hi,QN,pO,RT.val]) rfl
def Nx(env:bX)(os:bP):Option (Bool×W3):=match env,os with
 |[(0,.sl .write c l),(2,.bool false),(3,.int .i64 x0)],[]=>some (decide (x0=0)&&decide (l.length<=9223372036854775807),⟨c,l,0⟩)
 |_,_=>none
def AG:=AF.cJ 52 4 (ey cu [] [0,2,3] ZF Nx)
theorem Qty:Qk Tryz.prog cu AG:=by
 refine Qtx.cq Qb (by kernel_rfl) ZF 40 [0,2,3] [2] [] [0,2,3] Nx (fun q hI=>?_) ?_
 ·obtain⟨c,l,i⟩:=q;refine⟨?_,?_,Qf3 c l i hI⟩
  ·simp_all[Qj,ZF,HK,HL,VA,D.refs,Obj.refs,cV]
  ·simp_all[ZF,Vz,HL,VA,RT.cT,Qj,D.refs,Obj.refs,cV]
 ·intro env os b q cN hb;unfold Nx at cN
  split at cN
  ·cases cN;simp only[ai,aa]at hb;obtain⟨rfl,hl⟩:=hb;exact⟨⟨aK _,hl⟩,rfl,rfl⟩
  ·cases cN
def WM:bW->bO
 |[.sl .write c l]=>some (Qd l.length,.bool (ZV l))
 |_=>none
def W5(c:Bool)(l:ca):=eO cu AG 40 52 [.sl (C:=RC) .write c l]
theorem Qjx c l:W5 c l=(let Z0:Nat:=List.length l;b7 (Qd Z0) (bif decide ((4:Int)<(↑Z0:Int))then some (D.bool false)else b7 (decide (Z0<=(9223372036854775807:Nat))) (bif QN Vu JO l (0:Nat)then some (D.bool true)else some (D.bool false)))):=by kernel_rfl
theorem Qjy c l(h:(Qd l.length)=true):W5 c l=some (.bool (ZV l)):=by
 (rw[Qjx];delta b7;conv=>zeta)
 have h2:l.length<=9223372036854775807:=VM h;rw[ZV,h]
 by_cases h4:l.length<=4
 ·have:¬(4:Int)<l.length:=by omega
  simp[h4,h2,this];cases QN Vu JO l 0<;>rfl
 ·have:(4:Int)<l.length:=by omega
  simp[h4,this]
def AH:=AG.b8 52 WM
theorem Qtz:Qk Tryz.prog cu AH:=Qty.cQ Qb fun args d h=>by
 unfold WM at h
 split at h
 ·obtain⟨h1,rfl⟩:=ak h;exact⟨by simp[D.refs],40,Qjy _ _ h1⟩
 ·cases h
def QtA:bW->bO
 |[.bI (.int .i64 p) (.bI (.bool y) (.bI (.sl .write c l) .bN))]=>some (Qd l.length,.bool (dW ⟨p,y,l⟩))
 |_=>none
def TH(p:Int)(y c:Bool)(l:ca):=eO cu AH 40 18 [.bI (.int .i64 p) (.bI (.bool y) (cL .write c l .bN))]
theorem QFd p y c l:TH p y c l=(let Z0:=Qd l.length;let Z1:fI:=some (D.bool false);bif decide ((1:Int)<=p)then bif decide (p<=1048575)then b7 Z0 (bif ZV l then bif y then some (D.bool true)else b7 Z0 (some (D.bool ((l.length:Int)==0)))else Z1)else Z1 else Z1):=by kernel_rfl
theorem QFe p y c l(h:(Qd l.length)=true):TH p y c l=some (.bool (dW ⟨p,y,l⟩)):=by
 (rw[QFd];delta b7;conv=>zeta)
 have h3:(((l.length:Nat):Int)=0)↔l.length=0:=by omega
 simp only[dW,h,Qm];cases decide (1<=p)<;>cases decide (p<=1048575)<;>cases ZV l<;>cases y<;>simp[h3]
 cases l<;>simp
 omega
def AI:=AH.b8 18 QtA
theorem QtB:Qk Tryz.prog cu AI:=Qtz.cQ Qb fun args d h=>by
 unfold QtA at h
 split at h
 ·obtain⟨h1,rfl⟩:=ak h;exact⟨by simp[D.refs],40,QFe _ _ _ _ h1⟩
 ·cases h
structure Qjz where
 (c:Bool)(l:bM)(p:Int)(i:Nat)
def H8(c:Bool)(l:bM)(p:Int)(i:Nat):bX:=[(0,.sl (C:=RC) .item c l),(1,.int .i64 p),(4,.bool false),(5,.int .i64 (i:Int))]
def H9(c:Bool)(l:bM)(p:Int)(i:Nat):bP:=[]
def Qny c l p i:=dQ cu AI 125 2 40 0 [0,1,4,5] [4] [] (H8 c l p i) (H9 c l p i)
theorem QtC c l p i:Qny c l p i=(let Z0:Int:=(i:Int);let Z1:Int:=(l.length:Int);let Z2:Item:=Item.mk 0 0 0;let Z3:Item:=List.getD l Z0.toNat Z2;let Z4:=Item.key Z3;let Z5:mL:=some ((X.ret,[(4,D.bool false)]),[]);let Z6:=c6 (Z0-1);let Z7:mL:=bif decide (Item.place Z3<1)then Z5 else bif decide (p<Item.place Z3)then Z5 else bif decide (Item.value Z3<0)then Z5 else bif decide ((255:Int)<Item.value Z3)then Z5 else some ((X.normal,[(0,D.sl b9.item c l),(1,cj p),(4,D.bool false),(5,cj (c6 (Z0+1)))]),[]);b7 (Qd l.length) (bif decide (Z0<Z1)then b7 (dH Z0 Z1) (bif decide (Z4<0)then Z5 else bif decide ((24:Int)<=Z4)then Z5 else bif decide ((0:Int)<Z0)then b7 (dH Z6 Z1) (bif decide (Z4<=Item.key (List.getD l Z6.toNat Z2))then Z5 else Z7)else Z7)else some ((X.exit 0,[(4,D.bool false)]),[]))):=by kernel_rfl
def JR(c:Bool)(l:bM)(p:Int)(i:Nat):RT RC:=.br (QN (Y5 p) VQ l i) (.leaf (.exit 0) [(4,.bool false)] []) (.leaf .ret [(4,.bool false)] [])
def JS(c:Bool)(l:bM)(p:Int)(i:Nat):Prop:=i<=l.length/\l.length<=9223372036854775807
def YP:QD RC Qjz where
 k:=0
 cM q:=H8 q.c q.l q.p q.i
 cK q:=H9 q.c q.l q.p q.i
 fin q:=JR q.c q.l q.p q.i
 Inv q:=JS q.c q.l q.p q.i
 μ q:=q.l.length-q.i
theorem QjA c l p i(hI:JS c l p i):c8 (Qny c l p i) (dj YP ⟨c,l,p,i⟩):=by
 (rw[QtC];delta b7 dH cj c6;conv=>zeta)
 unfold JS at hI;obtain⟨h1,h2⟩:=hI;have jo:=Qe h2
 by_cases cU:i<l.length
 ·have cP:=eG i (by omega)
  have eu:=ga (show i<l.length by omega)
  have et:=fL (show i<l.length by omega)
  have dh:=bw i
  have gU:IntKind.i64.wrap ((i:Int)-1)=(i:Int)-1:=cC (by omega) (by omega);have gT:((i:Int)-1).toNat=i-1:=by omega
  simp only[cP,eu,et,dh,gU,gT,ag];simp only[jo,ag];have dV:=Yz (Y5 p) VQ l i (⟨0,0,0⟩:Item) cU;generalize l.getD i (⟨0,0,0⟩:Item)=x at dV ⊢;generalize l.getD (i-1) (⟨0,0,0⟩:Item)=y at dV ⊢
  have fe:Y5 p x=true->(i=0\/VQ y x=true)->c8 (some ((X.normal,H8 c l p (i+1)),[])) (dj YP ⟨c,l,p,i⟩):=fun a b=>
   Qi ⟨c,l,p,i+1⟩ ⟨cU,h2⟩ (by simp only[YP];omega) (by simp only[YP,JR,dV,a];rcases b with b|b<;>simp[b]) rfl rfl
  have gv:¬(Y5 p x=true/\(i=0\/VQ y x=true))->c8 (some ((X.ret,[(4,D.bool false)]),[])) (dj YP ⟨c,l,p,i⟩):=fun he=>QW [] (by
   have:QN (Y5 p) VQ l i=false:=by rw[dV];simp only[Bool.and_eq_false_iff];by_cases a:Y5 p x=true<;>by_cases b:i=0<;>simp_all
   simp[YP,JR,this,RT.val]) rfl
  simp only[Y5,VQ,Qm,ai,aa]at fe gv
  by_cases hi:i=0
  ·have d0:decide (0<(i:Int))=false:=by simp;omega
   simp only[d0,ah]
   repeat' (first|(refine ZO.2 ⟨fun oE=>?_,fun oE=>?_⟩<;>simp only[aa,ae,bi,beq_eq_false_iff_ne,bne_iff_ne,ne_eq,Bool.not_eq_true,Bool.not_eq_false,bne_eq_false_iff_eq,decide_eq_decide,Bool.true_eq_false,bu]at oE))
   all_goals first|(exfalso;omega)|exact gv (by omega)|(apply fe<;>omega)
  ·have ke:decide (0<(i:Int))=true:=by simp;omega
   have kb:decide (0<=(i:Int)-1/\(i:Int)-1<l.length)=true:=by simp;omega
   simp only[ke,kb,ag]
   repeat' (first|(refine ZO.2 ⟨fun oE=>?_,fun oE=>?_⟩<;>simp only[aa,ae,bi,beq_eq_false_iff_ne,bne_iff_ne,ne_eq,Bool.not_eq_true,Bool.not_eq_false,bne_eq_false_iff_eq,decide_eq_decide,Bool.true_eq_false,bu]at oE))
   all_goals first|(exfalso;omega)|exact gv (by omega)|(apply fe<;>omega)
 ·have hi:i=l.length:=by omega
  have c1:decide ((i:Int)<l.length)=false:=by simp;omega
  simp only[jo,c1,ag,ah];exact Qh [] (by simp[YP,JR,hi,QN,pO,RT.val]) rfl
def Ow(env:bX)(os:bP):Option (Bool×Qjz):=match env,os with
 |[(0,.sl .item c l),(1,.int .i64 p),(4,.bool false),(5,.int .i64 x0)],[]=>some (decide (x0=0)&&decide (l.length<=9223372036854775807),⟨c,l,p,0⟩)
 |_,_=>none
def AJ:=AI.cJ 125 2 (ey cu [] [0,1,4,5] YP Ow)
theorem QtD:Qk Tryz.prog cu AJ:=by
 refine QtB.cq Qb (by kernel_rfl) YP 40 [0,1,4,5] [4] [] [0,1,4,5] Ow (fun q hI=>?_) ?_
 ·obtain⟨c,l,p,i⟩:=q;refine⟨?_,?_,QjA c l p i hI⟩
  ·simp_all[Qj,YP,H8,H9,JS,D.refs,Obj.refs,cV]
  ·simp_all[YP,JR,H9,JS,RT.cT,Qj,D.refs,Obj.refs,cV]
 ·intro env os b q cN hb;unfold Ow at cN
  split at cN
  ·cases cN;simp only[ai,aa]at hb;obtain⟨rfl,hl⟩:=hb;exact⟨⟨aK _,hl⟩,rfl,rfl⟩
  ·cases cN
structure QjB where
 (k:Bool)(l:bJ)(p c:Int)(i:Nat)
def Ia(k:Bool)(l:bJ)(p c:Int)(i:Nat):bX:=[(0,.sl (C:=RC) .line k l),(1,.int .i64 p),(2,.int .i64 c),(6,.bool false),(7,.int .i64 (i:Int))]
def Ib(k:Bool)(l:bJ)(p c:Int)(i:Nat):bP:=[]
def Qnz k l p c i:=dQ cu AJ 126 4 60 0 [0,1,2,6,7] [6] [] (Ia k l p c i) (Ib k l p c i)
theorem QtE k l p c i:Qnz k l p c i=(let Z0:Int:=(i:Int);let Z1:Int:=(l.length:Int);let Z2:cg:=cg.mk 0 0 0 0 0;let Z3:cg:=List.getD l Z0.toNat Z2;let Z4:=cg.offset Z3;let Z5:mL:=some ((X.ret,[(6,D.bool false)]),[]);let Z6:=cg.place Z3;let Z7:=c6 (Z0-1);let Z8:Bool:=dH Z7 Z1;let Z9:cg:=List.getD l Z7.toNat Z2;let db:mL:=some ((X.normal,[(0,D.sl b9.line k l),(1,cj p),(2,cj c),(6,D.bool false),(7,cj (c6 (Z0+1)))]),[]);let dB:mL:=bif decide ((0:Int)<Z0)then b7 Z8 (bif Z4 !=c6 (cg.offset Z9+1)then Z5 else b7 Z8 (bif decide (Z6<cg.place Z9)then Z5 else b7 Z8 (bif Z6==cg.place Z9 then b7 Z8 (bif decide (cg.j Z3<=cg.j Z9)then Z5 else db)else db)))else db;b7 (Qd l.length) (bif decide (Z0<Z1)then b7 (dH Z0 Z1) (bif decide (Z4<0)then Z5 else bif decide ((4194304:Int)<=Z4)then Z5 else bif decide (Z6<1)then Z5 else bif decide (p<Z6)then Z5 else bif decide (cg.j Z3<0)then Z5 else bif decide ((4:Int)<=cg.j Z3)then Z5 else bif decide (cg.key Z3<0)then Z5 else bif decide ((8:Int)<=cg.key Z3)then Z5 else bif decide (cg.value Z3<0)then Z5 else bif decide ((255:Int)<cg.value Z3)then Z5 else bif Z0==0 then bif decide (Z6<=c)then Z5 else dB else dB)else some ((X.exit 0,[(6,D.bool false)]),[]))):=by kernel_rfl
def JT(k:Bool)(l:bJ)(p c:Int)(i:Nat):RT RC:=.br (VK p c l i) (.leaf (.exit 0) [(6,.bool false)] []) (.leaf .ret [(6,.bool false)] [])
def JU(k:Bool)(l:bJ)(p c:Int)(i:Nat):Prop:=i<=l.length/\l.length<=9223372036854775807
def YQ:QD RC QjB where
 k:=0
 cM q:=Ia q.k q.l q.p q.c q.i
 cK q:=Ib q.k q.l q.p q.c q.i
 fin q:=JT q.k q.l q.p q.c q.i
 Inv q:=JU q.k q.l q.p q.c q.i
 μ q:=q.l.length-q.i
theorem QjC k l p c i(hI:JU k l p c i):c8 (Qnz k l p c i) (dj YQ ⟨k,l,p,c,i⟩):=by
 (rw[QtE];delta b7 dH cj c6;conv=>zeta)
 unfold JU at hI;obtain⟨h1,h2⟩:=hI;have jo:=Qe h2
 by_cases cU:i<l.length
 ·have cP:=eG i (by omega)
  have eu:=ga (show i<l.length by omega)
  have et:=fL (show i<l.length by omega)
  have dh:=bw i
  have gU:IntKind.i64.wrap ((i:Int)-1)=(i:Int)-1:=cC (by omega) (by omega);have gT:((i:Int)-1).toNat=i-1:=by omega
  simp only[cP,eu,et,dh,gU,gT,ag];simp only[jo,ag];have dV:=Yz (YN p) YA l i (⟨0,0,0,0,0⟩:cg) cU;have fg:l.isEmpty=false:=by cases l<;>simp at cU ⊢
  have hz:VK p c l i=((decide (i≠0)||decide (c<(l.getD i ⟨0,0,0,0,0⟩).place))&&QN (YN p) YA l i):=by
   unfold VK
   by_cases hi:i=0
   ·subst hi;simp[fg]
   ·simp[hi]
  have hn:VK p c l (i+1)=QN (YN p) YA l (i+1):=by simp[VK]
  rw[dV]at hz;generalize l.getD i (⟨0,0,0,0,0⟩:cg)=x at hz ⊢;generalize l.getD (i-1) (⟨0,0,0,0,0⟩:cg)=y at hz ⊢
  have fe:YN p x=true->(i≠0\/c<x.place)->(i=0\/YA y x=true)->c8 (some ((X.normal,Ia k l p c (i+1)),[])) (dj YQ ⟨k,l,p,c,i⟩):=fun a b d=>
   Qi ⟨k,l,p,c,i+1⟩ ⟨cU,h2⟩ (by simp only[YQ];omega) (by
    have e1:(decide (i≠0)||decide (c<x.place))=true:=by simpa using b
    have e2:(decide (i=0)||YA y x)=true:=by simpa using d
    simp only[YQ,JT,hz,hn,a,e1,e2,Bool.true_and]) rfl rfl
  have gv:¬(YN p x=true/\(i≠0\/c<x.place)/\(i=0\/YA y x=true))->c8 (some ((X.ret,[(6,D.bool false)]),[])) (dj YQ ⟨k,l,p,c,i⟩):=fun he=>QW [] (by
   have:VK p c l i=false:=by
    rw[hz];cases hq:((decide (i≠0)||decide (c<x.place))&&(YN p x&&(decide (i=0)||YA y x)&&QN (YN p) YA l (i+1)))with
    |false=>rfl
    |true=>
     exfalso;simp only[ai,Bool.or_eq_true,aa]at hq;exact he ⟨hq.2.1.1,hq.1,hq.2.1.2⟩
   simp[YQ,JT,this,RT.val]) rfl
  simp only[YN,YA,Qm,ai,Bool.or_eq_true,aa,bi]at fe gv
  by_cases hi:i=0
  ·have d0:decide (0<(i:Int))=false:=by simp;omega
   simp only[d0,ah]
   repeat' (first|(refine ZO.2 ⟨fun oE=>?_,fun oE=>?_⟩<;>simp only[aa,ae,bi,beq_eq_false_iff_ne,bne_iff_ne,ne_eq,Bool.not_eq_true,Bool.not_eq_false,bne_eq_false_iff_eq,decide_eq_decide,Bool.true_eq_false,bu]at oE))
   all_goals first|(exfalso;omega)|exact gv (by omega)|(apply fe<;>omega)
  ·have ke:decide (0<(i:Int))=true:=by simp;omega
   have kb:decide (0<=(i:Int)-1/\(i:Int)-1<l.length)=true:=by simp;omega
   simp only[ke,kb,ag];have i0:((i:Int)==0)=false:=by simp;omega
   simp only[i0,ah];generalize IntKind.i64.wrap (y.offset+1)=z at fe gv ⊢
   repeat' (first|(refine ZO.2 ⟨fun oE=>?_,fun oE=>?_⟩<;>simp only[aa,ae,bi,beq_eq_false_iff_ne,bne_iff_ne,ne_eq,Bool.not_eq_true,Bool.not_eq_false,bne_eq_false_iff_eq,decide_eq_decide,Bool.true_eq_false,bu]at oE))
   all_goals first|(exfalso;omega)|exact gv (by omega)|(apply fe<;>omega)
 ·have hi:i=l.length:=by omega
  have c1:decide ((i:Int)<l.length)=false:=by simp;omega
  simp only[jo,c1,ag,ah]
  have hq:VK p c l i=true:=by
   unfold VK;rw[HH _ _ _ _ (by omega)];cases l with
   |nil=>simp
   |cons _ _=>simp at hi ⊢;left;omega
  exact Qh [] (by simp[YQ,JT,hq,RT.val]) rfl
def Ox(env:bX)(os:bP):Option (Bool×QjB):=match env,os with
 |[(0,.sl .line k l),(1,.int .i64 p),(2,.int .i64 c),(6,.bool false),(7,.int .i64 x0)],[]=>some (decide (x0=0)&&decide (l.length<=9223372036854775807),⟨k,l,p,c,0⟩)
 |_,_=>none
def AK:=AJ.cJ 126 4 (ey cu [] [0,1,2,6,7] YQ Ox)
theorem QtF:Qk Tryz.prog cu AK:=by
 refine QtD.cq Qb (by kernel_rfl) YQ 60 [0,1,2,6,7] [6] [] [0,1,2,6,7] Ox (fun q hI=>?_) ?_
 ·obtain⟨k,l,p,c,i⟩:=q;refine⟨?_,?_,QjC k l p c i hI⟩
  ·simp_all[Qj,YQ,Ia,Ib,JU,D.refs,Obj.refs,cV]
  ·simp_all[YQ,JT,Ib,JU,RT.cT,Qj,D.refs,Obj.refs,cV]
 ·intro env os b q cN hb;unfold Ox at cN
  split at cN
  ·cases cN;simp only[ai,aa]at hb;obtain⟨rfl,hl⟩:=hb;exact⟨⟨aK _,hl⟩,rfl,rfl⟩
  ·cases cN
def Qgu:bW->bO
 |[.sl .line k l,.int .i64 p,.int .i64 c]=>some (Qd l.length,.bool (ZW p c l))
 |_=>none
def QjE(k:Bool)(l:bJ)(p c:Int):=eO cu AK 40 126 [.sl (C:=RC) .line k l,.int .i64 p,.int .i64 c]
theorem Qqw k l p c:QjE k l p c=(let Z0:=l.length;let Z1:fI:=some (D.bool false);b7 (Qd Z0) (bif decide ((16:Int)<(Z0:Int))then Z1 else bif decide (c<0)then Z1 else bif decide (p<c)then Z1 else b7 (decide (Z0<=9223372036854775807)) (bif VK p c l 0 then some (D.bool true)else Z1))):=by kernel_rfl
theorem Qqx k l p c(h:(Qd l.length)=true):QjE k l p c=some (.bool (ZW p c l)):=by
 (rw[Qqw];delta b7;conv=>zeta)
 have h2:l.length<=9223372036854775807:=VM h;rw[Qts,h]
 by_cases h4:l.length<=16
 ·have a1:¬(16:Int)<l.length:=by omega
  by_cases c0:c<0
  ·have:¬0<=c:=by omega
   simp[h4,h2,a1,c0,this]
  ·have c0':0<=c:=by omega
   by_cases cp:p<c
   ·have:¬c<=p:=by omega
    simp[h4,h2,a1,c0,c0',cp,this]
   ·have lh:c<=p:=by omega
    simp[h4,h2,a1,c0,c0',cp,lh];cases VK p c l 0<;>rfl
 ·have:(16:Int)<l.length:=by omega
  simp[h4,this]
def AL:=AK.b8 126 Qgu
theorem QtG:Qk Tryz.prog cu AL:=QtF.cQ Qb fun args d h=>by
 unfold Qgu at h
 split at h
 ·obtain⟨h1,rfl⟩:=ak h;exact⟨by simp[D.refs],40,Qqx _ _ _ _ h1⟩
 ·cases h
def Qgv:bW->bO
 |[.bI (.int .i64 p) (.bI (.sl .item ci items) (.bI (.bI (.sl .line k0 l0) (.bI (.sl .line k1 l1) (.bI (.sl .line k2 l2) .bN))) (.bI (.arr .int 3 [c0,c1,c2]) .bN)))]=>some (decide (items.length<=9223372036854775807/\l0.length<=9223372036854775807/\l1.length<=9223372036854775807/\l2.length<=9223372036854775807),.bool (Qu ⟨p,items,l0,l1,l2,c0,c1,c2⟩))
 |_=>none
def QjG(p:Int)(ci:Bool)(items:bM)(k0 k1 k2:Bool)(l0 l1 l2:bJ)(c0 c1 c2:Int):=eO cu AL 40 62 [.bI (.int .i64 p) (cL .item ci items (.bI (cL .line k0 l0 (cL .line k1 l1 (cL .line k2 l2 .bN))) (.bI (.arr (C:=RC) .int 3 [c0,c1,c2]) .bN)))]
theorem Qqy p ci items k0 k1 k2 l0 l1 l2 c0 c1 c2:QjG p ci items k0 k1 k2 l0 l1 l2 c0 c1 c2=(let Z0:fI:=some (D.bool false);bif decide (p<0)then Z0 else bif decide ((1048575:Int)<p)then Z0 else b7 (decide (items.length<=9223372036854775807)) (bif QN (Y5 p) VQ items 0 then b7 (Qd l0.length) (bif !ZW p c0 l0 then Z0 else b7 (Qd l1.length) (bif !ZW p c1 l1 then Z0 else b7 (Qd l2.length) (bif !ZW p c2 l2 then Z0 else some (D.bool true))))else Z0)):=by kernel_rfl
theorem Qqz p ci items k0 k1 k2 l0 l1 l2 c0 c1 c2(h:(decide (items.length<=9223372036854775807/\l0.length<=9223372036854775807/\l1.length<=9223372036854775807/\l2.length<=9223372036854775807))=true):QjG p ci items k0 k1 k2 l0 l1 l2 c0 c1 c2=some (.bool (Qu ⟨p,items,l0,l1,l2,c0,c1,c2⟩)):=by
 (rw[Qqy];delta b7;conv=>zeta)
 obtain⟨h,h0,h1,h2⟩:=af h;simp only[Qu,Qe h,Qe h0,Qe h1,Qe h2,h,aM,ag];have e1:decide (0<=p) = !decide (p<0):=by by_cases h:p<0<;>simp[h]<;>omega
 have e2:decide (p<=1048575) = !decide (1048575<p):=by by_cases h:1048575<p<;>simp[h]<;>omega
 simp only[Qm,e1,e2];generalize decide (p<0)=x1;generalize decide (1048575<p)=x2;generalize QN (Y5 p) VQ items 0=x3;generalize ZW p c0 l0=x4;generalize ZW p c1 l1=x5;generalize ZW p c2 l2=x6;cases x1<;>cases x2<;>cases x3<;>cases x4<;>cases x5<;>cases x6<;>rfl
def AM:=AL.b8 62 Qgv
theorem QtH:Qk Tryz.prog cu AM:=QtG.cQ Qb fun args d h=>by
 unfold Qgv at h
 split at h
 ·obtain⟨h1,rfl⟩:=ak h;exact⟨by simp[D.refs],40,Qqz _ _ _ _ _ _ _ _ _ _ _ _ h1⟩
 ·cases h
open Go.Proofs
structure WA where
 (c:Bool)(l:bJ)(d:Bool)(m:bJ)(i:Nat)
def Ng(c:Bool)(l:bJ)(d:Bool)(m:bJ)(i:Nat):bX:=[(0,.sl (C:=RC) .line c l),(1,.sl (C:=RC) .line d m),(4,.bool false),(5,.int .i64 (i:Int))]
def Jt(c:Bool)(l:bJ)(d:Bool)(m:bJ)(i:Nat):bP:=[]
def WN c l d m i:=dQ cu AM 50 4 40 0 [0,1,4,5] [4] [] (Ng c l d m i) (Jt c l d m i)
theorem QhY c l d m i:WN c l d m i=(let Z0:Int:=(i:Int);let Z1:cg:=cg.mk 0 0 0 0 0;let Z2:cg:=List.getD l Z0.toNat Z1;let Z3:cg:=List.getD m Z0.toNat Z1;b7 (Qd l.length) (bif decide (Z0<(l.length:Int))then b7 (dH Z0 (l.length:Int)) (b7 (dH Z0 (m.length:Int)) (bif !(cg.offset Z2==cg.offset Z3&&(cg.place Z2==cg.place Z3&&(cg.j Z2==cg.j Z3&&(cg.key Z2==cg.key Z3&&(cg.value Z2==cg.value Z3&&true)))))then some ((X.ret,[(4,D.bool false)]),[])else some ((X.normal,[(0,D.sl b9.line c l),(1,D.sl b9.line d m),(4,D.bool false),(5,cj (c6 (Z0+1)))]),[])))else some ((X.exit 0,[(4,D.bool false)]),[]))):=by kernel_rfl
def Yp(c:Bool)(l:bJ)(d:Bool)(m:bJ)(i:Nat):RT RC:=.br (decide (l.drop i=m.drop i)) (.leaf (.exit 0) [(4,.bool false)] []) (.leaf .ret [(4,.bool false)] [])
def Yq(c:Bool)(l:bJ)(d:Bool)(m:bJ)(i:Nat):Prop:=i<=l.length/\l.length<=9223372036854775807/\l.length=m.length
def ZA:QD RC WA where
 k:=0
 cM q:=Ng q.c q.l q.d q.m q.i
 cK q:=Jt q.c q.l q.d q.m q.i
 fin q:=Yp q.c q.l q.d q.m q.i
 Inv q:=Yq q.c q.l q.d q.m q.i
 μ q:=q.l.length-q.i
theorem QdU c l d m i(hI:Yq c l d m i):c8 (WN c l d m i) (dj ZA ⟨c,l,d,m,i⟩):=by
 (rw[QhY];delta b7 dH cj c6;conv=>zeta)
 unfold Yq at hI;obtain⟨h1,h2,h3⟩:=hI;have jo:=Qe h2
 by_cases cU:i<l.length
 ·have cP:=eG i (by omega)
  have eu:=ga (show i<l.length by omega)
  have et:=fL (show i<l.length by omega)
  have dh:=bw i
  simp only[cP,eu,et,dh,ag];have Sn:i<m.length:=by omega
  have sJ:decide (0<=(i:Int)/\(i:Int)<m.length)=true:=by simp;omega
  have dV:=Qgs l m i (⟨0,0,0,0,0⟩:cg) cU h3;simp only[sJ,ag,jo,QHH];generalize l.getD i (⟨0,0,0,0,0⟩:cg)=x at dV ⊢;generalize m.getD i (⟨0,0,0,0,0⟩:cg)=y at dV ⊢
  by_cases tF:x=y
  ·simp only[tF,aM,bg,ah];exact Qi ⟨c,l,d,m,i+1⟩ ⟨cU,h2,h3⟩ (by simp only[ZA];omega) (by simp only[ZA,Yp,dV,tF,aM,Bool.true_and]) rfl rfl
  ·simp only[tF,aW,bh,ag];exact QW [] (by simp[ZA,Yp,dV,tF,RT.val]) rfl
 ·have hi:i=l.length:=by omega
  have c1:decide ((i:Int)<l.length)=false:=by simp;omega
  simp only[jo,ag,c1,ah];exact Qh [] (by simp only[ZA,Yp,Qjt l m i (by omega) (by omega),RT.val,ag]) rfl
def Nh(env:bX)(os:bP):Option (Bool×WA):=match env,os with
 |[(0,.sl .line c l),(1,.sl .line d m),(4,.bool false),(5,.int .i64 x0)],[]=>some (decide (x0=0)&&decide (l.length<=9223372036854775807/\l.length=m.length),⟨c,l,d,m,0⟩)
 |_,_=>none
def AN:=AM.cJ 50 4 (ey cu [] [0,1,4,5] ZA Nh)
theorem QtI:Qk Tryz.prog cu AN:=by
 refine QtH.cq Qb (by kernel_rfl) ZA 40 [0,1,4,5] [4] [] [0,1,4,5] Nh (fun q hI=>?_) ?_
 ·obtain⟨c,l,d,m,i⟩:=q;refine⟨?_,?_,QdU c l d m i hI⟩
  ·simp_all[Qj,ZA,Ng,Jt,Yq,D.refs,Obj.refs,cV]
  ·simp_all[ZA,Yp,Jt,Yq,RT.cT,Qj,D.refs,Obj.refs,cV]
 ·intro env os b q cN hb;unfold Nh at cN
  split at cN
  ·cases cN;simp only[ai,aa]at hb;obtain⟨rfl,hl⟩:=hb;exact⟨⟨aK _,hl.1,hl.2⟩,rfl,rfl⟩
  ·cases cN
def WG:bW->bO
 |[.sl .line c l,.sl .line d m]=>some (Qd l.length&&Qd m.length,.bool (decide (l=m)))
 |_=>none
def WB(c:Bool)(l:bJ)(d:Bool)(m:bJ):=eO cu AN 40 50 [.sl (C:=RC) .line c l,.sl (C:=RC) .line d m]
theorem Qf4 c l d m:WB c l d m=(let Z0:=l.length;let Z1:=m.length;b7 (Qd Z0) (b7 (Qd Z1) (bif (Z0:Int)!=(Z1:Int)then some (D.bool false)else b7 (decide (Z0<=9223372036854775807/\Z0=Z1)) (bif decide (List.drop 0 l=List.drop 0 m)then some (D.bool true)else some (D.bool false))))):=by kernel_rfl
theorem Qf5 c l d m(h:(Qd l.length&&Qd m.length)=true):WB c l d m=some (.bool (decide (l=m))):=by
 (rw[Qf4];delta b7;conv=>zeta)
 simp only[ai]at h;have h1:l.length<=9223372036854775807:=VM h.1;simp only[h.1,h.2,ag]
 by_cases hl:l.length=m.length
 ·have e1:((l.length:Int)!=(m.length:Int))=false:=by simp[hl]
  have e2:(l.length<=9223372036854775807/\l.length=m.length):=⟨h1,hl⟩;rw[e1,ab e2];simp only[ag,ah,bG];cases decide (l=m)<;>rfl
 ·have e1:((l.length:Int)!=(m.length:Int))=true:=by simp;omega
  have:¬l=m:=fun e=>hl (by rw[e]);simp[e1,this]
def AO:=AN.b8 50 WG
theorem QtJ:Qk Tryz.prog cu AO:=QtI.cQ Qb fun args d h=>by
 unfold WG at h
 split at h
 ·obtain⟨h1,rfl⟩:=ak h;exact⟨by simp[D.refs],40,Qf5 _ _ _ _ h1⟩
 ·cases h
structure W6 where
 (p:Int)(ci:Bool)(items:bM)(k0 k1 k2:Bool)(l0 l1 l2:bJ)(c0 c1 c2 q:Int)(di:Bool)(cS:bM)(j0 j1 j2:Bool)(m0 m1 m2:bJ)(d0 d1 d2:Int)(i:Nat)
def Ny(p:Int)(ci:Bool)(items:bM)(k0 k1 k2:Bool)(l0 l1 l2:bJ)(c0 c1 c2 q:Int)(di:Bool)(cS:bM)(j0 j1 j2:Bool)(m0 m1 m2:bJ)(d0 d1 d2:Int)(i:Nat):bX:=[(2,.ptr 0 []),(3,.ptr 1 []),(4,.bool false),(5,.int .i64 (i:Int))]
def Yg(p:Int)(ci:Bool)(items:bM)(k0 k1 k2:Bool)(l0 l1 l2:bJ)(c0 c1 c2 q:Int)(di:Bool)(cS:bM)(j0 j1 j2:Bool)(m0 m1 m2:bJ)(d0 d1 d2:Int)(i:Nat):bP:=[.var 34 (cH p (cL .item ci items (.bI (cL .line k0 l0 (cL .line k1 l1 (cL .line k2 l2 .bN))) (.bI (.arr (C:=RC) .int 3 [c0,c1,c2]) .bN)))),.var 34 (cH q (cL .item di cS (.bI (cL .line j0 m0 (cL .line j1 m1 (cL .line j2 m2 .bN))) (.bI (.arr (C:=RC) .int 3 [d0,d1,d2]) .bN))))]
def Qgw p ci items k0 k1 k2 l0 l1 l2 c0 c1 c2 q di cS j0 j1 j2 m0 m1 m2 d0 d1 d2 i:=dQ cu AO 15 4 40 2 [2,3,4,5] [4] [.slot 2 0,.slot 3 0] (Ny p ci items k0 k1 k2 l0 l1 l2 c0 c1 c2 q di cS j0 j1 j2 m0 m1 m2 d0 d1 d2 i) (Yg p ci items k0 k1 k2 l0 l1 l2 c0 c1 c2 q di cS j0 j1 j2 m0 m1 m2 d0 d1 d2 i)
theorem QlW p ci items k0 k1 k2 l0 l1 l2 c0 c1 c2 q di cS j0 j1 j2 m0 m1 m2 d0 d1 d2 i:Qgw p ci items k0 k1 k2 l0 l1 l2 c0 c1 c2 q di cS j0 j1 j2 m0 m1 m2 d0 d1 d2 i=(let Z0:Int:=(i:Int);let Z1:Item:=Item.mk 0 0 0;let Z2:Item:=List.getD items Z0.toNat Z1;let Z3:Item:=List.getD cS Z0.toNat Z1;let Z4:cb:=[some (Obj.var 34 (.bI (cj p) (.bI (D.sl b9.item ci items) (.bI (D.bI (D.sl b9.line k0 l0) (.bI (D.sl b9.line k1 l1) (.bI (D.sl b9.line k2 l2) .bN))) (.bI (D.arr b9.int 3 [c0,c1,c2]) .bN))))),some (Obj.var 34 (.bI (cj q) (.bI (D.sl b9.item di cS) (.bI (D.bI (D.sl b9.line j0 m0) (.bI (D.sl b9.line j1 m1) (.bI (D.sl b9.line j2 m2) .bN))) (.bI (D.arr b9.int 3 [d0,d1,d2]) .bN)))))];b7 (Qd items.length) (bif decide (Z0<(items.length:Int))then b7 (dH Z0 (items.length:Int)) (b7 (dH Z0 (cS.length:Int)) (bif !(Item.key Z2==Item.key Z3&&(Item.place Z2==Item.place Z3&&(Item.value Z2==Item.value Z3&&true)))then some ((X.ret,[(4,D.bool false)]),Z4)else some ((X.normal,[(2,D.ptr 0 []),(3,D.ptr 1 []),(4,D.bool false),(5,cj (c6 (Z0+1)))]),Z4)))else some ((X.exit 0,[(4,D.bool false)]),Z4))):=by kernel_rfl
def VB(p:Int)(ci:Bool)(items:bM)(k0 k1 k2:Bool)(l0 l1 l2:bJ)(c0 c1 c2 q:Int)(di:Bool)(cS:bM)(j0 j1 j2:Bool)(m0 m1 m2:bJ)(d0 d1 d2:Int)(i:Nat):RT RC:=.br (decide (items.drop i=cS.drop i)) (.leaf (.exit 0) [(4,.bool false)] (Yg p ci items k0 k1 k2 l0 l1 l2 c0 c1 c2 q di cS j0 j1 j2 m0 m1 m2 d0 d1 d2 i)) (.leaf .ret [(4,.bool false)] (Yg p ci items k0 k1 k2 l0 l1 l2 c0 c1 c2 q di cS j0 j1 j2 m0 m1 m2 d0 d1 d2 i))
def VC(p:Int)(ci:Bool)(items:bM)(k0 k1 k2:Bool)(l0 l1 l2:bJ)(c0 c1 c2 q:Int)(di:Bool)(cS:bM)(j0 j1 j2:Bool)(m0 m1 m2:bJ)(d0 d1 d2:Int)(i:Nat):Prop:=i<=items.length/\items.length<=9223372036854775807/\items.length=cS.length
def Yh:QD RC W6 where
 k:=2
 cM q:=Ny q.p q.ci q.items q.k0 q.k1 q.k2 q.l0 q.l1 q.l2 q.c0 q.c1 q.c2 q.q q.di q.cS q.j0 q.j1 q.j2 q.m0 q.m1 q.m2 q.d0 q.d1 q.d2 q.i
 cK q:=Yg q.p q.ci q.items q.k0 q.k1 q.k2 q.l0 q.l1 q.l2 q.c0 q.c1 q.c2 q.q q.di q.cS q.j0 q.j1 q.j2 q.m0 q.m1 q.m2 q.d0 q.d1 q.d2 q.i
 fin q:=VB q.p q.ci q.items q.k0 q.k1 q.k2 q.l0 q.l1 q.l2 q.c0 q.c1 q.c2 q.q q.di q.cS q.j0 q.j1 q.j2 q.m0 q.m1 q.m2 q.d0 q.d1 q.d2 q.i
 Inv q:=VC q.p q.ci q.items q.k0 q.k1 q.k2 q.l0 q.l1 q.l2 q.c0 q.c1 q.c2 q.q q.di q.cS q.j0 q.j1 q.j2 q.m0 q.m1 q.m2 q.d0 q.d1 q.d2 q.i
 μ q:=q.items.length-q.i
theorem Qf6 p ci items k0 k1 k2 l0 l1 l2 c0 c1 c2 q di cS j0 j1 j2 m0 m1 m2 d0 d1 d2 i(hI:VC p ci items k0 k1 k2 l0 l1 l2 c0 c1 c2 q di cS j0 j1 j2 m0 m1 m2 d0 d1 d2 i):c8 (Qgw p ci items k0 k1 k2 l0 l1 l2 c0 c1 c2 q di cS j0 j1 j2 m0 m1 m2 d0 d1 d2 i) (dj Yh ⟨p,ci,items,k0,k1,k2,l0,l1,l2,c0,c1,c2,q,di,cS,j0,j1,j2,m0,m1,m2,d0,d1,d2,i⟩):=by
 (rw[QlW];delta b7 dH cj c6;conv=>zeta)
 unfold VC at hI;obtain⟨h1,h2,h3⟩:=hI;have jo:=Qe h2
 by_cases cU:i<items.length
 ·have cP:=eG i (by omega)
  have eu:=ga (show i<items.length by omega)
  have et:=fL (show i<items.length by omega)
  have dh:=bw i
  simp only[cP,eu,et,dh,ag];have Sn:i<cS.length:=by omega
  have sJ:decide (0<=(i:Int)/\(i:Int)<cS.length)=true:=by simp;omega
  have dV:=Qgs items cS i (⟨0,0,0⟩:Item) cU h3;simp only[sJ,ag,jo,QHG];generalize items.getD i (⟨0,0,0⟩:Item)=x at dV ⊢;generalize cS.getD i (⟨0,0,0⟩:Item)=w at dV ⊢
  by_cases tF:x=w
  ·simp only[tF,aM,bg,ah];exact Qi ⟨p,ci,items,k0,k1,k2,l0,l1,l2,c0,c1,c2,q,di,cS,j0,j1,j2,m0,m1,m2,d0,d1,d2,i+1⟩ ⟨cU,h2,h3⟩ (by simp only[Yh];omega) (by simp only[Yh,VB,Yg,dV,tF,aM,Bool.true_and]) rfl rfl
  ·simp only[tF,aW,bh,ag];exact QW (Yg p ci items k0 k1 k2 l0 l1 l2 c0 c1 c2 q di cS j0 j1 j2 m0 m1 m2 d0 d1 d2 i) (by simp[Yh,VB,dV,tF,RT.val]) rfl
 ·have hi:i=items.length:=by omega
  have c1:decide ((i:Int)<items.length)=false:=by simp;omega
  simp only[jo,ag,c1,ah];exact Qh (Yg p ci items k0 k1 k2 l0 l1 l2 c0 _ c2 q di cS j0 j1 j2 m0 m1 m2 d0 d1 d2 i) (by simp only[Yh,VB,Qjt items cS i (by omega) (by omega),RT.val,ag]) rfl
def Nz(env:bX)(os:bP):Option (Bool×W6):=match env,os with
 |[(2,.ptr 0 []),(3,.ptr 1 []),(4,.bool false),(5,.int .i64 x0)],[.var 34 (.bI (.int .i64 p) (.bI (.sl .item ci items) (.bI (.bI (.sl .line k0 l0) (.bI (.sl .line k1 l1) (.bI (.sl .line k2 l2) .bN))) (.bI (.arr .int 3 [c0,c1,c2]) .bN)))),.var 34 (.bI (.int .i64 q) (.bI (.sl .item di cS) (.bI (.bI (.sl .line j0 m0) (.bI (.sl .line j1 m1) (.bI (.sl .line j2 m2) .bN))) (.bI (.arr .int 3 [d0,d1,d2]) .bN))))]=>some (decide (x0=0)&&decide (items.length<=9223372036854775807/\items.length=cS.length),⟨p,ci,items,k0,k1,k2,l0,l1,l2,c0,c1,c2,q,di,cS,j0,j1,j2,m0,m1,m2,d0,d1,d2,0⟩)
 |_,_=>none
def AP:=AO.cJ 15 4 (ey cu [.slot 2 0,.slot 3 0] [2,3,4,5] Yh Nz)
theorem QtK:Qk Tryz.prog cu AP:=by
 refine QtJ.cq Qb (by kernel_rfl) Yh 40 [2,3,4,5] [4] [.slot 2 0,.slot 3 0] [2,3,4,5] Nz (fun q hI=>?_) ?_
 ·obtain⟨p,ci,items,k0,k1,k2,l0,l1,l2,c0,c1,c2,q,di,cS,j0,j1,j2,m0,m1,m2,d0,d1,d2,i⟩:=q;refine⟨?_,?_,Qf6 p ci items k0 k1 k2 l0 l1 l2 c0 c1 c2 q di cS j0 j1 j2 m0 m1 m2 d0 d1 d2 i hI⟩
  ·simp_all[Qj,Yh,Ny,Yg,VC,D.refs,Obj.refs,cV]
  ·simp_all[Yh,VB,Yg,VC,RT.cT,Qj,D.refs,Obj.refs,cV]
 ·intro env os b q cN hb;unfold Nz at cN
  split at cN
  ·cases cN;simp only[ai,aa]at hb;obtain⟨rfl,hl⟩:=hb;exact⟨⟨aK _,hl.1,hl.2⟩,rfl,rfl⟩
  ·cases cN
def Qgx:bW->bO
 |[.bI (.int .i64 p) (.bI (.sl .item ci items) (.bI (.bI (.sl .line k0 l0) (.bI (.sl .line k1 l1) (.bI (.sl .line k2 l2) .bN))) (.bI (.arr .int 3 [c0,c1,c2]) .bN))),.bI (.int .i64 q) (.bI (.sl .item di cS) (.bI (.bI (.sl .line j0 m0) (.bI (.sl .line j1 m1) (.bI (.sl .line j2 m2) .bN))) (.bI (.arr .int 3 [d0,d1,d2]) .bN)))]=>some (Qd items.length&&Qd cS.length&&(Qd l0.length&&Qd m0.length)&&(Qd l1.length&&Qd m1.length)&&(Qd l2.length&&Qd m2.length),.bool (decide ((⟨p,items,l0,l1,l2,c0,c1,c2⟩:St)=⟨q,cS,m0,m1,m2,d0,d1,d2⟩)))
 |_=>none
def QjI(p:Int)(ci:Bool)(items:bM)(k0 k1 k2:Bool)(l0 l1 l2:bJ)(c0 c1 c2 q:Int)(di:Bool)(cS:bM)(j0 j1 j2:Bool)(m0 m1 m2:bJ)(d0 d1 d2:Int):=eO cu AP 40 15 [.bI (.int .i64 p) (cL .item ci items (.bI (cL .line k0 l0 (cL .line k1 l1 (cL .line k2 l2 .bN))) (.bI (.arr (C:=RC) .int 3 [c0,c1,c2]) .bN))),.bI (.int .i64 q) (cL .item di cS (.bI (cL .line j0 m0 (cL .line j1 m1 (cL .line j2 m2 .bN))) (.bI (.arr (C:=RC) .int 3 [d0,d1,d2]) .bN)))]
theorem QqA p ci items k0 k1 k2 l0 l1 l2 c0 c1 c2 q di cS j0 j1 j2 m0 m1 m2 d0 d1 d2:QjI p ci items k0 k1 k2 l0 l1 l2 c0 c1 c2 q di cS j0 j1 j2 m0 m1 m2 d0 d1 d2=(let Z0:fI:=some (D.bool false);let Z1:=items.length;let Z2:=cS.length;bif p !=q then Z0 else bif !(c0==d0&&(c1==d1&&(c2==d2&&true)))then Z0 else b7 (Qd Z1) (b7 (Qd Z2) (bif (Z1:Int)!=(Z2:Int)then Z0 else b7 (decide (Z1<=9223372036854775807/\Z1=Z2)) (bif decide (List.drop 0 items=List.drop 0 cS)then b7 (Qd l0.length&&Qd m0.length) (bif !decide (l0=m0)then Z0 else b7 (Qd l1.length&&Qd m1.length) (bif !decide (l1=m1)then Z0 else b7 (Qd l2.length&&Qd m2.length) (bif !decide (l2=m2)then Z0 else some (D.bool true))))else Z0)))):=by kernel_rfl
theorem QqB p ci items k0 k1 k2 l0 l1 l2 c0 c1 c2 q di cS j0 j1 j2 m0 m1 m2 d0 d1 d2(h:(Qd items.length&&Qd cS.length&&(Qd l0.length&&Qd m0.length)&&(Qd l1.length&&Qd m1.length)&&(Qd l2.length&&Qd m2.length))=true):QjI p ci items k0 k1 k2 l0 l1 l2 c0 c1 c2 q di cS j0 j1 j2 m0 m1 m2 d0 d1 d2=some (.bool (decide ((⟨p,items,l0,l1,l2,c0,c1,c2⟩:St)=⟨q,cS,m0,m1,m2,d0,d1,d2⟩))):=by
 (rw[QqA];delta b7;conv=>zeta)
 simp only[ai]at h;obtain⟨⟨⟨⟨a1,a2⟩,b1,b2⟩,b3,b4⟩,b5,b6⟩:=h;have hl:=VM a1;simp only[a1,a2,b1,b2,b3,b4,b5,b6,Bool.and_true,ag]
 by_cases h0:items.length=cS.length
 ·have e1:((items.length:Int)!=(cS.length:Int))=false:=by simp[h0]
  have e2:(items.length<=9223372036854775807/\items.length=cS.length):=⟨hl,h0⟩;rw[e1,ab e2]
  by_cases h1:l0=m0<;>by_cases h2:l1=m1<;>by_cases h3:l2=m2<;>by_cases h4:p=q<;>by_cases h5:c0=d0<;>by_cases h6:c1=d1<;>by_cases h7:c2=d2<;>by_cases h8:items=cS<;>simp[h1,h2,h3,h4,h5,h6,h7,h8,bne,FG]
 ·have e1:((items.length:Int)!=(cS.length:Int))=true:=by simp;omega
  have h8:¬items=cS:=fun e=>h0 (by rw[e]);rw[e1]
  by_cases h4:p=q<;>by_cases h5:c0=d0<;>by_cases h6:c1=d1<;>by_cases h7:c2=d2<;>simp[h4,h5,h6,h7,h8,bne,FG]
def AQ:=AP.b8 15 Qgx
theorem QtL:Qk Tryz.prog cu AQ:=QtK.cQ Qb fun args d h=>by
 unfold Qgx at h
 split at h
 ·obtain⟨h1,rfl⟩:=ak h;exact⟨by simp[D.refs],40,QqB _ _ _ _ _ _ _ _ _ _ _ _ _ _ _ _ _ _ _ _ _ _ _ _ h1⟩
 ·cases h
structure Rd where
 (c:Bool)(b:bL)(bad:Bool)
def cY(w:Nat)(r:Rd):Int×Rd:=if w<=r.b.length then((cI (r.b.take w):Int),⟨r.c,r.b.drop w,r.bad⟩)else(0,⟨true,[],true⟩)
def Ya:Nat->Rd->Rd×ca
 |0,r=>(r,[])
 |n+1,r=>
  let k:=cY 1 r
  let v:=cY 1 k.2
  let q:=Ya n v.2
  (q.1,⟨k.1,v.1⟩::q.2)
theorem Q3{w:Nat}{c bad:Bool}{b:bL}(h:w<=b.length):cY w ⟨c,b,bad⟩=((cI (b.take w):Int),⟨c,b.drop w,bad⟩):=by simp[cY,h]
theorem Ze{w:Nat}{c bad:Bool}{b:bL}(h:b.length<w):cY w ⟨c,b,bad⟩=(0,⟨true,[],true⟩):=by simp[cY,Nat.not_le.2 h]
theorem Yr(b:bL):((dT b 0 1).2 !=0)=decide (b.length<1):=by
 by_cases h:b.length<1
 ·have:¬((1:Int)<=b.length):=by omega
  simp only[dT,h];simp[this]
 ·have:((1:Int)<=b.length):=by omega
  simp only[dT,h];simp[this]
theorem YR(b:bL):((dT b 0 3).2 !=0)=decide (b.length<3):=by
 by_cases h:b.length<3
 ·have:¬((3:Int)<=b.length):=by omega
  simp only[dT,h];simp[this]
 ·have:((3:Int)<=b.length):=by omega
  simp only[dT,h];simp[this]
theorem Zk{b:bL}(h:¬b.length<1):(dT b 0 1).1=(cI (b.take 1):Int):=by
 have:((1:Int)<=b.length):=by omega
 simp only[dT];simp[this]
theorem ZP{b:bL}(h:¬b.length<3):(dT b 0 3).1=(cI (b.take 3):Int):=by
 have:((3:Int)<=b.length):=by omega
 simp only[dT];simp[this]
theorem YC{b:bL}(h:1<=b.length):cI (b.take 1)=(b.getD 0 0).toNat:=by
 cases b with
 |nil=>simp at h
 |cons x t=>simp[cI]
def JV:Nat->bL->ca
 |0,_=>[]
 |n+1,b=>⟨(b.getD 0 0).toNat,(b.getD 1 0).toNat⟩::JV n (b.drop 2)
theorem Qgy:∀(n:Nat) (c:Bool) (b:bL) (bad:Bool),2*n<=b.length->Ya n ⟨c,b,bad⟩=(⟨c,b.drop (2*n),bad⟩,JV n b)
 |0,c,b,bad,_=>by simp[Ya,JV]
 |n+1,c,b,bad,h=>by
  have h1:1<=b.length:=by omega
  have h2:1<=(b.drop 1).length:=by simp;omega
  have h3:=Qgy n c ((b.drop 1).drop 1) bad (by simp;omega);have e:(b.drop 1).getD 0 0=b.getD 1 0:=by simp[List.getElem?_drop]
  have e2:((b.drop 1).drop 1).drop (2*n)=b.drop (2*(n+1)):=by rw[bD,bD];congr 1;omega
  have e3:(b.drop 1).drop 1=b.drop 2:=by rw[bD]
  simp only[Ya,Q3 h1,Q3 h2,h3,YC h1,YC h2,e,JV,e2];rw[e3]
theorem Ic{w:Nat}{r:Rd}(h:r.bad=true):(cY w r).2.bad=true:=by
 unfold cY;split<;>simp[h]
theorem Ni:∀(n:Nat) (r:Rd),r.bad=true->(Ya n r).1.bad=true
 |0,r,h=>h
 |n+1,r,h=>Ni n _ (Ic (Ic h))
theorem WC:∀(n:Nat) (c:Bool) (b:bL) (bad:Bool),b.length<2*n->(Ya n ⟨c,b,bad⟩).1.bad=true
 |0,c,b,bad,h=>by omega
 |n+1,c,b,bad,h=>by
  simp only[Ya]
  by_cases h1:b.length<1
  ·rw[Ze h1];exact Ni n _ (Ic rfl)
  ·rw[Q3 (show 1<=b.length by omega)]
   by_cases h2:(b.drop 1).length<1
   ·simp only[Ze h2];exact Ni n _ rfl
   ·simp only[Q3 (show 1<=(b.drop 1).length by omega)];exact WC n _ _ _ (by simp at h2 ⊢;omega)
theorem Qgz:∀(n:Nat) (b:bL),(JV n b).length=n
 |0,_=>rfl
 |n+1,b=>by simp[JV,Qgz n]
def Yb(b:bL):gi :=
 if 5<=b.length/\(b.getD 3 0).toNat<=1/\b.length=5+2*(b.getD 4 0).toNat/\dW ⟨cI (b.take 3),(b.getD 3 0).toNat==1,JV (b.getD 4 0).toNat (b.drop 5)⟩=true then
  some ⟨cI (b.take 3),(b.getD 3 0).toNat==1,JV (b.getD 4 0).toNat (b.drop 5)⟩else none
def iT(o:gi):Rec:=o.getD ⟨0,false,[]⟩
def jz(w:Nat)(b:bL):gE:=if w<=b.length then some ((cI (b.take w):Int),b.drop w)else none
def wF:Nat->bL->Option (bM×bL)
 |0,b=>some ([],b)
 |n+1,b=>(jz 1 b).bind fun k=>(jz 3 k.2).bind fun p=>(jz 1 p.2).bind fun v=>(wF n v.2).bind fun q=>some (⟨k.1,p.1,v.1⟩::q.1,q.2)
def CB:Nat->Int->bL->Option (bJ×bL)
 |0,_,b=>some ([],b)
 |n+1,o,b=>(jz 3 b).bind fun p=>(jz 1 p.2).bind fun x=>(jz 1 x.2).bind fun v=>(CB n (o+1) v.2).bind fun q=>some (⟨o,p.1,x.1%16,x.1/16,v.1⟩::q.1,q.2)
def rC(b:bL):Option ((Int×bJ)×bL):=
 (jz 3 b).bind fun c=>(jz 1 c.2).bind fun n=>(jz 3 n.2).bind fun f=>if n.1=0/\f.1≠0 then none else(CB n.1.toNat f.1 f.2).bind fun q=>some ((c.1,q.1),q.2)
def Zc(b:bL):Option St :=
 (jz 3 b).bind fun p=>(jz 1 p.2).bind fun n=>(wF n.1.toNat n.2).bind fun it=>(rC it.2).bind fun x=>(rC x.2).bind fun y=>(rC y.2).bind fun z=>
  if z.2=[]/\Qu ⟨p.1,it.1,x.1.2,y.1.2,z.1.2,x.1.1,y.1.1,z.1.1⟩=true then some ⟨p.1,it.1,x.1.2,y.1.2,z.1.2,x.1.1,y.1.1,z.1.1⟩else none
structure uE(σ:Type) where
 (get:Nat->σ->Int×σ)(bad:σ->Bool)(rem:σ->bL)
structure U5{σ:Type}(R:uE σ):Prop where
 ok:∀w s,1<=w->R.bad s=false->w<=(R.rem s).length->(R.get w s).1=(cI ((R.rem s).take w):Int)/\R.rem (R.get w s).2=(R.rem s).drop w/\R.bad (R.get w s).2=false
 no:∀w s,R.bad s=false->(R.rem s).length<w->R.bad (R.get w s).2=true
 stay:∀w s,R.bad s=true->R.bad (R.get w s).2=true
section
variable {σ:Type}(R:uE σ)
def wW{α:Type}(o:Option (α×bL))(v:α)(s:σ):Prop:=match o with
 |some q=>v=q.1/\R.rem s=q.2/\R.bad s=false
 |none=>R.bad s=true
variable {R}(K:U5 R)
include K
theorem Yc(w:Nat)(s:σ)(h:R.bad s=false)(h1:1<=w:=by decide):wW R (jz w (R.rem s)) (R.get w s).1 (R.get w s).2:=by
 unfold jz
 by_cases hw:w<=(R.rem s).length
 ·rw[ax hw];exact K.ok w s h1 h hw
 ·rw[aw hw];exact K.no w s h (by omega)
omit K in
theorem QU{α β:Type}{o:Option (α×bL)}{v:α}{s s':σ}{w:β}(f:α×bL->Option (β×bL))(h:wW R o v s)(hs:R.bad s=true->R.bad s'=true)(hf:R.bad s=false->wW R (f (v,R.rem s)) w s'):wW R (o.bind f) w s':=by
 cases o with
 |none=>exact hs h
 |some q=>
  obtain⟨h1,h2,h3⟩:=h;have:=hf h3;rw[h1,h2]at this;exact this
def Zl(R:uE σ)(stop:Bool):Nat->σ->σ×bM
 |0,s=>(s,[])
 |n+1,s=>bif stop&&R.bad s then(s,[])else
  let k:=R.get 1 s
  let p:=R.get 3 k.2
  let v:=R.get 1 p.2
  let q:=Zl R stop n v.2
  (q.1,⟨k.1,p.1,v.1⟩::q.2)
def QT(R:uE σ)(stop:Bool):Nat->Int->σ->σ×bJ
 |0,_,s=>(s,[])
 |n+1,o,s=>bif stop&&R.bad s then(s,[])else
  let p:=R.get 3 s
  let x:=R.get 1 p.2
  let v:=R.get 1 x.2
  let q:=QT R stop n (o+1) v.2
  (q.1,⟨o,p.1,x.1%16,x.1/16,v.1⟩::q.2)
theorem Y9(stop:Bool):∀(n:Nat) (s:σ),R.bad s=true->R.bad (Zl R stop n s).1=true
 |0,s,h=>h
 |n+1,s,h=>by
  cases stop with
  |true=>simp[Zl,h]
  |false=>
   simp only[Zl,Bool.false_and,ah];exact Y9 false n _ (K.stay _ _ (K.stay _ _ (K.stay _ _ h)))
theorem ZL(stop:Bool):∀(n:Nat) (o:Int) (s:σ),R.bad s=true->R.bad (QT R stop n o s).1=true
 |0,o,s,h=>h
 |n+1,o,s,h=>by
  cases stop with
  |true=>simp[QT,h]
  |false=>
   simp only[QT,Bool.false_and,ah];exact ZL false n _ _ (K.stay _ _ (K.stay _ _ (K.stay _ _ h)))
theorem WO(stop:Bool):∀(n:Nat) (s:σ),R.bad s=false->wW R (wF n (R.rem s)) (Zl R stop n s).2 (Zl R stop n s).1
 |0,s,h=>⟨rfl,rfl,h⟩
 |n+1,s,h=>by
  have e:Zl R stop (n+1) s=((Zl R stop n (R.get 1 (R.get 3 (R.get 1 s).2).2).2).1,⟨(R.get 1 s).1,(R.get 3 (R.get 1 s).2).1,(R.get 1 (R.get 3 (R.get 1 s).2).2).1⟩::(Zl R stop n (R.get 1 (R.get 3 (R.get 1 s).2).2).2).2):=by
   simp[Zl,h]
  rw[e,wF];refine QU _ (Yc K 1 s h) (fun hb=>Y9 K stop n _ (K.stay _ _ (K.stay _ _ hb))) fun h1=>?_;refine QU _ (Yc K 3 _ h1) (fun hb=>Y9 K stop n _ (K.stay _ _ hb)) fun h2=>?_;refine QU _ (Yc K 1 _ h2) (fun hb=>Y9 K stop n _ hb) fun h3=>?_;refine QU _ (WO stop n _ h3) (fun hb=>hb) fun h4=>?_;exact⟨rfl,rfl,h4⟩
theorem WQ(stop:Bool):∀(n:Nat) (o:Int) (s:σ),R.bad s=false->wW R (CB n o (R.rem s)) (QT R stop n o s).2 (QT R stop n o s).1
 |0,o,s,h=>⟨rfl,rfl,h⟩
 |n+1,o,s,h=>by
  have e:QT R stop (n+1) o s=((QT R stop n (o+1) (R.get 1 (R.get 1 (R.get 3 s).2).2).2).1,⟨o,(R.get 3 s).1,(R.get 1 (R.get 3 s).2).1%16,(R.get 1 (R.get 3 s).2).1/16,(R.get 1 (R.get 1 (R.get 3 s).2).2).1⟩::(QT R stop n (o+1) (R.get 1 (R.get 1 (R.get 3 s).2).2).2).2):=by
   simp[QT,h]
  rw[e,CB];refine QU _ (Yc K 3 s h) (fun hb=>ZL K stop n _ _ (K.stay _ _ (K.stay _ _ hb))) fun h1=>?_;refine QU _ (Yc K 1 _ h1) (fun hb=>ZL K stop n _ _ (K.stay _ _ hb)) fun h2=>?_;refine QU _ (Yc K 1 _ h2) (fun hb=>ZL K stop n _ _ hb) fun h3=>?_;refine QU _ (WQ stop n _ _ h3) (fun hb=>hb) fun h4=>?_;exact⟨rfl,rfl,h4⟩
def VD(R:uE σ)(stop:Bool)(mark:σ->σ)(s:σ):σ×Int×bJ :=
 let c:=R.get 3 s
 let n:=R.get 1 c.2
 let f:=R.get 3 n.2
 let q:=QT R stop n.1.toNat f.1 (bif n.1==0&&f.1 !=0 then mark f.2 else f.2)
 (q.1,c.1,q.2)
theorem QqC(stop:Bool)(mark:σ->σ)(hm:∀s,R.bad (mark s)=true)(s:σ)(h:R.bad s=true):R.bad (VD R stop mark s).1=true:=by
 unfold VD;refine ZL K stop _ _ _ ?_;cases ((R.get 1 (R.get 3 s).2).1==0&&(R.get 3 (R.get 1 (R.get 3 s).2).2).1 !=0)with
 |true=>exact hm _
 |false=>exact K.stay _ _ (K.stay _ _ (K.stay _ _ h))
theorem Nj(stop:Bool)(mark:σ->σ)(hm:∀s,R.bad (mark s)=true)(s:σ)(h:R.bad s=false):wW R (rC (R.rem s)) (VD R stop mark s).2 (VD R stop mark s).1:=by
 have st:∀x:σ,R.bad x=true->∀b:Bool,R.bad (bif b then mark x else x)=true:=fun x hx b=>by cases b;exact hx;exact hm x
 unfold rC VD;refine QU _ (Yc K 3 s h) (fun hb=>ZL K stop _ _ _ (st _ (K.stay _ _ (K.stay _ _ hb)) _)) fun h1=>?_;refine QU _ (Yc K 1 _ h1) (fun hb=>ZL K stop _ _ _ (st _ (K.stay _ _ hb) _)) fun h2=>?_;refine QU _ (Yc K 3 _ h2) (fun hb=>ZL K stop _ _ _ (st _ hb _)) fun h3=>?_
 by_cases hc:(R.get 1 (R.get 3 s).2).1=0/\(R.get 3 (R.get 1 (R.get 3 s).2).2).1≠0
 ·have e:((R.get 1 (R.get 3 s).2).1==0&&(R.get 3 (R.get 1 (R.get 3 s).2).2).1 !=0)=true:=by simp[hc.1,hc.2]
  simp only[ax hc,e,ag];exact ZL K stop _ _ _ (hm _)
 ·have e:((R.get 1 (R.get 3 s).2).1==0&&(R.get 3 (R.get 1 (R.get 3 s).2).2).1 !=0)=false:=by
   cases hq:((R.get 1 (R.get 3 s).2).1==0&&(R.get 3 (R.get 1 (R.get 3 s).2).2).1 !=0)with
   |false=>rfl
   |true=>simp only[ai,bi,bne_iff_ne,ne_eq]at hq;exact(hc hq).elim
  simp only[aw hc,e,ah];refine QU _ (WQ K stop _ _ _ h3) (fun hb=>hb) fun h4=>?_;exact⟨rfl,rfl,h4⟩
def uo(R:uE σ)(stop:Bool)(mark:σ->σ)(s:σ):σ×St :=
 let p:=R.get 3 s
 let n:=R.get 1 p.2
 let it:=Zl R stop n.1.toNat n.2
 let x:=VD R stop mark it.1
 let y:=VD R stop mark x.1
 let z:=VD R stop mark y.1
 (z.1,⟨p.1,it.2,x.2.2,y.2.2,z.2.2,x.2.1,y.2.1,z.2.1⟩)
def yb(b:bL):Option (St×bL):=
 (jz 3 b).bind fun p=>(jz 1 p.2).bind fun n=>(wF n.1.toNat n.2).bind fun it=>(rC it.2).bind fun x=>(rC x.2).bind fun y=>(rC y.2).bind fun z=>
  some (⟨p.1,it.1,x.1.2,y.1.2,z.1.2,x.1.1,y.1.1,z.1.1⟩,z.2)
theorem QjK(stop:Bool)(mark:σ->σ)(hm:∀s,R.bad (mark s)=true)(s:σ)(h:R.bad s=false):wW R (yb (R.rem s)) (uo R stop mark s).2 (uo R stop mark s).1:=by
 have ps:=QqC K stop mark hm;unfold yb uo;refine QU _ (Yc K 3 s h) (fun hb=>ps _ (ps _ (ps _ (Y9 K stop _ _ (K.stay _ _ hb))))) fun h1=>?_;refine QU _ (Yc K 1 _ h1) (fun hb=>ps _ (ps _ (ps _ (Y9 K stop _ _ hb)))) fun h2=>?_;refine QU _ (WO K stop _ _ h2) (fun hb=>ps _ (ps _ (ps _ hb))) fun h3=>?_;refine QU _ (Nj K stop mark hm _ h3) (fun hb=>ps _ (ps _ hb)) fun h4=>?_;refine QU _ (Nj K stop mark hm _ h4) (fun hb=>ps _ hb) fun h5=>?_;refine QU _ (Nj K stop mark hm _ h5) (fun hb=>hb) fun h6=>?_;exact⟨rfl,rfl,h6⟩
omit K in
theorem Oy b:Zc b=match yb b with
 |some q=>if q.2=[]/\Qu q.1=true then some q.1 else none
 |none=>none:=by
 unfold Zc yb;cases jz 3 b with
 |none=>rfl
 |some p=>
  simp only[Option.bind_some];cases jz 1 p.2 with
  |none=>rfl
  |some n=>
   simp only[Option.bind_some];cases wF n.1.toNat n.2 with
   |none=>rfl
   |some it=>
    simp only[Option.bind_some];cases rC it.2 with
    |none=>rfl
    |some x=>
     simp only[Option.bind_some];cases rC x.2 with
     |none=>rfl
     |some y=>
      simp only[Option.bind_some];cases rC y.2 with
      |none=>rfl
      |some z=>rfl
theorem QlX(stop:Bool)(mark:σ->σ)(hm:∀s,R.bad (mark s)=true)(s:σ)(h:R.bad s=false) :
 Zc (R.rem s)=if R.bad (uo R stop mark s).1=false/\R.rem (uo R stop mark s).1=[]/\Qu (uo R stop mark s).2=true then some (uo R stop mark s).2 else none:=by
 have:=QjK K stop mark hm s h;rw[Oy];cases hq:yb (R.rem s)with
 |none=>
  rw[hq]at this;have hb:R.bad (uo R stop mark s).1=true:=this;simp[hb]
 |some q=>
  rw[hq]at this;obtain⟨h1,h2,h3⟩:=this;rw[h1,h2,h3];simp
end
def fm:uE Rd:=⟨cY,Rd.bad,Rd.b⟩
theorem QHJ:U5 fm where
 ok w s h1 h hw:=by
  obtain⟨c,b,bad⟩:=s;simp only[fm]at h hw ⊢;subst h;rw[Q3 hw];exact⟨rfl,rfl,rfl⟩
 no w s h hw:=by
  obtain⟨c,b,bad⟩:=s;simp only[fm]at hw ⊢;rw[Ze hw]
 stay w s h:=Ic h
structure Rn where
 pos:Nat
 short:Bool
def dA{α:Type}(q k:Int)(l x:List α):List α:=if q=k then l++x else l
structure QS(σ:Type) where
 (r:σ)(l0 l1 l2:bJ)(c0 c1 c2:Int)
section
variable {σ:Type}(R:uE σ)(stop:Bool)(mark:σ->σ)
def Hn(s:QS σ):QS σ:={ s with r:=(VD R stop mark s.r).1,l0:=s.l0++(VD R stop mark s.r).2.2,c0:=(VD R stop mark s.r).2.1 }
def Fq(s:QS σ):QS σ:={ s with r:=(VD R stop mark s.r).1,l1:=s.l1++(VD R stop mark s.r).2.2,c1:=(VD R stop mark s.r).2.1 }
def CQ(s:QS σ):QS σ:={ s with r:=(VD R stop mark s.r).1,l2:=s.l2++(VD R stop mark s.r).2.2,c2:=(VD R stop mark s.r).2.1 }
def gC:Nat->QS σ->QS σ
 |0,s=>CQ R stop mark (Fq R stop mark (Hn R stop mark s))
 |1,s=>CQ R stop mark (Fq R stop mark s)
 |2,s=>CQ R stop mark s
 |_,s=>s
end
def ZC(r:Rd):Rd:=⟨r.c,r.b,true⟩
theorem Xw{σ:Type}(R:uE σ)(stop:Bool):∀(n:Nat) (o:Int) (s:σ),(QT R stop n o s).2.length<=n
 |0,_,_=>aq _
 |n+1,o,s=>by
  simp only[QT];cases stop&&R.bad s with
  |true=>simp
  |false=>have:=Xw R stop n (o+1) (R.get 1 (R.get 1 (R.get 3 s).2).2).2;simp;omega
theorem MP(m:Nat)(hm:m<2^63):bits .i64 (fun _ u v=>u&&&v) (m:Int) 15=(m:Int)%16:=by
 unfold bits
 have h1:∀x:Nat,x<2^64->(BitVec.ofInt IntKind.i64.bits (x:Int)).toNat=x:=by
  intro x hx;rw[BitVec.toNat_ofInt];simp only[IntKind.bits];omega
 have e:(15:Int)=((15:Nat):Int):=rfl;rw[e,BitVec.toNat_and,h1 _ (by omega),h1 _ (by omega)];have h2:m&&&15=m%16:=Nat.and_two_pow_sub_one_eq_mod m 4;rw[h2,cC (by omega) (by omega)];omega
theorem VE(k:Nat)(s:Rd):Zl fm false (k+1) s=((Zl fm false k (cY 1 (cY 3 (cY 1 s).2).2).2).1,⟨(cY 1 s).1,(cY 3 (cY 1 s).2).1,(cY 1 (cY 3 (cY 1 s).2).2).1⟩::(Zl fm false k (cY 1 (cY 3 (cY 1 s).2).2).2).2):=rfl
theorem Q0(k:Nat)(o:Int)(s:Rd):QT fm false (k+1) o s=((QT fm false k (o+1) (cY 1 (cY 1 (cY 3 s).2).2).2).1,⟨o,(cY 3 s).1,(cY 1 (cY 3 s).2).1%16,(cY 1 (cY 3 s).2).1/16,(cY 1 (cY 1 (cY 3 s).2).2).1⟩::(QT fm false k (o+1) (cY 1 (cY 1 (cY 3 s).2).2).2).2):=rfl
end Go.Ev
