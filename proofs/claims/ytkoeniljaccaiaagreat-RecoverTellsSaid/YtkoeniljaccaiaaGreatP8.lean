/-
  RecoverTells returns true for any disk, set-up and number, and they read behind the call as before. No condition beyond the given statement. (text 9)
-/
import Derived.Test.YtkoeniljaccaiaaGreatP7
import Derived.OpenShut
import Derived.ReadAgain
import Derived.WalkKit
import Derived.ProofKit
import Derived.Test.YtkoeniljaccaiaaGreatRows
noncomputable section
namespace Go.Ev
open Go.ChangeShapes Go.WideShapes Go.RowKit
set_option linter.unusedVariables false
set_option linter.unusedSimpArgs false
section
variable {C:ij}
def kP(gA:(t:C.Ty)->C.A t->Prop):D C->Prop
 |.int k n=>k.min<=n/\n<=k.max
 |.str s=>s.length<=maxLen
 |.bI d ds=>kP gA d/\kP gA ds
 |.arr t n l=>l.length=n/\∀x∈l,gA t x
 |.sl t _ l=>l.length<=maxLen/\∀x∈l,gA t x
 |_=>True
def iM(T:fA C):Nat->TypeId->Bool
 |0,_=>false
 |k+1,t=>match T.ty t with
  |.bool |.int _ |.str=>true
  |.struct _ fs=>fs.all (iM T k)
  |.arr _ e _=>iM T k e
  |.sl e _=>iM T k e
  |_=>false
structure CT(T:fA C)(gA:(t:C.Ty)->C.A t->Prop):Prop where
 dec:∀t d,cZ T d (.inl (T.dG t))=true->d.refs=[]->kP gA d->(∃k u,T.ty u=T.ty (T.dG t)/\iM T k u=true)->∃x,T.dec t d=some x/\gA t x
variable {P:Program}{T:fA C}{gA:(t:C.Ty)->C.A t->Prop}
def X0(W:World):Cx:=⟨W,fun _=>none,fun _ _=>False⟩
theorem QEa W(b o:Nat):(X0 W).free b o:=⟨fun h=>h,fun⟨_,_,h,_⟩=>by simp[X0]at h⟩
theorem Tk{X:Cx}(t:C.Ty)(sz:Nat):∀(n:Nat) (cs:bT),cs.length=n*sz->(∀i,i<n->∃x:C.A t,R T X false (T.enc t x) ((cs.drop (i*sz)).take sz)/\gA t x) ->
 ∃l:List (C.A t),R T X false (.arr t n l) cs/\l.length=n/\∀x∈l,gA t x
 |0,cs,hl,_=>by
  obtain rfl:cs=[]:=by simpa using hl
  exact⟨[],.iK _,rfl,by simp⟩
 |n+1,cs,hl,h=>by
  obtain⟨x,hx,gx⟩:=h 0 (by omega)
  obtain⟨l,hr,hn,gl⟩:=Tk t sz n (cs.drop sz) (by rw[bq,hl,Nat.succ_mul];omega) fun i hi=>by
   obtain⟨y,hy,gy⟩:=h (i+1) (by omega);refine⟨y,?_,gy⟩;rw[bD];rw[show sz+i*sz=(i+1)*sz by rw[Nat.succ_mul];omega];exact hy
  refine⟨x::l,?_,by simp[hn],by simpa using⟨gx,gl⟩⟩;have:=R.jz hx hr
  simpa using this
theorem FJ{W:World}(t:C.Ty)(b sz:Nat):∀(n off:Nat),(∀i,i<n->∃(x:C.A t) (ci:bT),R T (X0 W) false (T.enc t x) ci/\ci.length=sz/\(∀j,j<sz->W.cell? ⟨b,off+i*sz+j,none⟩=ci[j]?)/\gA t x) ->
 ∃(l:List (C.A t)) (cs:bT),R T (X0 W) false (.arr t n l) cs/\l.length=n/\(X0 W).at b off cs/\∀x∈l,gA t x
 |0,off,_=>⟨[],[],.iK _,rfl,fun j v h=>by simp at h,by simp⟩
 |n+1,off,h=>by
  obtain⟨x,ci,hx,dc,hc,gx⟩:=h 0 (by omega)
  obtain⟨l,cs,hr,hn,jq,gl⟩:=FJ t b sz n (off+sz) fun i hi=>by
   obtain⟨y,c2,hy,h2,h3,gy⟩:=h (i+1) (by omega);refine⟨y,c2,hy,h2,fun j hj=>?_,gy⟩;have:=h3 j hj
   rwa [show off+(i+1)*sz+j=off+sz+i*sz+j by rw[Nat.succ_mul];omega]at this
  refine⟨x::l,ci++cs,.jz hx hr,by simp[hn],fun j v hj=>⟨?_,QEa _ _ _⟩,by simpa using⟨gx,gl⟩⟩
  by_cases cY:j<ci.length
  ·rw[List.getElem?_append_left cY]at hj;have:=hc j (by omega);simp only[Nat.zero_mul,Nat.add_zero]at this;exact this.trans hj
  ·rw[List.getElem?_append_right (by omega)]at hj;have:=(jq _ _ hj).1
   rwa [show off+sz+(j-ci.length)=off+j by omega]at this
theorem ze{X:Cx}:∀(fs:cK) (cs:bT),(∀i f,fs[i]? = some f->∃d,R T X false d ((cs.drop (Zl T (fs.take i))).take (T.size f))/\cZ T d (.inl f)=true/\kP gA d/\d.refs=[]) ->
 ∃d,R T X false d (cs.take (Zl T fs))/\cZ T d (.inr fs)=true/\kP gA d/\d.refs=[]/\d.dA=true/\(∀t a,T.ty t=.struct a fs->cZ T d (.inl t)=true)
 |[],cs,_=>⟨.bN,by simpa[Zl]using R.bN,rfl,trivial,rfl,rfl,fun t a ht=>by simp[cZ,ht]⟩
 |f::fs,cs,h=>by
  obtain⟨d,hd,fd,gd,rd⟩:=h 0 f rfl
  obtain⟨ds,hr,fr,gr,rr,_,_⟩:=ze fs (cs.drop (T.size f)) fun i g hg=>by
   obtain⟨e,he,h2⟩:=h (i+1) g (by simpa using hg);refine⟨e,?_,h2⟩
   simpa[Zl,bD]using he
  refine⟨.bI d ds,?_,by simp[cZ,fd,fr],⟨gd,gr⟩,by simp[D.refs,rd,rr],rfl,fun t a ht=>by simp[cZ,ht,fd,fr]⟩;have:=R.bI hd hr
  simpa[Zl,List.take_add]using this
theorem ZP{t:TypeId}{i:TypeInfo}(h:P.info? t=some i):P.cellsOf t=i.size:=by
 simp[Program.cellsOf,h]
theorem QFq(K:Zq P T)(hd:CT T gA){H:Type}{enc:TypeId×Value->H}{W:World}:∀(k:Nat) (t:TypeId),iM T k t=true->∀(lZ:Nat) (cs:bT) (x:DataW H×List MemPlace),DataW.trod enc P W 0 (fun _=>true) true lZ t cs=some x ->
 ∃d,R T (X0 W) false d cs/\cZ T d (.inl t)=true/\kP gA d/\d.refs=[]:=by
 intro k
 induction k with
 |zero=>intro t h;simp[iM]at h
 |succ k ih=>
  intro t hp lZ cs x h;unfold iM at hp
  split at hp
  ·rename_i ht;obtain⟨b,rfl,_⟩:=DataW.trod_bool (K.ol t ht) h;exact⟨.bool b,.bool b,by simp[cZ,ht],trivial,rfl⟩
  ·rename_i kd ht;obtain⟨n,rfl,_,hw⟩:=DataW.trod_int (K.nG t kd ht) h;have hw':kd.min<=n/\n<=kd.max:=by simpa[Lit.wf]using hw
   exact⟨.int kd n,.int hw',by simp[cZ,ht],hw',rfl⟩
  ·rename_i ht;obtain⟨s,rfl,_,hs⟩:=DataW.trod_string (K.lv t ht) h;exact⟨.str s.data.toList,.str s.data.toList,by simp[cZ,ht],by simpa[kP]using hs,rfl⟩
  ·rename_i nX fs ht;cases nX with
   |true=>
    obtain⟨el,hu,rU,nj,inf,rW,qi⟩:=K.qC t fs ht;obtain⟨xs,m,_,_,dc,uk,yk⟩:=DataW.trod_array hu h
    have iQ:∀i f,fs[i]? = some f->f=el/\i<fs.length:=fun i f hf=>by
     have:=(av.1 hf).1;rw[rU,List.getElem?_replicate]at hf;simp at hf;exact⟨hf.2.symm,this⟩
    have yO:∀i,i<=fs.length->Zl T (fs.take i)=i*T.size el:=by
     intro i hi;rw[rU,List.take_replicate,Nat.min_eq_left hi];clear hi
     induction i with
     |zero=>simp[Zl]
     |succ i ih=>simp only[List.replicate_succ,Zl,ih];rw[Nat.succ_mul];omega
    obtain⟨d,hr,_,gd,rd,_,ln⟩:=ze (T:=T) (X:=X0 W) (gA:=gA) fs cs fun i f hf=>by
     obtain⟨rfl,hi⟩:=iQ i f hf;have:=yk i hi;rw[ZP rW,qi]at this;have hx:xs[i]? = some xs[i]:=by simp[uk,hi]
     rw[hx]at this;obtain⟨d,h1,h2,h3,h4⟩:=ih f (aX.1 hp _ (List.mem_of_getElem? hf)) m _ _ this;refine⟨d,?_,h2,h3,h4⟩;rw[yO i (by omega)];exact h1
    obtain⟨inf,rW,qi⟩:=K.vl t d (ln t _ ht);rw[ZP rW,qi,K.base.jN t _ fs ht]at dc;rw[<-dc,List.take_length]at hr;exact⟨d,hr,ln t _ ht,gd,rd⟩
   |false=>
    obtain⟨db,hu,rU,qk,_⟩:=K.kA t fs ht;obtain⟨xs,n,_,_,dc,uk,yk⟩:=DataW.trod_struct hu h
    obtain⟨d,hr,_,gd,rd,_,ln⟩:=ze (T:=T) (X:=X0 W) (gA:=gA) fs cs fun i f hf=>by
     rw[<-rU,bB]at hf;cases mT:db.toList[i]? with
     |none=>simp[mT]at hf
     |some yc=>
      simp only[mT,bC,aD]at hf;have Pe:db[i]? = some yc:=by rw[<-Array.getElem?_toList];exact mT
      have:=yk i yc Pe
      have hx:∃y,xs[i]? = some y:=by
       have:i<db.size:=(aI.1 Pe).1;exact⟨xs[i],by simp[uk,this]⟩
      obtain⟨y,hy⟩:=hx;rw[hy]at this;subst hf;have l7:yc.type∈fs:=by rw[<-rU];exact List.mem_map.2 ⟨yc,by exact List.mem_of_getElem? mT,rfl⟩
      obtain⟨d,h1,h2,h3,h4⟩:=ih yc.type (aX.1 hp _ l7) n _ _ this;obtain⟨inf,rW,qi,_⟩:=K.qB t fs yc.type ht l7;refine⟨d,?_,h2,h3,h4⟩;rw[qk i yc Pe,ZP rW,qi]at h1;exact h1
    obtain⟨inf,rW,qi⟩:=K.vl t d (ln t _ ht);rw[ZP rW,qi,K.base.jN t _ fs ht]at dc;rw[<-dc,List.take_length]at hr;exact⟨d,hr,ln t _ ht,gd,rd⟩
  ·rename_i n e ct ht;obtain⟨hu,_⟩:=K.nZ t n e ct ht;obtain⟨xs,m,_,_,dc,uk,yk⟩:=DataW.trod_array hu h;obtain⟨inf,z,rW,qi,_⟩:=K.ll t e ct (.inl ⟨n,ht⟩);obtain⟨it,hj1,kH⟩:=K.vl t (.arr ct n []) (by simp[cZ,ht]);obtain⟨lQ,lR,r5⟩:=K.base.lj t n e ct ht;rw[ZP hj1,kH,lQ]at dc
   obtain⟨l,hr,hn,gl⟩:=Tk (T:=T) (X:=X0 W) (gA:=gA) ct (T.size e) n cs dc fun i hi=>by
    have:=yk i hi;rw[ZP rW,qi]at this;have hx:xs[i]? = some xs[i]:=by simp[uk,hi]
    rw[hx]at this;obtain⟨d,h1,h2,h3,h4⟩:=ih e hp m _ _ this;obtain⟨x,h5,h6⟩:=hd.dec ct d (by rw[<-YG lR];exact h2) h4 h3 ⟨k,e,lR,hp⟩;exact⟨x,K.base.mH _ _ _ _ _ h5 h1,h6⟩
   exact⟨.arr ct n l,hr,by simp[cZ,ht],⟨hn,gl⟩,rfl⟩
  ·rename_i e ct ht;have hu:=K.oT t e ct ht;obtain⟨inf,z,rW,qi,_,_,nj,_⟩:=K.ll t e ct (.inr ht);obtain⟨lQ,lR,r5⟩:=K.base.mP t e ct ht;rcases DataW.trod_slice hu h with⟨rfl,_⟩|⟨a,len,cap,lf,rest,m,_,rfl,_,_,hlc,nJ,yk,he,sW,_⟩
   ·exact⟨.sl ct false [],.li _ _ _,by simp[cZ,ht],by simp[kP],rfl⟩
   ·by_cases Cw:cap=0
    ·subst Cw;obtain rfl:len=0:=by omega
     exact⟨.sl ct false [],.li _ _ _,by simp[cZ,ht],by simp[kP],rfl⟩
    ·have wQ:a.spot=none:=by
      have key:∀i y,i=0->(W.cells? 0 (a.add (i*P.cellsOf e)) (P.cellsOf e)).bind (DataW.trod enc P W 0 (fun _=>true) true m e)=some y->a.spot=none:=by
       intro i y rq hy;subst rq;rw[ZP rW,qi]at hy;cases oc:W.cells? 0 (a.add (0*T.size e)) (T.size e)with
       |none=>rw[oc]at hy;cases hy
       |some ci=>
        obtain⟨_,h2,h3⟩:=World.cells?_some oc;have h4:=h3 0 nj;have h5:ci[0]? = some ci[0]:=by simp
        rw[h5]at h4;have:=World.cell?_spot h4
        simpa[Addr.add]using this
      by_cases rX:0<len
      ·have:=he 0 rX;have hx:lf[0]? = some lf[0]:=by simp
       exact key 0 _ rfl (this.trans hx)
      ·have kK:=sW rfl;have:=kK.2 0 (by omega);have h0:0<rest.length:=by omega
       have hx:rest[0]? = some rest[0]:=by simp
       exact key _ _ (by omega) (this.trans hx)
     obtain⟨b,off,sp⟩:=a;simp only at wQ;subst wQ
     obtain⟨l,cs,hr,hn,jq,gl⟩:=FJ (T:=T) (W:=W) (gA:=gA) ct b (T.size e) len off fun i hi=>by
      have:=he i hi;have hx:lf[i]? = some lf[i]:=by simp[yk,hi]
      rw[hx,ZP rW,qi]at this;cases oc:W.cells? 0 ((⟨b,off,none⟩:Addr).add (i*T.size e)) (T.size e)with
      |none=>simp[oc]at this
      |some ci=>
       simp only[oc,Option.bind_some]at this;obtain⟨_,h2,h3⟩:=World.cells?_some oc;obtain⟨d,k1,k2,k3,k4⟩:=ih e hp m _ _ this;obtain⟨x,k5,k6⟩:=hd.dec ct d (by rw[<-YG lR];exact k2) k4 k3 ⟨k,e,lR,hp⟩;refine⟨x,ci,K.base.mH _ _ _ _ _ k5 k1,h2,fun j hj=>?_,k6⟩;have:=h3 j hj
       rwa [add_plain,add_plain]at this
     subst hn;exact⟨.sl ct false l,.sl jq hr hlc (by simp),by simp[cZ,ht],⟨by omega,gl⟩,rfl⟩
  ·cases hp
theorem Qqs(K:Zq P T){W:World}{r:Reach}{base:Nat}{t:TypeId}{v:Value}{d:D C}(hv:Value.okWide P W r base t v)(hp:∃k,iM T k t=true)(hf:cZ T d (.inl t)=true)(hr:R T (X0 W) false d v.cells.toList)(rZ:d.refs=[]):RV T (X0 W) d v:=by
 obtain⟨k,hp⟩:=hp;cases k with
 |zero=>simp[iM]at hp
 |succ k=>
  unfold iM at hp
  split at hp
  ·rename_i ht;obtain⟨b,rfl⟩:=okWide_bool (K.ol t ht) hv;refine .inr ⟨?_,by simpa[Value.cells]using hr⟩;cases d<;>simp[cZ,ht]at hf<;>rfl
  ·rename_i kd ht;obtain⟨b,rfl⟩:=okWide_int (K.nG t kd ht) hv;refine .inr ⟨?_,by simpa[Value.cells]using hr⟩;cases d<;>simp[cZ,ht]at hf<;>rfl
  ·rename_i ht;obtain⟨b,rfl⟩:=okWide_string (K.lv t ht) hv;refine .inr ⟨?_,by simpa[Value.cells]using hr⟩;cases d<;>simp[cZ,ht]at hf<;>rfl
  ·rename_i nX fs ht
   have:∃cs,v=.agg cs:=by
    cases nX with
    |false=>
     obtain⟨db,hu,_⟩:=K.kA t fs ht;obtain⟨cs,rfl,_⟩:=okWide_struct hu hv;exact⟨cs,rfl⟩
    |true=>
     obtain⟨el,hu,_⟩:=K.qC t fs ht;simp only[Value.okWide,hu]at hv;obtain⟨cs,rfl,_⟩:=hv;exact⟨cs,rfl⟩
   obtain⟨cs,rfl⟩:=this;refine .inl ⟨?_,cs.toList,by simpa[Value.cells]using hr,rfl⟩;cases d<;>simp[cZ,ht]at hf<;>rfl
  ·rename_i n e ct ht;obtain⟨hu,_⟩:=K.nZ t n e ct ht
   have:∃cs,v=.agg cs:=by
    simp only[Value.okWide,hu]at hv;obtain⟨cs,rfl,_⟩:=hv;exact⟨cs,rfl⟩
   obtain⟨cs,rfl⟩:=this;refine .inl ⟨?_,cs.toList,by simpa[Value.cells]using hr,rfl⟩;cases d<;>simp[cZ,ht]at hf<;>rfl
  ·rename_i e ct ht;obtain⟨a,len,cap,rfl⟩:=okWide_slice (K.oT t e ct ht) hv;refine .inr ⟨?_,by simpa[Value.cells]using hr⟩;cases d<;>simp[cZ,ht]at hf<;>rfl
  ·cases hp
inductive Fits(T:fA C)(gA:(t:C.Ty)->C.A t->Prop):cK->List (D C)->Prop
 |nil:Fits T gA [] []
 |cons {t:TypeId} {ts:cK} {d:D C} {ds:List (D C)} (hf:cZ T d (.inl t)=true) (hg:kP gA d) (hr:d.refs=[]) (h:Fits T gA ts ds):Fits T gA (t::ts) (d::ds)
theorem Fits.refs{ts:cK}{ds:List (D C)}(h:Fits T gA ts ds):∀a∈ds,D.refs a=[]:=by
 induction h with
 |nil=>simp
 |cons _ _ hr _ ih=>simpa using⟨hr,ih⟩
theorem W3(K:Zq P T)(hd:CT T gA){H:Type}{enc:TypeId×Value->H}{W:World}{r:Reach}{base:Nat}:∀(ts:cK) (vs:bT) (ds:List (DataW H)) (ps:List MemPlace),(∀t∈ts,∃k,iM T k t=true) ->
 (∀(j:Nat) t v,ts[j]? = some t->vs[j]? = some v->Value.okWide P W r base t v)->DataW.TrodAll enc P W 0 (fun _=>true) true ts vs ds ps->∃al,Fits T gA ts al/\iu T (X0 W) al vs
 |[],vs,ds,ps,_,_,h=>by
  obtain⟨rfl,rfl,rfl⟩:=trodAll_nil h;exact⟨[],.nil,.nil⟩
 |t::ts,vs,ds,ps,hp,hv,h=>by
  obtain⟨v,Iq,d,HY,p,q,rfl,rfl,rfl,⟨lZ,h1⟩,h2⟩:=trodAll_cons h;obtain⟨al,f1,r1⟩:=W3 K hd ts Iq HY q (fun t ht=>hp t (by simp[ht])) (fun j t v a b=>hv (j+1) t v (by simpa using a) (by simpa using b)) h2;obtain⟨k,hk⟩:=hp t (by simp);obtain⟨a,k1,k2,k3,k4⟩:=QFq K hd k t hk lZ _ _ h1;exact⟨a::al,.cons k2 k3 k4 f1,.cons (Qqs K (hv 0 t v rfl rfl) ⟨k,hk⟩ k2 k1 k4) r1⟩
theorem Tl(hl:laidOutB P=true){H:Type}{enc:TypeId×Value->H}{W W':World}{sp:Nat->Bool}:∀(ts:cK) (vs:bT) (ds:List (DataW H)) (ps:List MemPlace),(∀t∈ts,P.readableRec t=true/\t<P.types.size) ->
 DataW.TrodAll enc P W 0 (fun _=>true) true ts vs ds ps->(∀p∈ps,W.sameAt W' p)->(∀p∈ps,sp p.block=true)->DataW.TrodAll enc P W' 0 sp true ts vs ds ps
 |[],vs,ds,ps,_,h,_,_=>by
  obtain⟨rfl,rfl,rfl⟩:=trodAll_nil h;exact trodAll_mk0
 |t::ts,vs,ds,ps,ht,h,h3,h4=>by
  obtain⟨v,Iq,d,HY,p,q,rfl,rfl,rfl,h1,h2⟩:=trodAll_cons h
  exact trodAll_cons_mk (WideElems.Trod_stays hl (ht t (by simp)).1 (ht t (by simp)).2 h1 (fun x hx=>h3 x (by simp[hx])) (fun x hx=>h4 x (by simp[hx])))
   (Tl hl ts Iq HY q (fun t h=>ht t (by simp[h])) h2 (fun x hx=>h3 x (by simp[hx])) (fun x hx=>h4 x (by simp[hx])))
theorem QhF{H:Type}{enc:TypeId×Value->H}{f:Func}{s:ChangeSpec}{apart fresh handsOn again:Bool}{W W':World}{args:b7}{v:Value}{ds gs:List (DataW H)}{before pa pv:List MemPlace}
 (hW:DataW.Whole enc P f.params.toList s.vars apart W args.toList ds gs before)
 (kS:∀(b:Nat) (sp:Nat->Bool) (hd:Bool),DataW.TrodAll enc P W' b sp hd f.resultTypes.toList (v.resultList f.resultTypes.size) (s.fn H (ds++gs)).results [])
 (gY:∀sp:Nat->Bool,(∀p∈before,sp p.block=true)->DataW.TrodAll enc P W' 0 sp true f.params.toList args.toList (s.fn H (ds++gs)).args pa)
 (nq:∀sp:Nat->Bool,(∀p∈before,sp p.block=true)->DataW.TrodVars enc P W' sp s.vars (s.fn H (ds++gs)).vars pv)
 (CH:before=pa++pv) (hk:W.keptBut W' (· ∈ before)) (H8:∀a:Addr,a.block<W.heap.size->W'.frozen? a=W.frozen? a)
 (jk:∀(j:Nat) (t:TypeId) (r:Value),f.resultTypes[j]? = some t->(v.resultList f.resultTypes.size)[j]? = some r->Value.okWide P W' .any 0 t r) :
 s.post enc P f apart fresh handsOn again W args v W':=by
 have gD:∀p∈before,(fun b=>decide (b<W.heap.size)) p.block=true:=fun p hp=>by simpa using hW.lt p hp
 refine⟨ds,gs,before,[],pa,pv,hW,kS _ _ _,gY _ gD,nq _ gD,World.keptBut_mono (fun p hp=>⟨hp,?_⟩) hk,fun _=>?_⟩
 ·rw[CH,aT]at hp;exact Or.inr hp
 ·have cY:=hW.lt;obtain⟨_,_,_,_,_,hz,hn⟩:=hW;refine⟨jk,_,_,([]++pa)++pv,⟨[]++pa,pv,trodAll_append (gY _ (fun _ _=>rfl)) (kS _ _ _),nq _ (fun _ _=>rfl),rfl,?_,?_⟩,?_⟩
  ·intro b off hp;have hb:MemPlace.cell b off∈before:=by rw[CH];simpa using hp
   rw[H8 _ (by simpa[MemPlace.block]using cY _ hb)];exact hz b off hb
  ·intro ha;have:=hn ha;rw[CH]at this
   simpa using this
  ·intro p hp _;rw[CH]
   simpa using hp
theorem QjY(K:Zq P T){Φ:jv C}(F:Qj P T Φ)(hd:CT T gA)(hl:laidOutB P=true){f:FuncId}{fn:Func}{s:ChangeSpec}{tb:TypeId}{m:Nat}
 (kS:fn.resultTypes = #[tb]) (hb:P.underlying tb=some .bool) (nq:s.vars=[])
 (PQ:fn.params.toList.all (fun t=>iM T m t&&P.readableRec t&&Nat.blt t P.types.size)=true)
 (sX:∀(H:Type) (ds:List (DataW H)),ds.length=fn.params.toList.length->s.fn H ds={ results:=[.lit (.bool true)],args:=ds })
 (ym:∀ds:List (D C),Fits T gA fn.params.toList ds->∃n,eU T Φ n f ds=some (.bool true))
 (H:Type) (enc:TypeId×Value->H) (W:World) (base:Nat) (args:b7) (ds gs:List (DataW H)) (before:List MemPlace)
 (nU:∀(j:Nat) t v,fn.params[j]? = some t->args[j]? = some v->Value.okWide P W .any base t v)
 (hW:DataW.Whole enc P fn.params.toList s.vars false W args.toList ds gs before) (yH:∀p∈T.pre,∃t f,W.heap[p.1]? = some (.cells p.2 t f)) :
 Calls P f args W fun e W'=>∃v,e=.returned v/\s.post enc P fn false true false false W args v W':=by
 have Fh:∀t∈fn.params.toList,iM T m t=true/\P.readableRec t=true/\t<P.types.size:=by
  intro t ht;have:=aX.1 PQ t ht;simp only[ai]at this;exact⟨this.1.1,this.1.2,by simpa[Nat.blt_eq]using this.2⟩
 have hW':=hW;obtain⟨p,q,hA,hV,rfl,H8,lC⟩:=hW;rw[nq]at hV;obtain⟨rfl,rfl⟩:=trodVars_none hV;obtain⟨al,hf,hr⟩:=W3 (gA:=gA) K hd (r:=.any) (base:=base) _ _ _ _ (fun t ht=>⟨m,(Fh t ht).1⟩) (fun j t v a b=>nU j t v (by rw[<-Array.getElem?_toList];exact a) (by rw[<-Array.getElem?_toList];exact b)) hA;obtain⟨n,hn⟩:=ym al hf;have hc:=(UT K F hn hf.refs W (fun _ _=>False) (fun _ _ h=>h.elim) yH (vs:=args.toList) hr).2;have ea:(⟨args.toList⟩:b7)=args:=by simp
 rw[ea]at hc;refine hc.mono fun e W' hp=>?_;obtain⟨v,ρ,rfl,rv,a1,a2,a3,a4,a5,a6⟩:=hp;obtain rfl:=rv.bool
 have dc:ds.length=fn.params.toList.length:=by
  have:∀(ts:cK) (vs:bT) (ds:List (DataW H)) (ps:List MemPlace),DataW.TrodAll enc P W 0 (fun _=>true) true ts vs ds ps->ds.length=ts.length:=by
   intro ts
   induction ts with
   |nil=>intro vs ds ps h;obtain⟨rfl,rfl,rfl⟩:=trodAll_nil h;rfl
   |cons t ts ih=>
    intro vs ds ps h;obtain⟨v,Iq,d,HY,p,q,rfl,rfl,rfl,h1,h2⟩:=trodAll_cons h;simp[ih _ _ _ h2]
  exact this _ _ _ _ hA
 have hs:=sX H ds dc;have EB:Below W.heap.size W W':=⟨a3,a4,a5,a1,a2⟩;have cY:∀x∈p,x.block<W.heap.size:=fun x hx=>by simpa using hW'.lt x (by simpa using hx)
 refine⟨_,rfl,QhF (pa:=p) (pv:=[]) hW' ?_ ?_ ?_ (by simp) (EB.frame _) a6 ?_⟩
 ·intro b sp hd;simp only[aR];rw[hs,kS];exact trodAll_cons_mk (p:=[]) (p':=[]) (shut_bool hb _) trodAll_mk0
 ·intro sp yN;simp only[aR]at yN ⊢;rw[hs];exact Tl hl _ _ _ _ (fun t ht=>(Fh t ht).2) hA (fun x hx=>EB.same (cY x hx)) yN
 ·intro sp yN;simp only[aR];rw[hs,nq];rfl
 ·exact ok_one kS rfl (okWide_bool_mk hb _)
theorem QlG(K:Zq P T){Φ:jv C}(F:Qj P T Φ)(hd:CT T gA)(hl:laidOutB P=true){f:FuncId}{fn:Func}{s:ChangeSpec}{tb:TypeId}{m:Nat}
 (kS:fn.resultTypes = #[tb]) (hb:P.underlying tb=some .bool) (nq:s.vars=[])
 (PQ:fn.params.toList.all (fun t=>iM T m t&&P.readableRec t&&Nat.blt t P.types.size)=true)
 (sX:∀(H:Type) (ds:List (DataW H)),ds.length=fn.params.toList.length->s.fn H ds={ results:=[.lit (.bool true)],args:=ds })
 (ym:∀ds:List (D C),Fits T gA fn.params.toList ds->∃n,eU T Φ n f ds=some (.bool true))
 (H:Type) (enc:TypeId×Value->H) (W:World) (base:Nat) (args:b7) (ds gs:List (DataW H)) (before:List MemPlace)
 (nU:∀(j:Nat) t v,fn.params[j]? = some t->args[j]? = some v->Value.okWide P W .any base t v)
 (hW:DataW.Whole enc P fn.params.toList s.vars false W args.toList ds gs before) (h0:T.pre=[]:=by rfl) :
 Calls P f args W fun e W'=>∃v,e=.returned v/\s.post enc P fn false true false false W args v W' :=
 QjY K F hd hl kS hb nq PQ sX ym H enc W base args ds gs before nU hW (by rw[h0];intro p hp;cases hp)
end
def i64(n:Int):Prop := -9223372036854775808<=n/\n<=9223372036854775807
theorem Vv{n:Int}(h:IntKind.i64.min<=n/\n<=IntKind.i64.max):i64 n:=by
 simpa[i64,IntKind.min,IntKind.max,IntKind.signed,IntKind.bits]using h
section
variable {C:ij}{T:fA C}{d:D C}{u:TypeId}
theorem ZS{k:IntKind}(hu:T.ty u=.int k)(hf:cZ T d (.inl u)=true):∃n,d=.int k n:=by
 cases d<;>simp[cZ,hu]at hf
 subst hf;exact⟨_,rfl⟩
theorem QoA(hu:T.ty u=.bool)(hf:cZ T d (.inl u)=true):∃n,d=.bool n:=by
 cases d<;>simp[cZ,hu]at hf
 exact⟨_,rfl⟩
theorem QEb(hu:T.ty u=.str)(hf:cZ T d (.inl u)=true):∃n,d=.str n:=by
 cases d<;>simp[cZ,hu]at hf
 exact⟨_,rfl⟩
theorem HF{e:TypeId}{t:C.Ty}(hu:T.ty u=.sl e t)(hf:cZ T d (.inl u)=true)(hr:d.refs=[]):∃c l,d=.sl t c l:=by
 cases d<;>simp[cZ,hu]at hf
 ·subst hf;exact⟨_,_,rfl⟩
 ·simp[D.refs]at hr
 ·simp[D.refs]at hr
theorem xD{a:Bool}{f:TypeId}{fs:cK}(hu:T.ty u=.struct a (f::fs))(hf:cZ T d (.inl u)=true):∃x y,d=.bI x y/\cZ T x (.inl f)=true/\cZ T y (.inr fs)=true:=by
 cases d<;>simp[cZ,hu]at hf
 exact⟨_,_,rfl,hf.1,hf.2⟩
theorem Ya{f:TypeId}{fs:cK}(hf:cZ T d (.inr (f::fs))=true):∃a b,d=.bI a b/\cZ T a (.inl f)=true/\cZ T b (.inr fs)=true:=by
 cases d<;>simp[cZ]at hf
 exact⟨_,_,rfl,hf.1,hf.2⟩
theorem xv(hf:cZ T d (.inr [])=true):d=.bN:=by
 cases d<;>simp[cZ]at hf
 rfl
end
open Go.Proofs Go.ChangeShapes Go.WideShapes Go.ChangeAt Go.RowKit
set_option maxRecDepth 100000
def VR(x:cB):Prop:=i64 (x.n)/\(x.b).length<=maxLen
def G0(x:Item):Prop:=i64 (x.key)/\i64 (x.b8)/\i64 (x.value)
def G1(x:cC):Prop:=i64 (x.offset)/\i64 (x.b8)/\i64 (x.j)/\i64 (x.key)/\i64 (x.value)
def C7(x:Qq):Prop:=i64 (x.key)/\i64 (x.value)
def He(x:Rec):Prop:=i64 (x.b8)/\True/\((x.dV).length<=maxLen/\∀y∈(x.dV),C7 (y))
def QAa(x:qW):Prop:=((x.now).length<=maxLen/\∀y∈(x.now),VR (y))/\((x.sure).length<=maxLen/\∀y∈(x.sure),VR (y))
def QxR(x:xI):Prop:=i64 (x.ou)/\i64 (x.width)/\i64 (x.sv)/\i64 (x.nodes)
def uh:(t:ca)->RA t->Prop
 |.bool=>fun(x:Bool)=>True
 |.int=>fun(x:Int)=>i64 (x)
 |.cE=>fun(x:Item)=>G0 (x)
 |.mc=>fun(x:List (UInt8))=>((x).length<=maxLen/\∀y∈(x),True)
 |.bP=>fun(x:cC)=>G1 (x)
 |.iT=>fun(x:Rec)=>He (x)
 |.bS=>fun(x:cB)=>VR (x)
 |.u8=>fun(x:UInt8)=>True
 |.write=>fun(x:Qq)=>C7 (x)
theorem Rv:cF.ty 76=.struct false [3,9]:=by kernel_rfl
theorem pf:cF.ty 3=.int .i64:=by kernel_rfl
theorem ty9:cF.ty 9=.str:=by kernel_rfl
theorem QAb{d:bQ}(hf:cZ cF d (.inl 76)=true)(hg:kP uh d)(hr:d.refs=[]):∃x:cB,d=DG x/\VR x:=by
 obtain⟨d0,r0,rfl,f0,hf⟩:=xD Rv hf;obtain⟨d1,r1,rfl,f1,hf⟩:=Ya hf;obtain rfl:=xv hf;simp only[D.refs,List.append_eq_nil_iff]at hr;obtain⟨g0,g1,_⟩:=hg;obtain⟨q0,q1,_⟩:=hr;obtain⟨n0,rfl⟩:=ZS pf f0;obtain⟨n1,rfl⟩:=QEb ty9 f1;exact⟨⟨n0,n1⟩,rfl,Vv g0,g1⟩
theorem QxS x(hx:VR x):DH (DG x)=some x:=by
 simp only[VR]at hx;simp[DH,DG,D.j6,DP,hx]
theorem Rt:cF.ty 56=.struct false [3,3,3]:=by kernel_rfl
theorem QFs{d:bQ}(hf:cZ cF d (.inl 56)=true)(hg:kP uh d)(hr:d.refs=[]):∃x:Item,d=D0 x/\G0 x:=by
 obtain⟨d0,r0,rfl,f0,hf⟩:=xD Rt hf;obtain⟨d1,r1,rfl,f1,hf⟩:=Ya hf;obtain⟨d2,r2,rfl,f2,hf⟩:=Ya hf;obtain rfl:=xv hf;simp only[D.refs,List.append_eq_nil_iff]at hr;obtain⟨g0,g1,g2,_⟩:=hg;obtain⟨q0,q1,q2,_⟩:=hr;obtain⟨n0,rfl⟩:=ZS pf f0;obtain⟨n1,rfl⟩:=ZS pf f1;obtain⟨n2,rfl⟩:=ZS pf f2;exact⟨⟨n0,n1,n2⟩,rfl,Vv g0,Vv g1,Vv g2⟩
theorem QEc x(hx:G0 x):D1 (D0 x)=some x:=by
 simp only[G0]at hx;simp[D1,D0,D.j6,DP,hx]
theorem QFP:cF.ty 112=.struct false [3,3,3,3,3]:=by kernel_rfl
theorem QFt{d:bQ}(hf:cZ cF d (.inl 112)=true)(hg:kP uh d)(hr:d.refs=[]):∃x:cC,d=D2 x/\G1 x:=by
 obtain⟨d0,r0,rfl,f0,hf⟩:=xD QFP hf;obtain⟨d1,r1,rfl,f1,hf⟩:=Ya hf;obtain⟨d2,r2,rfl,f2,hf⟩:=Ya hf;obtain⟨d3,r3,rfl,f3,hf⟩:=Ya hf;obtain⟨d4,r4,rfl,f4,hf⟩:=Ya hf;obtain rfl:=xv hf;simp only[D.refs,List.append_eq_nil_iff]at hr;obtain⟨g0,g1,g2,g3,g4,_⟩:=hg;obtain⟨q0,q1,q2,q3,q4,_⟩:=hr;obtain⟨n0,rfl⟩:=ZS pf f0;obtain⟨n1,rfl⟩:=ZS pf f1;obtain⟨n2,rfl⟩:=ZS pf f2;obtain⟨n3,rfl⟩:=ZS pf f3;obtain⟨n4,rfl⟩:=ZS pf f4;exact⟨⟨n0,n1,n2,n3,n4⟩,rfl,Vv g0,Vv g1,Vv g2,Vv g3,Vv g4⟩
theorem QEd x(hx:G1 x):D3 (D2 x)=some x:=by
 simp only[G1]at hx;simp[D3,D2,D.j6,DP,hx]
theorem Ru:cF.ty 60=.struct false [3,3]:=by kernel_rfl
theorem QEe{d:bQ}(hf:cZ cF d (.inl 60)=true)(hg:kP uh d)(hr:d.refs=[]):∃x:Qq,d=DQ x/\C7 x:=by
 obtain⟨d0,r0,rfl,f0,hf⟩:=xD Ru hf;obtain⟨d1,r1,rfl,f1,hf⟩:=Ya hf;obtain rfl:=xv hf;simp only[D.refs,List.append_eq_nil_iff]at hr;obtain⟨g0,g1,_⟩:=hg;obtain⟨q0,q1,_⟩:=hr;obtain⟨n0,rfl⟩:=ZS pf f0;obtain⟨n1,rfl⟩:=ZS pf f1;exact⟨⟨n0,n1⟩,rfl,Vv g0,Vv g1⟩
theorem QAc x(hx:C7 x):DR (DQ x)=some x:=by
 simp only[C7]at hx;simp[DR,DQ,D.j6,DP,hx]
theorem Rs:cF.ty 51=.struct false [3,4,49]:=by kernel_rfl
theorem ty4:cF.ty 4=.bool:=by kernel_rfl
theorem Rr:cF.ty 49=.sl 60 .write:=by kernel_rfl
theorem QFQ{d:bQ}(hf:cZ cF d (.inl 51)=true)(hg:kP uh d)(hr:d.refs=[]):∃(x:Rec) (c0:Bool),d=IX x c0/\He x:=by
 obtain⟨d0,r0,rfl,f0,hf⟩:=xD Rs hf;obtain⟨d1,r1,rfl,f1,hf⟩:=Ya hf;obtain⟨d2,r2,rfl,f2,hf⟩:=Ya hf;obtain rfl:=xv hf;simp only[D.refs,List.append_eq_nil_iff]at hr;obtain⟨g0,g1,g2,_⟩:=hg;obtain⟨q0,q1,q2,_⟩:=hr;obtain⟨n0,rfl⟩:=ZS pf f0;obtain⟨n1,rfl⟩:=QoA ty4 f1;obtain⟨k2,n2,rfl⟩:=HF Rr f2 q2;exact⟨⟨n0,n1,n2⟩,k2,rfl,Vv g0,trivial,g2⟩
theorem QFu x(c0:Bool)(hx:He x):su (IX x c0)=some x:=by
 simp only[He]at hx;simp[su,IX,D.j6,DP,hx]
theorem Rp:cF.ty 24=.struct false [22,22]:=by kernel_rfl
theorem FT:cF.ty 22=.sl 76 .bS:=by kernel_rfl
theorem QFv{d:bQ}(hf:cZ cF d (.inl 24)=true)(hg:kP uh d)(hr:d.refs=[]):∃(x:qW) (c0 c1:Bool),d=Sm x c0 c1/\QAa x:=by
 obtain⟨d0,r0,rfl,f0,hf⟩:=xD Rp hf;obtain⟨d1,r1,rfl,f1,hf⟩:=Ya hf;obtain rfl:=xv hf;simp only[D.refs,List.append_eq_nil_iff]at hr;obtain⟨g0,g1,_⟩:=hg;obtain⟨q0,q1,_⟩:=hr;obtain⟨k0,n0,rfl⟩:=HF FT f0 q0;obtain⟨k1,n1,rfl⟩:=HF FT f1 q1;exact⟨⟨n0,n1⟩,k0,k1,rfl,g0,g1⟩
theorem Rq:cF.ty 26=.struct false [3,3,3,3]:=by kernel_rfl
theorem QEf{d:bQ}(hf:cZ cF d (.inl 26)=true)(hg:kP uh d)(hr:d.refs=[]):∃x:xI,d=Sn x/\QxR x:=by
 obtain⟨d0,r0,rfl,f0,hf⟩:=xD Rq hf;obtain⟨d1,r1,rfl,f1,hf⟩:=Ya hf;obtain⟨d2,r2,rfl,f2,hf⟩:=Ya hf;obtain⟨d3,r3,rfl,f3,hf⟩:=Ya hf;obtain rfl:=xv hf;simp only[D.refs,List.append_eq_nil_iff]at hr;obtain⟨g0,g1,g2,g3,_⟩:=hg;obtain⟨q0,q1,q2,q3,_⟩:=hr;obtain⟨n0,rfl⟩:=ZS pf f0;obtain⟨n1,rfl⟩:=ZS pf f1;obtain⟨n2,rfl⟩:=ZS pf f2;obtain⟨n3,rfl⟩:=ZS pf f3;exact⟨⟨n0,n1,n2,n3⟩,rfl,Vv g0,Vv g1,Vv g2,Vv g3⟩
theorem QFR:cF.ty 129=.sl 5 .u8:=by kernel_rfl
theorem ty5:cF.ty 5=.int .u8:=by kernel_rfl
theorem OH:CT cF uh where
 dec t d hf hr hg _:=by
  cases t with
  |bool=>
   obtain⟨n,rfl⟩:=QoA ty4 hf;exact⟨n,rfl,trivial⟩
  |int=>
   obtain⟨n,rfl⟩:=ZS pf hf;exact⟨n,by simp[cF,Vg,tF,vE,HT],Vv hg⟩
  |cE=>
   obtain⟨x,rfl,hx⟩:=QFs hf hg hr;exact⟨x,QEc x hx,hx⟩
  |mc=>
   obtain⟨c,n,rfl⟩:=HF QFR hf hr;exact⟨n,by simp[cF,Vg,tF,vE,D.j6],hg⟩
  |bP=>
   obtain⟨x,rfl,hx⟩:=QFt hf hg hr;exact⟨x,QEd x hx,hx⟩
  |iT=>
   obtain⟨x,c0,rfl,hx⟩:=QFQ hf hg hr;exact⟨x,QFu x c0 hx,hx⟩
  |bS=>
   obtain⟨x,rfl,hx⟩:=QAb hf hg hr;exact⟨x,QxS x hx,hx⟩
  |u8=>
   obtain⟨n,rfl⟩:=ZS ty5 hf;exact⟨_,rfl,trivial⟩
  |write=>
   obtain⟨x,rfl,hx⟩:=QEe hf hg hr;exact⟨x,QAc x hx,hx⟩
theorem dM:ownKnob Tryz.prog.godebug=none:=by kernel_rfl
theorem QEg:laidOutB Tryz.prog=true:=by kernel_rfl
end Go.Ev

namespace Go.Proofs.YtkoeniljaccaiaaGreat
open Go.ChangeShapes Go.WideShapes Go.ChangeAt Go.RowKit Go.Ev
set_option linter.unusedVariables false
set_option maxRecDepth 100000
namespace recoverTells
theorem ev(ds:bW)(h:Fits cF uh Tryz.f3.params.toList ds):∃n,eU cF Aw n 3 ds=some (.bool true):=by
 rw[Tryz.params3]at h;cases h with
 |cons hf0 hg0 o7 h=>
 cases h with
 |cons H7 hg1 gn h=>
 cases h with
 |cons ET hg2 kK h=>
 cases h with
 |nil=>
  obtain⟨x,x0,x1,rfl,ox⟩:=QFv hf0 hg0 o7;obtain⟨s,rfl,os⟩:=QEf H7 hg1 gn;obtain⟨n,rfl⟩:=ZS (show cF.ty 3=.int .i64 by kernel_rfl) ET;have g1:Ql x.now=true:=Zo.2 ⟨ox.1.1,fun y hy=>Qd (ox.1.2 y hy).2⟩;have g2:Ql x.sure=true:=Zo.2 ⟨ox.2.1,fun y hy=>Qd (ox.2.2 y hy).2⟩;have key:=Qqr x0 x.now x1 x.sure s.ou s.width s.sv s.nodes n (by rw[g1,g2];rfl);unfold ME at key;refine⟨300,?_⟩;simp only[Sm,Sn];exact key
theorem QFw(os:Os)(started:os.Started)(H:Type)(enc:TypeId×Value->H) :
 ReturnsInHanded {} Tryz.checked os 3 .any (Rows.recoverTellsSpec.pre6 enc Tryz.prog Tryz.f3 Rows.recoverTellsRow.domain false) (Rows.recoverTellsSpec.post enc Tryz.prog Tryz.f3 false true false false):=by
 refine returnsInHanded_of_change (C:=Tryz.checked) dM started (by kernel_rfl) Tryz.func3
  (ChangeSpec.witness6 (enc:=enc) (C:=Tryz.checked) false ⟨#[],#[.agg #[.slice none 0 0,.slice none 0 0],.agg #[.int .i64 0,.int .i64 0,.int .i64 0,.int .i64 0],.int .i64 0],[]⟩ 8 (by kernel_rfl) (by kernel_rfl) (by kernel_rfl) (by kernel_rfl)) ?_
 intro W base args ds gs before nU hW _ _;refine QlG (gA:=uh) (m:=8) Qb QxQ OH QEg (tb:=4) (by kernel_rfl) Tryz.underlying4 rfl (by kernel_rfl) ?_ ev H enc W base args ds gs before nU hW;intro H ds h;rw[Tryz.params3]at h
 match ds,h with
 |[d0,d1,d2],_=>rfl
theorem over:Rows.recoverTellsRow.holds Tryz.pinned (OpenSpec.ofChange Rows.recoverTellsSpec):=
 OpenClaim.holds_of_wide 3 Tryz.f3 rfl rfl rfl rfl rfl rfl rfl ⟨rfl,rfl,rfl,rfl,rfl⟩ rfl rfl rfl rfl rfl (by kernel_rfl) Tryz.func3 (by kernel_rfl)
  (af (by kernel_rfl)) (by unfold Func.isWrapper;first|(rw[ax (by decide +kernel)];kernel_rfl)|(rw[aw (by decide +kernel)];exact⟨rfl,rfl⟩))
  (fun os started H enc _=>QFw os started H enc)
theorem proved:Rows.RecoverTellsSaid:=over
end recoverTells
#print axioms recoverTells.proved
end Go.Proofs.YtkoeniljaccaiaaGreat
