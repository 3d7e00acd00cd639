/-
  A part of the proof of a statement of this seat: the model is run over values by content, proved sound; what the functions come to. No condition beyond the given statements. (text 2)
-/
import Derived.Test.YtkoeniljaccaiaaGreatP0
import Derived.Lib.ConvBytes
import Derived.MapKept
import Derived.Carry
import Derived.Laws.IdiomRangeMap
import Derived.OrdersIn
import Derived.RangeFuncFrom
noncomputable section
namespace Go.Ev
set_option linter.unusedVariables false
set_option linter.unusedSimpArgs false
theorem Qsy(off:Nat):∀(vs:bT) (k:Nat) (cs:bT),off+k+vs.length<=cs.length ->
 (vs.zipIdx k).foldl (fun(a:bY) (x:Value×Nat)=>a.setIfInBounds (off+x.2) x.1) ⟨cs⟩=⟨cs.take (off+k)++vs++cs.drop (off+k+vs.length)⟩:=by
 intro vs
 induction vs with
 |nil=>intro k cs _;simp
 |cons v vs ih=>
  intro k cs hl;simp only[aE]at hl;simp only[List.zipIdx_cons,List.foldl_cons];have e1:(⟨cs⟩:bY).setIfInBounds (off+k) v=⟨cs.set (off+k) v⟩:=by apply Array.ext';simp
  rw[e1,ih (k+1) (cs.set (off+k) v) (by simp;omega)];have:=list_seg_step cs (off+k) v vs (by omega);rw[show off+(k+1)=off+k+1 by omega];exact ap _ this
theorem Xc(off:Nat)(v:Value)(cs:bT)(h:off+v.cells.size<=cs.length) :
 Array.foldl (fun(a:bY) (x:Value×Nat)=>a.setIfInBounds (off+x.2) x.1) (⟨cs⟩:bY) v.cells.zipIdx=⟨cs.take off++v.cells.toList++cs.drop (off+v.cells.toList.length)⟩:=by
 rw[<-Array.foldl_toList,Array.toList_zipIdx];have:=Qsy off v.cells.toList 0 cs (by simpa using h)
 simpa using this
section
variable {C:gR}{P:Program}{T:fh C}(K:Zo P T)
open Pg (Ex)
variable {X:Cx}{h h':Heap C}{nx cF:Nat}{e:Pg.Lv}{lim:ek}{tr:Tr}(g:G T X h nx lim)(dP:cF<=lim.top)
theorem Yw{d:D C}{v:Value}{t:TypeId}(hd:RO T X nx lim d v):RO T X nx lim (YK T t d) v:=by
 cases d with
 |ez=>
  simp only[YK]
  split
  ·rw[hd.1.ez];exact RO.mk (.mk rfl (.kN _ _ _)) rfl
  ·exact hd
 |_=>exact hd
theorem QEs{c a b d:D C}{vc va vb:Value}(hc:RO T X nx lim c vc)(ha:RO T X nx lim a va)(hb:RO T X nx lim b vb)(g:G T X h nx lim)(hx:Ex e (PL c a b) h nx d h' cF tr) :
 dc P T X nx lim h' cF d (do pure (if <-asBool vc then va else vb)):=by
 unfold PL at hx;cases c with
 |bool t=>
  simp only at hx;rw[hc.1.bool];rcases Ex.br hx with⟨rfl,hx⟩|⟨rfl,hx⟩
  ·obtain⟨rfl,rfl,rfl,rfl⟩:=Ex.ret hx;exact dc.same g va (by simp[asBool]) ha
  ·obtain⟨rfl,rfl,rfl,rfl⟩:=Ex.ret hx;exact dc.same g vb (by simp[asBool]) hb
 |_=>exact Ex.cB hx
include K g dP
theorem Qsz{t:TypeId}{d0 d:D C}{v:Value}(hv:RO T X nx lim d0 v)(hf:fit T d0 (.inl t)=true)(hx:Ex e (.nw (.var t d0) fun id=>.ret (.ptr id [])) h nx d h' cF tr) :
 dc P T X nx lim h' cF d (do pure (.pointer (some (<-newVar t v)))):=by
 obtain⟨t1,hx,_⟩:=Ex.nw hx;obtain⟨rfl,rfl,rfl,rfl⟩:=Ex.ret hx;have hc:=hv.1.cells K hf;obtain⟨g1,s1⟩:=G.newVar K.base g (by omega) (c:=v.cells) hc hf hv.2;refine⟨.pointer (some ⟨X.w.heap.size,0,none⟩),_,?_,g1,s1,⟨.mk rfl (.ptr fun b t' hb=>?_),?_⟩⟩
 ·simp[newVar,newRow];rfl
 ·simp[Cx.newVar]at hb;obtain⟨rfl,rfl⟩:=hb;exact⟨by simp[Zq],by simp[dL]⟩
 ·intro id dD;simp[D.refs]at dD;subst dD;exact g.new (by omega)
theorem QAc{t:TypeId}{d:D C}(hx:Ex e (O7 T t) h nx d h' cF tr):dc P T X nx lim h' cF d (Instr.alloc t true (.tuple #[])):=by
 unfold O7 at hx;cases hz:T.zero t with
 |none=>rw[hz]at hx;exact Ex.cB hx
 |some z=>
  simp only[hz]at hx;cases hf:fit T z (.inl t)with
  |false=>rw[hf]at hx;exact Ex.cB hx
  |true=>
   rw[hf]at hx;simp only[ag]at hx;obtain⟨i,v,h1,h2,h3,h4⟩:=K.zero _ _ hz;obtain⟨t1,hx,_⟩:=Ex.nw hx;obtain⟨rfl,rfl,rfl,rfl⟩:=Ex.ret hx;obtain⟨g1,s1⟩:=G.newVar K.base g (by omega) (c:=v.cells) (h4 X) hf (by simp[h3]);refine⟨.pointer (some ⟨X.w.heap.size,0,none⟩),_,?_,g1,s1,⟨.mk rfl (.ptr fun b t' hb=>?_),?_⟩⟩
   ·simp[Instr.alloc,zeroValue,typeInfo,h1,h2,newVar,newRow];rfl
   ·simp[Cx.newVar]at hb;obtain⟨rfl,rfl⟩:=hb;exact⟨by simp[Zq],by simp[dL]⟩
   ·intro id dD;simp[D.refs]at dD;subst dD;exact g.new (by omega)
theorem QHn{t:TypeId}{d0 d:D C}{v:Value}(hv:RO T X nx lim d0 v)(hx:Ex e (Mo T t d0) h nx d h' cF tr):dc P T X nx lim h' cF d (Instr.box t v):=by
 unfold Mo at hx;cases hf:fit T d0 (.inl t)with
 |false=>rw[hf]at hx;exact Ex.cB hx
 |true=>rw[hf]at hx;exact Qsz K g dP hv hf hx
omit dP g
theorem Qm2:∀(ps:List (Nat×D C)) (vs:eJ) {fs:cD} {z d:D C} {cs:bT} (pl:Nat->Option (Nat×Nat)),ma z ps=some d->fit T z (.inr fs)=true->R T X false z cs ->
 ps.length=vs.length->(∀(j:Nat) (p:Nat×D C) (q:Nat×Value),ps[j]? = some p->vs[j]? = some q->p.1=q.1/\RO T X nx lim p.2 q.2)->(∀p∈ps,fit T p.2 (.inl (fs.getD p.1 0))=true) ->
 (∀i,i<fs.length->pl i=some (Zh T (fs.take i),T.size (fs.getD i 0))) ->
 ∃ds,Instr.fill pl ⟨cs⟩ vs=some ⟨ds⟩/\R T X false d ds/\∀r∈d.refs,r∈z.refs\/ft nx lim r:=by
 intro ps
 induction ps with
 |nil=>
  intro vs fs z d cs pl hY hf hz hlen _ _ _;simp[ma]at hY;subst hY;cases vs with
  |nil=>exact⟨cs,rfl,hz,fun r hr=>.inl hr⟩
  |cons=>simp at hlen
 |cons p ps ih=>
  intro vs fs z d cs pl hY hf hz hlen oL hpf qy;obtain⟨i,x⟩:=p;cases vs with
  |nil=>simp at hlen
  |cons q vs=>
   obtain⟨i',v⟩:=q;have h0:=oL 0 (i,x) (i',v) rfl rfl;obtain⟨rfl,hv⟩:=h0;simp only[ma]at hY;cases hs:z.gF i x with
   |none=>rw[hs]at hY;simp at hY
   |some z'=>
    simp only[hs]at hY;have iH:=hpf (i,x) (by simp);have rX:=hv.1.cells K iH;obtain⟨c1,c2,c3,hc,hl,jm,hi,hr,LB⟩:=hz.rp K.base hf hs rX iH;obtain⟨ds,rb,rj,qz⟩:=ih vs pl hY LB hr (by simpa using hlen) (fun j p q hp hq=>oL (j+1) p q (by simpa using hp) (by simpa using hq)) (fun p hp=>hpf p (by simp[hp])) qy;refine⟨ds,?_,rj,fun r fK=>?_⟩
    ·have fB:=rX.len K.base iH;have lT:v.cells.size=T.size (fs.getD i 0):=by simpa using fB
     simp only[Instr.fill,qy i hi]
     have hle:¬(v.cells.size≠T.size (fs.getD i 0)||decide (Zh T (fs.take i)+v.cells.size>(⟨cs⟩:bY).size))=true:=by
      simp only[lT,ne_eq,not_true_eq_false,aW,Bool.false_or,aa,Nat.not_lt];simp only[List.size_toArray,hc,aC,hl];have:c2.length=T.size (fs.getD i 0):=by rw[jm];simpa using lT
      omega
     rw[aw hle]
     have:(Array.foldl (fun cs x=>cs.setIfInBounds (Zh T (List.take i fs)+x.2) x.1) (⟨cs⟩:bY) v.cells.zipIdx)=⟨c1++v.cells.toList++c3⟩:=by
      rw[Xc _ _ _ (by
       simp only[hc,aC];have:c2.length=v.cells.size:=by simpa using jm
       omega)]
      have:=HD [] c1 c2 c3 [] v.cells.toList jm;simp only[aH,aR,bH,aN]at this;rw[hc,<-hl,this]
     rw[this];exact rb
    ·rcases qz r fK with h1|h1
     ·rcases mq _ _ _ _ hs r h1 with h2|h2
      ·exact .inl h2
      ·exact .inr (hv.2 r h2)
     ·exact .inr h1
theorem Qm3:∀(ps:List (Nat×D C)) (vs:eJ) {ty:C.Ty} {l l':List (C.A ty)} {n:Nat} {cs:bT},wU T l ps=some l'->R T X false (.arr ty n l) cs ->
 ps.length=vs.length->(∀(j:Nat) (p:Nat×D C) (q:Nat×Value),ps[j]? = some p->vs[j]? = some q->p.1=q.1/\RO T X nx lim p.2 q.2) ->
 ∃ds,Instr.fill (fun i=>some (i*T.size (T.dp ty),T.size (T.dp ty))) ⟨cs⟩ vs=some ⟨ds⟩/\R T X false (.arr ty n l') ds:=by
 intro ps
 induction ps with
 |nil=>
  intro vs ty l l' n cs hY hz hlen _;simp[wU]at hY;subst hY;cases vs with
  |nil=>exact⟨cs,rfl,hz⟩
  |cons=>simp at hlen
 |cons p ps ih=>
  intro vs ty l l' n cs hY hz hlen oL;obtain⟨i,x⟩:=p;cases vs with
  |nil=>simp at hlen
  |cons q vs=>
   obtain⟨i',v⟩:=q;have h0:=oL 0 (i,x) (i',v) rfl rfl;obtain⟨rfl,hv⟩:=h0;simp only[wU]at hY;cases hb:fit T x (.inl (T.dp ty))&&Nat.blt i l.length with
   |false=>rw[hb]at hY;simp at hY
   |true=>
    rw[hb]at hY;simp only[ag]at hY;simp only[ai,Nat.blt_eq]at hb;cases hd:T.dec ty x with
    |none=>rw[hd]at hY;simp at hY
    |some y=>
     simp only[hd]at hY;have rX:=hv.1.cells K hb.1;have SV:=K.base.mw X ty _ _ _ hd rX;have nV:=(hz.gj K.base).2;obtain⟨c1,c2,c3,hc,hl,jm,hr⟩:=hz.oS K.base i y (by omega) SV;obtain⟨ds,rb,rj⟩:=ih vs hY hr (by simpa using hlen) (fun j p q hp hq=>oL (j+1) p q (by simpa using hp) (by simpa using hq));refine⟨ds,?_,rj⟩;have fB:=rX.len K.base hb.1;have lT:v.cells.size=T.size (T.dp ty):=by simpa using fB
     simp only[Instr.fill];have vH:c2.length=v.cells.size:=by simpa using jm
     have hle:¬(v.cells.size≠T.size (T.dp ty)||decide (i*T.size (T.dp ty)+v.cells.size>(⟨cs⟩:bY).size))=true:=by
      simp only[lT,ne_eq,not_true_eq_false,aW,Bool.false_or,aa,Nat.not_lt];simp only[List.size_toArray,hc,aC,hl];omega
     rw[aw hle];rw[Xc _ _ _ (by simp only[hc,aC];omega)];have:=HD [] c1 c2 c3 [] v.cells.toList jm;simp only[aH,aR,bH,aN]at this;rw[hc,<-hl,this];exact rb
omit K g in
theorem QsA{x:D C}{v:Value}{t:TypeId}(h:RV T X x v)(fA:x.de=false)(hf:fit T x (.inl t)=true):v.cells = #[v]:=by
 have hR:=h.one fA;cases x<;>simp[D.de]at fA<;>cases hR<;>first|rfl|(simp[fit]at hf)
omit K g in
theorem QAd{el:TypeId}(h1:∀d:D C,fit T d (.inl el)=true->d.de=false):∀(ps:List (Nat×D C)) (vs:eJ) (i n:Nat) (cs:bT),ug i n ps=true->cs.length=n ->
 (ps.all fun p=>fit T (YK T el p.2) (.inl el))=true->ps.length=vs.length->(∀(j:Nat) (p:Nat×D C) (q:Nat×Value),ps[j]? = some p->vs[j]? = some q->p.1=q.1/\RO T X nx lim p.2 q.2) ->
 ∃us,Instr.fill (fun i=>some (i*1,1)) ⟨cs⟩ vs=some ⟨cs.take i++us⟩/\gV T X (ps.map fun p=>YK T el p.2) us/\i+us.length=n:=by
 intro ps
 induction ps with
 |nil=>
  intro vs i n cs hs hl _ hlen _;cases vs with
  |cons=>simp at hlen
  |nil=>
   have hi:i=n:=az hs;refine⟨[],?_,.nil,by simpa using hi⟩;simp[Instr.fill,List.take_of_length_le (show cs.length<=i by omega)]
 |cons p ps ih=>
  intro vs i n cs hs hl hf hlen oL;obtain⟨j,x⟩:=p;cases vs with
  |nil=>simp at hlen
  |cons q vs=>
   obtain⟨j',v⟩:=q;obtain⟨rfl,hv⟩:=oL 0 (j,x) (j',v) rfl rfl;simp only[ug,ai,Nat.blt_eq]at hs;obtain⟨⟨hj,iB⟩,hs⟩:=hs;have hj:j=i:=az hj;subst hj;simp only[List.all_cons,ai]at hf;have hv':RV T X (YK T el x) v:=(Yw hv).1;have fA:=h1 _ hf.1;have xl:=QsA hv' fA hf.1;obtain⟨us,e1,e2,e3⟩:=ih vs (j+1) n (cs.set j v) hs (by simpa using hl) hf.2 (by simpa using hlen) (fun k p q hp hq=>oL (k+1) p q (by simpa using hp) (by simpa using hq));refine⟨v::us,?_,.cons hv' e2,by simp;omega⟩;simp only[Instr.fill,xl];rw[aw (by simp;omega)]
   have e0:(Array.foldl (fun cs x=>cs.setIfInBounds (j+x.2) x.1) (⟨cs⟩:bY) (#[v].zipIdx))=⟨cs.set j v⟩:=by
    show Array.foldl _ _ #[(v,0)]=_;simp
   simp only[Nat.mul_one]at e1 ⊢;rw[e0,e1]
   have:(cs.set j v).take (j+1)=cs.take j++[v]:=by
    rw[List.take_add_one,List.take_set_of_le (aq _)];simp[List.getElem?_set,hl,iB]
   rw[this,ay];rfl
omit K g in
theorem QlC{l:List (D C)}(h:∀d∈l,d.de=false):(D.ofList l).gK=true:=by
 induction l with
 |nil=>rfl
 |cons d l ih=>simp[D.ofList,D.gK,h d (by simp),ih fun d hd=>h d (by simp[hd])]
omit K in
theorem R.Te{ty:C.Ty}{x:C.A ty}{cs:bT}(h:R T X false (T.enc ty x) cs):∀n,R T X false (.arr ty n (List.replicate n x)) (List.replicate n cs).flatten:=by
 intro n
 induction n with
 |zero=>exact .ia ty
 |succ n ih=>simpa[List.replicate_succ]using R.iS h ih
omit K in
theorem HE(z:bY)(hz:0<z.size):∀n,((Array.range (n*z.size)).map fun i=>z[i%z.size]!).toList=(List.replicate n z.toList).flatten:=by
 intro n
 induction n with
 |zero=>simp
 |succ n ih=>
  have e1:Array.range ((n+1)*z.size)=Array.range (n*z.size)++(Array.range z.size).map (n*z.size + ·):=by
   apply Array.ext';simp[Array.toList_range,Nat.add_mul,List.range_add]
  rw[e1,Array.map_append,Array.toList_append,ih]
  have e2:(((Array.range z.size).map (n*z.size + ·)).map fun i=>z[i%z.size]!).toList=z.toList:=by
   apply List.ext_getElem?;intro j;simp only[Array.toList_map,Array.toList_range,bB]
   by_cases hj:j<z.size
   ·have hm:(n*z.size+j)%z.size=j:=by rw[Nat.add_comm,Nat.add_mul_mod_self_right,Nat.mod_eq_of_lt hj]
    simp[List.getElem?_range hj,hm,hj]
   ·simp[hj]
  rw[e2]
  have e3:(List.replicate (n+1) z.toList).flatten=(List.replicate n z.toList).flatten++z.toList:=by
   rw[List.replicate_succ',List.flatten_append];simp
  rw[e3]
include g in
theorem QAe{t:TypeId}{ps:List (Nat×D C)}{vs:eJ}{d:D C}(hlen:ps.length=vs.length)
 (oL:∀(j:Nat) (p:Nat×D C) (q:Nat×Value),ps[j]? = some p->vs[j]? = some q->p.1=q.1/\RO T X nx lim p.2 q.2) (hx:Ex e (O8 T t ps) h nx d h' cF tr) :
 dc P T X nx lim h' cF d (Instr.build t ⟨vs⟩):=by
 have zh:∀(f:Nat->TypeId) (j:Nat) (p:Nat×D C) (q:Nat×Value),(ps.map fun p=>(p.1,YK T (f p.1) p.2))[j]? = some p->vs[j]? = some q->p.1=q.1/\RO T X nx lim p.2 q.2:=by
  intro f j p q hp hq;rw[bB,Option.map_eq_some_iff]at hp;obtain⟨p',y9,rfl⟩:=hp;have:=oL j p' q y9 hq;exact⟨this.1,Yw this.2⟩
 unfold O8 at hx;cases ht:T.ty t with
 |struct nZ fs=>
  cases hz:T.zero t with
  |none=>rw[ht,hz]at hx;exact Ex.cB hx
  |some z=>
   simp only[ht,hz]at hx;cases hb:fit T z (.inl t)&&ps.all (fun p=>fit T (YK T (fs.getD p.1 0) p.2) (.inl (fs.getD p.1 0)))with
   |false=>rw[hb]at hx;exact Ex.cB hx
   |true=>
    rw[hb]at hx;obtain⟨hY,rfl,rfl,rfl⟩:=Ex.jq hx;simp only[ai,aX]at hb;obtain⟨it,zv,hi,Dw,pW,LQ⟩:=K.zero _ _ hz
    have hac:∃a b,z=.bI a b:=by
     have:=hb.1;cases z<;>simp[fit,ht]at this
     ·cases fs with
      |nil=>
       have:=K.base.pos t (fun h=>by simp[ht]at h);rw[K.base.jf _ _ _ ht]at this;simp[Zh]at this
      |cons=>simp at this
     ·exact⟨_,_,rfl⟩
    have Dg:fit T z (.inr fs)=true:=by rw[<-EL ht hac];exact hb.1
    have Gb:∃ds,P.built t vs=some ⟨ds⟩/\R T X false d ds/\∀r∈d.refs,r∈z.refs\/ft cF lim r:=by
     cases nZ with
     |true=>
      obtain⟨el,hu,_,LG,SN⟩:=Mw K ht;obtain⟨RD,SQ,_,_,ie,sT,Ge⟩:=K.qR _ _ ht;have R5:RD=el:=by rw[hu]at SQ;simp at SQ;exact SQ.symm
      subst R5
      obtain⟨ds,rb,rj,qz⟩:=Qm2 K (ps.map fun p=>(p.1,YK T (fs.getD p.1 0) p.2)) vs (fs:=fs) (fun x=>some (x*T.size RD,T.size RD)) hY Dg (LQ X) (by simpa using hlen)
       (zh fun i=>fs.getD i 0) (by
        intro p hp;rw[List.mem_map]at hp;obtain⟨p',y9,rfl⟩:=hp;exact hb.2 p' y9) (by
        intro i hi;rw[SN i (by omega),LG i hi])
      refine⟨ds,?_,rj,qz⟩;unfold Program.built;simp only[hi,hu,Dw,sT,Ge];exact rb
     |false=>
      obtain⟨fields,hu,hm,ho,_⟩:=K.jW _ _ ht
      have fB:∀f∈fs,(P.info? f).map (·.size)=some (T.size f):=by
       intro f hf;obtain⟨i,h1,h2,_⟩:=K.qQ _ _ _ ht hf;simp[h1,h2]
      have qy:fields.toList.mapM (fun f=>(P.info? f.type).map fun i=>(f.offset,i.size))=some (fields.toList.map fun f=>(f.offset,T.size f.type)):=by
       have:∀fl:List Field,(∀f∈fl,f.type∈fs)->fl.mapM (fun f=>(P.info? f.type).map fun i=>(f.offset,i.size))=some (fl.map fun f=>(f.offset,T.size f.type)):=by
        intro fl
        induction fl with
        |nil=>intro _;rfl
        |cons f fl ih=>
         intro hY;have h1:=fB f.type (hY f (by simp));rw[Option.map_eq_some_iff]at h1;obtain⟨i,h1,h2⟩:=h1;simp[List.mapM_cons,h1,h2,ih (fun q hq=>hY q (by simp[hq]))]
       refine this _ (fun f hf=>?_);rw[<-hm];exact List.mem_map.2 ⟨f,hf,rfl⟩
      obtain⟨ds,rb,rj,qz⟩:=Qm2 K (ps.map fun p=>(p.1,YK T (fs.getD p.1 0) p.2)) vs (fs:=fs) (fun x=>(fields.toList.map fun f=>(f.offset,T.size f.type)).toArray[x]?) hY Dg (LQ X) (by simpa using hlen)
       (zh fun i=>fs.getD i 0) (by
        intro p hp;rw[List.mem_map]at hp;obtain⟨p',y9,rfl⟩:=hp;exact hb.2 p' y9) (by
        intro i hi;have h1:(fields.toList.map (·.type))[i]? = some (fs.getD i 0):=by rw[hm];simp[hi]
        rw[bB,Option.map_eq_some_iff]at h1;obtain⟨f,hf,yT⟩:=h1;have h2:=ho i f (by simpa using hf);simp only[List.getElem?_toArray,bB,hf,bC,h2,yT])
      refine⟨ds,?_,rj,qz⟩;unfold Program.built;simp only[hi,hu,Dw,qy];exact rb
    obtain⟨ds,RY,rj,qz⟩:=Gb
    have fA:d.de=true:=by
     have:fit T d (.inr fs)=true\/True:=.inr trivial
     have h2:∀(l:List (Nat×D C)) (z d:D C),(∃a b,z=.bI a b)->ma z l=some d->∃a b,d=.bI a b:=by
      intro l
      induction l with
      |nil=>intro z d hz hd;simp[ma]at hd;exact hd▸hz
      |cons p l ih=>
       intro z d hz hd;simp only[ma]at hd;cases hs:z.gF p.1 p.2 with
       |none=>rw[hs]at hd;simp at hd
       |some z'=>simp only[hs]at hd;exact ih z' d (WR hs).2 hd
     obtain⟨a,b,rfl⟩:=h2 _ _ _ hac hY;rfl
    refine dc.same g (.agg ⟨ds⟩) (run_build X.w t _ _ RY) ⟨.inl ⟨fA,ds,rj,rfl⟩,fun r hr=>?_⟩;rcases qz r hr with h1|h1
    ·rw[pW]at h1;simp at h1
    ·exact h1
 |arr n el ty=>
  cases hz:T.zero t with
  |none=>rw[ht,hz]at hx;exact Ex.cB hx
  |some z=>
   cases z with
   |arr iM m l=>
    simp only[ht,hz]at hx
    by_cases iI:iM=ty
    ·subst iI;simp only[dite_true]at hx;cases hY:wU T l (ps.map fun p=>(p.1,YK T el p.2))with
     |none=>rw[hY]at hx;exact Ex.cB hx
     |some l'=>
      simp only[hY]at hx;cases hn:Nat.beq n m with
      |false=>rw[hn]at hx;exact Ex.cB hx
      |true=>
       rw[hn]at hx;obtain⟨rfl,rfl,rfl,rfl⟩:=Ex.ret hx;have hn:=az hn;subst hn;obtain⟨it,zv,hi,Dw,_,LQ⟩:=K.zero _ _ hz;obtain⟨ds,rb,rj⟩:=Qm3 K _ vs hY (LQ X) (by simpa using hlen) (zh fun _=>el);obtain⟨ie,_,h1,h2,_⟩:=K.kP _ _ _ (.inl ⟨_,ht⟩);have mR:=(K.base.kO _ _ _ _ ht).2.2
       have RY:P.built t vs=some ⟨ds⟩:=by
        unfold Program.built;simp only[hi,(K.oa _ _ _ _ ht).1,Dw,h1,h2,mR];exact rb
       exact dc.same g (.agg ⟨ds⟩) (run_build X.w t _ _ RY) (RO.mk (.inl ⟨rfl,ds,rj,rfl⟩) rfl)
    ·simp only[iI,dite_false]at hx;exact Ex.cB hx
   |_=>rw[ht,hz]at hx;exact Ex.cB hx
 |_=>rw[ht]at hx;exact Ex.cB hx
include g in
theorem Qhv{t:TypeId}{n:Nat}{ps:List (Nat×D C)}{vs:eJ}{d:D C}(hlen:ps.length=vs.length)
 (oL:∀(j:Nat) (p:Nat×D C) (q:Nat×Value),ps[j]? = some p->vs[j]? = some q->p.1=q.1/\RO T X nx lim p.2 q.2) (hx:Ex e (KX T t n ps) h nx d h' cF tr) :
 dc P T X nx lim h' cF d (Instr.buildSlice t n ⟨vs⟩):=by
 unfold KX at hx;cases ht:T.ty t with
 |sl el ty=>
  simp only[ht]at hx;cases hY:wU T (List.replicate n (T.eU ty)) (ps.map fun p=>(p.1,YK T el p.2))with
  |none=>rw[hY]at hx;exact Ex.cB hx
  |some l=>
   simp only[hY]at hx;cases hb:Nat.ble (n*T.size el) 16777216 with
   |false=>rw[hb]at hx;exact Ex.cB hx
   |true=>
    rw[hb]at hx;obtain⟨rfl,rfl,rfl,rfl⟩:=Ex.ret hx;have hb:=Nat.le_of_ble_eq_true hb;obtain⟨ie,z,h1,h2,_,_,h3,h4,h5,h6⟩:=K.kP _ _ _ (.inr ht);have mR:=(K.base.mH _ _ _ ht).2.2;have Dv:=R.Te (h6 X) n;have tG:=HE z.cells (by omega) n;rw[h5]at tG;rw[<-tG]at Dv
    obtain⟨ds,rb,rj⟩:=Qm3 K _ vs hY Dv (by simpa using hlen) (by
     intro j p q hp hq;rw[bB,Option.map_eq_some_iff]at hp;obtain⟨p',y9,rfl⟩:=hp;have:=oL j p' q y9 hq;exact⟨this.1,Yw this.2⟩)
    have Dj:=(rj.gj K.base).2;obtain⟨g1,s1,f1⟩:=G.data K.base g ⟨ds⟩ el;refine⟨.slice (some ⟨X.w.heap.size,0,none⟩) n n,⟨X.w.alloc (.cells ⟨ds⟩ el),X.ρ,X.O⟩,?_,g1,s1,RO.mk (.mk rfl ?_) rfl⟩
    ·have Dl:¬(n*T.size el>2^24):=by omega
     simp only[Instr.buildSlice,aG,aB (K.oX _ _ _ ht),aA,sizeOf,typeInfo,run_program,h1,aF,Sem.run_ite,h2,Dl,aL];rw[<-mR]at rb
     by_cases h0:n*T.size el=0
     ·have xq:n=0:=by
       rcases Nat.mul_eq_zero.1 h0 with h|h
       ·exact h
       ·omega
      subst xq;simp only[Nat.zero_mul,Array.range_zero',Array.map_empty,aU,aF,aA]at rb ⊢;rw[rb];simp[newRow]
     ·simp only[h0,aL,zeroValue,typeInfo,aG,run_program,aA,h1,aF,h4,h5];have yP:Instr.fill (fun i=>some (i*T.size el,T.size el)) (Array.map (fun x=>z.cells[x%T.size el]!) (Array.range (n*T.size el))) vs=some ⟨ds⟩:=rb;rw[yP];simp[newRow]
    ·have:=R.sl (X:=⟨X.w.alloc (.cells ⟨ds⟩ el),X.ρ,X.O⟩) (T:=T) (t:=ty) (cap:=true) (l:=l) (b:=X.w.heap.size) (off:=0) (cp:=l.length) (cs:=ds) (fun j v hj=>⟨by
      simp only[World.cell?,Q4,aN];simpa using hj,by simpa using f1 j⟩) (by rw[Dj];exact rj.step K.base s1 (by simp[D.refs])) (aq _) (fun _=>rfl)
     rw[Dj]at this;exact this
 |fO el=>
  simp only[ht]at hx;cases hb:(ug 0 n ps&&Nat.ble n 16777216&&ps.all fun p=>fit T (YK T el p.2) (.inl el))with
  |false=>rw[hb]at hx;exact Ex.cB hx
  |true=>
   rw[hb]at hx;obtain⟨rfl,rfl,rfl,rfl⟩:=Ex.ret hx;simp only[ai]at hb;obtain⟨⟨b1,b2⟩,b3⟩:=hb;have b2:=Nat.le_of_ble_eq_true b2;obtain⟨hu,fA,i,z,hi,hs,hz,LR,_⟩:=K.qP _ _ ht;obtain⟨us,e1,e2,e3⟩:=QAd (X:=X) fA ps vs 0 n ((List.replicate n z.cells.toList).flatten) b1 (by simp[LR]) b3 hlen oL;simp only[List.take_zero,aH,aN]at e1 e3;obtain⟨g1,s1,f1⟩:=G.data K.base g ⟨us⟩ el
   have hrefs:∀r∈(D.ofList (ps.map fun p=>YK T el p.2)).refs,ft cF lim r:=by
    have:∀(ps:List (Nat×D C)) (vs:eJ),ps.length=vs.length->(∀(j:Nat) (p:Nat×D C) (q:Nat×Value),ps[j]? = some p->vs[j]? = some q->p.1=q.1/\RO T X cF lim p.2 q.2) ->
     ∀r∈(D.ofList (ps.map fun p=>YK T el p.2)).refs,ft cF lim r:=by
     intro ps
     induction ps with
     |nil=>intro vs _ _ r hr;simp[D.ofList,D.refs]at hr
     |cons p ps ih=>
      intro vs hl oL r hr;cases vs with
      |nil=>simp at hl
      |cons q vs=>
       simp only[List.map_cons,D.ofList,D.refs,aT]at hr;rcases hr with hr|hr
       ·exact(Yw (oL 0 p q rfl rfl).2).2 r hr
       ·exact ih vs (by simpa using hl) (fun k p q hp hq=>oL (k+1) p q (by simpa using hp) (by simpa using hq)) r hr
    exact this ps vs hlen oL
   refine⟨.slice (some ⟨X.w.heap.size,0,none⟩) n n,⟨X.w.alloc (.cells ⟨us⟩ el),X.ρ,X.O⟩,?_,g1,s1,⟨.mk rfl ?_,by simpa[D.refs]using hrefs⟩⟩
   ·have Dl:¬(n*i.size>2^24):=by rw[hs];omega
    have tG:=HE z.cells (by omega) n;rw[LR]at tG;simp only[Instr.buildSlice,aG,aB hu,aA,sizeOf,typeInfo,run_program,hi,aF,Sem.run_ite,Dl,aL];rw[hs]
    by_cases h0:n*1=0
    ·have xq:n=0:=by omega
     subst xq;simp only[Nat.zero_mul,Array.range_zero',Array.map_empty,aU,aF,aA,bF,List.flatten_nil]at e1 ⊢;rw[e1];simp[newRow]
    ·simp only[h0,aL,zeroValue,typeInfo,aG,run_program,aA,hi,aF,hz,LR]
     have yP:Instr.fill (fun i=>some (i*1,1)) (Array.map (fun x=>z.cells[x%1]!) (Array.range (n*1))) vs=some ⟨us⟩:=by
      rw[<-e1,<-tG]
     rw[yP];simp[newRow]
   ·refine .fO (b:=X.w.heap.size) (off:=0) (cs:=us) (fun j v hj=>⟨?_,by simpa using f1 j⟩) ((e2.row T).step K.base s1 hrefs) (Nat.le_of_eq e3.symm) (QlC ?_) ⟨aq _,fun _=>⟨rfl,e3⟩⟩
    ·simp only[World.cell?,Q4,aN];simpa using hj
    ·intro d hd;obtain⟨p,hp,rfl⟩:=List.mem_map.1 hd;exact fA _ (aX.1 b3 p hp)
 |_=>rw[ht]at hx;exact Ex.cB hx
end
theorem QsB(n:Nat):∀(r c:Nat),Builtin.growBy n r c<=max c (n+(n+768)/4):=by
 intro r
 induction r with
 |zero=>intro c;simp[Builtin.growBy];omega
 |succ r ih=>
  intro c;simp only[Builtin.growBy]
  split
  ·omega
  ·have:=ih (c+(c+768)/4);omega
theorem Qp0(n c:Nat)(h:c<n):Builtin.nextslicecap n c<=2*n+192:=by
 unfold Builtin.nextslicecap
 split
 ·omega
 ·split
  ·omega
  ·have:=QsB n 4 c;omega
theorem Kg(n c b:Nat)(h:c<n)(hb:n*b<=1099511627776):Builtin.nextslicecap n c*b<=281474976710656:=by
 have h1:=Qp0 n c h;have h2:Builtin.nextslicecap n c*b<=(2*n+192)*b:=Nat.mul_le_mul_right _ h1;have h3:(2*n+192)*b=2*(n*b)+192*b:=by rw[Nat.add_mul,Nat.mul_assoc]
 have h4:b<=n*b:=Nat.le_mul_of_pos_left _ (by omega);omega
theorem Kh(w:World)(GW ft:Nat)(e:TypeId):GW<=grownCap w GW ft e:=by
 unfold grownCap Question.cut;simp
section
variable {C:gR}{P:Program}{T:fh C}(K:Zo P T)
open Pg (Ex)
variable {X:Cx}{h h':Heap C}{nx cF:Nat}{e:Pg.Lv}{lim:ek}{tr:Tr}(g:G T X h nx lim)(dP:cF<=lim.top)
def lC(T:fh C)(X:Cx)(nx:Nat)(lim:ek):Option (D C)->dX->Prop
 |none,none=>True
 |some d,some v=>RO T X nx lim d v
 |_,_=>False
theorem CF{o:Option (D C)}{v:dX}{n a:Int}(h:lC T X nx lim o v)(ha:kF o n=some a):(o=none/\v=none/\a=n)\/(o.isSome=true/\∃k,v=some (.int k a)):=by
 cases o with
 |none=>
  cases v with
  |none=>simp[kF]at ha;exact .inl ⟨rfl,rfl,ha.symm⟩
  |some=>simp[lC]at h
 |some d=>
  cases v with
  |none=>simp[lC]at h
  |some v=>
   cases d<;>simp[kF]at ha
   subst ha;exact .inr ⟨rfl,_,ap some h.1.int.1⟩
theorem QV(k:IntKind)(i:Int)(y:Nat)(code:BoundsCode)(h0:0<=i)(h1:i<=y)(w:World):(Instr.sliceBound (.int k i) y code).run P w=.ok i.toNat w:=by
 simp[Instr.sliceBound,asIntOf,h0,h1]
include K g
theorem TY{t el:TypeId}{ty:C.Ty}(ht:T.ty t=.sl el ty){cap:Bool}{l:List (C.A ty)}{d:D C}{v:Value}{lo hi mx:Option (D C)}{lB mu mJ:dX}(hv:R T X false (.sl ty cap l) [v])
 (fX:lC T X nx lim lo lB) (nO:lC T X nx lim hi mu) (nP:lC T X nx lim mx mJ) (hx:Ex e (vz cap l lo hi mx) h nx d h' cF tr):dc P T X nx lim h' cF d (Instr.sliceAt t v lB mu mJ):=by
 unfold vz at hx;cases ha:kF lo 0 with
 |none=>rw[ha]at hx;exact Ex.cB hx
 |some a=>
  cases hb:kF hi l.length with
  |none=>rw[ha,hb]at hx;exact Ex.cB hx
  |some b=>
   simp only[ha,hb]at hx;have hu:=K.oX _ _ _ ht;have hs:=Zy K (.inr ht) X.w;have qa:=CF fX ha;have qb:=CF nO hb
   -- Tx is cut
   have fin:∀(c2:Bool) (m:Nat),0<=a->a<=b->b<=l.length->b.toNat<=m->(c2=true->m=b.toNat) ->
    ∀(ao:dw) (cp:Nat),v=.slice ao l.length cp->(m=cp\/m=b.toNat)->R T X false (.sl ty c2 ((l.take b.toNat).drop a.toNat)) [.slice (if m=a.toNat then ao else ao.map (·.add (a.toNat*T.size el))) (b.toNat-a.toNat) (m-a.toNat)]:=by
    intro c2 m h0 h1 h2 h3 h4 ao cp GL h5;subst GL;have hlen:((l.take b.toNat).drop a.toNat).length=b.toNat-a.toNat:=by simp;omega
    cases hv with
    |kN=>
     simp only[bH]at h2;have e1:a.toNat=0:=by omega
     have e2:b.toNat=0:=by omega
     rw[e1,e2]at *
     have e3:m=0:=by omega
     subst e3
     simpa using R.kN ty c2 ao
    | @sl _ _ _ b0 off _ cs iw hr hc kz=>
     obtain⟨c1,xb,xl,y5,fZ,_⟩:=hr.iZ K.base b.toNat (by omega);obtain⟨d1,d2,my,vT,_,ks⟩:=fZ.iZ K.base a.toNat (by omega);rw[<-hlen]
     by_cases hm:m=a.toNat
     ·have hz:(l.take b.toNat).drop a.toNat=[]:=List.length_eq_zero_iff.1 (by omega);rw[ax hm,hz];exact .sl (cs:=[]) (fun j v hj=>by simp at hj) (by simpa using R.ia ty) (by simp) (fun vH=>by have:=h4 vH;simp;omega)
     ·rw[aw hm];simp only[bC,Addr.add_lit];refine .sl (cs:=d2) (fun j v hj=>?_) (by rw[hlen];exact ks) (by omega) (fun vH=>by have:=h4 vH;omega);rw[hs.2.1,<-vT,Nat.add_assoc];refine iw _ v ?_;rw[xl,my,ay,List.getElem?_append_right (by omega)];rw[show d1.length+j-d1.length=j by omega,List.getElem?_append_left (av.1 hj).1];exact hj
   have nY:∃ao cp,v=.slice ao l.length cp/\l.length<=cp/\(cap=true->cp=l.length):=by
    cases hv with
    |kN=>exact⟨_,0,rfl,by simp,fun _=>by simp⟩
    |sl iw hr hc kz=>exact⟨_,_,rfl,hc,kz⟩
   obtain⟨ao,cp,rfl,nN,kz⟩:=nY;cases mx with
   |none=>
    cases mJ with
    |some=>simp[lC]at nP
    |none=>
     have hx:Ex e (.br (decide (0<=a/\a<=b/\b<=l.length)) (.ret (.sl ty (cap&&hi.isNone) ((l.take b.toNat).drop a.toNat))) .fail) h nx d h' cF tr:=by
      cases hi with
      |none=>
       simp only[kF,aD]at hb;subst hb;have e1:decide (0<=a/\a<=(l.length:Int)/\(l.length:Int)<=l.length)=decide (0<=a/\a<=(l.length:Int)):=by simp
       have e2:l.take ((l.length:Int)).toNat=l:=by simp
       simpa only[e1,e2,Option.isNone_none,Bool.and_true]using hx
      |some q=>simpa using hx
     rcases Ex.br hx with⟨hc,hx⟩|⟨_,hx⟩
     ·obtain⟨rfl,rfl,rfl,rfl⟩:=Ex.ret hx;have hc:0<=a/\a<=b/\b<=l.length:=by simpa using hc
      have hR:=fin (cap&&hi.isNone) cp hc.1 hc.2.1 hc.2.2 (by omega) (by
       intro h1;simp only[ai,Option.isNone_iff_eq_none]at h1;rcases qb with⟨_,_,rfl⟩|⟨h2,_⟩
       ·have:=kz h1.1;omega
       ·rw[h1.2]at h2;simp at h2) ao cp rfl (.inl rfl)
      have pt:(Instr.sliceBounds true l.length cp lB mu none).run P X.w=.ok (a.toNat,b.toNat,cp) X.w:=by
       rcases qa with⟨_,rfl,rfl⟩|⟨_,k,rfl⟩<;>rcases qb with⟨_,rfl,rfl⟩|⟨_,k2,rfl⟩
       ·simp[Instr.sliceBounds]
       ·simp[Instr.sliceBounds,QV k2 b cp _ (by omega) (by omega)]
       ·simp[Instr.sliceBounds,QV k a l.length _ (by omega) (by omega)]
       ·simp[Instr.sliceBounds,QV k2 b cp _ (by omega) (by omega),QV k a b.toNat _ (by omega) (by omega)]
      refine dc.same g _ ?_ (RO.mk (.mk rfl hR) rfl);simp only[Instr.sliceAt,Instr.slice,aG,aB hu,aA,pt,hs.1,aF]
     ·exact Ex.cB hx
   |some dm=>
    cases mJ with
    |none=>simp[lC]at nP
    |some vm=>
     cases dm with
     |int km m=>
      simp only at hx;cases LH:hi.isSome with
      |false=>rw[LH]at hx;exact Ex.cB hx
      |true=>
       rw[LH]at hx;simp only[ag]at hx;rcases Ex.br hx with⟨hc,hx⟩|⟨_,hx⟩
       ·obtain⟨rfl,rfl,rfl,rfl⟩:=Ex.ret hx;have hc:0<=a/\a<=b/\b<=l.length/\m=b:=by simpa using hc
        obtain⟨h1,h2,h3,rfl⟩:=hc;obtain⟨rfl,_⟩:=nP.1.int;rcases qb with⟨hn,_⟩|⟨_,k2,rfl⟩
        ·rw[hn]at LH;simp at LH
        ·have hR:=fin true m.toNat h1 h2 h3 (by omega) (fun _=>rfl) ao cp rfl (.inr rfl)
         have pt:(Instr.sliceBounds true l.length cp lB (some (.int k2 m)) (some (.int km m))).run P X.w=.ok (a.toNat,m.toNat,m.toNat) X.w:=by
          rcases qa with⟨_,rfl,rfl⟩|⟨_,k,rfl⟩
          ·simp[Instr.sliceBounds,QV km m cp _ (by omega) (by omega),QV k2 m m.toNat _ (by omega) (by omega)]
          ·simp[Instr.sliceBounds,QV km m cp _ (by omega) (by omega),QV k2 m m.toNat _ (by omega) (by omega),QV k a m.toNat _ (by omega) (by omega)]
         refine dc.same g _ ?_ (RO.mk (.mk rfl hR) rfl);simp only[Instr.sliceAt,Instr.slice,aG,aB hu,aA,pt,hs.1,aF]
       ·exact Ex.cB hx
     |_=>exact Ex.cB hx
omit K g in
theorem VJ.data{ty:C.Ty}{l:List (C.A ty)}{v:Value}{b lo hi:Nat}(hv:VJ T X ty false l v b lo hi):R T X false (.sl ty false l) [v]:=by
 rcases hv with⟨⟨a,rfl,_⟩,rfl,_⟩|⟨off,cp,rfl,h2,_,h4⟩
 ·exact .kN _ _ _
 ·rcases h4 with⟨h4,_⟩|⟨_,_,⟨cs,h5,h6⟩,_⟩
  ·simp at h4
  ·exact .sl h5 h6 h2 (fun h=>by simp at h)
theorem OB{t:TypeId}{a d:D C}{va:Value}{lo hi mx:Option (D C)}{lB mu mJ:dX}(ha:RO T X nx lim a va)
 (fX:lC T X nx lim lo lB) (nO:lC T X nx lim hi mu) (nP:lC T X nx lim mx mJ) (hx:Ex e (E2 T t a lo hi mx) h nx d h' cF tr):dc P T X nx lim h' cF d (Instr.sliceAt t va lB mu mJ):=by
 unfold E2 at hx;cases ht:T.ty t with
 |sl el ty0=>
  simp only[ht]at hx;cases a with
  |sl ty cap l=>
   simp only at hx;cases hd:decide (ty=ty0)with
   |false=>rw[hd]at hx;exact Ex.cB hx
   |true=>
    rw[hd]at hx;have hd:ty=ty0:=by simpa using hd
    subst hd;exact TY K g ht (ha.1.one rfl) fX nO nP hx
  |vs id n=>
   simp only at hx;obtain⟨o,kG,ho,hy,_⟩:=Ex.rd hx;clear hx;cases o with
   |var u d0=>exact Ex.cB hy
   |map _ _ _=>exact Ex.cB hy
   |dG _=>exact Ex.cB hy
   |vec ty own l=>
    cases own with
    |true=>exact Ex.cB hy
    |false=>
     simp only[Wb]at hy;cases hd:decide (ty=ty0)with
     |false=>rw[hd]at hy;exact Ex.cB hy
     |true=>
      rw[hd]at hy;simp only[ag]at hy;have hd:ty=ty0:=by simpa using hd
      subst hd;rcases Ex.br hy with⟨hb,hx⟩|⟨_,hx⟩
      ·have hn:n=l.length:=az hb;obtain⟨v0,b,iP,jl,h1,h2⟩:=g.vec id ty false l ho;have hR:=ha.1.one rfl;cases hR with
       | @vs _ _ cp a0 hh=>
        have jc:=(hh _ _ _ _ _ h1).2 (by rw[h2.len,hn]);have hdt:=h2.data;rw[jc]at hdt;exact TY K g ht hdt fX nO nP hx
      ·exact Ex.cB hx
  |_=>exact Ex.cB hx
 |str=>
  simp only[ht]at hx;cases a with
  |str s=>
   simp only at hx;cases rL:kF lo 0 with
   |none=>rw[rL]at hx;exact Ex.cB hx
   |some a=>
    cases iW:kF hi s.length with
    |none=>rw[rL,iW]at hx;exact Ex.cB hx
    |some b=>
     cases mx with
     |some=>rw[rL,iW]at hx;exact Ex.cB hx
     |none=>
      cases mJ with
      |some=>simp[lC]at nP
      |none=>
       simp only[rL,iW]at hx;rcases Ex.br hx with⟨hc,hx⟩|⟨_,hx⟩
       ·obtain⟨rfl,rfl,rfl,rfl⟩:=Ex.ret hx;have hc:0<=a/\a<=b/\b<=s.length:=by simpa using hc
        have hu:=K.k9 _ ht;rw[ha.1.str];have fB:(⟨⟨s⟩⟩:ByteArray).size=s.length:=rfl;have qa:=CF fX rL;have qb:=CF nO iW
        have pt:(Instr.sliceBounds false s.length s.length lB mu none).run P X.w=.ok (a.toNat,b.toNat,s.length) X.w:=by
         rcases qa with⟨_,rfl,rfl⟩|⟨_,k,rfl⟩<;>rcases qb with⟨_,rfl,rfl⟩|⟨_,k2,rfl⟩
         ·simp[Instr.sliceBounds]
         ·simp[Instr.sliceBounds,QV k2 b s.length _ (by omega) (by omega)]
         ·simp[Instr.sliceBounds,QV k a s.length _ (by omega) (by omega)]
         ·simp[Instr.sliceBounds,QV k2 b s.length _ (by omega) (by omega),QV k a b.toNat _ (by omega) (by omega)]
        have hex:(⟨⟨s⟩⟩:ByteArray).extract a.toNat b.toNat=⟨⟨(s.take b.toNat).drop a.toNat⟩⟩:=by
         apply ByteArray.ext;rw[ByteArray.data_extract];apply Array.ext';rw[Array.toList_extract,List.extract_eq_take_drop,List.drop_take]
        refine dc.same g (.string ⟨⟨(s.take b.toNat).drop a.toNat⟩⟩) ?_ (RO.mk (.mk rfl (.str _)) rfl);simp[Instr.sliceAt,Instr.slice,aB hu,fB,pt,hex]
       ·exact Ex.cB hx
  |_=>exact Ex.cB hx
 |_=>rw[ht]at hx;exact Ex.cB hx
theorem QAf{t:TypeId}{id:Nat}{p:bU}{d:D C}{va:Value}{lo hi mx:Option (D C)}{lB mu mJ:dX}(ha:RO T X nx lim (.ptr id p) va)
 (fX:lC T X nx lim lo lB) (nO:lC T X nx lim hi mu) (nP:lC T X nx lim mx mJ) (hx:Ex e (match T.ty t with |.arr m _ _=>.rd id (Mk T t id p m lo hi mx)|_=>.fail) h nx d h' cF tr):dc P T X nx lim h' cF d (Instr.sliceAt t va lB mu mJ):=by
 cases ht:T.ty t with
 |arr m el ty=>
  simp only[ht]at hx;obtain⟨o,kG,ho,hx,_⟩:=Ex.rd hx;cases o with
  |vec ty own l=>exact Ex.cB hx
  |map _ _ _=>exact Ex.cB hx
  |dG _=>exact Ex.cB hx
  |var u d0=>
   simp only[Mk]at hx;cases iI:decide (gn T u p=some t)with
   |false=>rw[iI]at hx;exact Ex.cB hx
   |true=>
    rw[iI]at hx;simp only[ag]at hx;have iI:gn T u p=some t:=by simpa using iI
    cases rL:kF lo 0 with
    |none=>rw[rL]at hx;exact Ex.cB hx
    |some a=>
     cases iW:kF hi m with
     |none=>rw[rL,iW]at hx;exact Ex.cB hx
     |some b=>
      cases mx with
      |some=>rw[rL,iW]at hx;exact Ex.cB hx
      |none=>
       cases mJ with
       |some=>simp[lC]at nP
       |none=>
        simp only[rL,iW]at hx;rcases Ex.br hx with⟨hc,hx⟩|⟨_,hx⟩
        ·obtain⟨rfl,rfl,rfl,rfl⟩:=Ex.ret hx;have hc:0<=a/\a<m/\a<=b/\b<=m:=by simpa using hc
         have hu:=(K.oa _ _ _ _ ht).1;have hs:=Zy K (.inl ⟨m,ht⟩) X.w;obtain⟨b1,c1,h1,h2,h3,h4⟩:=g.var id u d0 ho;have hR:=ha.1.one rfl;cases hR with
         | @ptr _ _ a' hq=>
          obtain⟨ig,rfl⟩:=hq b1 u h1;have qa:=CF fX rL;have qb:=CF nO iW
          have pt:(Instr.sliceBounds false m m lB mu none).run P X.w=.ok (a.toNat,b.toNat,m) X.w:=by
           rcases qa with⟨_,rfl,rfl⟩|⟨_,k,rfl⟩<;>rcases qb with⟨_,rfl,rfl⟩|⟨_,k2,rfl⟩
           ·simp[Instr.sliceBounds]
           ·simp[Instr.sliceBounds,QV k2 b m _ (by omega) (by omega)]
           ·simp[Instr.sliceBounds,QV k a m _ (by omega) (by omega)]
           ·simp[Instr.sliceBounds,QV k2 b m _ (by omega) (by omega),QV k a b.toNat _ (by omega) (by omega)]
          have fg:¬m=a.toNat:=by omega
          have kn:b.toNat-a.toNat=(b-a).toNat:=by omega
          refine dc.same g (.slice (some ⟨b1,dL T u p+a.toNat*T.size (T.dp ty),none⟩) (b-a).toNat (m-a.toNat)) ?_ ⟨.mk rfl (.jg (fun b' t' h5=>?_) (fun _=>⟨_,_,rfl⟩) (fun v e b' l' jl h5=>by rw[h1]at h5;cases h5)),by simpa[D.refs]using ha.2⟩
          ·simp[Instr.sliceAt,Instr.sureAddr,aB hu,pt,hs.1,fg,kn,Addr.add_lit,hs.2.1]
          ·rw[h1]at h5;simp at h5;obtain⟨rfl,rfl⟩:=h5;exact⟨m,el,ty,ht,iI,ig,by omega,rfl⟩
        ·exact Ex.cB hx
 |_=>simp only[ht]at hx;exact Ex.cB hx
end
section
variable {C:gR}{P:Program}{T:fh C}(K:Zo P T)
open Pg (Ex)
variable {X:Cx}{h h':Heap C}{nx cF:Nat}{e:Pg.Lv}{lim:ek}{tr:Tr}(g:G T X h nx lim)(dP:cF<=lim.top)
def Src(T:fh C)(X:Cx)(w:World)(ty:C.Ty)(xs:List (C.A ty))(v:Value):Prop :=
 ((∃a,v=.slice a 0 0)/\xs=[])\/∃b off cp cs,v=.slice (some ⟨b,off,none⟩) xs.length cp/\R T X false (.arr ty xs.length xs) cs/\∀j u,cs[j]? = some u->w.cell? ⟨b,off+j,none⟩=some u
theorem VJ.src{ty:C.Ty}{own:Bool}{l:List (C.A ty)}{v:Value}{b lo hi:Nat}(hv:VJ T X ty own l v b lo hi):Src T X X.w ty l v:=by
 have h0:=hv;rcases hv with⟨⟨a,h1,_⟩,h2,_⟩|⟨off,cp,h1,_⟩
 ·exact .inl ⟨⟨a,h1⟩,h2⟩
 ·obtain⟨_,_,_,cs,h3,h4⟩:=h0.cells h1;exact .inr ⟨b,off,cp,cs,h1,h3,h4⟩
theorem R.src{ty:C.Ty}{cap:Bool}{l:List (C.A ty)}{v:Value}(hv:R T X false (.sl ty cap l) [v]):Src T X X.w ty l v:=by
 cases hv with
 |kN=>exact .inl ⟨⟨_,rfl⟩,rfl⟩
 | @sl _ _ _ b off cp cs iw hr _ _=>exact .inr ⟨b,off,cp,cs,rfl,hr,fun j u hj=>(iw j u hj).1⟩
structure uL(P:Program)(T:fh C)(X:Cx)(w:World)(ty:C.Ty)(xs:List (C.A ty))(v:Value):Prop where
 len:∀w',(Builtin.lenOf v).run P w'=.ok xs.length w'
 cells:∃cs,R T X false (.arr ty xs.length xs) cs/\∀w':World,(∀a,w'.cell? a=w.cell? a)->(Builtin.firstCells (T.size (T.dp ty)) xs.length v).run P w'=.ok cs.toArray w'
theorem Src.feed(L:Laws T){w:World}{ty:C.Ty}{xs:List (C.A ty)}{v:Value}(h:Src T X w ty xs v):uL P T X w ty xs v:=by
 rcases h with⟨⟨a,rfl⟩,rfl⟩|⟨b,off,cp,cs,rfl,hr,hc⟩
 ·refine⟨fun w'=>by simp[Builtin.lenOf],[],.ia ty,fun w' _=>?_⟩;cases a<;>simp[Builtin.firstCells,loadCells,loadCellsFrom]
 ·refine⟨fun w'=>by simp[Builtin.lenOf],cs,hr,fun w' hw=>?_⟩;exact run_firstCells_some (P:=P) w' _ xs.length ⟨b,off,none⟩ xs.length cp cs (hr.gj L).1 (fun j v hj=>by rw[hw,Addr.add_lit];exact hc j v hj)
section run
variable {t tx ty0 el:TypeId}{ie:TypeInfo}{z:Value}(w:World)
theorem Xd(ht:P.underlying t=some (.slice el))(ko:∃u,P.underlying tx=some u/\∀k,u ≠ .int k)(hi:P.info? el=some ie)(ao:dw)(n cp:Nat)(vx:Value)(hlen:(Builtin.lenOf vx).run P w=.ok 0 w)(hf:(Builtin.firstCells ie.size 0 vx).run P w=.ok #[] w)(hc:n<=cp) :
 (Builtin.append_ #[t,tx] ty0 #[.slice ao n cp,vx]).run P w=.ok (.slice ao n cp) w:=by
 obtain⟨u,ko,rh⟩:=ko;have tl:(u matches .int _)=false:=by cases u<;>first|rfl|exact(rh _ rfl).elim
 cases ao<;>simp[Builtin.append_,aB ht,aB ko,sizeOf,typeInfo,hi,hlen,tl,hc,hf,storeCells]
theorem QlD(ht:P.underlying t=some (.slice el))(ko:∃u,P.underlying tx=some u/\∀k,u ≠ .int k)(hi:P.info? el=some ie)(g off n cp:Nat)(FK:bY)(eg:TypeId)(hg:w.heap[g]? = some (.cells FK eg (0,0)))
 (vx:Value) (m:Nat) (news:bT) (hlen:(Builtin.lenOf vx).run P w=.ok m w) (hf:(Builtin.firstCells ie.size m vx).run P w=.ok news.toArray w) (h1:∀u∈news,u.oneCell'=true)
 (rl:n+m<=cp) (kS:off+n*ie.size+news.length<=FK.size) :
 (Builtin.append_ #[t,tx] ty0 #[.slice (some ⟨g,off,none⟩) n cp,vx]).run P w =
  .ok (.slice (some ⟨g,off,none⟩) (n+m) cp) (w.setRow g (FK.toList.take (off+n*ie.size)++news++FK.toList.drop (off+n*ie.size+news.length)).toArray):=by
 obtain⟨u,ko,rh⟩:=ko;have tl:(u matches .int _)=false:=by cases u<;>first|rfl|exact(rh _ rfl).elim
 have dV:=run_storeCells_at P g (off+n*ie.size) eg news 0 FK w hg (by omega) h1;simp only[Nat.add_zero]at dV;simp[Builtin.append_,aB ht,aB ko,sizeOf,typeInfo,hi,hlen,tl,rl,hf,Addr.add_lit,dV]
theorem Nr(ht:P.underlying t=some (.slice el))(ko:∃u,P.underlying tx=some u/\∀k,u ≠ .int k)(hi:P.info? el=some ie)(hz:ie.zero=some z)(ao:dw)(n cp:Nat)(gP:bT)
 (holds:(ao=none/\gP=[])\/∃b,ao=some b/\gP.length=n*ie.size/\∀j v,gP[j]? = some v->w.cell? (b.add j)=some v)
 (vx:Value) (m:Nat) (news:bT) (hlen:(Builtin.lenOf vx).run P w=.ok m w) (hf:(Builtin.firstCells ie.size m vx).run P w.drew=.ok news.toArray w.drew)
 (hg:cp<n+m) (h63:((n+m:Nat):Int)<=9223372036854775807) (kS:Builtin.nextslicecap (n+m) cp*ie.bytes<=281474976710656) :
 (Builtin.append_ #[t,tx] ty0 #[.slice ao n cp,vx]).run P w =
  .ok (.slice (some ⟨w.heap.size,0,none⟩) (n+m) (grownCap w (n+m) cp el))
   (w.drew.alloc (.cells (gP++news++(Builtin.zeroCells z.cells (grownCap w (n+m) cp el-(n+m))).toList).toArray el)):=by
 obtain⟨u,ko,rh⟩:=ko;have tl:(u matches .int _)=false:=by cases u<;>first|rfl|exact(rh _ rfl).elim
 have hn:¬(n+m<=cp):=by omega
 have RP:¬(9223372036854775807<((n:Int)+(m:Int))):=by omega
 have RN:¬(281474976710656<Builtin.nextslicecap (n+m) cp*ie.bytes):=by omega
 have kT:(Builtin.firstCells ie.size n (.slice ao n cp)).run P w.drew=.ok gP.toArray w.drew:=by
  rcases holds with⟨rfl,rfl⟩|⟨b,rfl,h1,h2⟩
  ·simp[Builtin.firstCells]
  ·exact run_firstCells_some (P:=P) w.drew ie.size n b n cp gP h1 (by simpa using h2)
 simp[Builtin.append_,aB ht,aB ko,sizeOf,typeInfo,zeroValue,hi,hz,hlen,tl,hn,RP,RN,Question.forced,hf,kT,newRow,grownCap]
 congr 2
 apply Array.ext';simp
end run
include K in
theorem G.qG{t:C.Ty}{own:Bool}{l:List (C.A t)}{v:Value}{b lo hi:Nat}(g:G T X h nx lim)(hn:nx<lim.top)(hl:hi<=lo)
 (hV:VJ T X t own l v b lo hi):∃X',X'.w=X.w/\X'.ρ nx=some (.vec v (T.dp t) b lo hi)/\G T X' ((nx,.vec t own l)::h) (nx+1) lim/\Step X nx lim X':=by
 let l0:Loc:=.vec v (T.dp t) b lo hi
 have gv:∀c o,¬l0.owns c o:=fun c o h=>by have:=h.2;omega
 let X':Cx:=⟨X.w,fun id=>if id=nx then some l0 else X.ρ id,X.O⟩
 have fY:∀c o,X'.du c o->X.du c o:=by
  rintro c o ⟨id,k,h1,h2⟩
  by_cases hi:id=nx
  ·simp[X',hi]at h1;subst h1;exact absurd h2 (gv c o)
  ·simp[X',hi]at h1;exact⟨id,k,h1,h2⟩
 have hs:Step X nx lim X':=by
  refine⟨rfl,rfl,rfl,rfl,aq _,?_,fun c o _=>fY c o,fun _ _ _ _=>rfl,fun _ _ _=>rfl,fun _ _=>rfl⟩;intro id ho;have:id≠nx:=by have:=ho.1;omega
  simp[X',this,Qp.refl]
 have hc:Ch X X' nx lim nx:=⟨hs,fun id hi=>by simp[X',hi],fun c d e f hb=>⟨d,hb,rfl,fun _ _=>rfl⟩,fun c o hb _ _=>hb⟩;obtain⟨o1,o2,o3,o4⟩:=G.dI K.base g hc;refine⟨X',rfl,by simp[X',l0],⟨?_,?_,?_,?_,?_,?_,?_,?_,g.outs,Nat.le_succ_of_le g.low,g.pre.step hs⟩,hs⟩
 ·intro id t' d' hg;rw[Qy]at hg
  by_cases hi:id=nx
  ·simp[hi]at hg
  ·simp[hi]at hg;exact o1 id t' d' hi hg
 ·intro id t' gm l' hg;rw[Qy]at hg
  by_cases jl:id=nx
  ·simp[jl]at hg;obtain⟨rfl,rfl,hg⟩:=hg;simp at hg;subst hg;refine⟨v,b,lo,hi,by simp[X',jl,l0],?_⟩;rcases hV with h2|⟨off,cp,h2,h3,h4,h5⟩
   ·exact .inl h2
   ·refine .inr ⟨off,cp,h2,h3,h4,?_⟩;rcases h5 with⟨ht,fX,h5|⟨cs,e,h5,h6,h7⟩⟩|⟨ht,fX,⟨cs,h5,h6⟩,h7⟩
    ·exact .inl ⟨ht,fX,.inl h5⟩
    ·exact .inl ⟨ht,fX,.inr ⟨cs,e,h5,h6,h7.step K.base hs (by simp[D.refs])⟩⟩
    ·exact .inr ⟨ht,fX,⟨cs,h5.step hs,h6.step K.base hs (by simp[D.refs])⟩,h7⟩
  ·simp[jl]at hg;exact o2 id t' gm l' jl hg
 ·intro id ck cv l' hg;rw[Qy]at hg
  by_cases jl:id=nx
  ·simp[jl]at hg
  ·simp[jl]at hg;exact o3 id ck cv l' jl hg
 ·intro id cc hg;rw[Qy]at hg
  by_cases jl:id=nx
  ·simp[jl]at hg
  ·simp[jl]at hg;exact o4 id cc jl hg
 ·intro id k hr;rw[Qy]
  by_cases hi:id=nx
  ·simp[hi]
  ·simp[X',hi]at hr ⊢;exact g.jA id k hr
 ·intro id o hg;rw[Qy]at hg
  by_cases hi:id=nx
  ·simp[hi]at hg;subst hg;exact⟨hi▸g.new hn,fun r fK=>by simp[Obj.refs]at fK⟩
  ·simp[hi]at hg;exact g.ml (by omega) id o hg
 ·intro id jv k k' c o o' h1 h2 h3 h4
  by_cases hi:id=nx
  ·simp[X',hi]at h1;subst h1;exact absurd h3 (gv c o)
  ·by_cases hj:jv=nx
   ·simp[X',hj]at h2;subst h2;exact absurd h4 (gv c o')
   ·simp[X',hi]at h1;simp[X',hj]at h2;exact g.apart id jv k k' c o o' h1 h2 h3 h4
 ·intro c o hm;exact g.outer c o (fY c o hm)
theorem NY{n b:Nat}(h:Qg n b=true):n*b<=1099511627776:=by simpa[Qg]using h
include K g
theorem Qm4{t tx el:TypeId}{ty:C.Ty}(ht:T.ty t=.sl el ty)(ko:∃u,P.underlying tx=some u/\∀k,u ≠ .int k)(ty0:TypeId)(own:Bool)(l xs:List (C.A ty))(ao:dw)(cp:Nat)(vx:Value)
 (hl:Src T X X.w ty l (.slice ao l.length cp)) (hx:uL P T X X.w ty xs vx) (fg:xs≠[]) (nN:cp<l.length+xs.length) (fB:Qg (l.length+xs.length) (T.bytes el)=true) (hn:nx+1<=lim.top) :
 dc P T X nx lim ((nx,.vec ty own (l++xs))::h) (nx+1) (.vs nx (l.length+xs.length)) (Builtin.append_ #[t,tx] ty0 #[.slice ao l.length cp,vx]):=by
 obtain⟨ie,z,h1,h2,h3,hbp,h4,h5,h6,_⟩:=K.kP _ _ _ (.inr ht);have mR:=(K.base.mH _ _ _ ht).2.2;have lT:=NY fB;obtain⟨m9,news,o9,vN⟩:=hx
 ·have vV:=(o9.gj K.base).1;have hxl:0<xs.length:=List.length_pos_iff.2 fg
  have hole:∃gP,R T X false (.arr ty l.length l) gP/\((ao=none/\gP=[])\/∃b,ao=some b/\gP.length=l.length*ie.size/\∀j v,gP[j]? = some v->X.w.cell? (b.add j)=some v):=by
   rcases hl with⟨hv,rfl⟩|⟨b,off,lh,cs,hv,hr,hc⟩
   ·refine⟨[],.ia ty,?_⟩;cases ao with
    |none=>exact .inl ⟨rfl,rfl⟩
    |some b=>exact .inr ⟨b,rfl,by simp,fun j v hj=>by simp at hj⟩
   ·simp at hv;refine⟨cs,hr,.inr ⟨_,hv.1,by rw[(hr.gj K.base).1,h2,mR],fun j v hj=>?_⟩⟩;rw[Addr.add_lit];exact hc j v hj
  obtain⟨gP,vZ,holds⟩:=hole;have fX:=(vZ.gj K.base).1;have yK:l.length+xs.length<=(l.length+xs.length)*T.bytes el:=Nat.le_mul_of_pos_right _ hbp
  have eB:=Nr (P:=P) (t:=t) (tx:=tx) (ty0:=ty0) X.w (K.oX _ _ _ ht) ko h1 h5 ao l.length cp gP holds vx xs.length news (m9 _) (by rw[h2,mR];exact vN _ fun _=>rfl) nN
   (by omega) (by rw[h3];exact Kg _ _ _ nN lT)
  have yU:=Kh X.w (l.length+xs.length) cp el;generalize grownCap X.w (l.length+xs.length) cp el=cap at eB yU;obtain⟨g1,s1⟩:=G.world K.base g X.w.drew rfl rfl rfl rfl
  have SE:R T X false (.arr ty (l++xs).length (l++xs)) (gP++news):=by
   have:=vZ.iU o9
   simpa using this
  have Sx:(gP++news).length=(l++xs).length*T.size (T.dp ty):=by simp[fX,vV,Nat.add_mul]
  obtain⟨X',pr,g2,s2,r2⟩:=G.qH K.base g1 (by omega) (t:=ty) (l:=l++xs) (c:=(gP++news++(Builtin.zeroCells z.cells (cap-(l.length+xs.length))).toList).toArray) (e:=el) (cp:=cap) own (by
   have e1:(gP++news++(Builtin.zeroCells z.cells (cap-(l.length+xs.length))).toList).toArray.toList.take ((l++xs).length*T.size (T.dp ty))=gP++news:=by
    rw[List.toList_toArray,List.take_left' Sx]
   rw[e1];exact SE.step K.base s1 (by simp[D.refs])) (by simpa using yU) (by
   simp only[List.size_toArray,aC,Array.length_toList,size_zeroCells,h6,fX,vV,mR];rw[<-Nat.add_mul,<-Nat.add_mul];exact Nat.le_of_eq (by congr 1;omega))
  have hlen:(l++xs).length=l.length+xs.length:=by simp
  rw[hlen]at r2;refine⟨_,X',?_,g2,s1.trans s2 (aq _),⟨.mk rfl r2,?_⟩⟩
  ·rw[eB,pr];rfl
  ·intro id dD;simp[D.refs]at dD;subst dD;exact g.new (by omega)
omit K g in
theorem G.congr{h2:Heap C}(g:G T X h nx lim)(hh:∀id,h2.get id=h.get id):G T X h2 nx lim :=
 ⟨fun id t d ho=>g.var id t d (by rw[<-hh];exact ho),fun id t own l ho=>g.vec id t own l (by rw[<-hh];exact ho),fun id ck cv l ho=>g.map id ck cv l (by rw[<-hh];exact ho),fun id cc ho=>g.dG id cc (by rw[<-hh];exact ho),fun id l hr=>by rw[hh];exact g.jA id l hr,fun id o ho=>g.eL id o (by rw[<-hh];exact ho),g.apart,g.outer,g.outs,g.low,g.pre⟩
omit K g in
theorem Qp1{α:Type}(l:List α)(off k:Nat)(news:List α)(h:off+k+news.length<=l.length) :
 ((l.take (off+k)++news++l.drop (off+k+news.length)).drop off).take (k+news.length)=(l.drop off).take k++news:=by
 have e1:l.take (off+k)=l.take off++(l.drop off).take k:=by rw[List.take_add]
 have h1:(l.take off).length=off:=by simp;omega
 rw[e1,ay,ay,List.drop_left' h1,<-ay,List.take_left' (by simp;omega)]
include dP
theorem TZ{t tx el:TypeId}{ty:C.Ty}(ht:T.ty t=.sl el ty)(ko:∃u,P.underlying tx=some u/\∀k,u ≠ .int k)(ty0:TypeId){s d:D C}{vs vx:Value}(hs:RO T X nx lim s vs)(xs:List (C.A ty))(xw:uL P T X X.w ty xs vx)
 (hex:Ex e (Lp ty (T.bytes el) s xs) h nx d h' cF tr):dc P T X nx lim h' cF d (Builtin.append_ #[t,tx] ty0 #[vs,vx]):=by
 obtain⟨ie,z,q1,q2,q3,qb,q4,q5,q6,_⟩:=K.kP _ _ _ (.inr ht);have mR:=(K.base.mH _ _ _ ht).2.2;have hu:=K.oX _ _ _ ht
 have GM:xs=[]->(Builtin.lenOf vx).run P X.w=.ok 0 X.w/\(Builtin.firstCells ie.size 0 vx).run P X.w=.ok #[] X.w:=by
  rintro rfl
  obtain⟨m9,news,o9,vN⟩:=xw;have:=(o9.gj K.base).1;simp at this;subst this;refine⟨m9 _,?_⟩;rw[q2,mR];exact vN _ fun _=>rfl
 -- a new tP zM only Td
 have xF:∀(own:Bool) (l:List (C.A ty)) (ao:dw),xs=[]->R T X false (.sl ty true l) [.slice ao l.length l.length]->(own=true->l=[])->nx+1<=lim.top ->
  dc P T X nx lim ((nx,.vec ty own (l++xs))::h) (nx+1) (.vs nx (l.length+xs.length)) (Builtin.append_ #[t,tx] ty0 #[.slice ao l.length l.length,vx]):=by
  intro own l ao kE hR j5 hn;obtain⟨zi,sq⟩:=GM kE;subst kE;have eB:=Xd (P:=P) (t:=t) (tx:=tx) (ty0:=ty0) X.w hu ko q1 ao l.length l.length vx zi sq (aq _);simp only[aR,bH,Nat.add_zero]
  have hV:∃b lo hi,hi<=lo/\VJ T X ty own l (.slice ao l.length l.length) b lo hi:=by
   generalize hv:(Value.slice ao l.length l.length)=v at hR;cases hR with
   |kN _ _ a=>
    by_cases ha:∃b off,a=some ⟨b,off,none⟩
    ·obtain⟨b,off,rfl⟩:=ha;cases own with
     |true=>exact⟨b,off,off,aq _,.inr ⟨off,0,rfl,by simp,by simp,.inl ⟨rfl,rfl,.inl rfl⟩⟩⟩
     |false=>exact⟨b,off,off,aq _,.inr ⟨off,0,rfl,by simp,by simp,.inr ⟨rfl,by simp,⟨[],fun j v hj=>by simp at hj,.ia _⟩,.inl rfl⟩⟩⟩
    ·exact⟨0,0,0,aq _,.inl ⟨⟨a,rfl,fun b off e=>ha ⟨b,off,e⟩⟩,rfl,aq _⟩⟩
   | @sl _ _ _ b off cp cs iw hr _ hc=>
    have nN:=hc rfl;subst nN;cases own with
    |true=>
     have:=j5 rfl;subst this;exact⟨b,off,off,aq _,.inr ⟨off,0,rfl,by simp,by simp,.inl ⟨rfl,rfl,.inl rfl⟩⟩⟩
    |false=>exact⟨b,_,_,aq _,.inr ⟨off,l.length,rfl,aq _,rfl,.inr ⟨rfl,rfl,⟨cs,iw,hr⟩,.inl rfl⟩⟩⟩
  obtain⟨b,lo,hi,hle,hV⟩:=hV;obtain⟨X',pr,hρ,g2,s2⟩:=G.qG K g (by omega) hle hV;refine⟨_,X',by rw[eB,pr],g2,s2,⟨.mk rfl (.vs fun v e b' iP jl hv=>?_),?_⟩⟩
  ·rw[hρ]at hv;simp at hv;obtain⟨rfl,_⟩:=hv;exact⟨aq _,fun _=>rfl⟩
  ·intro id dD;simp[D.refs]at dD;subst dD;exact g.new (by omega)
 unfold Lp at hex;cases s with
 |ez=>
  rw[hs.1.ez];simp only at hex;rcases Ex.br hex with⟨hb,hex⟩|⟨_,hex⟩
  ·obtain⟨t1,hex,_⟩:=Ex.nw hex;obtain⟨rfl,rfl,rfl,rfl⟩:=Ex.ret hex
   by_cases kE:xs=[]
   ·have:=xF true [] none kE (.kN _ _ _) (fun _=>rfl) (by omega)
    simpa using this
   ·have:=Qm4 K g ht ko ty0 true [] xs none 0 vx (.inl ⟨⟨none,rfl⟩,rfl⟩) xw kE (by have:=List.length_pos_iff.2 kE;simp;omega) (by simpa using hb) (by omega)
    simpa using this
  ·exact Ex.cB hex
 |sl t' cap l=>
  simp only at hex
  by_cases iI:t'=ty
  ·subst iI;simp only[dite_true]at hex;cases cap with
   |false=>exact Ex.cB hex
   |true=>
    simp only at hex;rcases Ex.br hex with⟨hb,hex⟩|⟨_,hex⟩
    ·obtain⟨t1,hex,_⟩:=Ex.nw hex;obtain⟨rfl,rfl,rfl,rfl⟩:=Ex.ret hex;have hR:=hs.1.one rfl
     have nY:∃ao,vs=.slice ao l.length l.length:=by
      cases hR with
      |kN=>exact⟨_,rfl⟩
      |sl iw hr _ hc=>have:=hc rfl;subst this;exact⟨_,rfl⟩
     obtain⟨ao,rfl⟩:=nY
     by_cases kE:xs=[]
     ·exact xF l.isEmpty l ao kE hR (fun hh=>by simpa using hh) (by omega)
     ·exact Qm4 K g ht ko ty0 l.isEmpty l xs ao l.length vx hR.src xw kE (by have:=List.length_pos_iff.2 kE;omega) hb (by omega)
    ·exact Ex.cB hex
  ·simp only[iI,dite_false]at hex;exact Ex.cB hex
 |vs id n=>
  simp only at hex;obtain⟨o,kG,ho,lR,_⟩:=Ex.rd hex;clear hex;cases o with
  |var u d0=>exact Ex.cB lR
  |map _ _ _=>exact Ex.cB lR
  |dG _=>exact Ex.cB lR
  |vec iM own l=>
   simp only at lR
   by_cases iI:iM=ty
   ·subst iI;simp only[dite_true]at lR;rcases Ex.br lR with⟨hb,hex⟩|⟨_,hex⟩
    ·obtain⟨o',t2,_,hex,_⟩:=Ex.wr hex;obtain⟨rfl,rfl,rfl,rfl⟩:=Ex.ret hex;simp only[ai]at hb;have hn:n=l.length:=az hb.1;subst hn;obtain⟨v0,b,lo,hi,h1,h2⟩:=g.vec id iM own l ho;have hR:=hs.1.one rfl;cases hR with
     | @vs _ _ cp a0 hh=>
      have jc:=(hh _ _ _ _ _ h1).2 h2.len;subst jc;have qA:=h2.src
      have nN:l.length<=cp:=by
       rcases h2 with⟨h3,h4,_⟩|⟨off,lh,h3,h4,_⟩
       ·rw[h4];simp
       ·simp at h3;omega
      have yX:∀r∈(D.vs id (l.length+xs.length):D C).refs,ft cF lim r:=by
       intro r hr;simp[D.refs]at hr;subst hr;exact hs.2 r (by simp[D.refs])
      by_cases kE:xs=[]
      ·obtain⟨zi,sq⟩:=GM kE;subst kE;have eB:=Xd (P:=P) (t:=t) (tx:=tx) (ty0:=ty0) X.w hu ko q1 a0 l.length cp vx zi sq nN;refine⟨_,X,eB,g.congr (fun j=>?_),.refl _ _ _,⟨hs.1,by simpa using yX⟩⟩;rw[Qv (g.jA id _ h1)]
       by_cases hj:j=id
       ·simp[hj,ho]
       ·simp[hj]
      ·have hxl:=List.length_pos_iff.2 kE;rcases Nat.lt_or_ge cp (l.length+xs.length)with rf|rl
       ·-- aaw a new block
        obtain⟨m9,news,o9,vN⟩:=xw
        ·have vV:=(o9.gj K.base).1
         have hole:∃gP,R T X false (.arr iM l.length l) gP/\((a0=none/\gP=[])\/∃b,a0=some b/\gP.length=l.length*ie.size/\∀j v,gP[j]? = some v->X.w.cell? (b.add j)=some v):=by
          rcases qA with⟨hv,rfl⟩|⟨b,off,lh,cs,hv,hr,hc⟩
          ·refine⟨[],.ia iM,?_⟩;cases a0 with
           |none=>exact .inl ⟨rfl,rfl⟩
           |some b=>exact .inr ⟨b,rfl,by simp,fun j v hj=>by simp at hj⟩
          ·simp at hv;refine⟨cs,hr,.inr ⟨_,hv.1,by rw[(hr.gj K.base).1,q2,mR],fun j v hj=>?_⟩⟩;rw[Addr.add_lit];exact hc j v hj
         obtain⟨gP,vZ,holds⟩:=hole;have fX:=(vZ.gj K.base).1;have lT:=NY hb.2;have yK:l.length+xs.length<=(l.length+xs.length)*T.bytes el:=Nat.le_mul_of_pos_right _ qb
         have eB:=Nr (P:=P) (t:=t) (tx:=tx) (ty0:=ty0) X.w hu ko q1 q5 a0 l.length cp gP holds vx xs.length news (m9 _) (by rw[q2,mR];exact vN _ fun _=>rfl) rf
          (by omega) (by rw[q3];exact Kg _ _ _ rf lT)
         have yU:=Kh X.w (l.length+xs.length) cp el;generalize grownCap X.w (l.length+xs.length) cp el=cap at eB yU;obtain⟨g1,s1⟩:=G.world K.base g X.w.drew rfl rfl rfl rfl
         have SE:R T X false (.arr iM (l++xs).length (l++xs)) (gP++news):=by
          have:=vZ.iU o9
          simpa using this
         have Sx:(gP++news).length=(l++xs).length*T.size (T.dp iM):=by simp[fX,vV,Nat.add_mul]
         have hlen:(l++xs).length=l.length+xs.length:=by simp
         have F5:(gP++news++(Builtin.zeroCells z.cells (cap-(l.length+xs.length))).toList).toArray.size=cap*T.size (T.dp iM):=by
          simp only[List.size_toArray,aC,Array.length_toList,size_zeroCells,q6,fX,vV,mR];rw[<-Nat.add_mul,<-Nat.add_mul]
          congr 1;omega
         have hmul:(l++xs).length*T.size (T.dp iM)<=cap*T.size (T.dp iM):=Nat.mul_le_mul_right _ (by omega)
         obtain⟨X',pr,hρ,g2,s2⟩:=G.wg K.base g1 (gm:=own) (l':=l++xs) (v':=.slice (some ⟨X.w.heap.size,0,none⟩) (l.length+xs.length) cap)
          (c:=(gP++news++(Builtin.zeroCells z.cells (cap-(l.length+xs.length))).toList).toArray) (e:=el) (iP:=if own then 0 else(l++xs).length*T.size (T.dp iM)) (jl:=cap*T.size (T.dp iM)) ho h1
          ⟨by simp[gJ],fun he=>by simp only[gJ]at he;omega⟩ (by
          intro X' hw hO hm hO2 pA;have fK:=(SE.step K.base s1 (by simp[D.refs])).step K.base pA (by simp[D.refs])
          have kh:X'.w.heap[X.w.heap.size]? = some (.cells (gP++news++(Builtin.zeroCells z.cells (cap-(l.length+xs.length))).toList).toArray el (0,0)):=by
           rw[hw];exact Q4 X.w.drew _
          refine .inr ⟨0,cap,by rw[hlen];rfl,by omega,by simp,?_⟩;cases own with
          |true=>
           refine .inl ⟨rfl,by simp,.inr ⟨_,el,kh,by rw[F5];exact aq _,?_⟩⟩;rw[List.toList_toArray,bG,List.take_left' Sx];exact fK
          |false=>
           refine .inr ⟨rfl,by simp,⟨_,?_,fK⟩,.inr ⟨_,el,kh,by rw[F5];exact aq _⟩⟩;intro j u hj;have mb:j<(gP++news).length:=(av.1 hj).1;refine⟨?_,hO2 _,hm _ (by simp only[bu,aL];omega)⟩;have F0:X'.w.heap[X.w.drew.heap.size]? = some (.cells (gP++news++(Builtin.zeroCells z.cells (cap-(l.length+xs.length))).toList).toArray el (0,0)):=kh;simp only[World.cell?,F0,aN];simp only[List.getElem?_toArray];rw[List.getElem?_append_left mb,hj];rfl)
         refine⟨_,X',by rw[eB,pr],g2,s1.trans s2 (aq _),⟨.mk rfl (.vs fun v e b' iP jl hv=>?_),yX⟩⟩;rw[hρ]at hv;simp at hv;obtain⟨rfl,_⟩:=hv;exact⟨by simp[gJ],fun _=>rfl⟩
       ·-- where there is room
        rcases h2 with⟨h3,h4,_⟩|⟨off,lh,h3,h4,h5,h6⟩
        ·simp at h3;omega
        ·simp at h3;obtain⟨rfl,rfl⟩:=h3;obtain⟨m9,news,o9,vN⟩:=xw
         ·have vV:=(o9.gj K.base).1
          have kh:∃c ee,X.w.heap[b]? = some (.cells c ee (0,0))/\hi<=c.size:=by
           rcases h6 with⟨_,_,h6|⟨c,ee,h6,h7,_⟩⟩|⟨_,_,_,h6|⟨c,ee,h6,h7⟩⟩
           ·omega
           ·exact⟨c,ee,h6,h7⟩
           ·omega
           ·exact⟨c,ee,h6,h7⟩
          obtain⟨c,ee,kh,qu⟩:=kh;have lm:=o9.gK K.base rfl (.inr ⟨_,_,_,rfl⟩);have hmul:(l.length+xs.length)*T.size (T.dp iM)<=cp*T.size (T.dp iM):=Nat.mul_le_mul_right _ rl;rw[Nat.add_mul]at hmul
          have eB:=QlD (P:=P) (t:=t) (tx:=tx) (ty0:=ty0) X.w hu ko q1 b off l.length cp c ee kh vx xs.length news (m9 _) (by rw[q2,mR];exact vN _ fun _=>rfl) lm rl
           (by rw[vV,q2,mR];omega)
          rw[q2,mR]at eB;have aaf:c.toList.length=c.size:=by simp
          have sY:off+l.length*T.size (T.dp iM)+news.length<=c.toList.length:=by omega
          have sk:=HC c.toList (off+l.length*T.size (T.dp iM)) news sY;have nV:=HB c.toList (off+l.length*T.size (T.dp iM)) news sY;have vM:=Qp1 c.toList off (l.length*T.size (T.dp iM)) news sY
          have Gw:∀j,j<news.length->(c.toList.take (off+l.length*T.size (T.dp iM))++news++c.toList.drop (off+l.length*T.size (T.dp iM)+news.length))[off+l.length*T.size (T.dp iM)+j]? = news[j]? := by
           intro j hj;have qy:(c.toList.take (off+l.length*T.size (T.dp iM))).length=off+l.length*T.size (T.dp iM):=by simp;omega
           rw[ay,List.getElem?_append_right (by omega),qy,Nat.add_sub_cancel_left,List.getElem?_append_left hj]
          generalize hk:c.toList.take (off+l.length*T.size (T.dp iM))++news++c.toList.drop (off+l.length*T.size (T.dp iM)+news.length)=k at eB sk nV vM Gw;have hlen:(l++xs).length=l.length+xs.length:=by simp
          have aas:lo=off\/lo=off+l.length*T.size (T.dp iM):=by
           rcases h6 with⟨_,h6,_⟩|⟨_,h6,_⟩
           ·exact .inl h6
           ·exact .inr h6
          obtain⟨X',pr,hρ,g2,s2⟩:=G.oU K.base g ho h1 kh (c':=k.toArray) (l':=l++xs) (v':=.slice (some ⟨b,off,none⟩) (l.length+xs.length) cp)
           (iP:=if own then lo else off+(l++xs).length*T.size (T.dp iM)) (by simp[nV]) (by
           intro o gz;have:=sk o (by omega)
           simpa using this) (by
           cases own with
           |true=>simp
           |false=>simp only[bu,aL];rw[hlen,Nat.add_mul];omega) (by
           cases own with
           |true=>simp
           |false=>simp only[bu,aL];rw[hlen,Nat.add_mul];omega)
           ⟨by simp[gJ],fun he=>by simp only[gJ]at he;omega⟩ (by
           intro X' hw hO hm Gk pA;have vG:X'.w.heap[b]? = some (.cells k.toArray ee (0,0)):=by rw[hw];exact setRow_heap _ _ _ _ _ _ kh
           refine .inr ⟨off,cp,by rw[hlen],by omega,h5,?_⟩;rcases h6 with⟨rfl,fX,h6|⟨c2,ee2,h6,h7,h8⟩⟩|⟨rfl,fX,⟨cs,h6,h7⟩,h8⟩
           ·omega
           ·rw[kh]at h6;simp at h6;obtain⟨rfl,rfl⟩:=h6;refine .inl ⟨rfl,by simpa using fX,.inr ⟨_,ee,vG,by simp[nV];omega,?_⟩⟩
            have fK:R T X false (.arr iM (l++xs).length (l++xs)) ((c.toList.drop off).take (l.length*T.size (T.dp iM))++news):=by
             have:=h8.iU o9
             simpa using this
            have e1:(l++xs).length*T.size (T.dp iM)=l.length*T.size (T.dp iM)+news.length:=by rw[hlen,Nat.add_mul,vV]
            rw[e1,List.toList_toArray,vM];exact fK.step K.base pA (by simp[D.refs])
           ·refine .inr ⟨rfl,by simp,⟨cs++news,?_,?_⟩,.inr ⟨_,ee,vG,by simp[nV];omega⟩⟩
            ·have aap:=(h7.gj K.base).1;intro j u hj;rcases Nat.lt_or_ge j cs.length with cU|R8
             ·rw[List.getElem?_append_left cU]at hj;exact(h6.step pA) j u hj
             ·rw[List.getElem?_append_right R8]at hj;have LK:j-cs.length<news.length:=(av.1 hj).1;have mA:off+j=off+l.length*T.size (T.dp iM)+(j-cs.length):=by omega
              refine⟨?_,?_,?_⟩
              ·simp only[World.cell?,vG];have:=Gw (j-cs.length) LK;rw[<-mA,hj]at this
               simpa using this
              ·rw[hO];exact(g.outer b (off+j) ⟨id,_,h1,⟨rfl,by omega,by omega⟩⟩).1
              ·refine Gk _ (by omega) ?_;simp only[bu,aL];rw[hlen,Nat.add_mul];omega
            ·have:=h7.iU o9;have fK:R T X false (.arr iM (l++xs).length (l++xs)) (cs++news):=by simpa using this
             exact fK.step K.base pA (by simp[D.refs]))
          refine⟨_,X',by rw[eB,pr],g2,s2,⟨.mk rfl (.vs fun v e b' iP jl hv=>?_),yX⟩⟩;rw[hρ]at hv;simp at hv;obtain⟨rfl,_⟩:=hv;exact⟨by simp[gJ],fun _=>rfl⟩
    ·exact Ex.cB hex
   ·simp only[iI,dite_false]at lR;exact Ex.cB lR
 |_=>exact Ex.cB hex
end
section
variable {C:gR}{P:Program}{T:fh C}(K:Zo P T)
open Pg (Ex)
variable {X:Cx}{h h':Heap C}{nx cF:Nat}{e:Pg.Lv}{lim:ek}{tr:Tr}(g:G T X h nx lim)(dP:cF<=lim.top)
include K g
theorem Qi1(dP:cF<=lim.top){t:TypeId}{n c d:D C}{vn vc:Value}(hn:RO T X nx lim n vn)(hc:RO T X nx lim c vc)(hx:Ex e (No T t n c) h nx d h' cF tr) :
 dc P T X nx lim h' cF d (Instr.makeSlice t vn vc):=by
 unfold No at hx;cases ht:T.ty t with
 |sl el ty=>
  simp only[ht]at hx
  split at hx
  ·rename_i e2 DB n0 c0 hq;simp only[GT.sl.injEq]at hq;obtain⟨rfl,rfl⟩:=hq;obtain⟨rfl,hnr⟩:=hn.1.int;obtain⟨rfl,vI⟩:=hc.1.int;rcases Ex.br hx with⟨hb,hx⟩|⟨_,hx⟩
   ·obtain⟨t1,hx,_⟩:=Ex.nw hx;obtain⟨rfl,rfl,rfl,rfl⟩:=Ex.ret hx;simp only[ai,aa]at hb;obtain⟨⟨h0,hnc⟩,fB⟩:=hb;have lT:=NY fB;obtain⟨ie,z,q1,q2,q3,qb,q4,q5,q6,q7⟩:=K.kP _ _ _ (.inr ht);have mR:=(K.base.mH _ _ _ ht).2.2
    have hw:IntKind.i64.wrap n0=n0:=by
     simp[IntKind.min,IntKind.max,IntKind.signed,IntKind.bits]at hnr;unfold IntKind.wrap;simp[IntKind.signed,IntKind.bits];omega
    have hwc:IntKind.i64.wrap c0=c0:=by
     simp[IntKind.min,IntKind.max,IntKind.signed,IntKind.bits]at vI;unfold IntKind.wrap;simp[IntKind.signed,IntKind.bits];omega
    have Dv:=R.Te (q7 X) n0.toNat;have tG:=HE z.cells (by omega) c0.toNat;rw[q6]at tG;have hlz:((Array.range (c0.toNat*T.size el)).map fun i=>z.cells[i%T.size el]!).size=c0.toNat*T.size el:=by simp
    have cU:n0.toNat<=c0.toNat:=by omega
    obtain⟨X',pr,g2,s2,r2⟩:=G.qH K.base g (by omega) (t:=ty) (l:=List.replicate n0.toNat (T.eU ty)) (c:=(Array.range (c0.toNat*T.size el)).map fun i=>z.cells[i%T.size el]!) (e:=el) (cp:=c0.toNat) true (by
     have e1:((Array.range (c0.toNat*T.size el)).map fun i=>z.cells[i%T.size el]!).toList.take ((List.replicate n0.toNat (T.eU ty)).length*T.size (T.dp ty))=(List.replicate n0.toNat z.cells.toList).flatten:=by
      rw[tG,show c0.toNat=n0.toNat+(c0.toNat-n0.toNat)by omega,<-List.replicate_append_replicate,List.flatten_append];rw[bt,List.take_left'];simp[<-mR,q6]
     rw[e1]
     simpa using Dv) (by simpa using cU) (by rw[hlz,mR];exact aq _)
    rw[bt]at r2;refine⟨_,X',?_,g2,s2,⟨.mk rfl r2,?_⟩⟩
    ·have sP:(T.bytes el:Int)*c0=((c0.toNat*T.bytes el:Nat):Int):=by
      rw[Int.natCast_mul,Int.mul_comm];congr 1;omega
     have hle:¬(281474976710656<(T.bytes el:Int)*c0):=by rw[sP];omega
     rw[pr]
     by_cases SX:c0.toNat*T.size el=0
     ·have xq:c0.toNat=0:=by
       rcases Nat.mul_eq_zero.1 SX with h|h
       ·exact h
       ·omega
      have oJ:c0=0:=by omega
      have na:n0=0:=by omega
      subst oJ;subst na;simp[Instr.makeSlice,aB (K.oX _ _ _ ht),asInt,asIntOf,typeInfo,q1,q2,q3,sizeOf,hw,newRow];rw[Array.range_zero',Array.map_empty,Array.map_empty]
     ·have R8:¬n0<0:=by omega
      have R9:¬c0<0:=by omega
      have Sa:¬n0>c0:=by omega
      have Sb:¬c0<n0:=by omega
      simp only[Instr.makeSlice,aG,aB (K.oX _ _ _ ht),aA,asInt,asIntOf,typeInfo,run_program,q1,aF,q2,q3,sizeOf,hw,hwc];simp[R8,R9,Sa,Sb,hle,q1,q2,q5,q6,zeroValue,typeInfo,newRow,SX]
    ·intro id dD;simp[D.refs]at dD;subst dD;exact g.new (by omega)
   ·exact Ex.cB hx
  ·exact Ex.cB hx
 |_=>rw[ht]at hx;exact Ex.cB hx
theorem QHo{t ty0:TypeId}{a d:D C}{va:Value}(ha:RO T X nx lim a va)(hx:Ex e (zn T t a) h nx d h' cF tr):dc P T X nx lim h' cF d (Builtin.len_ #[t] ty0 #[va]):=by
 have hi:∀n:Nat,n<=9223372036854775807->RO T X nx lim (.int .i64 n) (.int .i64 n):=fun n hn=>RO.mk (.mk rfl (.int (by simp[IntKind.min,IntKind.max,IntKind.signed,IntKind.bits];omega))) rfl;unfold zn at hx;cases ht:T.ty t with
 |sl el ty=>
  simp only[ht]at hx;have hu:=K.oX _ _ _ ht;cases a with
  |ez=>
   obtain⟨rfl,rfl,rfl,rfl⟩:=Ex.ret hx;rw[ha.1.ez];exact dc.same g _ (by simp[Builtin.len_,aB hu,goInt]) (hi 0 (by omega))
  |sl iM cap l=>
   simp only at hx;rcases Ex.br hx with⟨hb,hx⟩|⟨_,hx⟩
   ·obtain⟨rfl,rfl,rfl,rfl⟩:=Ex.ret hx;have hR:=ha.1.one rfl;cases hR with
    |kN=>exact dc.same g _ (by simp[Builtin.len_,aB hu,goInt]) (hi 0 (by omega))
    |sl iw hr _ _=>exact dc.same g _ (by simp[Builtin.len_,aB hu,goInt]) (hi _ (Nat.le_of_ble_eq_true hb))
   ·exact Ex.cB hx
  |vs id n=>
   simp only at hx;rcases Ex.br hx with⟨hb,hx⟩|⟨_,hx⟩
   ·obtain⟨rfl,rfl,rfl,rfl⟩:=Ex.ret hx;have hR:=ha.1.one rfl;cases hR with
    |vs hh=>exact dc.same g _ (by simp[Builtin.len_,aB hu,goInt]) (hi _ (Nat.le_of_ble_eq_true hb))
   ·exact Ex.cB hx
  |jg ta id p lo n=>
   simp only at hx;rcases Ex.br hx with⟨hb,hx⟩|⟨_,hx⟩
   ·obtain⟨rfl,rfl,rfl,rfl⟩:=Ex.ret hx;have hR:=ha.1.one rfl;cases hR with
    |jg hh=>exact dc.same g _ (by simp[Builtin.len_,aB hu,goInt]) (hi _ (Nat.le_of_ble_eq_true hb))
   ·exact Ex.cB hx
  |_=>exact Ex.cB hx
 |str=>
  simp only[ht]at hx;have hu:=K.k9 _ ht;cases a with
  |str s=>
   simp only at hx;rcases Ex.br hx with⟨hb,hx⟩|⟨_,hx⟩
   ·obtain⟨rfl,rfl,rfl,rfl⟩:=Ex.ret hx;rw[ha.1.str];have fB:(⟨⟨s⟩⟩:ByteArray).size=s.length:=rfl;exact dc.same g _ (by simp[Builtin.len_,aB hu,goInt,fB]) (hi _ (Nat.le_of_ble_eq_true hb))
   ·exact Ex.cB hx
  |_=>exact Ex.cB hx
 |arr n el ty=>
  simp only[ht]at hx;have hu:=(K.oa _ _ _ _ ht).1;cases hb:Nat.ble n 9223372036854775807 with
  |false=>rw[hb]at hx;exact Ex.cB hx
  |true=>
   rw[hb]at hx;obtain⟨rfl,rfl,rfl,rfl⟩:=Ex.ret hx;exact dc.same g _ (by simp[Builtin.len_,aB hu,goInt]) (hi _ (Nat.le_of_ble_eq_true hb))
 |struct nZ fs=>
  cases nZ with
  |false=>rw[ht]at hx;exact Ex.cB hx
  |true=>
   simp only[ht]at hx;obtain⟨el,hu,_⟩:=K.qR _ _ ht;cases hb:Nat.ble fs.length 9223372036854775807 with
   |false=>rw[hb]at hx;exact Ex.cB hx
   |true=>
    rw[hb]at hx;obtain⟨rfl,rfl,rfl,rfl⟩:=Ex.ret hx;exact dc.same g _ (by simp[Builtin.len_,aB hu,goInt]) (hi _ (Nat.le_of_ble_eq_true hb))
 |fO el=>
  simp only[ht]at hx;have hu:=(K.qP _ _ ht).1;cases a with
  |fO n yz ds=>
   simp only at hx;rcases Ex.br hx with⟨hb,hx⟩|⟨_,hx⟩
   ·obtain⟨rfl,rfl,rfl,rfl⟩:=Ex.ret hx;have hR:=ha.1.one rfl;cases hR with
    |fO iw hr hn h1 hc=>exact dc.same g _ (by simp[Builtin.len_,aB hu,goInt]) (hi _ (VM hb))
   ·exact Ex.cB hx
  |_=>exact Ex.cB hx
 |_=>rw[ht]at hx;exact Ex.cB hx
omit K in
theorem Qi2{args:List (D C)}{vs:bT}{d:D C}(ty0:TypeId)(uj:Array TypeId)(ha:gV T X args vs) :
 (EJ args=some d->dc P T X nx lim h nx d (Builtin.min_ uj ty0 ⟨vs⟩))/\(EK args=some d->dc P T X nx lim h nx d (Builtin.max_ uj ty0 ⟨vs⟩)):=by
 cases ha with
 |nil=>exact⟨fun hf=>by simp[EJ]at hf,fun hf=>by simp[EK]at hf⟩
 | @cons d0 ds v vs h0 hr=>
  cases d0 with
  |int k a=>
   obtain⟨rfl,Da⟩:=h0.int;constructor
   ·intro hf;simp only[EJ,Option.map_eq_some_iff]at hf;obtain⟨n,hf,rfl⟩:=hf
    have key:∀(ds:List (D C)) (vs:bT) (a:Int),gV T X ds vs->k.min<=a/\a<=k.max->r6 k a ds=some n ->
     (k.min<=n/\n<=k.max)/\(vs.foldlM Builtin.min2 (.int k a)).run P X.w=.ok (.int k n) X.w:=by
     intro ds
     induction ds with
     |nil=>intro vs a nY ha hf;cases nY;simp[r6]at hf;subst hf;exact⟨ha,by simp⟩
     |cons x ds ih=>
      intro vs a nY ha hf;cases nY with
      |cons hx hr=>
       cases x with
       |int k2 b=>
        obtain⟨rfl,hb⟩:=hx.int;simp only[r6]at hf
        split at hf
        ·rename_i hk;subst hk;have:=ih _ _ hr (by split<;>assumption) hf;refine⟨this.1,?_⟩;simp only[List.foldlM_cons,Builtin.min2,pure_bind];exact this.2
        ·simp at hf
       |_=>simp[r6]at hf
    obtain⟨hn,eB⟩:=key ds vs a hr Da hf;exact dc.same g _ (by simp only[Builtin.min_];exact eB) (RO.mk (.mk rfl (.int hn)) rfl)
   ·intro hf;simp only[EK,Option.map_eq_some_iff]at hf;obtain⟨n,hf,rfl⟩:=hf
    have key:∀(ds:List (D C)) (vs:bT) (a:Int),gV T X ds vs->k.min<=a/\a<=k.max->r5 k a ds=some n ->
     (k.min<=n/\n<=k.max)/\(vs.foldlM Builtin.max2 (.int k a)).run P X.w=.ok (.int k n) X.w:=by
     intro ds
     induction ds with
     |nil=>intro vs a nY ha hf;cases nY;simp[r5]at hf;subst hf;exact⟨ha,by simp⟩
     |cons x ds ih=>
      intro vs a nY ha hf;cases nY with
      |cons hx hr=>
       cases x with
       |int k2 b=>
        obtain⟨rfl,hb⟩:=hx.int;simp only[r5]at hf
        split at hf
        ·rename_i hk;subst hk;have:=ih _ _ hr (by split<;>assumption) hf;refine⟨this.1,?_⟩;simp only[List.foldlM_cons,Builtin.max2,pure_bind];exact this.2
        ·simp at hf
       |_=>simp[r5]at hf
    obtain⟨hn,eB⟩:=key ds vs a hr Da hf;exact dc.same g _ (by simp only[Builtin.max_];exact eB) (RO.mk (.mk rfl (.int hn)) rfl)
  |_=>exact⟨fun hf=>by simp[EJ]at hf,fun hf=>by simp[EK]at hf⟩
omit K in
theorem OC{ty:C.Ty}{x d:D C}{vx:Value}(hx:RO T X nx lim x vx){k:List (C.A ty)->Pg C (D C)}(hex:Ex e (kI ty x k) h nx d h' cF tr) :
 ∃xs kG,Src T X X.w ty xs vx/\Ex e (k xs) h nx d h' cF kG:=by
 unfold kI at hex;cases x with
 |ez=>rw[hx.1.ez];exact⟨[],_,.inl ⟨⟨_,rfl⟩,rfl⟩,hex⟩
 |sl t' cap l=>
  simp only at hex
  by_cases iI:t'=ty
  ·subst iI;simp only[dite_true]at hex;exact⟨l,_,(hx.1.one rfl).src,hex⟩
  ·simp only[iI,dite_false]at hex;exact Ex.cB hex
 |vs id n=>
  simp only at hex;obtain⟨o,kG,ho,lR,_⟩:=Ex.rd hex;clear hex;cases o with
  |var u d0=>exact Ex.cB lR
  |map _ _ _=>exact Ex.cB lR
  |dG _=>exact Ex.cB lR
  |vec iM own l=>
   simp only at lR
   by_cases iI:iM=ty
   ·subst iI;simp only[dite_true]at lR;rcases Ex.br lR with⟨hb,hex⟩|⟨_,hex⟩
    ·have hn:n=l.length:=az hb;obtain⟨v0,b,lo,hi,h1,h2⟩:=g.vec id iM own l ho;have hR:=hx.1.one rfl;cases hR with
     | @vs _ _ cp a0 hh=>
      have jc:=(hh _ _ _ _ _ h1).2 (by rw[h2.len,hn]);rw[jc]at h2;exact⟨l,_,h2.src,hex⟩
    ·exact Ex.cB hex
   ·simp only[iI,dite_false]at lR;exact Ex.cB lR
 |_=>exact Ex.cB hex
omit g K in
theorem QsC{t tx ty0 el:TypeId}{ie:TypeInfo}(w:World)(hu:P.underlying t=some (.slice el))(hi:P.info? el=some ie)(ao bo:dw)(n cp m c:Nat)(h:Nat.min m n=0) :
 (Builtin.copy_ #[t,tx] ty0 #[.slice ao n cp,.slice bo m c]).run P w=.ok (.int .i64 0) w:=by
 cases ao<;>cases bo<;>simp[Builtin.copy_,aB hu,Builtin.lenOf,h,Builtin.firstCells,loadCells,loadCellsFrom,sizeOf,typeInfo,hi,storeCells,goInt]
theorem QEt{t tx el:TypeId}{ty:C.Ty}(ht:T.ty t=.sl el ty)(ty0:TypeId){s d:D C}{vs vx:Value}(hs:RO T X nx lim s vs)(xs:List (C.A ty))(xw:Src T X X.w ty xs vx)
 (hex:Ex e (Mj ty s xs) h nx d h' cF tr):dc P T X nx lim h' cF d (Builtin.copy_ #[t,tx] ty0 #[vs,vx]):=by
 obtain⟨ie,z,q1,q2,q3,qb,q4,q5,q6,_⟩:=K.kP _ _ _ (.inr ht);have mR:=(K.base.mH _ _ _ ht).2.2;have hu:=K.oX _ _ _ ht;unfold Mj at hex;cases s with
 |vs id n=>
  simp only at hex;obtain⟨o,kG,ho,lR,_⟩:=Ex.rd hex;clear hex;cases o with
  |var u d0=>exact Ex.cB lR
  |map _ _ _=>exact Ex.cB lR
  |dG _=>exact Ex.cB lR
  |vec iM own l=>
   cases own with
   |false=>exact Ex.cB lR
   |true=>
    simp only[Qsk]at lR
    by_cases iI:iM=ty
    ·subst iI;simp only[dite_true]at lR;rcases Ex.br lR with⟨hb,hex⟩|⟨_,hex⟩
     ·obtain⟨o',t2,_,hex,_⟩:=Ex.wr hex;obtain⟨rfl,rfl,rfl,rfl⟩:=Ex.ret hex;simp only[ai]at hb;have hn:n=l.length:=az hb.1;have ig:=VM hb.2;subst hn;obtain⟨v0,b,lo,hi,h1,h2⟩:=g.vec id iM true l ho;have hR:=hs.1.one rfl
      have hint:RO T X cF lim (.int .i64 ((min xs.length l.length:Nat):Int)) (.int .i64 ((min xs.length l.length:Nat):Int)):=
       RO.mk (.mk rfl (.int (by simp[IntKind.min,IntKind.max,IntKind.signed,IntKind.bits];omega))) rfl
      cases hR with
      | @vs _ _ cp a0 hh=>
       have jc:=(hh _ _ _ _ _ h1).2 h2.len;subst jc
       have zj:∃bo m c,vx=.slice bo m c/\m=xs.length:=by
        rcases xw with⟨⟨a,rfl⟩,rfl⟩|⟨b,off,cp,cs,rfl,_⟩
        ·exact⟨a,0,0,rfl,rfl⟩
        ·exact⟨_,_,_,rfl,rfl⟩
       by_cases hk:min xs.length l.length=0
       ·obtain⟨bo,m,c,rfl,rfl⟩:=zj;have eB:=QsC (P:=P) (t:=t) (tx:=tx) (ty0:=ty0) X.w hu q1 a0 bo l.length cp xs.length c hk
        have kA:xs.take l.length++l.drop xs.length=l:=by
         rcases Nat.eq_zero_or_pos l.length with h0|h0
         ·have:l=[]:=List.length_eq_zero_iff.1 h0;subst this;simp
         ·have:xs=[]:=List.length_eq_zero_iff.1 (by omega);subst this;simp
        rw[kA]at *
        refine⟨_,X,by rw[eB],g.congr (fun j=>?_),.refl _ _ _,?_⟩
        ·rw[Qv (g.jA id _ h1)]
         by_cases hj:j=id
         ·simp[hj,ho]
         ·simp[hj]
        ·rw[hk];rw[hk]at hint;exact hint
       ·have Si:min xs.length l.length<=l.length:=Nat.min_le_right _ _;have Dh:min xs.length l.length<=xs.length:=Nat.min_le_left _ _;have Gx:Nat.min xs.length l.length=min xs.length l.length:=rfl
        have kA:xs.take l.length++l.drop xs.length=xs.take (min xs.length l.length)++l.drop (min xs.length l.length):=by
         rcases Nat.le_total xs.length l.length with h0|h0
         ·rw[Nat.min_eq_left h0,List.take_of_length_le h0,List.take_of_length_le (aq _)]
         ·rw[Nat.min_eq_right h0,aO h0,aO (aq _)]
        generalize min xs.length l.length=k at hk Si Dh Gx kA hint;rcases xw with⟨_,rfl⟩|⟨bx,ox,cx,cs,rfl,o9,hcx⟩
        ·simp at Dh;omega
        rcases h2 with⟨⟨a,q9,_⟩,rfl,_⟩|⟨off,lh,q9,q10,q11,q12⟩
        ·simp at Si;omega
        simp only[Value.slice.injEq]at q9;obtain⟨rfl,_,rfl⟩:=q9;rcases q12 with⟨_,fX,De|⟨c,ee,hc,qu,LL⟩⟩|⟨hf,_⟩
        ·omega
        ·obtain⟨n1,n2,rfl,hnl,oJ,na⟩:=o9.iZ K.base k Dh;obtain⟨l1,l2,Dj,Gs,y5,me⟩:=LL.iZ K.base k Si;have Sk:=(me.gj K.base).1;have hmul:l.length*T.size (T.dp iM)<=cp*T.size (T.dp iM):=Nat.mul_le_mul_right _ q10;have zg:k*T.size (T.dp iM)+(l.length-k)*T.size (T.dp iM)=l.length*T.size (T.dp iM):=by rw[<-Nat.add_mul];congr 1;omega
         have R1:c.toList.length=c.size:=by simp
         have lm:=oJ.gK K.base rfl (.inr ⟨_,_,_,rfl⟩);have dV:=run_storeCells_at P b off ee n1 0 c X.w hc (by omega) lm
         have vN:=run_firstCells_some (P:=P) X.w ie.size k ⟨bx,ox,none⟩ xs.length cx n1 (by rw[hnl,q2,mR]) (fun j v hj=>by
          rw[Addr.add_lit];exact hcx j v (by rw[List.getElem?_append_left (av.1 hj).1];exact hj))
         have nh:=Nt c.toList off (l.length*T.size (T.dp iM)) [] l1 l2 n1 (by simpa using Dj) (by omega) (by omega);have sk:=HC c.toList off n1 (by omega);have nV:=HB c.toList off n1 (by omega);simp only[bH,Nat.add_zero,aH]at nh;simp only[Nat.add_zero]at dV;generalize sg:c.toList.take off++n1++c.toList.drop (off+n1.length)=kk at dV nh sk nV
         have rV:R T X false (.arr iM l.length (xs.take k++l.drop k)) (n1++l2):=by
          have:=oJ.iU me;rw[show k+(l.length-k)=l.length by omega]at this;exact this
         have jm:(xs.take k++l.drop k).length=l.length:=by simp;omega
         rw[kA]
         obtain⟨X',pr,_,hg,kJ⟩:=G.oU K.base g ho h1 hc (c':=kk.toArray) (l':=xs.take k++l.drop k) (v':=.slice (some ⟨b,off,none⟩) l.length cp) (iP:=lo) (by simp[nV]) (by
          intro o gz;have:=sk o (by omega)
          simpa using this) (aq _) (.inr rfl) ⟨aq _,fun _=>rfl⟩ (by
          intro X' hw hO hm _ pA;refine .inr ⟨off,cp,by rw[jm],by rw[jm];exact q10,q11,.inl ⟨rfl,fX,.inr ⟨_,ee,by rw[hw];exact setRow_heap _ _ _ _ _ _ hc,by simpa[nV]using qu,?_⟩⟩⟩;have fK:=rV.step K.base pA (by simp[D.refs]);rw[jm]
          simpa[nh]using fK)
         refine⟨_,X',?_,hg,kJ,hint.step K.base kJ (aq _)⟩;simp[Builtin.copy_,aB hu,Builtin.lenOf,Gx,sizeOf,typeInfo,q1,vN,dV,pr,goInt]
        ·simp at hf
     ·exact Ex.cB hex
    ·simp only[iI,dite_false]at lR;exact Ex.cB lR
 |_=>exact Ex.cB hex
omit K g in
theorem OD{ty:C.Ty}:∀(l:List (C.A ty)) (bs:bL),l.map (T.enc ty)=(bs.map fun b=>D.int .u8 (b.toNat:Int))->R T X false (.arr ty l.length l) (bs.map fun b=>Value.int .u8 (b.toNat:Int))
 |[],bs,h=>by cases bs with|nil=>exact .ia ty|cons=>simp at h
 |x::l,bs,h=>by
  cases bs with
  |nil=>simp at h
  |cons b bs=>
   simp only[List.map_cons,List.cons.injEq]at h
   have h1:R T X false (T.enc ty x) [.int .u8 (b.toNat:Int)]:=by
    rw[h.1];have:=b.toNat_lt;exact .int (by simp[IntKind.min,IntKind.max,IntKind.signed,IntKind.bits];omega)
   exact .iS h1 (OD l bs h.2)
omit g in
theorem QAg{t el:TypeId}{ty:C.Ty}(ht:T.ty t=.sl el ty)(he:T.ty el=.int .u8){xs:List (C.A ty)}{bs:bL}(h:xs.map (T.enc ty)=bs.map fun b=>D.int .u8 (b.toNat:Int)){w:World}:uL P T X w ty xs (.string ⟨⟨bs⟩⟩):=by
 have hlen:xs.length=bs.length:=by have:=ap List.length h;simpa using this
 have tB:T.size (T.dp ty)=1:=by rw[<- (K.base.mH _ _ _ ht).2.2];exact K.base.ui _ _ he
 refine⟨fun w'=>?_,bs.map fun b=>Value.int .u8 (b.toNat:Int),OD _ _ h,fun w' _=>?_⟩
 ·simp only[Builtin.lenOf,aF];rw[hlen];rfl
 ·rw[tB,hlen];simp only[Builtin.firstCells,aF]
  congr 1
  apply Array.ext'
  have:((⟨⟨bs⟩⟩:ByteArray).extract 0 bs.length).data=⟨bs⟩:=by
   apply Array.ext';simp
  rw[this];simp
omit K g in
theorem R.uf{X:Cx}{m:Bool}{d:D C}{vs:bT}(h:R T X m d vs):m=true->vs.length=d.size:=by
 induction h with
 |iu=>intro _;rfl
 |jh _ _ _ _ ih=>intro _;simp[D.size,ih rfl]
 |iQ _ _ _ _ ih=>intro _;simp[D.size,ih rfl]
 |_=>intro hm;simp at hm
omit K g in
theorem R.zE{X:Cx}{m:Bool}{d e:D C}{vs us:bT}(h:R T X m d vs)(k:R T X true e us):m=true->R T X true (d.append e) (vs++us):=by
 induction h with
 |iu=>intro _;exact k
 |jh h1 h2 _ _ ih=>intro _;exact .jh h1 h2 (ih rfl)
 |iQ h1 h2 _ _ ih=>intro _;exact .iQ h1 h2 (ih rfl)
 |_=>intro hm;simp at hm
omit K g in
theorem D.mn:∀{d e:D C},d.gK=true->e.gK=true->(d.append e).gK=true
 |.bI a b,e,h1,h2=>by
  simp only[D.gK,ai]at h1;simp only[D.append,D.gK,h1.1,D.mn h1.2 h2,au]
 |.bN,e,_,h2=>h2
 |.bool _,_,h,_ |.int _ _,_,h,_ |.str _,_,h,_ |.arr _ _ _,_,h,_ |.cG _,_,h,_ |.ez,_,h,_ |.sl _ _ _,_,h,_ |.vs _ _,_,h,_ |.ptr _ _,_,h,_ |.eY _ _ _,_,h,_ |.dC _,_,h,_ |.eX,_,h,_ |.fn _ _,_,h,_
 |.cm,_,h,_ |.gf,_,h,_ |.bm _ _,_,h,_ |.yl _ _ _ _ _ _ _,_,h,_ |.fO _ _ _,_,h,_ |.jN _,_,h,_ |.mp _,_,h,_ |.jg _ _ _ _ _,_,h,_ |.top,_,h,_=>by simp[D.gK]at h
omit K g in
theorem D.mo:∀{d e:D C} (r:Nat),r∈(d.append e).refs->d.gK=true->r∈d.refs\/r∈e.refs
 |.bI a b,e,r,h,ho=>by
  simp only[D.append,D.refs,aT]at h;simp only[D.gK,ai]at ho;rcases h with h|h
  ·exact .inl (by simp[D.refs,h])
  ·rcases D.mo r h ho.2 with h|h
   ·exact .inl (by simp[D.refs,h])
   ·exact .inr h
 |.bN,e,r,h,_=>.inr h
 |.bool _,_,_,_,h |.int _ _,_,_,_,h |.str _,_,_,_,h |.arr _ _ _,_,_,_,h |.cG _,_,_,_,h |.ez,_,_,_,h |.sl _ _ _,_,_,_,h |.vs _ _,_,_,_,h |.ptr _ _,_,_,_,h |.eY _ _ _,_,_,_,h |.dC _,_,_,_,h |.eX,_,_,_,h |.fn _ _,_,_,_,h
 |.cm,_,_,_,h |.gf,_,_,_,h |.bm _ _,_,_,_,h |.yl _ _ _ _ _ _ _,_,_,_,h |.fO _ _ _,_,_,_,h |.jN _,_,_,_,h |.mp _,_,_,_,h |.jg _ _ _ _ _,_,_,_,h |.top,_,_,_,h=>by simp[D.gK]at h
omit dP in
theorem QsD{t tx el:TypeId}(ht:T.ty t=.fO el)(ko:∃u,P.underlying tx=some u/\∀k,u ≠ .int k)(ty0:TypeId){n m:Nat}{cx:Bool}{ds es:D C}{vs vx:Value}(hs:RO T X nx lim (.fO n true ds) vs)(jB:RO T X nx lim (.fO m cx es) vx)
 (h1:n=ds.size) (h2:m=es.size) (h3:1<=m) (h4:n+m<=16777216):dc P T X nx lim h nx (.fO (n+m) false (ds.append es)) (Builtin.append_ #[t,tx] ty0 #[vs,vx]):=by
 obtain⟨hu,fA,i,z,hi,fB,hz,LR,hby⟩:=K.qP _ _ ht;have hR:=hs.1.one rfl;have hRx:=jB.1.one rfl;cases hR with
 | @fO _ b off cp _ _ cs iw hr hn ho hc=>
  cases hRx with
  | @fO _ b2 G0 cp2 _ _ yA RS ks na mz vH=>
   obtain⟨rfl,o6⟩:=hc.2 rfl;have me:yA.length=m:=by rw[ks.uf rfl,h2]
   have vT:=run_loadCells_list (P:=P) X.w.drew ⟨b2,G0,none⟩ yA (fun j v hj=>by rw[Addr.add_lit];exact(RS j v hj).1);rw[me]at vT
   have hnc:Builtin.nextslicecap (cp+m) cp*i.bytes<=281474976710656:=Kg _ _ _ (by omega) (by
    have:(cp+m)*i.bytes<=16777216*1024:=Nat.mul_le_mul h4 hby;omega)
   have eB:=Nr (P:=P) (t:=t) (tx:=tx) (ty0:=ty0) X.w hu ko hi hz (some ⟨b,off,none⟩) cp cp cs (.inr ⟨_,rfl,by rw[o6,fB];omega,fun j v hj=>by rw[Addr.add_lit];exact(iw j v hj).1⟩) (.slice (some ⟨b2,G0,none⟩) m cp2) m yA
    (by simp[Builtin.lenOf]) (by simpa[Builtin.firstCells,fB]using vT) (by omega) (by omega) hnc
   have yU:=Kh X.w (cp+m) cp el;generalize grownCap X.w (cp+m) cp el=cap at eB yU;obtain⟨g1,s1⟩:=G.world K.base g X.w.drew rfl rfl rfl rfl;obtain⟨g2,s2,f2⟩:=G.data K.base g1 (cs++yA++(Builtin.zeroCells z.cells (cap-(cp+m))).toList).toArray el;have dV:=s1.trans s2 (aq _)
   have hrefs:∀r∈(ds.append es).refs,ft nx lim r:=fun r hr=>by
    rcases D.mo r hr ho with h|h
    ·exact hs.2 r (by simpa[D.refs]using h)
    ·exact jB.2 r (by simpa[D.refs]using h)
   refine⟨_,_,eB,g2,dV,⟨.mk rfl ?_,by simpa[D.refs]using hrefs⟩⟩;refine .fO (cs:=cs++yA) (fun j v hj=>⟨?_,f2 _⟩) ((hr.zE ks rfl).step K.base dV hrefs) (by simp;omega) (D.mn ho mz) ⟨yU,fun h=>by cases h⟩;have kh:(X.w.drew.alloc (.cells (cs++yA++(Builtin.zeroCells z.cells (cap-(cp+m))).toList).toArray el)).heap[X.w.heap.size]? = some (.cells (cs++yA++(Builtin.zeroCells z.cells (cap-(cp+m))).toList).toArray el (0,0)):=Q4 X.w.drew _;simp only[World.cell?,kh,aN];simp only[List.getElem?_toArray];rw[List.getElem?_append_left (av.1 hj).1,hj];rfl
theorem Qp2(dP:cF<=lim.top){b:Builtin}{uj:cD}{ty0:TypeId}{args:List (D C)}{vs:bT}{d:D C}(ha:gV T X args vs)(hr:∀a∈args,∀id∈a.refs,ft nx lim id)(hlen:uj.length=args.length)
 (hx:Ex e (Oz T b uj args) h nx d h' cF tr) :
 ∃s:Sem Value,(∀qo,Go.builtin b ⟨uj⟩ ty0 qo ⟨vs⟩=(do pure (.value (<-s))))/\dc P T X nx lim h' cF d s:=by
 unfold Oz at hx
 split at hx
 ·-- len
  rename_i a;cases ha with
  |cons h0 hn=>
   cases hn;cases uj with
   |nil=>simp at hlen
   |cons t ts=>
    cases ts with
    |cons=>simp at hlen
    |nil=>exact⟨_,fun _=>rfl,QHo K g ⟨h0,hr a (by simp)⟩ hx⟩
 ·-- append
  rename_i s x;cases ha with
  |cons h0 hn=>
   cases hn with
   |cons h1 hn=>
    cases hn
    match uj,hlen with
    |[t,tx],_=>
     simp only[List.getD_cons_zero,List.getD_cons_succ]at hx;cases ht:T.ty t with
     |sl el ty=>
      simp only[ht]at hx;cases ko:T.ty tx with
      |sl RE DB=>
       simp only[ko]at hx;cases hd:decide (ty=DB)with
       |false=>rw[hd]at hx;exact Ex.cB hx
       |true=>
        rw[hd]at hx;simp only[ag]at hx;obtain⟨xs,kG,qA,hx⟩:=OC g (ty:=ty) ⟨h1,hr x (by simp)⟩ hx;exact⟨_,fun _=>rfl,TZ K g dP ht ⟨_,K.oX _ _ _ ko,by simp⟩ ty0 ⟨h0,hr s (by simp)⟩ xs (qA.feed K.base) hx⟩
      |str=>
       simp only[ko]at hx
       split at hx
       rotate_left
       ·exact Ex.cB hx
       rename_i he
       split at hx
       rotate_left
       ·exact Ex.cB hx
       rename_i fu Gl
       split at hx
       rotate_left
       ·exact Ex.cB hx
       rename_i bs _;rw[h1.str];exact⟨_,fun _=>rfl,TZ K g dP ht ⟨_,K.k9 _ ko,by simp⟩ ty0 ⟨h0,hr s (by simp)⟩ (fu bs) (QAg K ht he (K.base.jZ _ _ bs Gl)) hx⟩
      |_=>rw[ko]at hx;exact Ex.cB hx
     |fO el=>
      simp only[ht]at hx;cases ko:T.ty tx with
      |fO RE=>
       simp only[ko]at hx;cases hd:Nat.beq el RE with
       |false=>rw[hd]at hx;exact Ex.cB hx
       |true=>
        rw[hd]at hx;simp only[ag]at hx
        split at hx
        ·rename_i n ds m cx es _;cases hc:(Nat.beq n ds.size&&Nat.beq m es.size&&(Nat.ble 1 m&&Nat.ble (n+m) 16777216))with
         |false=>rw[hc]at hx;exact Ex.cB hx
         |true=>
          rw[hc]at hx;obtain⟨rfl,rfl,rfl,rfl⟩:=Ex.ret hx;simp only[ai,Nat.beq_eq]at hc;exact⟨_,fun _=>rfl,QsD K g ht ⟨_,(K.qP _ _ ko).1,by simp⟩ ty0 ⟨h0,hr (.fO n true ds) (by simp)⟩ ⟨h1,hr (.fO m cx es) (by simp)⟩ hc.1.1 hc.1.2 (Nat.le_of_ble_eq_true hc.2.1) (Nat.le_of_ble_eq_true hc.2.2)⟩
        ·exact Ex.cB hx
      |_=>rw[ko]at hx;exact Ex.cB hx
     |_=>rw[ht]at hx;exact Ex.cB hx
 ·-- copy
  rename_i s x;cases ha with
  |cons h0 hn=>
   cases hn with
   |cons h1 hn=>
    cases hn
    match uj,hlen with
    |[t,tx],_=>
     simp only[List.getD_cons_zero,List.getD_cons_succ]at hx;cases ht:T.ty t with
     |sl el ty=>
      simp only[ht]at hx;cases ko:T.ty tx with
      |sl RE DB=>
       simp only[ko]at hx;cases hd:decide (ty=DB)with
       |false=>rw[hd]at hx;exact Ex.cB hx
       |true=>
        rw[hd]at hx;simp only[ag]at hx;obtain⟨xs,kG,qA,hx⟩:=OC g (ty:=ty) ⟨h1,hr x (by simp)⟩ hx;exact⟨_,fun _=>rfl,QEt K g ht ty0 ⟨h0,hr s (by simp)⟩ xs qA hx⟩
      |_=>rw[ko]at hx;exact Ex.cB hx
     |_=>rw[ht]at hx;exact Ex.cB hx
 ·obtain⟨hm,rfl,rfl,rfl⟩:=Ex.jq hx;exact⟨_,fun _=>rfl,(Qi2 g ty0 ⟨uj⟩ ha).1 hm⟩
 ·obtain⟨hm,rfl,rfl,rfl⟩:=Ex.jq hx;exact⟨_,fun _=>rfl,(Qi2 g ty0 ⟨uj⟩ ha).2 hm⟩
 ·exact Ex.cB hx
omit K g in
theorem QEu{ty:C.Ty}:∀{xs:List (C.A ty)} {n:Nat} {cs:bT} {bs:bL},R T X false (.arr ty n xs) cs->bytesOf T xs=some bs ->
 ∃ns:bQ,cs=ns.map (Value.int .u8)/\bs=ns.map fun n=>UInt8.ofNat n.toNat:=by
 intro xs
 induction xs with
 |nil=>intro n cs bs h hb;cases h;simp[bytesOf]at hb;exact⟨[],rfl,by simp[hb]⟩
 |cons x xs ih=>
  intro n cs bs h hb;cases h with
  |iS h1 h2=>
   simp only[bytesOf]at hb
   split at hb
   ·rename_i m r he hr;rw[he]at h1;cases h1;obtain⟨ns,rfl,rfl⟩:=ih h2 hr;simp at hb;exact⟨m::ns,rfl,by simp[hb]⟩
   ·simp at hb
omit K g in
theorem Qp3(ns:bQ):∀(s:bL),ns.foldl (fun r n=>r.push (UInt8.ofNat n.toNat)) (⟨⟨s⟩⟩:ByteArray)=⟨⟨s++ns.map fun n=>UInt8.ofNat n.toNat⟩⟩:=by
 induction ns with
 |nil=>intro s;simp
 |cons n ns ih=>
  intro s
  have e:(⟨⟨s⟩⟩:ByteArray).push (UInt8.ofNat n.toNat)=⟨⟨s++[UInt8.ofNat n.toNat]⟩⟩:=by
   apply ByteArray.ext;simp[ByteArray.push]
  rw[List.foldl_cons,e,ih];simp
theorem QEv{src dst:TypeId}{x d:D C}{vx:Value}(hx:RO T X nx lim x vx)(hex:Ex e (Mn T src dst x) h nx d h' cF tr):dc P T X nx lim h' cF d (convert src dst vx):=by
 unfold Mn at hex
 split at hex
 ·rename_i k0 k hs hd
  split at hex
  ·rename_i k1 n;obtain⟨rfl,rfl,rfl,rfl⟩:=Ex.ret hex;obtain⟨rfl,_⟩:=hx.1.int;exact dc.same g _ (by simp[convert,aB (K.nD _ _ hs),aB (K.nD _ _ hd),Conv.intToInt]) (RO.mk (.mk rfl (.int (JM _ _))) rfl)
  ·exact Ex.cB hex
 ·rename_i hs hd
  split at hex
  ·rename_i s;obtain⟨rfl,rfl,rfl,rfl⟩:=Ex.ret hex;rw[hx.1.str];exact dc.same g _ (by simp[convert,aB (K.k9 _ hs),aB (K.k9 _ hd)]) (RO.mk (.mk rfl (.str _)) rfl)
  ·exact Ex.cB hex
 ·rename_i el ty hs hd
  split at hex
  ·rename_i he
   split at hex
   rotate_left
   ·exact Ex.cB hex
   rename_i fu Gl;obtain⟨xs,kG,qA,hex⟩:=OC g (ty:=ty) (Yw hx) hex;obtain⟨rfl,rfl,rfl,rfl⟩:=Ex.ret hex;have hb:=K.base.uK _ _ xs Gl;generalize fu xs=bs at hb ⊢;refine dc.same g (.string ⟨⟨bs⟩⟩) ?_ (RO.mk (.mk rfl (.str _)) rfl);have tB:T.size (T.dp ty)=1:=by rw[<- (K.base.mH _ _ _ hs).2.2];exact K.base.ui _ _ he
   rcases qA with⟨⟨a,rfl⟩,rfl⟩|⟨b,off,cp,cs,rfl,hr,hc⟩
   ·simp[bytesOf]at hb;subst hb;rw[run_convert_bytes_string X.w src dst el a 0 0 (K.oX _ _ _ hs) (K.nD _ _ he) (K.k9 _ hd)];cases a<;>simp[Conv.bytesToString,loadCells,loadCellsFrom]<;>rfl
   ·rw[run_convert_bytes_string X.w src dst el _ _ _ (K.oX _ _ _ hs) (K.nD _ _ he) (K.k9 _ hd)];obtain⟨ns,rfl,rfl⟩:=QEu hr hb;have hlen:=(hr.gj K.base).1;rw[tB,Nat.mul_one]at hlen;have vT:=run_loadCells_list (P:=P) X.w ⟨b,off,none⟩ (ns.map (Value.int .u8)) (fun j v hj=>by rw[Addr.add_lit];exact hc j v hj);rw[hlen]at vT;rw[run_bytesToString X.w ⟨b,off,none⟩ xs.length cp ns vT];have:=Qp3 ns []
    congr 2
  ·exact Ex.cB hex
 ·rename_i el ty hs hd
  split at hex
  rotate_left
  ·exact Ex.cB hex
  rename_i he
  split at hex
  rotate_left
  ·exact Ex.cB hex
  rename_i fu Gl
  split at hex
  rotate_left
  ·exact Ex.cB hex
  rename_i s;rcases Ex.br hex with⟨hb,hex⟩|⟨_,hex⟩;rotate_left
  ·exact Ex.cB hex
  obtain⟨rfl,rfl,rfl,rfl⟩:=Ex.ret hex;rw[hx.1.str];have eB:=Go.Lib.run_convert_string_bytes (P:=P) X.w src dst el (⟨⟨s⟩⟩:ByteArray) (K.k9 _ hs) (K.oX _ _ _ hd) (K.nD _ _ he);have fB:(⟨⟨s⟩⟩:ByteArray).size=s.length:=rfl;obtain⟨g1,s1⟩:=g.grow K.base (Go.Lib.bytesWorld X.w el ⟨⟨s⟩⟩) (by rw[Go.Lib.bytesWorld_size];omega) (fun b hb=>Go.Lib.bytesWorld_at_old _ _ _ _ hb) rfl rfl rfl (fun a ha=>YG (Go.Lib.bytesWorld_at_old _ _ _ _ ha));have Gv:=K.base.jZ _ _ s Gl;have hlen:(fu s).length=s.length:=by have:=ap List.length Gv;simpa using this
  have kz:=Kh X.w s.length 0 el;refine⟨_,⟨Go.Lib.bytesWorld X.w el ⟨⟨s⟩⟩,X.ρ,X.O⟩,eB,g1,s1,RO.mk (.mk rfl ?_) rfl⟩;rw[fB,<-hlen];refine .sl (cs:=s.map fun b=>Value.int .u8 (b.toNat:Int)) (fun j u hj=>⟨?_,?_⟩) (OD _ _ Gv) (by rw[hlen];exact kz) (by simp)
  ·have mb:=(av.1 hj).1;simp only[List.length_map]at mb;have:=Go.Lib.bytesWorld_cell X.w el (⟨⟨s⟩⟩:ByteArray) j (by rw[fB];exact mb);rw[aN,this];rw[bB,aY mb]at hj;simp only[bC,aD]at hj;rw[<-hj];simp[mb]
  ·refine⟨fun ho=>?_,fun hm=>?_⟩
   ·have:=g.outs _ _ ho;omega
   ·have:=(g.outer _ _ hm).2;omega
 ·exact Ex.cB hex
omit K g in
theorem QlE{x d:D C}{vx:Value}(hx:RO T X nx lim x vx)(hex:Ex e (NA x) h nx d h' cF tr) :
 ∃v,(∀(r:Operand->Value) (o:Oper) (y:Operand),o.op=.nilCheck y->r y=vx->execOp r o=(pure (.value v):Sem Next))/\RO T X nx lim d v/\h'=h/\cF=nx:=by
 unfold NA at hex;cases x with
 |ptr id p=>
  obtain⟨rfl,rfl,rfl,rfl⟩:=Ex.ret hex;have hR:=hx.1.one rfl;cases hR with
  |ptr hh=>exact⟨_,fun r o y ho hy=>by unfold execOp;rw[ho];simp only;rw[hy],hx,rfl,rfl⟩
 |eY id n p=>
  obtain⟨rfl,rfl,rfl,rfl⟩:=Ex.ret hex;have hR:=hx.1.one rfl;cases hR with
  |eY hh=>exact⟨_,fun r o y ho hy=>by unfold execOp;rw[ho];simp only;rw[hy],hx,rfl,rfl⟩
 |dC q=>
  obtain⟨rfl,rfl,rfl,rfl⟩:=Ex.ret hex;have hR:=hx.1.one rfl;cases hR with
  |dC hh=>exact⟨_,fun r o y ho hy=>by unfold execOp;rw[ho];simp only;rw[hy],hx,rfl,rfl⟩
 |fn f c=>
  obtain⟨rfl,rfl,rfl,rfl⟩:=Ex.ret hex;have hR:=hx.1.one rfl;cases hR with
  |fn hh=>exact⟨_,fun r o y ho hy=>by unfold execOp;rw[ho];simp only;rw[hy],hx,rfl,rfl⟩
 |_=>exact Ex.cB hex
omit K in
theorem QIK{x d:D C}{vx:Value}(hx:RO T X nx lim x vx){op:UnOp}(hex:Ex e (yG op x) h nx d h' cF tr):dc P T X nx lim h' cF d (Op.unary op vx):=by
 unfold yG at hex
 split at hex
 ·obtain⟨rfl,rfl,rfl,rfl⟩:=Ex.ret hex;rw[hx.1.bool];exact dc.same g _ (by simp[Op.unary]) (RO.mk (.mk rfl (.bool _)) rfl)
 ·obtain⟨rfl,rfl,rfl,rfl⟩:=Ex.ret hex;obtain⟨rfl,_⟩:=hx.1.int;exact dc.same g _ (by simp[Op.unary,Op.intArith]) (RO.mk (.mk rfl (.int (JM _ _))) rfl)
 ·obtain⟨rfl,rfl,rfl,rfl⟩:=Ex.ret hex;obtain⟨rfl,_⟩:=hx.1.int;refine dc.same g _ ?_ (RO.mk (.mk rfl (.int (JM _ _))) rfl);simp only[Op.unary,Op.intBits,aF,bits];rename_i k n _;cases k<;>rfl
 ·exact Ex.cB hex
end
section
variable {C:gR}{P:Program}{T:fh C}
open Pg (Ex)
variable (K:Zo P T)
theorem Pg.nz{α β:Type}{p:Pg C α}{e  :Pg.Lv}{h h':Heap C}{n n':Nat}{a:α}{t:Tr}(hx:Ex e p h n a h' n' t)(l:Tr)(k:α->Heap C->Nat->Tr->Option β):p.run e h n l k=k a h' n' (t++l):=by
 rw[run_eq];unfold Ex at hx;rw[hx];rfl
theorem Pg.Ex.rd_mk{α:Type}{e:Pg.Lv}{h h':Heap C}{n n':Nat}{t:Tr}{id:Nat}{f:Obj C->Pg C α}{a:α}{o:Obj C}(ho:h.get id=some o)(hx:Ex e (f o) h n a h' n' t):Ex e (.rd id f) h n a h' n' (t++[(id,false)]):=by
 show Pg.run _ _ _ _ _ _=_;simp only[Pg.run,ho];rw[Pg.nz hx]
include K in
theorem RV.xK{X X':Cx}{nx:Nat}{lim:ek}(s:Step X nx lim X'){d:D C}{v:Value}(h:RV T X d v)(hr:∀id∈d.refs,ft nx lim id):RV T X' d v:=by
 rcases h with⟨i1,cs,r1,rfl⟩|⟨i1,r1⟩
 ·exact .inl ⟨i1,cs,r1.step K.base s hr,rfl⟩
 ·exact .inr ⟨i1,r1.step K.base s hr⟩
include K in
theorem gV.step{X X':Cx}{nx:Nat}{lim:ek}(s:Step X nx lim X'){ds:List (D C)}{vs:bT}(h:gV T X ds vs)(hr:∀a∈ds,∀id∈D.refs a,ft nx lim id):gV T X' ds vs:=by
 induction h with
 |nil=>exact .nil
 |cons h _ ih=>exact .cons (RV.xK K s h (hr _ (by simp))) (ih fun a ha=>hr a (by simp[ha]))
section frz
include K
theorem PF{X:Cx}{h h':Heap C}{nx cF:Nat}{e:Pg.Lv}{lim:ek}{tr:Tr}{id n:Nat}{d':D C}{v:Value}(g:G T X h nx lim)(hr:R T X false (.vs id n) [v])
 (hx:Ex e (frz (.vs id n)) h nx d' h' cF tr):∃X',X'.w=X.w/\G T X' h' nx lim/\Step X nx lim X'/\R T X' false d' [v]/\cF=nx/\d'.refs=[]/\d'.de=false:=by
 simp only[frz]at hx;obtain⟨o,t',ho,hx,_⟩:=Ex.rd hx;cases o with
 |var t d=>exact Ex.cB hx
 |map _ _ _=>exact Ex.cB hx
 |dG _=>exact Ex.cB hx
 |vec ty own l=>
  rcases Ex.br hx with⟨hb,hx⟩|⟨hb,hx⟩
  ·obtain⟨o',t2,_,hx,_⟩:=Ex.wr hx;obtain⟨rfl,rfl,rfl,rfl⟩:=Ex.ret hx;have hn:n=l.length:=az hb;obtain⟨v0,b,lo,hi,h1,h2⟩:=g.vec id ty own l ho;have hlen:=h2.len;cases hr with
   | @vs _ _ cp a hh=>
    have hv:=(hh _ _ _ _ _ h1).2 (by rw[hlen,hn])
    have key:∃iP,lo<=iP/\∀X':Cx,X'.w=X.w->X'.O=X.O->(∀o,lo<=o->o<iP->o<hi->¬X'.du b o)->Step X cF lim X'->VJ T X' ty false l v0 b iP hi:=by
     rcases h2 with⟨h2,h3,h4⟩|⟨off,lh,h2,h3,h4,h5⟩
     ·exact⟨lo,aq _,fun X' _ _ _ _=>.inl ⟨h2,h3,h4⟩⟩
     ·rcases h5 with⟨ht,fX,h5⟩|⟨ht,fX,⟨cs,h5,h6⟩,h7⟩
      ·refine⟨off+l.length*T.size (T.dp ty),by omega,fun X' hw hO hm s'=>.inr ⟨off,lh,h2,h3,h4,.inr ⟨rfl,rfl,?_⟩⟩⟩;rcases h5 with h5|⟨c,ce,h5,h6,h7⟩
       ·have vS:l=[]:=List.length_eq_zero_iff.1 (by omega);subst vS;exact⟨⟨[],fun j u hj=>by simp at hj,.ia _⟩,.inl (by simpa using h5)⟩
       ·refine⟨⟨(c.toList.drop off).take (l.length*T.size (T.dp ty)),fun j u hj=>?_,h7.step K.base s' (by simp[D.refs])⟩,.inr ⟨c,ce,by rw[hw];exact h5,h6⟩⟩;rw[List.getElem?_take]at hj
        split at hj
        ·rename_i mb;rw[List.getElem?_drop]at hj;have hmul:l.length*T.size (T.dp ty)<=lh*T.size (T.dp ty):=Nat.mul_le_mul_right _ h3;refine⟨?_,?_,hm _ (by omega) (by omega) (by omega)⟩
         ·rw[hw];simp only[World.cell?,h5];simpa using hj
         ·rw[hO];exact(g.outer b _ ⟨id,_,h1,rfl,by omega,by omega⟩).1
        ·simp at hj
      ·exact⟨lo,aq _,fun X' hw hO hm s'=>.inr ⟨off,lh,h2,h3,h4,.inr ⟨rfl,fX,⟨cs,h5.step s',h6.step K.base s' (by simp[D.refs])⟩,by rw[hw];exact h7⟩⟩⟩
    obtain⟨iP,k1,k2⟩:=key;obtain⟨X',hw,hρ',g',s',hV⟩:=G.G4 K.base g ho h1 k1 k2;refine⟨X',hw,g',s',?_,rfl,rfl,rfl⟩;rcases hV with⟨⟨a9,q2,_⟩,rfl,_⟩|⟨off,lh,q2,q3,q4,q5⟩
    ·rw[q2]at hv;simp only[Value.slice.injEq]at hv;obtain⟨rfl,rfl,rfl⟩:=hv;exact .kN _ _ _
    ·rw[q2]at hv;simp only[Value.slice.injEq]at hv;obtain⟨rfl,_,rfl⟩:=hv;subst hn;rcases q5 with⟨ht,_⟩|⟨_,_,⟨cs,q5,q6⟩,_⟩
     ·cases ht
     ·exact .sl q5 q6 q3 (by simp)
  ·exact Ex.cB hx
theorem CG:∀(d:D C) {m:Bool} {vs:bT} {X:Cx} {h h':Heap C} {nx cF:Nat} {e:Pg.Lv} {lim:ek} {tr:Tr} {d':D C},G T X h nx lim->R T X m d vs->(∀id∈d.refs,ft nx lim id) ->
 Ex e (frz d) h nx d' h' cF tr->∃X',X'.w=X.w/\G T X' h' nx lim/\Step X nx lim X'/\R T X' m d' vs/\cF=nx/\(∀id∈d'.refs,ft nx lim id)/\d'.de=d.de:=by
 intro d
 have Tq:∀(d:D C),(frz d:Pg C (D C))=.ret d->∀{m:Bool} {vs:bT} {X:Cx} {h h':Heap C} {nx cF:Nat} {e:Pg.Lv} {lim:ek} {tr:Tr} {d':D C},G T X h nx lim->R T X m d vs->(∀id∈d.refs,ft nx lim id) ->
  Ex e (frz d) h nx d' h' cF tr->∃X',X'.w=X.w/\G T X' h' nx lim/\Step X nx lim X'/\R T X' m d' vs/\cF=nx/\(∀id∈d'.refs,ft nx lim id)/\d'.de=d.de:=by
  intro d hd m vs X h h' nx cF e lim tr d' g hr ho hx;rw[hd]at hx;obtain⟨rfl,rfl,rfl,rfl⟩:=Ex.ret hx;exact⟨X,rfl,g,.refl _ _ _,hr,rfl,ho,rfl⟩
 induction d with
 |bI d ds ih1 ih2=>
  intro m vs X h h' nx cF e lim tr d' g hr ho hx;simp only[frz]at hx;obtain⟨d1,h1,n1,t1,t2,q1,hx,_⟩:=Ex.bind hx;obtain⟨d2,h2,n2,t3,t4,q2,hx,_⟩:=Ex.bind hx;obtain⟨rfl,rfl,rfl,rfl⟩:=Ex.ret hx;have pV:∀id∈d.refs,ft nx lim id:=fun id hi=>ho id (by simp[D.refs,hi]);have mz:∀id∈ds.refs,ft nx lim id:=fun id hi=>ho id (by simp[D.refs,hi])
  have fin:∀{m1 m2:Bool} {c1 c2:bT},R T X m1 d c1->R T X m2 ds c2->∃X',X'.w=X.w/\G T X' h' nx lim/\Step X nx lim X'/\R T X' m1 d1 c1/\R T X' m2 d2 c2/\cF=nx/\(∀id∈(D.bI d1 d2).refs,ft nx lim id)/\d1.de=d.de:=by
   intro m1 m2 c1 c2 r1 r2;obtain⟨X1,w1,g1,s1,a1,rfl,o1,i1⟩:=ih1 g r1 pV q1;obtain⟨X2,w2,g2,s2,a2,rfl,o2,i2⟩:=ih2 g1 (r2.step K.base s1 mz) mz q2;refine⟨X2,by rw[w2,w1],g2,s1.trans s2 (aq _),a1.step K.base s2 o1,a2,rfl,?_,i1⟩;intro id hi;simp only[D.refs,aT]at hi;rcases hi with hi|hi
   ·exact o1 id hi
   ·exact o2 id hi
  cases hr with
  |bI r1 r2=>obtain⟨X',a1,a2,a3,a4,a5,a6,a7,_⟩:=fin r1 r2;exact⟨X',a1,a2,a3,.bI a4 a5,a6,a7,rfl⟩
  |jh r1 fA r2=>obtain⟨X',a1,a2,a3,a4,a5,a6,a7,a8⟩:=fin r1 r2;exact⟨X',a1,a2,a3,.jh a4 (a8.trans fA) a5,a6,a7,rfl⟩
  |iQ r1 fA r2=>obtain⟨X',a1,a2,a3,a4,a5,a6,a7,a8⟩:=fin r1 r2;exact⟨X',a1,a2,a3,.iQ a4 (a8.trans fA) a5,a6,a7,rfl⟩
 |cG d ih=>
  intro m vs X h h' nx cF e lim tr d' g hr ho hx;simp only[frz]at hx;obtain⟨d1,h1,n1,t1,t2,q1,hx,_⟩:=Ex.bind hx;obtain⟨rfl,rfl,rfl,rfl⟩:=Ex.ret hx;cases hr with
  |cG r1=>
   obtain⟨X',a1,a2,a3,a4,a5,a6,a7⟩:=ih g r1 (fun id hi=>ho id (by simpa[D.refs]using hi)) q1;exact⟨X',a1,a2,a3,.cG a4,a5,by simpa[D.refs]using a6,rfl⟩
 |vs id n=>
  intro m vs X h h' nx cF e lim tr d' g hr ho hx;have hm:m=false/\∃v,vs=[v]:=by cases hr;exact⟨rfl,_,rfl⟩
  obtain⟨rfl,v,rfl⟩:=hm;obtain⟨X',a1,a2,a3,a4,a5,a6,a7⟩:=PF K g hr hx;exact⟨X',a1,a2,a3,a4,a5,by simp[a6],a7⟩
 |jg=>intro m vs X h h' nx cF e lim tr d' g hr ho hx;exact Ex.cB hx
 |_=>exact Tq _ rfl
end frz
include K in
theorem QsF:∀(args:List (D C)) {vs:bT} {X:Cx} {h h':Heap C} {nx cF:Nat} {e:Pg.Lv} {lim:ek} {tr:Tr} {hZ:List (D C)},G T X h nx lim->gV T X args vs->(∀a∈args,∀id∈D.refs a,ft nx lim id) ->
 Ex e (vD args) h nx hZ h' cF tr->∃X',X'.w=X.w/\G T X' h' nx lim/\Step X nx lim X'/\gV T X' hZ vs/\cF=nx/\(∀a∈hZ,∀id∈D.refs a,ft nx lim id)
 |[],vs,X,h,h',nx,cF,e,lim,tr,hZ,g,hr,ho,hx=>by
  obtain⟨rfl,rfl,rfl,rfl⟩:=Ex.ret hx;exact⟨X,rfl,g,.refl _ _ _,hr,rfl,ho⟩
 |d::ds,vs,X,h,h',nx,cF,e,lim,tr,hZ,g,hr,ho,hx=>by
  simp only[vD]at hx;obtain⟨d1,h1,n1,t1,t2,q1,hx,_⟩:=Ex.bind hx;obtain⟨d2,h2,n2,t3,t4,q2,hx,_⟩:=Ex.bind hx;obtain⟨rfl,rfl,rfl,rfl⟩:=Ex.ret hx;have pV:∀id∈d.refs,ft nx lim id:=ho d (by simp);have mz:∀a∈ds,∀id∈D.refs a,ft nx lim id:=fun a ha=>ho a (by simp[ha]);cases hr with
  | @cons _ _ v vs' rv rs=>
   have key:∃X1,X1.w=X.w/\G T X1 h1 nx lim/\Step X nx lim X1/\RV T X1 d1 v/\n1=nx/\(∀id∈d1.refs,ft nx lim id):=by
    rcases rv with⟨i1,cs,r1,rfl⟩|⟨i1,r1⟩
    ·obtain⟨X1,w1,g1,s1,a1,e1,o1,i2⟩:=CG K d g r1 pV q1;exact⟨X1,w1,g1,s1,.inl ⟨i2.trans i1,cs,a1,rfl⟩,e1,o1⟩
    ·obtain⟨X1,w1,g1,s1,a1,e1,o1,i2⟩:=CG K d g r1 pV q1;exact⟨X1,w1,g1,s1,.inr ⟨i2.trans i1,a1⟩,e1,o1⟩
   obtain⟨X1,w1,g1,s1,a1,rfl,o1⟩:=key;have rs1:gV T X1 ds vs':=gV.step K s1 rs mz;obtain⟨X2,w2,g2,s2,a2,rfl,o2⟩:=QsF ds g1 rs1 mz q2;refine⟨X2,by rw[w2,w1],g2,s1.trans s2 (aq _),.cons (RV.xK K s2 a1 o1) a2,rfl,?_⟩;intro a ha;rcases aZ.1 ha with rfl|ha
   ·exact o1
   ·exact o2 a ha
theorem G.ud{X:Cx}{h:Heap C}{nx:Nat}{lim:ek}(g:G T X h nx lim){id:Nat}{u:TypeId}{d0 d:D C}(ho:h.get id=some (.var u d0))
 (hd:∀b c,X.ρ id=some (.var b u)->X.w.heap[b]? = some (.cells c u (0,0))->R T X false d c.toList) (hf:fit T d (.inl u)=true) (hr:∀r∈d.refs,ft nx lim r) :
 G T X (h.put id (.var u d)) nx lim:=by
 have hs:(h.get id).isSome=true:=by rw[ho];rfl
 have iq:∀j,(h.put id (.var u d)).get j=if j=id then some (.var u d)else h.get j:=fun j=>Qv hs
 refine⟨fun j t x hj=>?_,fun j t own l hj=>?_,fun j ck cv l hj=>?_,fun j cc hj=>?_,fun j l hl=>?_,fun j o hj=>?_,g.apart,g.outer,g.outs,g.low,g.pre⟩
 ·rw[iq]at hj
  by_cases e:j=id
  ·subst e;rw[ax rfl]at hj;cases hj;obtain⟨b,c,h1,h2,h3,h4⟩:=g.var _ _ _ ho;exact⟨b,c,h1,h2,hd b c h1 h2,hf⟩
  ·rw[aw e]at hj;exact g.var _ _ _ hj
 ·rw[iq]at hj
  by_cases e:j=id
  ·rw[ax e]at hj;cases hj
  ·rw[aw e]at hj;exact g.vec _ _ _ _ hj
 ·rw[iq]at hj
  by_cases e:j=id
  ·rw[ax e]at hj;cases hj
  ·rw[aw e]at hj;exact g.map _ _ _ _ hj
 ·rw[iq]at hj
  by_cases e:j=id
  ·rw[ax e]at hj;cases hj
  ·rw[aw e]at hj;exact g.dG _ _ hj
 ·rw[iq]
  by_cases e:j=id
  ·rw[ax e];rfl
  ·rw[aw e];exact g.jA j l hl
 ·rw[iq]at hj
  by_cases e:j=id
  ·subst e;rw[ax rfl]at hj;cases hj;exact⟨(g.eL _ _ ho).1,hr⟩
  ·rw[aw e]at hj;exact g.eL _ _ hj
section
variable {X:Cx}{h h':Heap C}{nx cF:Nat}{e:Pg.Lv}{lim:ek}{tr:Tr}(g:G T X h nx lim)
theorem lA{t:TypeId}{a v d:D C}(hx:Ex e (Ij T t a v) h nx d h' cF tr):(∃kG,Ex e (J9 T t a v) h nx d h' cF kG) \/
 ∃i n d1 h1 n1 t1 t2,v=.vs i n/\Ex e (frz (.vs i n)) h nx d1 h1 n1 t1/\Ex e (J9 T t a d1) h1 n1 d h' cF t2:=by
 unfold Ij at hx
 split at hx
 ·rename_i id p i n;obtain⟨o,t',_,hx,_⟩:=Ex.rd hx;cases hc:We T p o with
  |false=>rw[hc]at hx;exact .inl ⟨_,hx⟩
  |true=>
   rw[hc]at hx;simp only[ag]at hx;obtain⟨d1,h1,n1,t1,t2,q1,q2,_⟩:=Ex.bind hx;exact .inr ⟨i,n,d1,h1,n1,t1,t2,rfl,q1,q2⟩
 ·exact .inl ⟨_,hx⟩
include K g in
theorem QsG{t:TypeId}{a v d:D C}{va vv:Value}(ha:RO T X nx lim a va)(hv:RO T X nx lim v vv)(hx:Ex e (Ij T t a v) h nx d h' cF tr) :
 ∃X',(Instr.storeAt t va vv).run P X.w=.ok () X'.w/\G T X' h' cF lim/\Step X nx lim X'/\d=.cG .bN:=by
 rcases lA hx with⟨_,hx⟩|⟨i,n,d1,h1,n1,t1,t2,rfl,q1,q2⟩
 ·exact Qm1 K g ha hv hx
 ·obtain⟨X',w',g',s',r',hn,sn,fA⟩:=PF K g (hv.1.one rfl) q1;subst hn;obtain⟨X2,k1,k2,k3,k4⟩:=Qm1 K g' (RO.step K.base s' ha (aq _)) (RO.mk (.inr ⟨fA,r'⟩) sn) q2;exact⟨X2,by rw[<-w'];exact k1,k2,s'.trans k3 (aq _),k4⟩
include K g in
theorem QAh{t:TypeId}{a d:D C}{va:Value}(ha:RO T X nx lim a va)(hx:Ex e (O9 T t a) h nx d h' cF tr):dc P T X nx lim h' cF d (Instr.loadAt t va):=by
 unfold O9 at hx
 split at hx
 ·rename_i id
  split at hx
  ·cases kD:T.settle t with
   |false=>rw[kD]at hx;exact IK K g ha hx
   |true=>
   rw[kD]at hx;simp only[ag]at hx;obtain⟨o,kG,ho,hx,_⟩:=Ex.rd hx;cases o with
   |vec ty own l=>exact Ex.cB hx
   |map _ _ _=>exact Ex.cB hx
   |dG _=>exact Ex.cB hx
   |var u d0=>
    simp only[ldS]at hx;cases hc:(decide (u=t)&&d0.ol)with
    |false=>
     rw[hc]at hx;simp only[ah]at hx
     exact IK K g (e:=e) (tr:=kG++[(id,false)]) ha (by
      unfold wQ;exact Ex.rd_mk ho hx)
    |true=>
     rw[hc]at hx;simp only[ag]at hx;simp only[ai,aa]at hc;obtain⟨rfl,_⟩:=hc;obtain⟨d1,h1,n1,t1,t2,q1,hx,_⟩:=Ex.bind hx;cases hf:fit T d1 (.inl u)with
     |false=>rw[hf]at hx;exact Ex.cB hx
     |true=>
      rw[hf]at hx;simp only[ag]at hx;obtain⟨o',t3,gz,hx,_⟩:=Ex.wr hx;obtain⟨rfl,rfl,rfl,rfl⟩:=Ex.ret hx;obtain⟨b,c,k1,k2,k3,k4⟩:=g.var id u d0 ho;obtain⟨X',w',g',s',r',hn,sn,fA⟩:=CG K d0 g k3 (g.eL id _ ho).2 q1;have hR:=ha.1.one rfl;cases hR with
      | @ptr _ _ a' hq=>
       obtain⟨ig,rfl⟩:=hq b u k1
       obtain⟨v,hv,mQ⟩:=Ke K (w:=X.w) (b:=b) (off:=0) hf r' (by
        intro j w hj;simp only[World.cell?,k2,aN]
        simpa using hj)
       subst hn
       have hρ:∃d2,h1.get id=some (.var u d2)/\X'.ρ id=some (.var b u):=by
        have hold:=(g.eL id _ ho).1;have nM:=s'.ρ id hold;rw[k1]at nM;cases o' with
        |var u2 d2=>
         obtain⟨b',c',m1,_⟩:=g'.var id u2 d2 gz;rw[m1]at nM;simp only[Qp,Loc.var.injEq]at nM;obtain⟨rfl,rfl⟩:=nM;exact⟨d2,gz,m1⟩
        |vec ty own l=>
         obtain⟨v',b',lo,hi,m1,_⟩:=g'.vec id ty own l gz;rw[m1]at nM;simp[Qp]at nM
        |map ck cv l=>
         obtain⟨b',es,cl,m1,_⟩:=g'.map id ck cv l gz;rw[m1]at nM;simp[Qp]at nM
        |dG cc=>
         obtain⟨s0,m1,_⟩:=g'.dG id cc gz;rw[m1]at nM;simp[Qp]at nM
       obtain⟨d2,m1,m2⟩:=hρ;refine⟨v,X',?_,?_,s',?_⟩
       ·rw[w'];have:dL T u []=0:=rfl;simp[Instr.loadAt,Instr.sureAddr,hv,this]
       ·refine g'.ud m1 (fun b1 c1 x1 x2=>?_) hf sn;rw[m2]at x1;cases x1;rw[w',k2]at x2;cases x2;exact r'
       ·exact⟨mQ,sn⟩
  ·exact IK K g ha hx
 ·exact IK K g ha hx
include K in
theorem G.yB{id b lo hi:Nat}{t:C.Ty}{own:Bool}{l l':List (C.A t)}{v v':Value}(g:G T X h nx lim)(hn:nx<lim.top)(ho:h.get id=some (.vec t own l))(hρ:X.ρ id=some (.vec v (T.dp t) b lo hi))
 (hV:∀X':Cx,X'.w=X.w->X'.O=X.O->Step X nx lim X'->VJ T X' t own l' v' b lo hi) :
 ∃X',X'.w=X.w/\X'.ρ nx=some (.vec v' (T.dp t) b lo hi)/\G T X' ((nx,.vec t own l')::h.del id) (nx+1) lim/\Step X nx lim X':=by
 let l0:Loc:=.vec v' (T.dp t) b lo hi
 let X':Cx:=⟨X.w,fun j=>if j=nx then some l0 else if j=id then none else X.ρ j,X.O⟩
 have dD:id≠nx:=by have:=(g.eL id _ ho).1.1;omega
 have back:∀j k,X'.ρ j=some k->(j=nx/\k=l0)\/(j≠nx/\j≠id/\X.ρ j=some k):=by
  intro j k hj
  by_cases h1:j=nx
  ·simp[X',h1]at hj;exact .inl ⟨h1,hj.symm⟩
  ·by_cases h2:j=id
   ·simp[X',h1,h2,dD]at hj
   ·simp[X',h1,h2]at hj;exact .inr ⟨h1,h2,hj⟩
 have fY:∀c o,X'.du c o->X.du c o:=by
  rintro c o ⟨j,k,h1,h2⟩
  rcases back j k h1 with⟨_,rfl⟩|⟨_,_,h3⟩
  ·exact⟨id,_,hρ,h2⟩
  ·exact⟨j,k,h3,h2⟩
 have hs:Step X nx lim X':=by
  refine⟨rfl,rfl,rfl,rfl,aq _,?_,fun c o _=>fY c o,fun _ _ _ _=>rfl,fun _ _ _=>rfl,fun _ _=>rfl⟩;intro j hj;have h1:j≠nx:=by have:=hj.1;omega
  by_cases h2:j=id
  ·simp only[X',h1,h2,aU,aL,dD];cases X.ρ id<;>simp[Qp]
  ·simp[X',h1,h2,Qp.refl]
 have iq:∀j o,Heap.get j ((nx,Obj.vec t own l')::h.del id)=some o->(j=nx/\o=.vec t own l')\/(j≠nx/\j≠id/\h.get j=some o):=by
  intro j o hj;rw[Qy]at hj
  by_cases h1:j=nx
  ·simp[h1]at hj;exact .inl ⟨h1,hj.symm⟩
  ·rw[aw h1,Zn]at hj
   by_cases h2:j=id
   ·simp[h2]at hj
   ·rw[aw h2]at hj;exact .inr ⟨h1,h2,hj⟩
 have hX:∀j,j≠nx->j≠id->X'.ρ j=X.ρ j:=fun j h1 h2=>by simp[X',h1,h2]
 refine⟨X',rfl,by simp[X',l0],⟨?_,?_,?_,?_,?_,?_,?_,?_,g.outs,Nat.le_succ_of_le g.low,g.pre.step hs⟩,hs⟩
 ·intro j t' d' hg;rcases iq j _ hg with⟨_,h1⟩|⟨h1,h2,h3⟩
  ·cases h1
  ·obtain⟨b',c,k1,k2,k3,k4⟩:=g.var j t' d' h3;exact⟨b',c,by rw[hX j h1 h2];exact k1,k2,k3.step K.base hs (g.eL j _ h3).2,k4⟩
 ·intro j t' gm k hg;rcases iq j _ hg with⟨h1,h2⟩|⟨h1,h2,h3⟩
  ·cases h2;exact⟨v',b,lo,hi,by simp[X',h1,l0],hV X' rfl rfl hs⟩
  ·obtain⟨v1,b',iP,jl,k1,k2⟩:=g.vec j t' gm k h3;refine⟨v1,b',iP,jl,by rw[hX j h1 h2];exact k1,?_⟩;rcases k2 with k2|⟨off,cp,k2,k3,k4,k5⟩
   ·exact .inl k2
   ·refine .inr ⟨off,cp,k2,k3,k4,?_⟩;rcases k5 with⟨ht,fX,k5|⟨cs,e,k5,k6,k7⟩⟩|⟨ht,fX,⟨cs,k5,k6⟩,k7⟩
    ·exact .inl ⟨ht,fX,.inl k5⟩
    ·exact .inl ⟨ht,fX,.inr ⟨cs,e,k5,k6,k7.step K.base hs (by simp[D.refs])⟩⟩
    ·exact .inr ⟨ht,fX,⟨cs,k5.step hs,k6.step K.base hs (by simp[D.refs])⟩,k7⟩
 ·intro j ck cv k hg;rcases iq j _ hg with⟨_,h1⟩|⟨h1,h2,h3⟩
  ·cases h1
  ·obtain⟨b',es,c,k1,k2,k3⟩:=g.map j ck cv k h3;exact⟨b',es,c,by rw[hX j h1 h2];exact k1,k2,k3.step K.base hs⟩
 ·intro j cc hg;rcases iq j _ hg with⟨_,h1⟩|⟨h1,h2,h3⟩
  ·cases h1
  ·obtain⟨s,k1,k2⟩:=g.dG j cc h3;exact⟨s,by rw[hX j h1 h2];exact k1,k2.same K.base hs rfl⟩
 ·intro j k hr;rw[Qy];rcases back j k hr with⟨h1,_⟩|⟨h1,h2,h3⟩
  ·simp[h1]
  ·rw[aw h1,Zn,aw h2];exact g.jA j k h3
 ·intro j o hg;rcases iq j _ hg with⟨h1,h2⟩|⟨h1,h2,h3⟩
  ·cases h2;exact⟨h1▸g.new hn,fun r fK=>by simp[Obj.refs]at fK⟩
  ·exact g.ml (by omega) j o h3
 ·intro j j' k k' c o o' h1 h2 h3 h4;rcases back j k h1 with⟨a1,rfl⟩|⟨a1,a2,a3⟩<;>rcases back j' k' h2 with⟨b1,rfl⟩|⟨b1,b2,b3⟩
  ·rw[a1,b1]
  ·exact absurd (g.apart id j' _ _ c o o' hρ b3 h3 h4).symm b2
  ·exact absurd (g.apart j id _ _ c o o' a3 hρ h3 h4) a2
  ·exact g.apart j j' k k' c o o' a3 b3 h3 h4
 ·intro c o hm;exact g.outer c o (fY c o hm)
omit K in
theorem R.yD(L:Laws T){X:Cx}{ty:C.Ty}{cap:Bool}{l:List (C.A ty)}{ao:dw}{n cp:Nat}(hr:R T X false (.sl ty cap l) [.slice ao n cp])(k:Nat)(hk:k<=l.length) :
 R T X false (.sl ty false (l.drop k)) [.slice (if cp=k then ao else ao.map (·.add (k*T.size (T.dp ty)))) (n-k) (cp-k)]:=by
 cases hr with
 |kN=>
  simp only[bH]at hk;have:k=0:=by omega
  subst this
  simpa using R.kN ty false ao
 | @sl _ _ _ b0 off _ cs iw hr hc kz=>
  obtain⟨d1,d2,my,vT,_,ks⟩:=hr.iZ L k hk;have hlen:(l.drop k).length=l.length-k:=by simp
  rw[<-hlen]
  by_cases hm:cp=k
  ·have hz:l.drop k=[]:=List.length_eq_zero_iff.1 (by omega);rw[ax hm,hz];exact .sl (cs:=[]) (fun j v hj=>by simp at hj) (by simpa using R.ia ty) (by simp) (fun h=>by cases h)
  ·rw[aw hm];simp only[bC,Addr.add_lit];refine .sl (cs:=d2) (fun j v hj=>?_) (by rw[hlen];exact ks) (by omega) (fun h=>by cases h);rw[<-vT,Nat.add_assoc];refine iw _ v ?_;rw[my,List.getElem?_append_right (by omega)];rw[show d1.length+j-d1.length=j by omega];exact hj
include K g in
theorem QAi(dP:cF<=lim.top){t:TypeId}{id n:Nat}{d:D C}{va:Value}{lo hi mx:Option (D C)}{lB mu mJ:dX}(ha:RO T X nx lim (.vs id n) va)
 (fX:lC T X nx lim lo lB) (nO:lC T X nx lim hi mu) (nP:lC T X nx lim mx mJ) (hx:Ex e (.rd id (Ml T t id n lo hi mx)) h nx d h' cF tr):dc P T X nx lim h' cF d (Instr.sliceAt t va lB mu mJ):=by
 obtain⟨o,kG,ho,hx,_⟩:=Ex.rd hx;cases o with
 |var _ _=>exact Ex.cB hx
 |map _ _ _=>exact Ex.cB hx
 |dG _=>exact Ex.cB hx
 |vec ty own l=>
  cases own with
  |false=>exact Ex.cB hx
  |true=>
   simp only[Ml]at hx;cases ht:T.ty t with
   |sl el ty0=>
    simp only[ht]at hx;cases hd:decide (ty=ty0)with
    |false=>rw[hd]at hx;exact Ex.cB hx
    |true=>
     rw[hd]at hx;simp only[ag]at hx;have hd:ty=ty0:=by simpa using hd
     subst hd;have hu:=K.oX _ _ _ ht;have hs:=Zy K (.inr ht) X.w;obtain⟨v0,b,rZ,rP,h1,h2⟩:=g.vec id ty true l ho;have hlen:=h2.len;have hR:=ha.1.one rfl;cases hR with
     | @vs _ _ cp a0 hh=>
      split at hx
      ·rename_i k a _;rcases Ex.br hx with⟨hc,hx⟩|⟨_,hx⟩
       ·obtain⟨rfl,rfl,rfl,rfl⟩:=Ex.ret hx;simp only[ai,Nat.beq_eq,aa]at hc;obtain⟨hn,Da,Db⟩:=hc;have jc:=(hh _ _ _ _ _ h1).2 (by rw[hlen,hn]);cases lB with
        |none=>exact fX.elim
        |some lB=>
        cases mu with
        |some _=>exact nO.elim
        |none=>
        cases mJ with
        |some _=>exact nP.elim
        |none=>
        obtain⟨rfl,_⟩:=fX.1.int
        have pt:(Instr.sliceBounds true n cp (some (.int k a)) none none).run P X.w=.ok (a.toNat,n,cp) X.w:=by
         simp[Instr.sliceBounds,QV k a n _ Da (by omega)]
        refine dc.same g (.slice (if cp=a.toNat then a0 else a0.map (·.add (a.toNat*T.size (T.dp ty)))) (n-a.toNat) (cp-a.toNat)) ?_ ⟨.mk rfl (.jg (fun b' t' h5=>by rw[h1]at h5;cases h5) (fun mA=>?_) (fun v' e' b' l' jl h5=>?_)),by simpa[D.refs]using ha.2⟩
        ·simp only[Instr.sliceAt,Instr.slice,aG,aB hu,aA,pt,hs.1,aF,hs.2.1]
        ·rcases h2 with⟨_,h3,_⟩|⟨off,lh,h3,h4,h5,_⟩
         ·subst h3;simp at hn;omega
         ·rw[h3]at jc;simp only[Value.slice.injEq]at jc;obtain⟨rfl,_,rfl⟩:=jc;have cU:a.toNat<lh:=bj (Nat.lt_of_sub_pos mA) (hn▸h4);rw[aw (Nat.ne_of_gt cU)];exact⟨b,off+a.toNat*T.size (T.dp ty),by simp[Addr.add_lit]⟩
        ·rw[h1]at h5;cases h5;refine⟨by simp;omega,fun _=>⟨a0,cp,by simpa using jc,by simp,rfl,rfl⟩⟩
       ·exact Ex.cB hx
      ·rename_i k b1 _;rcases Ex.br hx with⟨hc,hx⟩|⟨_,hx⟩
       ·obtain⟨o',t2,_,hx,_⟩:=Ex.dl hx;obtain⟨t3,hx,_⟩:=Ex.nw hx;obtain⟨rfl,rfl,rfl,rfl⟩:=Ex.ret hx;simp only[ai,Nat.beq_eq,aa]at hc;obtain⟨hn,rN,sQ⟩:=hc;have jc:=(hh _ _ _ _ _ h1).2 (by rw[hlen,hn]);cases lB with
        |some _=>exact fX.elim
        |none=>
        cases mu with
        |none=>exact nO.elim
        |some mu=>
        cases mJ with
        |some _=>exact nP.elim
        |none=>
        obtain⟨rfl,_⟩:=nO.1.int
        have nN:n<=cp:=by
         rcases h2 with⟨⟨a1,h3,_⟩,h4,_⟩|⟨off,lh,h3,h4,h5,_⟩
         ·rw[h3]at jc;simp only[Value.slice.injEq]at jc;omega
         ·rw[h3]at jc;simp only[Value.slice.injEq]at jc;omega
        have pt:(Instr.sliceBounds true n cp none (some (.int k b1)) none).run P X.w=.ok (0,b1.toNat,cp) X.w:=by
         simp[Instr.sliceBounds,QV k b1 cp _ rN (by omega)]
        have yJ:(if cp=0 then a0 else a0.map (·.add (0*T.size el)))=a0:=by
         split
         ·rfl
         ·cases a0 with
          |none=>rfl
          |some a0=>simp[Addr.add]
        have htl:(l.take b1.toNat).length=b1.toNat:=by rw[bp];omega
        obtain⟨X',w',hρ',g',s'⟩:=G.yB K g (l':=l.take b1.toNat) (v':=.slice a0 b1.toNat cp) (by omega) ho h1 (fun X' hw hO dV=>by
         rcases h2 with⟨⟨a1,h3,h3'⟩,h4,h5⟩|⟨off,lh,h3,h4,h5,h6⟩
         ·rw[h3]at jc;simp only[Value.slice.injEq]at jc;obtain⟨rfl,h6,rfl⟩:=jc;have:b1.toNat=0:=by omega
          rw[this];exact .inl ⟨⟨a1,rfl,h3'⟩,by simp,h5⟩
         ·rw[h3]at jc;simp only[Value.slice.injEq]at jc;obtain⟨rfl,h7,rfl⟩:=jc;refine .inr ⟨off,lh,by rw[htl],by omega,h5,?_⟩;rcases h6 with⟨h6,h7,h8⟩|⟨h6,_⟩
          ·refine .inl ⟨rfl,h7,?_⟩;rcases h8 with h8|⟨c,ce,h8,h9,Ly⟩
           ·exact .inl h8
           ·refine .inr ⟨c,ce,by rw[hw];exact h8,h9,?_⟩;have h11:=Ly.step K.base dV (by simp[D.refs]);obtain⟨c1,c2,e1,e2,e3,_⟩:=h11.iZ K.base b1.toNat (by omega);rw[htl]
            have:(c.toList.drop off).take (b1.toNat*T.size (T.dp ty))=c1:=by
             have hle:b1.toNat*T.size (T.dp ty)<=l.length*T.size (T.dp ty):=Nat.mul_le_mul_right _ (by omega);have h12:=ap (List.take (b1.toNat*T.size (T.dp ty))) e1;rw[List.take_take,Nat.min_eq_left hle,<-e2]at h12;rw[<-e2,h12];simp
            rw[this];exact e3
          ·cases h6)
        refine⟨.slice a0 b1.toNat cp,X',?_,g',s',?_⟩
        ·simp only[Instr.sliceAt,Instr.slice,aG,aB hu,aA,pt,hs.1,aF,Nat.sub_zero,yJ,w']
        ·refine⟨.mk rfl (.vs fun v e b' iP jl h5=>?_),fun r hr=>?_⟩
         ·rw[hρ']at h5;cases h5;exact⟨by simp[gJ],fun _=>rfl⟩
         ·simp only[D.refs,bE]at hr;subst hr;exact g.new (by omega)
       ·exact Ex.cB hx
      ·exact Ex.cB hx
   |_=>rw[ht]at hx;exact Ex.cB hx
omit K g in
theorem R.wx{X:Cx}{m:Bool}{d:D C}{cs:bT}(h:R T X m d cs):m=false->d.gK=true->R T X true d cs:=by
 induction h with
 |bN=>exact fun _ _=>.iu
 | @bI d ds c1 c2 h1 h2 _ i2=>
  intro _ ho;simp only[D.gK,ai,Bool.not_eq_true']at ho
  have lm:∃v,c1=[v]:=by
   cases h1<;>first|exact⟨_,rfl⟩|simp[D.de]at ho
  obtain⟨v,rfl⟩:=lm;exact .iQ h1 ho.1 (i2 rfl ho.2)
 |ia=>intro _ ho;simp[D.gK]at ho
 |iS=>intro _ ho;simp[D.gK]at ho
 |iu|jh|iQ=>intro hm;simp at hm
 |_=>intro _ ho;simp[D.gK]at ho
include K g in
theorem QAj{t:TypeId}{id:Nat}{fs:cD}{d:D C}{va:Value}{lB mu mJ:dX}(ht:T.ty t=.struct true fs)(ha:RO T X nx lim (.ptr id []) va)
 (fX:lC T X nx lim none lB) (nO:lC T X nx lim none mu) (nP:lC T X nx lim none mJ) (hx:Ex e (.rd id (Mm t id fs)) h nx d h' cF tr):dc P T X nx lim h' cF d (Instr.sliceAt t va lB mu mJ):=by
 obtain⟨o,kG,ho,hx,_⟩:=Ex.rd hx;cases o with
 |vec ty own l=>exact Ex.cB hx
 |map _ _ _=>exact Ex.cB hx
 |dG _=>exact Ex.cB hx
 |var u d0=>
  simp only[Mm]at hx;cases hc:(decide (u=t)&&(d0.gK&&d0.dM&&Nat.beq d0.size fs.length&&Nat.ble 1 fs.length))with
  |false=>rw[hc]at hx;exact Ex.cB hx
  |true=>
   rw[hc]at hx;simp only[ag]at hx;obtain⟨o',t2,_,hx,_⟩:=Ex.dl hx;obtain⟨rfl,rfl,rfl,rfl⟩:=Ex.ret hx;simp only[ai,aa,Nat.beq_eq]at hc;obtain⟨rfl,⟨⟨h1,h2⟩,h3⟩,h4⟩:=hc;have h4:=Nat.le_of_ble_eq_true h4;cases lB with
   |some _=>exact fX.elim
   |none=>
   cases mu with
   |some _=>exact nO.elim
   |none=>
   cases mJ with
   |some _=>exact nP.elim
   |none=>
   obtain⟨el,hu,_,_,i,hi,fB⟩:=K.qR _ _ ht;obtain⟨b,c,k1,k2,k3,k4⟩:=g.var id u d0 ho;have hR:=ha.1.one rfl;cases hR with
   | @ptr _ _ a' hq=>
    obtain⟨_,rfl⟩:=hq b u k1;have pt:(Instr.sliceBounds false fs.length fs.length none none none).run P X.w=.ok (0,fs.length,fs.length) X.w:=by simp[Instr.sliceBounds]
    have Dq:(sizeOf el).run P X.w=.ok i.size X.w:=by simp[sizeOf,typeInfo,hi]
    have oK:dL T u []=0:=rfl;obtain⟨X',w',g',s',iW⟩:=G.drop K.base g (h':=h.del id) (fun j=>by rw[Zn];by_cases hj:j=id<;>simp[hj])
    have vW:∀o,¬X'.du b o:=by
     rintro o ⟨j,l,q1,q2⟩
     have q3:=iW j l q1;have:=g.apart j id l _ b o 0 q3 k1 q2 rfl;subst this;have:=g'.jA j l q1;rw[Zn]at this;simp at this
    have mQ:=(k3.wx rfl h1);have hlen:=mQ.uf rfl;refine⟨.slice (some ⟨b,0,none⟩) fs.length fs.length,X',?_,g',s',⟨.mk rfl (.fO (cs:=c.toList) (fun j v hj=>⟨?_,?_,vW _⟩) (mQ.step K.base s' (g.eL id _ ho).2) (by omega) h1 ⟨aq _,fun _=>⟨rfl,by omega⟩⟩),?_⟩⟩
    ·have fg:¬fs.length=0:=by omega
     simp[Instr.sliceAt,Instr.slice,Instr.sureAddr,aB hu,pt,Dq,fg,Addr.add_lit,w',oK]
    ·rw[w'];simp only[World.cell?,k2,aN];simpa using hj
    ·rw[s'.O];exact(g.outer b _ ⟨id,_,k1,rfl⟩).1
    ·intro r hr;exact(g.eL id _ ho).2 r (by simpa[D.refs,Obj.refs]using hr)
include K g in
theorem QsH(dP:cF<=lim.top){t:TypeId}{a d:D C}{va:Value}{lo hi mx:Option (D C)}{lB mu mJ:dX}(ha:RO T X nx lim a va)
 (fX:lC T X nx lim lo lB) (nO:lC T X nx lim hi mu) (nP:lC T X nx lim mx mJ) (hx:Ex e (PK T t a lo hi mx) h nx d h' cF tr):dc P T X nx lim h' cF d (Instr.sliceAt t va lB mu mJ):=by
 unfold PK at hx
 split at hx
 ·rename_i id n;cases kD:T.settle t with
  |false=>rw[kD]at hx;exact QAi K g dP ha fX nO nP hx
  |true=>
  rw[kD]at hx;simp only[ag]at hx;obtain⟨o,kG,ho,hy,_⟩:=Ex.rd hx;unfold Wc at hy
  split at hy
  ·obtain⟨d1,h1,n1,t1,t2,q1,q2,_⟩:=Ex.bind hy;obtain⟨X',w',g',s',r',hn,sn,fA⟩:=PF K g (ha.1.one rfl) q1;subst hn
   have st:∀{x:Option (D C)} {v:dX},lC T X n1 lim x v->lC T X' n1 lim x v:=by
    intro x v h;cases x with
    |none=>cases v with
     |none=>trivial
     |some v=>exact h.elim
    |some d=>cases v with
     |none=>exact h.elim
     |some v=>exact RO.step K.base s' h (aq _)
   obtain⟨v,X2,k1,k2,k3,k4⟩:=OB K g' (RO.mk (.inr ⟨fA,r'⟩) sn) (st fX) (st nO) (st nP) q2;exact⟨v,X2,by rw[<-w'];exact k1,k2,s'.trans k3 (aq _),k4⟩
  ·exact OB K g ha fX nO nP hy
 ·rename_i id p;cases ht:T.ty t with
  |arr m el ty=>simp only[ht]at hx;exact QAf K g ha fX nO nP (by simpa only[ht]using hx)
  |struct a fs=>
   cases a with
   |false=>simp only[ht]at hx;exact Ex.cB hx
   |true=>
    simp only[ht]at hx
    split at hx
    ·exact QAj K g ht ha fX nO nP hx
    ·exact Ex.cB hx
  |_=>simp only[ht]at hx;exact Ex.cB hx
 ·rename_i n cap ds;cases ht:T.ty t with
  |fO el=>
   simp only[ht]at hx
   split at hx
   ·rename_i k b;rcases Ex.br hx with⟨hc,hx⟩|⟨_,hx⟩
    ·obtain⟨rfl,rfl,rfl,rfl⟩:=Ex.ret hx;simp only[aa]at hc;cases lB with
     |some _=>exact fX.elim
     |none=>
     cases mu with
     |none=>exact nO.elim
     |some mu=>
     cases mJ with
     |some _=>exact nP.elim
     |none=>
     obtain⟨rfl,_⟩:=nO.1.int;obtain⟨hu,_,i,z,hi,fB,_⟩:=K.qP _ _ ht;have hR:=ha.1.one rfl;cases hR with
     | @fO _ b1 off cp _ _ cs iw hr hn ho qt=>
      have pt:(Instr.sliceBounds true n cp none (some (.int k b)) none).run P X.w=.ok (0,b.toNat,cp) X.w:=by
       simp[Instr.sliceBounds,QV k b cp _ hc.1 (by have:=qt.1;omega)]
      have yJ:(if cp=0 then(some ⟨b1,off,none⟩:dw)else(some ⟨b1,off,none⟩:dw).map (·.add (0*i.size)))=some ⟨b1,off,none⟩:=by
       split
       ·rfl
       ·simp[Addr.add_lit]
      have Dq:(sizeOf el).run P X.w=.ok i.size X.w:=by simp[sizeOf,typeInfo,hi]
      refine dc.same g (.slice (some ⟨b1,off,none⟩) b.toNat cp) ?_ ⟨.mk rfl (.fO iw hr (by omega) ho ⟨by have:=qt.1;omega,fun h=>by cases h⟩),by simpa[D.refs]using ha.2⟩;simp only[Instr.sliceAt,Instr.slice,aG,aB hu,aA,pt,Dq,aF,Nat.sub_zero,yJ]
    ·exact Ex.cB hx
   ·exact Ex.cB hx
  |_=>simp only[ht]at hx;exact Ex.cB hx
 ·exact OB K g ha fX nO nP hx
include K in
theorem Qm5{X:Cx}{h h':Heap C}{nx cF:Nat}{e:Pg.Lv}{lim:ek}{u:Unit}:∀(p:bU) {tr:Tr} (id:Nat),G T X h nx lim->Ex e (Fl T p id) h nx u h' cF tr->∃X',X'.w=X.w/\G T X' h' nx lim/\Step X nx lim X'/\cF=nx
 |[],tr,id,g,hx=>by
  simp only[Fl]at hx;obtain⟨o,kG,ho,hx,_⟩:=Ex.rd hx;cases o with
  |vec ty own l=>obtain⟨rfl,rfl,rfl,rfl⟩:=Ex.ret hx;exact⟨X,rfl,g,.refl _ _ _,rfl⟩
  |map _ _ _=>obtain⟨rfl,rfl,rfl,rfl⟩:=Ex.ret hx;exact⟨X,rfl,g,.refl _ _ _,rfl⟩
  |dG _=>obtain⟨rfl,rfl,rfl,rfl⟩:=Ex.ret hx;exact⟨X,rfl,g,.refl _ _ _,rfl⟩
  |var u d0=>
   simp only[Wf]at hx;cases hc:d0.ol with
   |false=>
    rw[hc]at hx;obtain⟨rfl,rfl,rfl,rfl⟩:=Ex.ret hx;exact⟨X,rfl,g,.refl _ _ _,rfl⟩
   |true=>
    rw[hc]at hx;simp only[ag]at hx;obtain⟨d1,h1,n1,t1,t2,q1,hx,_⟩:=Ex.bind hx;cases hf:fit T d1 (.inl u)with
    |false=>rw[hf]at hx;exact Ex.cB hx
    |true=>
     rw[hf]at hx;simp only[ag]at hx;obtain⟨o',t3,gz,hx,_⟩:=Ex.wr hx;obtain⟨rfl,rfl,rfl,rfl⟩:=Ex.ret hx;obtain⟨b,c,k1,k2,k3,k4⟩:=g.var id u d0 ho;obtain⟨X',w',g',s',r',hn,sn,fA⟩:=CG K d0 g k3 (g.eL id _ ho).2 q1;subst hn
     have hρ:∃d2,h1.get id=some (.var u d2)/\X'.ρ id=some (.var b u):=by
      have hold:=(g.eL id _ ho).1;have nM:=s'.ρ id hold;rw[k1]at nM;cases o' with
      |var u2 d2=>
       obtain⟨b',c',m1,_⟩:=g'.var id u2 d2 gz;rw[m1]at nM;simp only[Qp,Loc.var.injEq]at nM;obtain⟨rfl,rfl⟩:=nM;exact⟨d2,gz,m1⟩
      |vec ty own l=>
       obtain⟨v',b',lo,hi,m1,_⟩:=g'.vec id ty own l gz;rw[m1]at nM;simp[Qp]at nM
      |map ck cv l=>
       obtain⟨b',es,cl,m1,_⟩:=g'.map id ck cv l gz;rw[m1]at nM;simp[Qp]at nM
      |dG cc=>
       obtain⟨s0,m1,_⟩:=g'.dG id cc gz;rw[m1]at nM;simp[Qp]at nM
     obtain⟨d2,m1,m2⟩:=hρ;refine⟨X',w',?_,s',rfl⟩;refine g'.ud m1 (fun b1 c1 x1 x2=>?_) hf sn;rw[m2]at x1;cases x1;rw[w',k2]at x2;cases x2;exact r'
 |i::p,tr,id,g,hx=>by
  simp only[Fl]at hx;obtain⟨o,kG,ho,hx,_⟩:=Ex.rd hx;cases o with
  |vec ty own l=>exact Ex.cB hx
  |map _ _ _=>exact Ex.cB hx
  |dG _=>exact Ex.cB hx
  |var u d0=>
   simp only at hx
   split at hx
   ·exact Qm5 p _ g hx
   ·exact Ex.cB hx
include K in
theorem Ik{env:Env C}:∀(l:eI) {X:Cx} {h h':Heap C} {nx cF:Nat} {e:Pg.Lv} {lim:ek} {u:Unit} {tr:Tr},G T X h nx lim->Ex e (wV T env l) h nx u h' cF tr->∃X',X'.w=X.w/\G T X' h' nx lim/\Step X nx lim X'/\cF=nx
 |[],X,h,h',nx,cF,e,lim,u,tr,g,hx=>by
  obtain⟨rfl,rfl,rfl,rfl⟩:=Ex.ret hx;exact⟨X,rfl,g,.refl _ _ _,rfl⟩
 |(t,p)::r,X,h,h',nx,cF,e,lim,u,tr,g,hx=>by
  simp only[wV]at hx
  split at hx
  ·obtain⟨d1,h1,n1,t1,t2,q1,q2,_⟩:=Ex.bind hx;obtain⟨X1,w1,g1,s1,rfl⟩:=Qm5 K p _ g q1;obtain⟨X2,w2,g2,s2,rfl⟩:=Ik r g1 q2;exact⟨X2,by rw[w2,w1],g2,s1.trans s2 (aq _),rfl⟩
  ·exact Ex.cB hx
end
end
section
variable {C:gR}{P:Program}{T:fh C}(K:Zo P T)
open Pg (Ex)
variable {X:Cx}{h h':Heap C}{nx cF:Nat}{e:Pg.Lv}{lim:ek}{tr:Tr}(g:G T X h nx lim)
include K g in
theorem Qp4(dP:cF<=lim.top){t:TypeId}{d:D C}(hx:Ex e (NX T t) h nx d h' cF tr):dc P T X nx lim h' cF d (Instr.makeMap t none):=by
 unfold NX at hx
 split at hx
 ·obtain⟨t1,hx,_⟩:=Ex.nw hx;obtain⟨rfl,rfl,rfl,rfl⟩:=Ex.ret hx;obtain⟨X',hw,g',s',r'⟩:=G.zr K.base g (by omega) _ _;refine⟨_,X',by rw[hw];rfl,g',s',⟨.mk rfl r',?_⟩⟩;intro id dD;simp[D.refs]at dD;subst dD;exact g.new (by omega)
 ·exact Ex.cB hx
include K g in
theorem QAk(dP:cF<=lim.top){t:TypeId}{m d:D C}{vm:Value}(hm:RO T X nx lim m vm)(hx:Ex e (Pc T t m) h nx d h' cF tr):dc P T X nx lim h' cF d (Instr.range t vm):=by
 unfold Pc at hx
 split at hx
 ·rename_i kt vt ck cv ht;obtain⟨hu,_⟩:=K.uk _ _ _ _ _ ht
  split at hx
  ·rename_i id;obtain⟨o,kG,ho,hx,_⟩:=Ex.rd hx;cases o with
   |var u d0=>exact Ex.cB hx
   |vec ty own l=>exact Ex.cB hx
   |dG _=>exact Ex.cB hx
   |map lc ka l=>
    simp only[TQ]at hx;obtain⟨o',t2,_,hx,_⟩:=Ex.dl hx;obtain⟨t3,hx,_⟩:=Ex.nw hx;obtain⟨rfl,rfl,rfl,rfl⟩:=Ex.ret hx;obtain⟨b,es,clock,q1,q2,q3⟩:=g.map id _ _ _ ho;have hR:=hm.1.one rfl;cases hR with
    | @mp _ b0 hb=>
     have hb:=hb b q1;subst hb;obtain⟨X',hw,g',s',r'⟩:=G.GX K.base g (by omega) ho q1 q2 q3;refine⟨_,X',by rw[run_range_map X.w t kt vt b es clock hu q2,hw],g',s',⟨.mk rfl r',?_⟩⟩;intro i hi;simp[D.refs]at hi;subst hi;exact g.new (by omega)
  ·exact Ex.cB hx
 ·exact Ex.cB hx
include K g in
theorem QAl{t:TypeId}{x lo d:D C}{vx lB:Value}(kE:RO T X nx lim x vx)(fX:RO T X nx lim lo lB)(hx:Ex e (OX T t x lo) h nx d h' cF tr) :
 ∃v1 X',(Instr.sliceAt t vx (some lB) none none).run P X.w=.ok v1 X.w/\(∀ty0,(Builtin.clear_ #[t] ty0 #[v1]).run P X.w=.ok (.tuple #[]) X'.w)/\G T X' h' cF lim/\Step X nx lim X'/\cF=nx:=by
 unfold OX at hx
 split at hx
 ·rename_i id n k a;obtain⟨o,kG,ho,hx,_⟩:=Ex.rd hx;cases o with
  |var _ _=>exact Ex.cB hx
  |map _ _ _=>exact Ex.cB hx
  |dG _=>exact Ex.cB hx
  |vec ty own l=>
   cases own with
   |false=>exact Ex.cB hx
   |true=>
    simp only[TR]at hx;cases ht:T.ty t with
    |sl el ty0=>
     simp only[ht]at hx;cases hd:decide (ty=ty0)with
     |false=>rw[hd]at hx;exact Ex.cB hx
     |true=>
      rw[hd]at hx;simp only[ag]at hx;have hd:ty=ty0:=by simpa using hd
      subst hd;rcases Ex.br hx with⟨hc,hx⟩|⟨_,hx⟩;rotate_left
      ·exact Ex.cB hx
      obtain⟨o',t2,_,hx,_⟩:=Ex.wr hx;obtain⟨rfl,rfl,rfl,rfl⟩:=Ex.ret hx;simp only[ai,Nat.beq_eq,aa]at hc;obtain⟨hn,Da,Db⟩:=hc;obtain⟨ie,z,q1,q2,q3,qb,q4,q5,q6,q7⟩:=K.kP _ _ _ (.inr ht);have mR:=(K.base.mH _ _ _ ht).2.2;have hu:=K.oX _ _ _ ht;have hs:=Zy K (.inr ht) X.w;obtain⟨rfl,_⟩:=fX.1.int;obtain⟨v0,b,rZ,rP,h1,h2⟩:=g.vec id ty true l ho;have hlen:=h2.len;have hR:=kE.1.one rfl;cases hR with
      | @vs _ _ cp a0 hh=>
       have jc:=(hh _ _ _ _ _ h1).2 (by rw[hlen,hn])
       have pt:(Instr.sliceBounds true n cp (some (.int k a)) none none).run P X.w=.ok (a.toNat,n,cp) X.w:=by
        simp[Instr.sliceBounds,QV k a n _ Da (by omega)]
       have ze:(Instr.sliceAt t (.slice a0 n cp) (some (.int k a)) none none).run P X.w=.ok (.slice (if cp=a.toNat then a0 else a0.map (·.add (a.toNat*T.size (T.dp ty)))) (n-a.toNat) (cp-a.toNat)) X.w:=by
        simp only[Instr.sliceAt,Instr.slice,aG,aB hu,aA,pt,hs.1,aF,hs.2.1]
       by_cases hall:a.toNat=l.length
       ·refine⟨_,X,ze,fun ty0=>?_,g.congr (fun j=>?_),.refl _ _ _,rfl⟩
        ·have:n-a.toNat=0:=by omega
         rw[this];cases (if cp=a.toNat then a0 else a0.map (·.add (a.toNat*T.size (T.dp ty))))<;>simp[Builtin.clear_,aB hu]
        ·rw[Qv (g.jA id _ h1)]
         by_cases hj:j=id
         ·simp[hj,ho,hall]
         ·simp[hj]
       ·rcases h2 with⟨_,h4,_⟩|⟨off,lh,h3,h4,h5,h6⟩
        ·subst h4;simp at Db hall;omega
        rw[h3]at jc;simp only[Value.slice.injEq]at jc;obtain⟨rfl,_,rfl⟩:=jc;have cU:a.toNat<l.length:=Nat.lt_of_le_of_ne (Int.toNat_le.2 Db) hall;have fg:¬lh=a.toNat:=fun e=>Nat.lt_irrefl _ (e▸bj cU h4);rw[aw fg]at ze;simp only[bC,Addr.add_lit]at ze;rcases h6 with⟨_,Sm,h6|⟨c,ce,h6,h7,h8⟩⟩|⟨h6,_⟩
        ·exact absurd (h6▸bj cU h4) (Nat.not_lt_zero _)
        rotate_left
        ·cases h6
        obtain⟨l1,l2,Dj,Gs,y5,me⟩:=h8.iZ K.base a.toNat (by omega);have Sk:=(me.gj K.base).1;have pW:=R.Te (q7 X) (l.length-a.toNat);have tG:=(pW.gj K.base).1;have lm:=pW.gK K.base rfl (.inr ⟨_,_,_,rfl⟩);have hmul:l.length*T.size (T.dp ty)<=lh*T.size (T.dp ty):=Nat.mul_le_mul_right _ h4;have zg:a.toNat*T.size (T.dp ty)+(l.length-a.toNat)*T.size (T.dp ty)=l.length*T.size (T.dp ty):=by rw[<-Nat.add_mul];congr 1;omega
        have R1:c.toList.length=c.size:=by simp
        have SY:(Builtin.zeroCells z.cells (n-a.toNat)).toList=(List.replicate (l.length-a.toNat) z.cells.toList).flatten:=by
         have:=HE z.cells (by omega) (n-a.toNat);rw[hn]at this ⊢;rw[<-this];rfl
        have dV:=run_storeCells_at P b (off+a.toNat*T.size (T.dp ty)) ce (List.replicate (l.length-a.toNat) z.cells.toList).flatten 0 c X.w h6 (by omega) lm;have nh:=Nt c.toList off (l.length*T.size (T.dp ty)) l1 l2 [] (List.replicate (l.length-a.toNat) z.cells.toList).flatten (by simpa using Dj) (by omega) (by omega);rw[Gs]at nh;have sk:=HC c.toList (off+a.toNat*T.size (T.dp ty)) (List.replicate (l.length-a.toNat) z.cells.toList).flatten (by omega);have nV:=HB c.toList (off+a.toNat*T.size (T.dp ty)) (List.replicate (l.length-a.toNat) z.cells.toList).flatten (by omega);simp only[Nat.add_zero]at dV;generalize LS:(List.replicate (l.length-a.toNat) z.cells.toList).flatten=zz at dV nh sk nV pW tG SY lm;generalize sg:c.toList.take (off+a.toNat*T.size (T.dp ty))++zz++c.toList.drop (off+a.toNat*T.size (T.dp ty)+zz.length)=kk at dV nh sk nV
        have rV:R T X false (.arr ty l.length (l.take a.toNat++List.replicate (l.length-a.toNat) (T.eU ty))) (l1++zz):=by
         have:=y5.iU pW;rw[show a.toNat+(l.length-a.toNat)=l.length by omega]at this;exact this
        have jm:(l.take a.toNat++List.replicate (l.length-a.toNat) (T.eU ty)).length=l.length:=by simp;omega
        obtain⟨X',pr,_,hg,kJ⟩:=G.oU K.base g ho h1 h6 (c':=kk.toArray) (l':=l.take a.toNat++List.replicate (l.length-a.toNat) (T.eU ty)) (v':=v0) (iP:=rZ) (by simp[nV]) (by
         intro o gz;have:=sk o (by omega)
         simpa using this) (aq _) (.inr rfl) ⟨aq _,fun _=>rfl⟩ (by
         intro X' hw hO hm _ so;refine .inr ⟨off,lh,by rw[h3,jm],by rw[jm];exact h4,h5,.inl ⟨rfl,Sm,.inr ⟨_,ce,by rw[hw];exact setRow_heap _ _ _ _ _ _ h6,by simpa[nV]using h7,?_⟩⟩⟩;have fK:=rV.step K.base so (by simp[D.refs]);rw[jm]
         simpa[nh]using fK)
        refine⟨_,X',ze,fun ty0=>?_,hg,kJ,rfl⟩;have mA:0<n-a.toNat:=by omega
        have Dw:(zeroValue el).run P X.w=.ok z X.w:=by simp[zeroValue,typeInfo,q1,q5]
        obtain⟨m,hm⟩:∃m,n-a.toNat=m+1:=⟨n-a.toNat-1,by omega⟩;rw[hm]at SY ⊢;simp only[Builtin.clear_,List.getElem?_toArray,List.getElem?_cons_zero,aG,aB hu,aA,Dw,SY,dV,pr,aF]
    |_=>rw[ht]at hx;exact Ex.cB hx
 ·exact Ex.cB hx
def uM(T:fh C)(kt:TypeId):Prop:=(∃ik,T.ty kt=.int ik)\/T.ty kt=.str\/T.ty kt=.bool
include K in
theorem NZ{kt:TypeId}(hk:uM T kt):∃desc,P.underlying kt=some desc/\∀(d:D C) (v:Value),fit T d (.inl kt)=true->R T X false d [v]->MapKept.IsKey desc v:=by
 rcases hk with⟨ik,hk⟩|hk|hk
 ·refine⟨_,K.nD _ _ hk,fun d v hf hr=>?_⟩;cases d<;>simp[fit,hk]at hf
  cases hr;exact hf
 ·refine⟨_,K.k9 _ hk,fun d v hf hr=>?_⟩;cases d<;>simp[fit,hk]at hf
  cases hr;trivial
 ·refine⟨_,K.ov _ hk,fun d v hf hr=>?_⟩;cases d<;>simp[fit,hk]at hf
  cases hr;trivial
include K in
theorem QAm{kt:TypeId}(hk:uM T kt){desc:TypeDesc}(hd:P.underlying kt=some desc){d1 d2:D C}{v1 v2:Value}(f1:fit T d1 (.inl kt)=true)(f2:fit T d2 (.inl kt)=true)(r1:R T X false d1 [v1])(r2:R T X false d2 [v2]) :
 ∃r,Instr.sameNow desc v1 v2=some r/\o5 d1 d2=some r/\(r=true->v1=v2):=by
 rcases hk with⟨ik,hk⟩|hk|hk
 ·rw[K.nD _ _ hk]at hd;cases hd;cases d1<;>simp[fit,hk]at f1
  cases d2<;>simp[fit,hk]at f2
  subst f1;subst f2;cases r1;cases r2;rename_i a _ b _ _;exact⟨a==b,by simp[Instr.sameNow],by simp[o5],fun q=>by simp at q;rw[q]⟩
 ·rw[K.k9 _ hk]at hd;cases hd;cases d1<;>simp[fit,hk]at f1
  cases d2<;>simp[fit,hk]at f2
  cases r1;cases r2;rename_i a b
  have e:((⟨⟨a⟩⟩:ByteArray)==⟨⟨b⟩⟩)=(a==b):=by
   rw[Bool.eq_iff_iff,MapKept.bytes_beq,bi];constructor
   ·intro q;simpa using q
   ·intro q;rw[q]
  exact⟨a==b,by simp only[Instr.sameNow,e],by simp only[o5],fun q=>by simp at q;rw[q]⟩
 ·rw[K.ov _ hk]at hd;cases hd;cases d1<;>simp[fit,hk]at f1
  cases d2<;>simp[fit,hk]at f2
  cases r1;cases r2;rename_i a b;exact⟨a==b,by simp[Instr.sameNow],by simp[o5],fun q=>by simp at q;rw[q]⟩
theorem WS{desc:TypeDesc}{v:Value}(h:MapKept.IsKey desc v):Instr.sameBits 10000 v v=true:=by
 cases desc<;>cases v<;>simp_all[MapKept.IsKey,Instr.sameBits]
 exact(MapKept.bytes_beq _ _).2 rfl
include K in
theorem oD{kt:TypeId}{ck cv:C.Ty}(hk:uM T kt)(vR:T.ty kt=T.ty (T.dp ck)){desc:TypeDesc}(hd:P.underlying kt=some desc){a:C.A ck}{vk:Value}(hr:R T X false (T.enc ck a) [vk]) :
 ∀{l:List (C.A ck×C.A cv)} {es:dF} (hE:YF T X ck cv l es) (i:Nat),
 (Instr.findNow desc vk es i=some none/\oP (VI T ck) a l=none/\∀v e',R T X false (T.enc ck a) [e'.key]->RV T X (T.enc cv v) e'.val->YF T X ck cv (g8 (VI T ck) a v l) (es++[e'])) \/
 ∃j e y,Instr.findNow desc vk es i=some (some (i+j,e.val))/\es[j]? = some e/\oP (VI T ck) a l=some y/\RV T X (T.enc cv y) e.val/\e.key=vk /\
  ∀v e',R T X false (T.enc ck a) [e'.key]->RV T X (T.enc cv v) e'.val->YF T X ck cv (g8 (VI T ck) a v l) (es.set j e'):=by
 intro l es hE;have ff:∀x:C.A ck,fit T (T.enc ck x) (.inl kt)=true:=fun x=>by rw[YL vR];exact K.base.fS _ _
 induction hE with
 |nil=>intro i;exact .inl ⟨rfl,rfl,fun v e' h1 h2=>.cons h1 h2 .nil⟩
 | @cons x l e es Sh GL hE ih=>
  intro i;obtain⟨r,q1,q2,q3⟩:=QAm K hk hd (ff a) (ff x.1) hr Sh;obtain⟨x1,x2⟩:=x;have rQ:VI T ck a x1=r:=by unfold VI;rw[q2];rfl
  cases r with
  |true=>
   refine .inr ⟨0,e,x2,by simp[Instr.findNow,q1],rfl,by simp only[oP,rQ,ag],GL,(q3 rfl).symm,fun v e' h1 h2=>?_⟩;simp only[g8,rQ,ag,List.set_cons_zero];exact .cons h1 h2 hE
  |false=>
   rcases ih (i+1)with⟨p1,p2,p3⟩|⟨j,e1,y,p1,p2,p3,p4,p5,p6⟩
   ·refine .inl ⟨by simp[Instr.findNow,q1,p1],by simp only[oP,rQ,ah,p2],fun v e' h1 h2=>?_⟩;simp only[g8,rQ,ah,aP];exact .cons Sh GL (p3 v e' h1 h2)
   ·refine .inr ⟨j+1,e1,y,by simp[Instr.findNow,q1,p1];omega,by simpa using p2,by simp only[oP,rQ,ah,p3],p4,p5,fun v e' h1 h2=>?_⟩;simp only[g8,rQ,ah,List.set_cons_succ];exact .cons Sh GL (p6 v e' h1 h2)
include K in
theorem T0{kt:TypeId}{ck:C.Ty}(vR:T.ty kt=T.ty (T.dp ck)){d:D C}{v:Value}{a:C.A ck}(hd:T.dec ck d=some a)(hf:fit T d (.inl kt)=true)(h:RV T X d v):RV T X (T.enc ck a) v:=by
 have Gj:fit T (T.enc ck a) (.inl kt)=true:=by rw[YL vR];exact K.base.fS _ _
 have fA:(T.enc ck a).de=true↔d.de=true:=by rw[Kd hf,Kd Gj]
 rcases h with⟨h1,cs,h2,rfl⟩|⟨h1,h2⟩
 ·exact .inl ⟨fA.2 h1,cs,K.base.mw _ _ _ _ _ hd h2,rfl⟩
 ·refine .inr ⟨?_,K.base.mw _ _ _ _ _ hd h2⟩;cases hq:(T.enc ck a).de with
  |false=>rfl
  |true=>rw[fA.1 hq]at h1;cases h1
theorem OY{kt:TypeId}(hk:uM T kt){d:D C}(hf:fit T d (.inl kt)=true):d.de=false:=by
 rcases hk with⟨ik,hk⟩|hk|hk<;>cases d<;>simp_all[fit,D.de]
include K g in
theorem QsI{t:TypeId}{m k d:D C}{vm vk:Value}{ok:Bool}(hm:RO T X nx lim m vm)(hk:RO T X nx lim k vk)(hx:Ex e (OA T t m k ok) h nx d h' cF tr):dc P T X nx lim h' cF d (Instr.lookup t vm vk ok):=by
 unfold OA at hx
 split at hx
 ·rename_i kt vt ck cv ht;obtain⟨hu,vR,LP,hK,iz,z,hi,hz,pW⟩:=K.uk _ _ _ _ _ ht
  split at hx
  ·rename_i id;obtain⟨o,kG,ho,hx,_⟩:=Ex.rd hx;cases o with
   |var u d0=>exact Ex.cB hx
   |vec ty own l=>exact Ex.cB hx
   |dG _=>exact Ex.cB hx
   |map lc ka l=>
    simp only[Qsn]at hx
    by_cases h1:lc=ck
    rotate_left
    ·simp only[h1,dite_false]at hx;exact Ex.cB hx
    subst h1
    by_cases h2:ka=cv
    rotate_left
    ·simp only[h2,dite_true,dite_false]at hx;exact Ex.cB hx
    subst h2;simp only[dite_true]at hx;cases hd:T.dec lc k with
    |none=>rw[hd]at hx;exact Ex.cB hx
    |some a=>
     simp only[hd]at hx;cases hf:fit T k (.inl kt)with
     |false=>rw[hf]at hx;exact Ex.cB hx
     |true=>
      simp only[hf,ag]at hx;obtain⟨b,es,clock,q1,q2,q3⟩:=g.map id _ _ _ ho;have hR:=hm.1.one rfl;cases hR with
      | @mp _ b0 hb=>
       have hb:=hb b q1;subst hb;have xn:=hk.1.one (OY hK hf);have uI:=K.base.mw _ _ _ _ _ hd xn;obtain⟨desc,jj,ju⟩:=NZ (X:=X) K hK;have yY:=ju k vk hf xn;have nL:(Instr.checkKey es.isEmpty 10000 kt vk).run P X.w=.ok () X.w:=MapKept.run_checkKey jj yY _ _
       have nX:∀(v:Value) (y:C.A ka) (bb:Bool),RV T X (T.enc ka y) v->RO T X nx lim (match ok with|true=>D.cG (.bI (T.enc ka y) (.bI (.bool bb) .bN))|false=>T.enc ka y) (if ok then .tuple #[v,.bool bb]else v):=by
        intro v y bb hv;cases ok with
        |false=>exact⟨hv,by simp[K.base.fv]⟩
        |true=>
         refine⟨.mk rfl (.cG ?_),by simp[D.refs,K.base.fv]⟩;rcases hv with⟨e1,cs,e2,rfl⟩|⟨e1,e2⟩
         ·exact .jh e2 e1 (.iQ (.bool bb) rfl .iu)
         ·exact .iQ e2 e1 (.iQ (.bool bb) rfl .iu)
       rcases oD K hK vR jj uI q3.rJ 0 with⟨p1,p2,_⟩|⟨j,e1,y,p1,p2,p3,p4,_⟩
       ·have eB:(Instr.lookup t (.map (some b)) vk ok).run P X.w=.ok (if ok then .tuple #[z,.bool false]else z) X.w:=by
         simp[Instr.lookup,aB hu,MapKept.run_getObj_map q2,nL,MapKept.run_findKey jj p1,Result.andThen,zeroValue,typeInfo,hi,hz]
        simp only[p2,Option.getD_none,Option.isSome_none]at hx;have:=nX z (T.eU ka) false (pW X);cases ok<;>obtain⟨rfl,rfl,rfl,rfl⟩:=Ex.ret hx<;>exact dc.same g _ eB this
       ·have eB:(Instr.lookup t (.map (some b)) vk ok).run P X.w=.ok (if ok then .tuple #[e1.val,.bool true]else e1.val) X.w:=by
         simp[Instr.lookup,aB hu,MapKept.run_getObj_map q2,nL,MapKept.run_findKey jj p1,Result.andThen]
        simp only[p3,ba,Option.isSome_some]at hx;have:=nX e1.val y true p4;cases ok<;>obtain⟨rfl,rfl,rfl,rfl⟩:=Ex.ret hx<;>exact dc.same g _ eB this
  ·exact Ex.cB hx
 ·exact Ex.cB hx
theorem Y1{es:dR}{j:Nat}{e1:MapEntry}(h:es.toList[j]? = some e1)(f:MapEntry->MapEntry):(es.modify j f).toList=es.toList.set j (f e1):=by
 apply List.ext_getElem?;intro i;rw[Array.getElem?_toList,Array.getElem?_modify,List.getElem?_set]
 by_cases lf:j=i
 ·subst lf;have cU:=(av.1 h).1;rw[Array.getElem?_toList]at h;simp only[Array.length_toList]at cU;simp only[h,bC];simp[cU]
 ·simp[lf]
theorem Kc.push{X:Cx}{ck cv:C.Ty}{l l':List (C.A ck×C.A cv)}{es:dR}{clock:Nat}(q:Kc T X ck cv l es clock){e:MapEntry}(hE:YF T X ck cv l' (es.push e).toList)(hb:e.born=clock):Kc T X ck cv l' (es.push e) (clock+1):=by
 refine⟨hE,fun x hx=>?_,?_⟩
 ·rw[Array.toList_push,aT,bE]at hx;rcases hx with hx|rfl
  ·have:=q.born x hx;omega
  ·omega
 ·rw[Array.toList_push,List.map_append,List.nodup_append];refine⟨q.nodup,by simp,fun a ha c hc e1=>?_⟩;simp only[List.map_cons,List.map_nil,bE]at hc;obtain⟨x,hx,rfl⟩:=List.mem_map.1 ha;have:=q.born x hx;omega
theorem Kc.pN{X:Cx}{ck cv:C.Ty}{l l':List (C.A ck×C.A cv)}{es:dR}{clock:Nat}(q:Kc T X ck cv l es clock){j:Nat}{e1:MapEntry}(h:es.toList[j]? = some e1)(f:MapEntry->MapEntry)(hf:(f e1).born=e1.born)
 (hE:YF T X ck cv l' (es.modify j f).toList):Kc T X ck cv l' (es.modify j f) clock:=by
 have hm:(es.modify j f).toList.map (·.born)=es.toList.map (·.born):=by
  rw[Y1 h f,List.map_set,hf];apply List.ext_getElem?;intro i
  by_cases lf:j=i
  ·subst lf;have cU:=(av.1 h).1;rw[List.getElem?_set_self (by simpa using cU),bB,h];rfl
  ·rw[List.getElem?_set_ne lf]
 refine⟨hE,fun x hx=>?_,by rw[hm];exact q.nodup⟩;have Dt:x.born∈(es.modify j f).toList.map (·.born):=List.mem_map.2 ⟨x,hx,rfl⟩;rw[hm]at Dt;obtain⟨y,hy,e⟩:=List.mem_map.1 Dt;rw[<-e];exact q.born y hy
theorem Qi3{l:dF}(hn:(l.map (·.born)).Nodup):∀{j:Nat} {e0:MapEntry},l[j]? = some e0->l.findIdx? (fun e=>((e.born:Nat):Int)==((e0.born:Nat):Int))=some j:=by
 induction l with
 |nil=>intro j e0 h;simp at h
 |cons a r ih=>
  intro j e0 h;rw[List.map_cons,List.nodup_cons]at hn;cases j with
  |zero=>simp at h;subst h;simp[List.findIdx?_cons]
  |succ j=>
   have h':r[j]? = some e0:=by simpa using h
   have fg:a.born≠e0.born:=fun e=>hn.1 (List.mem_map.2 ⟨e0,List.mem_of_getElem? h',e.symm⟩)
   have hb:(((a.born:Nat):Int)==((e0.born:Nat):Int))=false:=by
    rw[beq_eq_false_iff_ne];omega
   rw[List.findIdx?_cons,hb,ih hn.2 h'];rfl
include K g in
theorem QAn{t t':TypeId}{m k x d:D C}{vm vk vx:Value}(hm:RO T X nx lim m vm)(hk:RO T X nx lim k vk)(jB:RO T X nx lim x vx)(hx:Ex e (Yy T t m k x) h nx d h' cF tr) :
 ∃v0 st W1 X',(Instr.mapEntry t vm vk).run P X.w=.ok (.tuple #[v0,goInt st]) W1/\(Instr.entryStore t' vm (goInt st) vx).run P W1=.ok () X'.w/\G T X' h' cF lim/\Step X nx lim X'/\cF=nx:=by
 unfold Yy at hx
 split at hx
 ·rename_i kt vt ck cv ht;obtain⟨hu,vR,LP,hK,iz,z,hi,hz,pW⟩:=K.uk _ _ _ _ _ ht
  split at hx
  ·rename_i id;have tE:=Yw (t:=vt) jB;generalize YK T vt x=x' at hx tE;obtain⟨o,kG,ho,hx,_⟩:=Ex.rd hx;cases o with
   |var u d0=>exact Ex.cB hx
   |vec ty own l=>exact Ex.cB hx
   |dG _=>exact Ex.cB hx
   |map lc ka l=>
    simp only[Mt]at hx
    by_cases h1:lc=ck
    rotate_left
    ·simp only[h1,dite_false]at hx;exact Ex.cB hx
    subst h1
    by_cases h2:ka=cv
    rotate_left
    ·simp only[h2,dite_true,dite_false]at hx;exact Ex.cB hx
    subst h2;simp only[dite_true]at hx;cases hd:T.dec lc k with
    |none=>simp only[hd]at hx;exact Ex.cB hx
    |some a=>
     cases oG:T.dec ka x' with
     |none=>simp only[hd,oG]at hx;exact Ex.cB hx
     |some y=>
     simp only[hd,oG]at hx;cases hf:(fit T k (.inl kt)&&fit T x' (.inl vt))with
     |false=>rw[hf]at hx;exact Ex.cB hx
     |true=>
      simp only[hf,ag]at hx;obtain⟨o',t2,_,hx,_⟩:=Ex.wr hx;obtain⟨rfl,rfl,rfl,rfl⟩:=Ex.ret hx;simp only[ai]at hf;obtain⟨b,es,clock,q1,q2,q3⟩:=g.map id _ _ _ ho;have hR:=hm.1.one rfl;cases hR with
      | @mp _ b0 hb=>
       have hb:=hb b q1;subst hb;have xn:=hk.1.one (OY hK hf.1);have uI:=K.base.mw _ _ _ _ _ hd xn;have GO:=T0 K LP oG hf.2 tE.1;obtain⟨desc,jj,ju⟩:=NZ (X:=X) K hK;have yY:=ju k vk hf.1 xn;have nL:(Instr.checkKey false 10000 kt vk).run P X.w=.ok () X.w:=MapKept.run_checkKey jj yY _ _;have RW:b<X.w.heap.size:=(aI.1 q2).1
       have iw:∀(ob:Go.Obj),({ X.w with heap:=X.w.heap.setIfInBounds b ob }:World).heap[b]? = some ob:=fun ob=>by
        show(X.w.heap.setIfInBounds b ob)[b]? = some ob;simp[RW]
       rcases oD K hK vR jj uI q3.rJ 0 with⟨p1,p2,p3⟩|⟨j,e1,y1,p1,p2,p3,p4,p5,p6⟩
       ·have hE:=p3 y { key:=vk,val:=vx,born:=clock } uI GO;rw[<-Array.toList_push]at hE;have hM:=q3.push hE rfl;obtain⟨X',hw,g',s'⟩:=G.oT K.base g (k':=clock+1) ho q1 q2 hM
        have hN:Kc T X lc ka (g8 (VI T lc) a (T.eU ka) l) (es.push { key:=vk,val:=z,born:=clock }) (clock+1):=q3.push (by
         have:=p3 (T.eU ka) { key:=vk,val:=z,born:=clock } uI (pW X);rw[<-Array.toList_push]at this;exact this) rfl
        have Sg:(es.push { key:=vk,val:=z,born:=clock }).findIdx? (fun e=>((e.born:Nat):Int)==((clock:Nat):Int))=some es.size:=by
         have:=Qi3 hN.nodup (j:=es.size) (e0:={ key:=vk,val:=z,born:=clock }) (by simp);rw[<-this];generalize (es.push { key:=vk,val:=z,born:=clock })=zs;cases zs;simp
        have y7:(es.push { key:=vk,val:=z,born:=clock }).modify es.size (fun e=>{ e with val:=vx })=es.push { key:=vk,val:=vx,born:=clock }:=by
         apply Array.ext';rw[Y1 (e1:={ key:=vk,val:=z,born:=clock }) (by simp)];simp
        refine⟨z,clock,{ X.w with heap:=X.w.heap.setIfInBounds b (.map (es.push { key:=vk,val:=z,born:=clock }) (clock+1)) },X',?_,?_,g',s',rfl⟩
        ·simp[Instr.mapEntry,aB hu,MapKept.run_getObj_map q2,nL,MapKept.run_findKey jj p1,Result.andThen,zeroValue,typeInfo,hi,hz,MapKept.run_setObj_map _ q2]
        ·rw[hw];simp[Instr.entryStore,MapKept.run_getObj_map (iw _),asInt,asIntOf,goInt,Sg,y7,MapKept.run_setObj_map _ (iw _),Result.andThen]
       ·have hE:=p6 y { e1 with key:=vk,val:=vx } uI GO;have Sq:=Y1 p2 (fun e=>{ e with key:=vk,val:=vx });rw[<-Sq]at hE;obtain⟨X',hw,g',s'⟩:=G.oT K.base g (k':=clock) ho q1 q2 (q3.pN p2 (fun e=>{ e with key:=vk,val:=vx }) rfl hE);have uH:es[j]? = some e1:=by rw[<-Array.getElem?_toList];exact p2
        have vQ:(Instr.keyThatStays e1.key vk).run P X.w=.ok vk X.w:=by
         simp only[p5,Instr.keyThatStays,WS yY,aU,aF]
        simp only[aN]at p1
        have GH:es.modify j (fun e=>{ e with key:=vk })=es:=by
         apply Array.ext';rw[Y1 p2];have:({ e1 with key:=vk }:MapEntry)=e1:=by rw[<-p5]
         rw[this];apply List.ext_getElem?;intro i
         by_cases lf:j=i
         ·subst lf;rw[List.getElem?_set_self (av.1 p2).1,p2]
         ·rw[List.getElem?_set_ne lf]
        have Sg:es.findIdx? (fun e=>((e.born:Nat):Int)==((e1.born:Nat):Int))=some j:=by
         have:=Qi3 q3.nodup p2;rw[<-this];cases es;simp
        have y7:es.modify j (fun e=>{ e with val:=vx })=es.modify j (fun e=>{ e with key:=vk,val:=vx }):=by
         apply Array.ext';rw[Y1 p2,Y1 p2];have:({ e1 with val:=vx }:MapEntry)={ e1 with key:=vk,val:=vx }:=by rw[<-p5]
         rw[this]
        refine⟨e1.val,e1.born,{ X.w with heap:=X.w.heap.setIfInBounds b (.map es clock) },X',?_,?_,g',s',rfl⟩
        ·simp[Instr.mapEntry,aB hu,MapKept.run_getObj_map q2,nL,MapKept.run_findKey jj p1,Result.andThen,MapKept.run_setObj_map _ q2,vQ,GH,uH]
        ·rw[hw];simp[Instr.entryStore,MapKept.run_getObj_map (iw _),asInt,asIntOf,goInt,Sg,y7,MapKept.run_setObj_map _ (iw _),Result.andThen]
  ·exact Ex.cB hx
 ·exact Ex.cB hx
include K g in
theorem WT{t:TypeId}{m k x d:D C}{vm vk vx:Value}(hm:RO T X nx lim m vm)(hk:RO T X nx lim k vk)(jB:RO T X nx lim x vx)(hx:Ex e (Yy T t m k x) h nx d h' cF tr) :
 ∃X',(Instr.mapUpdate t vm vk vx).run P X.w=.ok () X'.w/\G T X' h' cF lim/\Step X nx lim X'/\d=.cG .bN/\cF=nx:=by
 unfold Yy at hx
 split at hx
 ·rename_i kt vt ck cv ht;obtain⟨hu,vR,LP,hK,iz,z,hi,hz,pW⟩:=K.uk _ _ _ _ _ ht
  split at hx
  ·rename_i id;have tE:=Yw (t:=vt) jB;generalize YK T vt x=x' at hx tE;obtain⟨o,kG,ho,hx,_⟩:=Ex.rd hx;cases o with
   |var u d0=>exact Ex.cB hx
   |vec ty own l=>exact Ex.cB hx
   |dG _=>exact Ex.cB hx
   |map lc ka l=>
    simp only[Mt]at hx
    by_cases h1:lc=ck
    rotate_left
    ·simp only[h1,dite_false]at hx;exact Ex.cB hx
    subst h1
    by_cases h2:ka=cv
    rotate_left
    ·simp only[h2,dite_true,dite_false]at hx;exact Ex.cB hx
    subst h2;simp only[dite_true]at hx;cases hd:T.dec lc k with
    |none=>simp only[hd]at hx;exact Ex.cB hx
    |some a=>
     cases oG:T.dec ka x' with
     |none=>simp only[hd,oG]at hx;exact Ex.cB hx
     |some y=>
     simp only[hd,oG]at hx;cases hf:(fit T k (.inl kt)&&fit T x' (.inl vt))with
     |false=>rw[hf]at hx;exact Ex.cB hx
     |true=>
      simp only[hf,ag]at hx;obtain⟨o',t2,_,hx,_⟩:=Ex.wr hx;obtain⟨rfl,rfl,rfl,rfl⟩:=Ex.ret hx;simp only[ai]at hf;obtain⟨b,es,clock,q1,q2,q3⟩:=g.map id _ _ _ ho;have hR:=hm.1.one rfl;cases hR with
      | @mp _ b0 hb=>
       have hb:=hb b q1;subst hb;have xn:=hk.1.one (OY hK hf.1);have uI:=K.base.mw _ _ _ _ _ hd xn;have GO:=T0 K LP oG hf.2 tE.1;obtain⟨desc,jj,ju⟩:=NZ (X:=X) K hK;have yY:=ju k vk hf.1 xn;have nL:(Instr.checkKey false 10000 kt vk).run P X.w=.ok () X.w:=MapKept.run_checkKey jj yY _ _;rcases oD K hK vR jj uI q3.rJ 0 with⟨p1,p2,p3⟩|⟨j,e1,y1,p1,p2,p3,p4,p5,p6⟩
       ·have hE:=p3 y { key:=vk,val:=vx,born:=clock } uI GO;rw[<-Array.toList_push]at hE;obtain⟨X',hw,g',s'⟩:=G.oT K.base g (k':=clock+1) ho q1 q2 (q3.push hE rfl);refine⟨X',?_,g',s',rfl,rfl⟩;rw[hw];simp[Instr.mapUpdate,aB hu,MapKept.run_getObj_map q2,nL,MapKept.run_findKey jj p1,Result.andThen,MapKept.run_setObj_map _ q2]
       ·have hE:=p6 y { e1 with key:=vk,val:=vx } uI GO;have Sq:=Y1 p2 (fun e=>{ e with key:=vk,val:=vx });rw[<-Sq]at hE;obtain⟨X',hw,g',s'⟩:=G.oT K.base g (k':=clock) ho q1 q2 (q3.pN p2 (fun e=>{ e with key:=vk,val:=vx }) rfl hE);refine⟨X',?_,g',s',rfl,rfl⟩;rw[hw]
        have vQ:(Instr.keyThatStays (((es[j]?).map (·.key)).getD vk) vk).run P X.w=.ok vk X.w:=by
         have:es[j]? = some e1:=by rw[<-Array.getElem?_toList];exact p2
         rw[this];simp only[bC,ba,p5,Instr.keyThatStays,WS yY,aU,aF]
        simp only[aN]at p1;simp[Instr.mapUpdate,aB hu,MapKept.run_getObj_map q2,nL,MapKept.run_findKey jj p1,Result.andThen,MapKept.run_setObj_map _ q2,vQ]
  ·exact Ex.cB hx
 ·exact Ex.cB hx
end
section
variable {C:gR}{P:Program}{T:fh C}(K:Zo P T)
open Pg (Ex)
def ZU(T:fh C)(X:Cx)(nx:Nat)(lim:ek)(h':Heap C)(cF:Nat)(d:D C)(en:Ending)(w':World):Prop :=
 ∃v X',en=.returned v/\X'.w=w'/\G T X' h' cF lim/\Step X nx lim X'/\RO T X' cF lim d v
def ou:dg->Fence
 |none=>Fence.wide
 |some l=>Fence.wide.inRound l
theorem oR(ro:dg)(f:FuncId):(ou ro).fn f:=by cases ro<;>trivial
theorem QsJ(ro:dg):(ou ro).depth=none:=by cases ro<;>rfl
theorem QsK(ro:dg):(ou ro).round=ro:=by cases ro<;>rfl
theorem I2{ro:dg}{m:Nat}:(ou ro).depth.isSome=true->1<=m:=by rw[QsJ];intro h;cases h
theorem Qm7{ro:dg}{m:Nat}{f:FuncId}{args:bY}{w:World}{R:Ending->World->Prop}(h:Calls P f args w R):CallsIn (ou ro) m P f args w R:=by
 have h:=callsIn_wide (n:=m).2 h;cases ro with
 |none=>exact h
 |some l=>exact h
theorem QEw{ro:dg}{m:Nat}{row:String}{args:bY}{w:World}{R:Value->World->Prop}(h:Rows P row args w R):RowsIn (ou ro) m P row args w R:=by
 have h:RowsIn Fence.wide m P row args w R:=fun c cs _=>let ⟨v,w',r,s⟩:=h c cs;⟨v,w',r,stepsIn_wide.2 s⟩
 cases ro with
 |none=>exact h
 |some l=>exact h
theorem QAo{ro:dg}{m l:Nat}{f:FuncId}{tmps:bY}{iV body:Code}{w:World}{R:Ending->World->Prop}(h:RoundIn Fence.wide m P l f tmps iV body w R):RoundIn (ou ro) m P l f tmps iV body w R:=by
 cases ro with
 |none=>exact h
 |some l=>exact h
theorem ZD{ro:dg}{m:Nat}{o:Oper}{a:Act}{w:World}{k:Act->World->Prop}{Q:Exit->Act->World->Prop}(ll:∀c,o.op ≠ .defer c)(h:o.wp P a w k Q):o.wpIn (ou ro) m P a w k Q:=by
 refine⟨fun f _=>oR ro f,?_⟩;rw[Oper.semAt_eq _ _ _ ll];unfold Oper.wp at h;generalize (execOp a.eval o).run P w=r at h;cases r with
 |ok x w'=>
  cases x<;>simp only[Oper.upon]at h<;>simp only[Oper.uponIn]<;>
   first
    |exact h
    |exact⟨I2,Qm7 h⟩
    |exact⟨I2,QEw h⟩
    |exact h.elim
 |halt x w'=>cases x<;>simp only[Oper.upon]at h<;>simp only[Oper.uponIn]<;>first|exact h|exact h.elim
def QsL(P:Program)(T:fh C)(call:FuncId->List (D C)->Pg C (D C)):Prop :=
 ∀nt dE ps iV body fj ow xs l vs X h nx lim e d h' cF tr,G T X h nx lim->R T X false (.yl nt dE ps iV body fj ow) [.func (.yield l) #[] #[]]->(∀id∈D.refs (.yl nt dE ps iV body fj ow:D C),ft nx lim id)->gV T X xs vs->(∀a∈xs,∀id∈D.refs a,ft nx lim id)->cF<=lim.top ->
  Ex e (call Vr (.yl nt dE ps iV body fj ow::xs)) h nx d h' cF tr ->
  ∃fn tmps yv iK,(Instr.yield l ⟨vs⟩).run P X.w=.ok (.round l fn tmps yv iK) X.w/\∀m,RoundIn Fence.wide m P l fn tmps yv iK X.w (ZU T X nx lim h' cF d)
def uO(P:Program)(T:fh C)(call:FuncId->List (D C)->Pg C (D C)):Prop :=
 QsL P T call/\∀f,f≠Vr->∀args vs X h nx lim e d h' cF tr,G T X h nx lim->gV T X args vs->(∀a∈args,∀id∈D.refs a,ft nx lim id)->cF<=lim.top->Ex e (call f args) h nx d h' cF tr ->
  (callFunc f ⟨vs⟩).run P X.w=.ok (.enter f ⟨vs⟩) X.w/\Calls P f ⟨vs⟩ X.w (ZU T X nx lim h' cF d)
variable {X:Cx}{h h':Heap C}{nx cF:Nat}{e:Pg.Lv}{lim:ek}{tr:Tr}{env:Env C}{a:Act}
theorem QAp(v:Value):RO T X nx lim (qn v:D C) v:=by
 unfold qn
 split
 ·exact RO.mk (.mk rfl (.bool _)) rfl
 ·rename_i k n;cases hb:decide (k.min<=n)&&decide (n<=k.max)with
  |true=>exact RO.mk (.mk rfl (.int (by simpa using hb))) rfl
  |false=>exact RO.mk (RV.top _ _ _) rfl
 ·exact RO.mk (.mk rfl (.str _)) rfl
 ·exact RO.mk (.mk rfl .ez) rfl
 ·exact RO.mk (.mk rfl .eX) rfl
 ·exact RO.mk (.mk rfl .cm) rfl
 ·exact RO.mk (.mk rfl (.cG .iu)) rfl
 ·exact RO.mk (.mk rfl .gf) rfl
 ·exact RO.mk (RV.top _ _ _) rfl
theorem QQ(he:QB T X nx lim env a.tmps)(x:Operand):RO T X nx lim (gZ env x) (a.eval x):=by
 cases x with
 |tmp t=>exact he t
 |const v=>exact QAp v
 |global g=>exact RO.mk (RV.top _ _ _) rfl
 |func f=>exact RO.mk (.mk rfl (.fn .iu)) rfl
theorem EM(he:QB T X nx lim env a.tmps)(l:List Operand):gV T X (l.map (gZ env)) (l.map a.eval)/\∀d∈l.map (gZ env),∀id∈D.refs d,ft nx lim id:=by
 induction l with
 |nil=>exact⟨.nil,by simp⟩
 |cons x l ih=>
  refine⟨.cons (QQ he x).1 ih.1,?_⟩;intro d hd;simp only[List.map_cons,aZ]at hd;rcases hd with rfl|hd
  ·exact(QQ he x).2
  ·exact ih.2 d hd
theorem N0{ts:cD}:∀{ds:List (D C)} {vs:bT},gV T X ds vs->(∀d∈ds,∀id∈D.refs d,ft nx lim id)->gV T X (CC T ts ds) vs/\∀d∈CC T ts ds,∀id∈D.refs d,ft nx lim id:=by
 induction ts with
 |nil=>intro ds vs h hr;cases ds<;>exact⟨h,hr⟩
 |cons t ts ih=>
  intro ds vs h hr;cases h with
  |nil=>exact⟨.nil,by simp[CC]⟩
  | @cons d ds v vs h0 h1=>
   have:=ih h1 (fun d hd=>hr d (by simp[hd]));have h2:RO T X nx lim (YK T t d) v:=Yw ⟨h0,hr d (by simp)⟩;refine⟨.cons h2.1 this.1,?_⟩;intro q hq;simp only[CC,aZ]at hq;rcases hq with rfl|hq
   ·exact h2.2
   ·exact this.2 q hq
theorem Qm8(he:QB T X nx lim env a.tmps)(l:List (Nat×Operand)):∀(j:Nat) (p:Nat×D C) (q:Nat×Value),(l.map fun p=>(p.1,gZ env p.2))[j]? = some p->(l.map fun p=>(p.1,a.eval p.2))[j]? = some q->p.1=q.1/\RO T X nx lim p.2 q.2:=by
 intro j p q hp hq;rw[bB,Option.map_eq_some_iff]at hp hq;obtain⟨x,hx,rfl⟩:=hp;obtain⟨y,hy,rfl⟩:=hq;rw[hx]at hy;simp at hy;subst hy;exact⟨rfl,QQ he _⟩
theorem Ki(d:D C):∀q∈d.toList,∀id∈q.refs,id∈d.refs:=by
 induction d with
 |bI a b _ ih=>
  intro q hq id dD;simp only[D.toList,aZ]at hq;simp only[D.refs,aT];rcases hq with rfl|hq
  ·exact .inl dD
  ·exact .inr (ih q hq id dD)
 |_=>intro q hq;simp[D.toList]at hq
theorem Ns(l:List (D C)):∀id∈(D.ofList l).refs,∃d∈l,id∈d.refs:=by
 induction l with
 |nil=>intro id h;simp[D.ofList,D.refs]at h
 |cons d l ih=>
  intro id dD;simp only[D.ofList,D.refs,aT]at dD;rcases dD with h|h
  ·exact⟨d,by simp,h⟩
  ·obtain⟨q,hq,hi⟩:=ih id h;exact⟨q,by simp[hq],hi⟩
theorem QO{o:Oper}{s:Sem Value}{d:D C}{k:Act->World->Prop}{Q:Exit->Act->World->Prop}(eB:(execOp a.eval o).run P X.w=(s.run P X.w).andThen fun v w=>.ok (.value v) w)
 (hp:dc P T X nx lim h' cF d s) (hk:∀v X',G T X' h' cF lim->Step X nx lim X'->RO T X' cF lim d v->k (a.put o.dst v) X'.w):o.wp P a X.w k Q:=by
 obtain⟨v,X',h1,h2,h3,h4⟩:=hp;unfold Oper.wp;rw[eB,h1];exact hk v X' h2 h3 h4
include K
theorem QAq{call:FuncId->List (D C)->Pg C (D C)}(gN:uO P T call)(g:G T X h nx lim)(he:QB T X nx lim env a.tmps)(dP:cF<=lim.top){o:Oper}{d:D C}(hny:∀c f,o.op=.call c->c.callee=.value f->∀nt s p iV b cp ow,gZ env f ≠ .yl nt s p iV b cp ow)(hx:Ex e (jt T call o (gZ env)) h nx d h' cF tr)
 {k:Act->World->Prop} {Q:Exit->Act->World->Prop} (hk:∀v X',G T X' h' cF lim->Step X nx lim X'->RO T X' cF lim d v->k (a.put o.dst v) X'.w):o.wp P a X.w k Q:=by
 obtain⟨dst,op,ty,pos,after,guard⟩:=o;unfold jt at hx;cases op<;>simp only at hx
 case move x=>
  obtain⟨rfl,rfl,rfl,rfl⟩:=Ex.ret hx;exact hk _ X g (.refl _ _ _) (Yw (QQ he x))
 case assign x=>
  obtain⟨rfl,rfl,rfl,rfl⟩:=Ex.ret hx;exact hk _ X g (.refl _ _ _) (Yw (QQ he x))
 case pick c x y=>
  refine QO (P:=P) ?_ (QEs (P:=P) (QQ he c) (QQ he x) (QQ he y) g hx) hk;simp only[execOp,aG,aF];cases (asBool (a.eval c)).run P X.w<;>rfl
 case alloc t=>exact QO (by simp only[execOp,aG,aF]) (QAc K g dP hx) hk
 case box t x=>exact QO (by simp only[execOp,aG,aF]) (QHn K g dP (Yw (QQ he x)) hx) hk
 case build t ps=>
  refine QO (s:=Instr.build t (ps.map fun p=>(p.1,a.eval p.2))) (by simp only[execOp,aG,aF]) ?_ hk;have:=QAe K g (vs:=ps.toList.map fun p=>(p.1,a.eval p.2)) (by simp) (Qm8 he ps.toList) hx;have e1:(ps.map fun p=>(p.1,a.eval p.2))=⟨ps.toList.map fun p=>(p.1,a.eval p.2)⟩:=by apply Array.ext';simp
  rw[e1];exact this
 case buildSlice t n ps=>
  refine QO (s:=Instr.buildSlice t n (ps.map fun p=>(p.1,a.eval p.2))) (by simp only[execOp,aG,aF]) ?_ hk;have:=Qhv K g (vs:=ps.toList.map fun p=>(p.1,a.eval p.2)) (by simp) (Qm8 he ps.toList) hx;have e1:(ps.map fun p=>(p.1,a.eval p.2))=⟨ps.toList.map fun p=>(p.1,a.eval p.2)⟩:=by apply Array.ext';simp
  rw[e1];exact this
 case load t x=>exact QO (by simp only[execOp,aG,aF]) (QAh K g (QQ he x) hx) hk
 case store t x y=>
  obtain⟨X',h1,h2,h3,rfl⟩:=QsG K g (QQ he x) (Yw (QQ he y)) hx;unfold Oper.wp;simp only[execOp,aG,h1,aA,aF];exact hk undef X' h2 h3 (RO.mk (.mk rfl (.cG .iu)) rfl)
 case nilCheck x=>
  obtain⟨v,h1,h2,rfl,rfl⟩:=QlE (QQ he x) hx;unfold Oper.wp;rw[h1 a.eval _ x rfl rfl];exact hk v X g (.refl _ _ _) h2
 case binOp op t x y yt=>exact QO (by simp only[execOp,aG,aF]) (QHm K g x y (QQ he x) (QQ he y) hx) hk
 case unOp op t x=>exact QO (by simp only[execOp,aG,aF]) (QIK g (QQ he x) hx) hk
 case convert s t x=>exact QO (by simp only[execOp,aG,aF]) (QEv K g (QQ he x) hx) hk
 case makeFunc fn first fj=>
  unfold XU at hx
  split at hx
  ·rename_i f m8;obtain⟨rfl,rfl,rfl,rfl⟩:=Ex.ret hx;have hc:=EM he fj.toList
   have hf:first = #[]:=by
    apply Array.ext'
    simpa using m8
   subst hf;have e1:fj.map a.eval=⟨fj.toList.map a.eval⟩:=by apply Array.ext';simp
   have:=hk (.func (.func f) #[] ⟨fj.toList.map a.eval⟩) X g (.refl _ _ _) ⟨.mk rfl (.fn hc.1.row),fun id dD=>by
    obtain⟨q,hq,hi⟩:=Ns _ id (by simpa[D.refs]using dD);exact hc.2 q hq id hi⟩
   unfold Oper.wp;simp only[execOp,aG,Instr.makeFunc,aF,aA,e1,Array.map_empty];exact this
  ·rename_i f k n m8
   split at hx
   ·rename_i sR;obtain⟨rfl,rfl,rfl,rfl⟩:=Ex.ret hx
    have hc:fj = #[]:=by
     apply Array.ext'
     simpa using sR
    subst hc;have sj:=(EM he first.toList).1
    have hl:first.toList.map a.eval=[.int k n]/\(k.min<=n/\n<=k.max):=by
     rw[m8]at sj;generalize first.toList.map a.eval=vs at sj
     cases sj with
     |cons hv hr=>
      cases hr;have:=hv.one rfl;cases this with
      |int hb=>exact⟨rfl,hb⟩
    have e1:first.map a.eval = #[.int k n]:=by apply Array.ext';simpa using hl.1
    have:=hk (.func (.func f) #[.int k n] #[]) X g (.refl _ _ _) ⟨.inr ⟨rfl,.bm (.int hl.2) rfl⟩,fun id dD=>by simp[D.refs]at dD⟩;unfold Oper.wp;simp only[execOp,aG,Instr.makeFunc,aF,aA,e1,Array.map_empty];exact this
   ·exact Ex.cB hx
  ·rename_i f pid pp m8
   split at hx
   ·rename_i sR;obtain⟨rfl,rfl,rfl,rfl⟩:=Ex.ret hx
    have hc:fj = #[]:=by
     apply Array.ext'
     simpa using sR
    subst hc;have kT:=EM he first.toList
    have hl:∃v,first.toList.map a.eval=[v]/\R T X false (.ptr pid pp) [v]/\∀id∈(.ptr pid pp:D C).refs,ft cF lim id:=by
     rw[m8]at kT;obtain⟨sj,Dg⟩:=kT;generalize first.toList.map a.eval=vs at sj
     cases sj with
     |cons hv hr=>
      cases hr;exact⟨_,rfl,hv.one rfl,Dg _ (by simp)⟩
    obtain⟨v,y5,me,Gt⟩:=hl;have e1:first.map a.eval = #[v]:=by apply Array.ext';simpa using y5
    have:=hk (.func (.func f) #[v] #[]) X g (.refl _ _ _) ⟨.inr ⟨rfl,.bm me rfl⟩,fun id dD=>Gt id (by simpa[D.refs]using dD)⟩;unfold Oper.wp;simp only[execOp,aG,Instr.makeFunc,aF,aA,e1,Array.map_empty];exact this
   ·exact Ex.cB hx
  ·exact Ex.cB hx
 case makeSlice t x y=>exact QO (by simp only[execOp,aG,aF]) (Qi1 K g dP (QQ he x) (QQ he y) hx) hk
 case slice t x lo hi mx=>
  have ho:∀q:Option Operand,lC T X nx lim (q.map (gZ env)) (q.map a.eval):=by
   intro q;cases q with
   |none=>trivial
   |some q=>exact QQ he q
  exact QO (by simp only[execOp,aG,aF]) (QsH K g dP (QQ he x) (ho lo) (ho hi) (ho mx) hx) hk
 case fieldAddr s x i=>exact QO (by simp only[execOp,aG,aF]) (QiZ K g (QQ he x) hx) hk
 case field s x i=>exact QO (by simp only[execOp,aG,aF]) (Qz9 K g (QQ he x) hx) hk
 case indexAddr t x i=>exact QO (by simp only[execOp,aG,aF]) (Qi0 K g (QQ he x) (QQ he i) hx) hk
 case index t x i=>exact QO (by simp only[execOp,aG,aF]) (QAa K g (QQ he x) (QQ he i) hx) hk
 case makeMap t r=>
  cases r with
  |none=>exact QO (by simp only[execOp,aG,aF,Option.map_none]) (Qp4 K g dP hx) hk
  |some r=>exact Ex.cB hx
 case mapUpdate t x y z=>
  obtain⟨X',h1,h2,h3,rfl,rfl⟩:=WT K g (QQ he x) (QQ he y) (QQ he z) hx;unfold Oper.wp;simp only[execOp,aG,h1,aA,aF];exact hk undef X' h2 h3 (RO.mk (.mk rfl (.cG .iu)) rfl)
 case insert t x y z=>
  obtain⟨X',h1,h2,h3,rfl,rfl⟩:=WT K g (QQ he x) (QQ he y) (QQ he z) hx;unfold Oper.wp;simp only[execOp,aG,h1,aA,aF];exact hk undef X' h2 h3 (RO.mk (.mk rfl (.cG .iu)) rfl)
 case range t x=>exact QO (by simp only[execOp,aG,aF]) (QAk K g dP (QQ he x) hx) hk
 case lookup t x i ok=>exact QO (by simp only[execOp,aG,aF]) (QsI K g (QQ he x) (QQ he i) hx) hk
 case extract x i=>
  unfold QiV at hx;have kE:=QQ he x;generalize gZ env x=q at hx kE;cases q with
  |cG ds=>
   simp only at hx;obtain⟨hn,rfl,rfl,rfl⟩:=Ex.jq hx;have hR:=kE.1.one rfl;generalize hv:a.eval x=vv at hR kE;cases hR with
   |cG hr=>
    obtain⟨v,zi,sq⟩:=hr.nth T rfl i d hn;unfold Oper.wp;simp only[execOp,aG,hv,Instr.extract];rename_i vs;have:(⟨vs⟩:bY)[i]? = some v:=by simpa using zi
    simp only[this,aF,aA];exact hk v X g (.refl _ _ _) ⟨sq,fun id dD=>kE.2 id (by simpa[D.refs]using VO _ _ _ hn id dD)⟩
  |_=>exact Ex.cB hx
 case call c=>
  obtain⟨callee,args,argTypes⟩:=c;have ha:=EM he args.toList;have e1:args.map a.eval=⟨args.toList.map a.eval⟩:=by apply Array.ext';simp
  cases callee with
  |builtin b=>
   simp only at hx;cases hb:Nat.beq argTypes.toList.length args.toList.length with
   |false=>rw[hb]at hx;exact Ex.cB hx
   |true=>
    rw[hb]at hx;simp only[ag]at hx;obtain⟨s,lF,kJ⟩:=Qp2 K g dP (ty0:=ty) ha.1 ha.2 (by simpa using az hb) hx;refine QO (s:=s) ?_ kJ hk;have SH:∀qo,Go.builtin b argTypes ty qo ⟨args.toList.map a.eval⟩=(do pure (.value (<-s))):=lF;simp only[execOp,resolve,aG,aF,aA,invoke,e1,SH]
  |value f=>
   simp only at hx;unfold PM at hx;have hf:=QQ he f;have hq:=hny _ f rfl rfl;generalize gZ env f=q at hx hf hq;cases q with
   |yl nt s p iV b cp ow=>exact absurd rfl (hq nt s p iV b cp ow)
   |fn pT fj=>
    simp only at hx;cases pd:Nat.beq pT Vr with
    |true=>rw[pd]at hx;exact Ex.cB hx
    |false=>
    rw[pd]at hx;have jR:pT≠Vr:=fun e=>by rw[e]at pd;simp at pd
    simp only[ah]at hx;have hR:=hf.1.one rfl;generalize hv:a.eval f=vf at hR hf;cases hR with
    | @fn _ _ xc hc=>
     have ht:=N0 (ts:=argTypes.toList) ha.1 ha.2;have o6:=hc.toList T rfl
     obtain⟨q1,q2⟩:=gN.2 pT jR _ _ X h nx lim e d h' cF tr g (gV.append T ht.1 o6) (by
      intro x Dt;rcases aT.1 Dt with h1|h1
      ·exact ht.2 x h1
      ·exact fun id dD=>hf.2 id (by simpa[D.refs]using Ki fj x h1 id dD)) dP hx
     unfold Oper.wp;have e2:(#[]++args.map a.eval)++(⟨xc⟩:bY)=⟨args.toList.map a.eval++xc⟩:=by apply Array.ext';simp
     simp only[execOp,resolve,aG,hv,Deferred.ofValue,aF,aA,invoke,e2,q1];rw[Oper.upon_enter];refine q2.mono fun en w' hp=>?_;obtain⟨v,X',rfl,rfl,h2,h3,h4⟩:=hp;exact hk v X' h2 h3 h4
   |bm pT d0=>
    simp only at hx;cases pd:Nat.beq pT Vr with
    |true=>rw[pd]at hx;exact Ex.cB hx
    |false=>
    rw[pd]at hx;have jR:pT≠Vr:=fun e=>by rw[e]at pd;simp at pd
    simp only[ah]at hx;have hR:=hf.1.one rfl;generalize hv:a.eval f=vf at hR hf;cases hR with
    | @bm _ _ v0 jc GF=>
     have ht:=N0 (ts:=argTypes.toList) ha.1 ha.2
     obtain⟨q1,q2⟩:=gN.2 pT jR _ _ X h nx lim e d h' cF tr g (gV.cons (.inr ⟨GF,jc⟩) ht.1) (by
      intro x Dt;rcases aZ.1 Dt with h1|h1
      ·subst h1;exact fun id dD=>hf.2 id (by simpa[D.refs]using dD)
      ·exact ht.2 x h1) dP hx
     unfold Oper.wp;have e2:(#[v0]++args.map a.eval)++(#[]:bY)=⟨v0::args.toList.map a.eval⟩:=by apply Array.ext';simp
     simp only[execOp,resolve,aG,hv,Deferred.ofValue,aF,aA,invoke,e2,q1];rw[Oper.upon_enter];refine q2.mono fun en w' hp=>?_;obtain⟨v,X',rfl,rfl,h2,h3,h4⟩:=hp;exact hk v X' h2 h3 h4
   |_=>exact Ex.cB hx
  |invoke r m=>exact Ex.cB hx
 all_goals exact Ex.cB hx
theorem QEx{ro:dg}{m:Nat}{call:FuncId->List (D C)->Pg C (D C)}(gN:uO P T call)(g:G T X h nx lim)(he:QB T X nx lim env a.tmps)(dP:cF<=lim.top){o:Oper}{d:D C}(hx:Ex e (jt T call o (gZ env)) h nx d h' cF tr)
 {k:Act->World->Prop} {Q:Exit->Act->World->Prop} (hk:∀v X',G T X' h' cF lim->Step X nx lim X'->RO T X' cF lim d v->k (a.put o.dst v) X'.w):o.wpIn (ou ro) m P a X.w k Q:=by
 by_cases hyl:∃c f nt s p iV b cp ow,o.op=.call c/\c.callee=.value f/\gZ env f=.yl nt s p iV b cp ow
 ·obtain⟨c,f,nt,s,p,iV,b,cp,ow,ho,hc,hf⟩:=hyl;obtain⟨dst,op,ty,pos,after,guard⟩:=o;obtain⟨callee,args,argTypes⟩:=c;simp only at ho hc;subst ho;subst hc;unfold jt at hx;simp only[hf,PM]at hx;have ha:=EM he args.toList;have e1:args.map a.eval=⟨args.toList.map a.eval⟩:=by apply Array.ext';simp
  have kT:=QQ he f;rw[hf]at kT;have hR:=kT.1.one rfl;have ht:=N0 (ts:=argTypes.toList) ha.1 ha.2;generalize hv:a.eval f=vf at hR kT;have hR2:=hR;cases hR with
  | @yl _ l _ _ _ _ _ _ rec hw hs nN=>
   obtain⟨fn,tmps,yv,iK,q1,q2⟩:=gN.1 nt s p iV b cp ow _ l _ X h nx lim e d h' cF tr g hR2 kT.2 ht.1 ht.2 dP hx;refine⟨fun f _=>oR ro f,?_⟩;rw[Oper.semAt_eq _ _ _ (fun c h=>by cases h)];have e2:(#[]++args.map a.eval)=⟨args.toList.map a.eval⟩:=by apply Array.ext';simp
   simp only[execOp,resolve,aG,hv,Deferred.ofValue,aF,aA,invoke,e2,q1];refine⟨I2,QAo ((q2 _).mono fun en w' hp=>?_)⟩;obtain⟨v,X',rfl,rfl,h2,h3,h4⟩:=hp;exact hk v X' h2 h3 h4
 ·refine ZD (fun c hc=>?_) (QAq K gN g he dP (fun c f ho hc nt s p iV b cp ow h=>hyl ⟨c,f,nt,s,p,iV,b,cp,ow,ho,hc,h⟩) hx hk);unfold jt at hx;rw[hc]at hx;exact Ex.cB hx
end
section
variable {C:gR}
open Pg (Ex)
namespace Pg
theorem Ex.oQ{α:Type}{e:Lv}{h:Heap C}{n:Nat}(a:α):Ex e (.ret a:Pg C α) h n a h n []:=by simp[Ex,run]
theorem Vs{α β:Type}{p:Pg C α}{e:Lv}{h h':Heap C}{n n':Nat}{a:α}{t:Tr}(hx:Ex e p h n a h' n' t)(l:Tr)(k:α->Heap C->Nat->Tr->Option β):p.run e h n l k=k a h' n' (t++l):=by
 rw[run_eq];unfold Ex at hx;rw[hx];rfl
theorem Ex.lq{α:Type}{e:Lv}{h h':Heap C}{n n':Nat}{t:Tr}{b:Bool}{x y:Pg C α}{a:α}(hx:(b=true/\Ex e x h n a h' n' t)\/(b=false/\Ex e y h n a h' n' t)):Ex e (.br b x y) h n a h' n' t:=by
 rcases hx with⟨rfl,hx⟩|⟨rfl,hx⟩<;>simpa[Ex,run]using hx
theorem Ex.GU{α:Type}{e:Lv}{h h':Heap C}{n n':Nat}{t:Tr}{id:Nat}{f:Obj C->Pg C α}{a:α}{o:Obj C}(ho:h.get id=some o)(hx:Ex e (f o) h n a h' n' t):Ex e (.rd id f) h n a h' n' (t++[(id,false)]):=by
 show run _ _ _ _ _ _=_;simp only[run,ho];rw[Vs hx]
theorem Ex.GV{α:Type}{e:Lv}{h h':Heap C}{n n':Nat}{t:Tr}{id:Nat}{o o':Obj C}{f:Pg C α}{a:α}(ho:h.get id=some o')(hx:Ex e f (h.put id o) n a h' n' t):Ex e (.wr id o f) h n a h' n' (t++[(id,true)]):=by
 show run _ _ _ _ _ _=_;simp only[run,ho];rw[Vs hx]
theorem Ex.GS{α:Type}{e:Lv}{h h':Heap C}{n n':Nat}{t:Tr}{o:Obj C}{f:Nat->Pg C α}{a:α}(hx:Ex e (f n) ((n,o)::h) (n+1) a h' n' t):Ex e (.nw o f) h n a h' n' (t++[(n,true)]):=by
 show run _ _ _ _ _ _=_;simp only[run];rw[Vs hx]
theorem Ex.GQ{α:Type}{e:Lv}{h h':Heap C}{n n':Nat}{t:Tr}{id:Nat}{o':Obj C}{f:Pg C α}{a:α}(ho:h.get id=some o')(hx:Ex e f (h.del id) n a h' n' t):Ex e (.dl id f) h n a h' n' (t++[(id,true)]):=by
 show run _ _ _ _ _ _=_;simp only[run,ho];rw[Vs hx]
theorem Ex.zo{α:Type}{e:Lv}{h h':Heap C}{n n':Nat}{t:Tr}{f:Nat->Nat->Pg C α}{a:α}(hx:Ex e (f n (span e.1)) h n a h' n' t):Ex e (.oY f) h n a h' n' t:=by simpa[Ex,run]using hx
theorem Ex.we{α:Type}{e:Lv}{h h':Heap C}{n n' m:Nat}{t:Tr}{f:Pg C α}{a:α}(hm:n<=m)(hx:Ex e f h m a h' n' t):Ex e (.upto m f) h n a h' n' t:=by
 show run _ _ _ _ _ _=_;simp only[run,Nat.ble_eq_true_of_le hm,ag];exact hx
theorem Ex.GR{α:Type}{e:Lv}{h h':Heap C}{n n' lo:Nat}{iC:bU}{t:Tr}{f:Pg C α}{a:α}(hl:e.2<=lo)(hx:Ex e f (h.drop lo n iC) n a h' n' t):Ex e (.gc lo iC f) h n a h' n' t:=by
 show run _ _ _ _ _ _=_;simp only[run,Nat.ble_eq_true_of_le hl,ag];exact hx
theorem Ex.zp{α:Type}{e:Lv}{h h1 h':Heap C}{n n1 n':Nat}{t1 t2:Tr}{p:Pg C (Env C)}{f:Env C->Tr->Pg C α}{v:Env C}{a:α}(hp:Ex (e.1+1,n) p h n v h1 n1 t1)(hx:Ex e (f v t1) h1 n1 a h' n' t2) :
 Ex e (.sub p f) h n a h' n' (t2++t1):=by
 show run _ _ _ _ _ _=_;simp only[run];rw[Vs hp];simp only[aR];rw[Vs hx]
theorem Ex.wc{α β:Type}{e:Lv}{h h1 h':Heap C}{n n1 n':Nat}{t1 t2:Tr}{p:Pg C α}{f:α->Pg C β}{v:α}{a:β}(hp:Ex e p h n v h1 n1 t1)(hx:Ex e (f v) h1 n1 a h' n' t2) :
 Ex e (p.bind f) h n a h' n' (t2++t1):=by
 show run _ _ _ _ _ _=_;rw[run_bind,Vs hp];simp only[aR];rw[Vs hx]
theorem Ex.local{α:Type}{p:Pg C α}:∀{e:Lv} {h:Heap C} {n:Nat} {a:α} {h':Heap C} {n':Nat} {t:Tr},Ex e p h n a h' n' t->e.2<=n->∀g:Heap C,
 (∀id w,(id,w)∈t->id<e.2\/n'<=id->g.get id=h.get id)->(∀id,e.2<=id->id<n'->g.get id=h.get id) ->
 ∃g',Ex e p g n a g' n' t/\(∀id,e.2<=id->id<n'->g'.get id=h'.get id) /\
  (∀id,id<e.2\/n'<=id->((id,true)∈t->g'.get id=h'.get id)/\((id,true)∉t->g'.get id=g.get id/\h'.get id=h.get id)):=by
 induction p with
 |ret a=>
  intro e h n a' h' n' t hx hl g hA hB;obtain⟨rfl,rfl,rfl,rfl⟩:=Ex.ret hx;exact⟨g,.oQ _,hB,fun id dD=>⟨fun hm=>by simp at hm,fun _=>⟨rfl,rfl⟩⟩⟩
 |fail=>intro e h n a' h' n' t hx;exact Ex.cB hx
 |br b x y ix iy=>
  intro e h n a' h' n' t hx hl g hA hB;rcases Ex.br hx with⟨hb,hx⟩|⟨hb,hx⟩
  ·obtain⟨g',h1,h2⟩:=ix hx hl g hA hB;exact⟨g',.lq (.inl ⟨hb,h1⟩),h2⟩
  ·obtain⟨g',h1,h2⟩:=iy hx hl g hA hB;exact⟨g',.lq (.inr ⟨hb,h1⟩),h2⟩
 |rd id f ih=>
  intro e h n a' h' n' t hx hl g hA hB;obtain⟨o,t',ho,hy,rfl⟩:=Ex.rd hx
  have hg:g.get id=some o:=by
   rw[<-ho]
   by_cases iB:e.2<=id/\id<n'
   ·exact hB id iB.1 iB.2
   ·exact hA id false (by simp) (by omega)
  obtain⟨g',h1,h2,h3⟩:=ih o hy hl g (fun i w hi=>hA i w (by simp[hi])) hB;refine⟨g',.GU hg h1,h2,fun i hi=>?_⟩
  simpa using h3 i hi
 |wr id o f ih=>
  intro e h n a' h' n' t hx hl g hA hB;obtain⟨o',t',ho,hy,rfl⟩:=Ex.wr hx
  have hg:g.get id=some o':=by
   rw[<-ho]
   by_cases iB:e.2<=id/\id<n'
   ·exact hB id iB.1 iB.2
   ·exact hA id true (by simp) (by omega)
  have LN:(h.get id).isSome=true:=by simp[ho]
  have LM:(g.get id).isSome=true:=by simp[hg]
  obtain⟨g',h1,h2,h3⟩:=ih hy hl (g.put id o) (fun i w hi hr=>by
   rw[Qv LM,Qv LN]
   by_cases he:i=id
   ·simp[he]
   ·simp[he];exact hA i w (by simp[hi]) hr) (fun i h4 h5=>by
   rw[Qv LM,Qv LN]
   by_cases he:i=id
   ·simp[he]
   ·simp[he];exact hB i h4 h5)
  refine⟨g',.GV hg h1,h2,fun i hi=>⟨fun hm=>?_,fun hm=>?_⟩⟩
  ·by_cases y6:(i,true)∈t'
   ·exact(h3 i hi).1 y6
   ·have:=(h3 i hi).2 y6;have he:i=id:=by simpa[y6]using hm
    rw[this.1,this.2,Qv LM,Qv LN];simp[he]
  ·simp only[aT,bE,Prod.mk.injEq,and_true,not_or]at hm;have:=(h3 i hi).2 hm.1;rw[this.1,this.2,Qv LM,Qv LN];simp[hm.2]
 |nw o f ih=>
  intro e h n a' h' n' t hx hl g hA hB;obtain⟨t',hy,rfl⟩:=Ex.nw hx;have hle:=Ex.le hy
  obtain⟨g',h1,h2,h3⟩:=ih n hy (by omega) ((n,o)::g) (fun i w hi hr=>by
   rw[Qy,Qy]
   by_cases he:i=n
   ·simp[he]
   ·simp[he];exact hA i w (by simp[hi]) hr) (fun i h4 h5=>by
   rw[Qy,Qy]
   by_cases he:i=n
   ·simp[he]
   ·simp[he];exact hB i h4 h5)
  refine⟨g',.GS h1,h2,fun i hi=>⟨fun hm=>?_,fun hm=>?_⟩⟩
  ·have fg:i≠n:=by omega
   exact(h3 i hi).1 (by simpa[fg]using hm)
  ·have fg:i≠n:=by omega
   have:=(h3 i hi).2 (by simpa[fg]using hm);rw[this.1,this.2,Qy,Qy];simp[fg]
 |dl id f ih=>
  intro e h n a' h' n' t hx hl g hA hB;obtain⟨o',t',ho,hy,rfl⟩:=Ex.dl hx
  have hg:g.get id=some o':=by
   rw[<-ho]
   by_cases iB:e.2<=id/\id<n'
   ·exact hB id iB.1 iB.2
   ·exact hA id true (by simp) (by omega)
  obtain⟨g',h1,h2,h3⟩:=ih hy hl (g.del id) (fun i w hi hr=>by
   rw[Zn,Zn]
   by_cases he:i=id
   ·simp[he]
   ·simp[he];exact hA i w (by simp[hi]) hr) (fun i h4 h5=>by
   rw[Zn,Zn]
   by_cases he:i=id
   ·simp[he]
   ·simp[he];exact hB i h4 h5)
  refine⟨g',.GQ hg h1,h2,fun i hi=>⟨fun hm=>?_,fun hm=>?_⟩⟩
  ·by_cases y6:(i,true)∈t'
   ·exact(h3 i hi).1 y6
   ·have:=(h3 i hi).2 y6;have he:i=id:=by simpa[y6]using hm
    rw[this.1,this.2,Zn,Zn];simp[he]
  ·simp only[aT,bE,Prod.mk.injEq,and_true,not_or]at hm;have:=(h3 i hi).2 hm.1;rw[this.1,this.2,Zn,Zn];simp[hm.2]
 |oY f ih=>
  intro e h n a' h' n' t hx hl g hA hB;obtain⟨g',h1,h2⟩:=ih _ _ (Ex.oY hx) hl g hA hB;exact⟨g',.zo h1,h2⟩
 |upto m f ih=>
  intro e h n a' h' n' t hx hl g hA hB;obtain⟨hm,hx⟩:=Ex.upto hx;obtain⟨g',h1,h2⟩:=ih hx (by omega) g hA hB;exact⟨g',.we hm h1,h2⟩
 |gc lo iC f ih=>
  intro e h n a' h' n' t hx hl g hA hB;obtain⟨hm,hx⟩:=Ex.gc hx;have hle:=Ex.le hx
  have Gc:∀i,(Nat.ble lo i&&Nat.blt i n && !(iC.any (Nat.beq i)))=true->e.2<=i/\i<n':=by
   intro i hi;simp only[ai,Nat.ble_eq,Nat.blt_eq]at hi;omega
  obtain⟨g',h1,h2,h3⟩:=ih hx hl (g.drop lo n iC) (fun i w hi hr=>by
   rw[VN,VN]
   split
   ·rfl
   ·exact hA i w hi hr) (fun i h4 h5=>by
   rw[VN,VN]
   split
   ·rfl
   ·exact hB i h4 h5)
  refine⟨g',.GR hm h1,h2,fun i hi=>⟨(h3 i hi).1,fun hn=>?_⟩⟩;have:=(h3 i hi).2 hn;rw[this.1,this.2,VN,VN];have fg:¬(Nat.ble lo i&&Nat.blt i n && !(iC.any (Nat.beq i)))=true:=fun hd=>by have:=Gc i hd;omega
  simp only[fg];exact⟨rfl,rfl⟩
 |sub p f ip ik=>
  intro e h n a' h' n' t hx hl g hA hB;obtain⟨v,h1,n1,t1,t2,hp,hy,rfl⟩:=Ex.sub hx;have kB:=Ex.le hp;have vU:=Ex.le hy
  obtain⟨g1,q1,q2,q3⟩:=ip hp (aq _) g (fun i w hi hr=>by
   by_cases iB:e.2<=i/\i<n'
   ·exact hB i iB.1 iB.2
   ·exact hA i w (by simp[hi]) (by omega)) (fun i h4 h5=>hB i (by simp at h4;omega) (by omega))
  have same:∀i,g.get i=h.get i->g1.get i=h1.get i:=by
   intro i hi
   by_cases iB:n<=i/\i<n1
   ·exact q2 i iB.1 iB.2
   ·have:=q3 i (by simp;omega)
    by_cases hm:(i,true)∈t1
    ·exact this.1 hm
    ·rw[(this.2 hm).1,(this.2 hm).2,hi]
  obtain⟨g',k1,k2,k3⟩:=ik _ _ hy (by omega) g1 (fun i w hi hr=>same i (hA i w (by simp[hi]) hr)) (fun i h4 h5=>same i (hB i h4 h5));refine⟨g',.zp q1 k1,k2,fun i hi=>?_⟩;have kC:=q3 i (by simp;omega);refine⟨fun hm=>?_,fun hm=>?_⟩
  ·by_cases rT:(i,true)∈t2
   ·exact(k3 i hi).1 rT
   ·have hm1:(i,true)∈t1:=by simpa[rT]using hm
    have:=(k3 i hi).2 rT;rw[this.1,this.2];exact kC.1 hm1
  ·simp only[aT,not_or]at hm;have:=(k3 i hi).2 hm.1;have h5:=kC.2 hm.2;rw[this.1,this.2];exact h5
end Pg
end
section
variable {C:gR}{P:Program}{T:fh C}(K:Zo P T)
open Pg (Ex)
theorem QG(env:Env C)(t j:Nat)(d:D C):cR ((j,d)::env) t=if t=j then d else cR env t:=by
 simp only[cR]
 by_cases h:t=j
 ·subst h;simp
 ·simp[mY h,h]
theorem Ed(env:Env C)(dst:Option Tmp)(d:D C)(t:Nat):cR (put env dst d) t=if dst=some t then d else cR env t:=by
 cases dst with
 |none=>simp[put]
 |some j=>
  simp only[put,QG]
  by_cases h:t=j
  ·simp[h]
  ·have:¬j=t:=fun e=>h e.symm;simp[h,this]
theorem Qp5(call:FuncId->List (D C)->Pg C (D C))(o:Oper)(r s:Operand->D C)(hh:∀x∈o.op.operands,r x=s x):jt T call o r=jt T call o s:=by
 obtain⟨dst,op,ty,pos,after,guard⟩:=o;have hl:∀(xs:Array Operand),(∀x∈xs,r x=s x)->xs.toList.map r=xs.toList.map s:=fun xs hx=>List.map_congr_left fun x hm=>hx x (by simpa using hm)
 have hp:∀(ps:Array (Nat×Operand)),(∀x∈(ps.toList.map (·.2)).toArray,r x=s x)->(ps.toList.map fun p=>(p.1,r p.2))=ps.toList.map fun p=>(p.1,s p.2):=fun ps hx=>List.map_congr_left fun p hm=>by
  rw[hx p.2 (by simp;exact⟨p.1,by simpa using hm⟩)]
 have y8:∀(q:Option Operand),(∀x∈q.toArray,r x=s x)->q.map r=q.map s:=fun q hx=>by
  cases q with
  |none=>rfl
  |some q=>simp[hx q (by simp)]
 cases op<;>simp only[Op.operands]at hh<;>simp only[jt]
 case build t ps=>rw[hp ps hh]
 case buildSlice t n ps=>rw[hp ps hh]
 case makeMap t q=>cases q<;>rfl
 case makeFunc fn a b=>rw[hl a (fun x hx=>hh x (by simp[hx])),hl b (fun x hx=>hh x (by simp[hx]))]
 case slice t x lo hi mx=>
  rw[hh x (by simp),y8 lo (fun y hy=>hh y (by simp at hy ⊢;simp[hy])),y8 hi (fun y hy=>hh y (by simp at hy ⊢;simp[hy])),y8 mx (fun y hy=>hh y (by simp at hy ⊢;simp[hy]))]
 case call c=>
  obtain⟨callee,args,argTypes⟩:=c;have ha:=hl args (fun x hx=>hh x (by simp[Call.operands,hx]));cases callee with
  |builtin b=>simp only[ha]
  |value f=>simp only[ha,hh f (by simp[Call.operands])]
  |invoke q m=>rfl
 all_goals simp_all
theorem Qm9{i:Nat}{k:IntKind}{n:Int}{go:Env C->Pg C (Env C)}{f1 f2:Env C}(h1:cR f1 i=.int k n)(h2:cR f2 i=.int k n){e:Pg.Lv}{h h':Heap C}{nx cF:Nat}{r:Env C}{tr:Tr}{w:Bool}:∀(l:bQ),
 Ex e (pins i k n go w f1 l) h nx r h' cF tr->∃g1,(∀t,cR g1 t=cR f1 t)/\Ex e (go g1) h nx r h' cF tr/\∃g2,(∀t,cR g2 t=cR f2 t)/\∀r3,Ex e (go g2) h nx r3 h' cF tr->Ex e (pins i k n go w f2 l) h nx r3 h' cF tr
 |[],hx=>by
  cases w
  ·exact⟨f1,fun _=>rfl,hx,f2,fun _=>rfl,fun _ h=>h⟩
  ·exact Ex.cB hx
 |j::l,hx=>by
  rcases Ex.br hx with⟨hb,hx⟩|⟨hb,hx⟩
  ·have hj:n=j:=by simpa using hb
   refine⟨(i,.int k j)::f1,fun t=>?_,hx,(i,.int k j)::f2,fun t=>?_,fun r3 h3=>Pg.Ex.lq (.inl ⟨hb,h3⟩)⟩
   ·rw[QG]
    by_cases ht:t=i
    ·simp[ht,h1,hj]
    ·simp[ht]
   ·rw[QG]
    by_cases ht:t=i
    ·simp[ht,h2,hj]
    ·simp[ht]
  ·obtain⟨g1,a1,a2,g2,a3,a4⟩:=Qm9 h1 h2 l hx;exact⟨g1,a1,a2,g2,a3,fun r3 h3=>Pg.Ex.lq (.inr ⟨hb,a4 r3 h3⟩)⟩
theorem Qna{o:Oper}{go:Env C->Pg C (Env C)}{f1 f2:Env C}(hi:∀i m,CO T o=some (i,m)->cR f1 i=cR f2 i){e:Pg.Lv}{h h':Heap C}{nx cF:Nat}{r:Env C}{tr:Tr}
 (hx:Ex e (mF T o go f1) h nx r h' cF tr):∃g1,(∀t,cR g1 t=cR f1 t)/\Ex e (go g1) h nx r h' cF tr/\∃g2,(∀t,cR g2 t=cR f2 t)/\∀r3,Ex e (go g2) h nx r3 h' cF tr->Ex e (mF T o go f2) h nx r3 h' cF tr:=by
 unfold mF at hx ⊢;cases hp:CO T o with
 |none=>simp only[hp]at hx ⊢;exact⟨f1,fun _=>rfl,hx,f2,fun _=>rfl,fun _ h=>h⟩
 |some q=>
  obtain⟨i,m⟩:=q;simp only[hp]at hx ⊢;rw[<-hi i m hp];generalize hq:cR f1 i=d at hx;cases d with
  |int k n=>
   exact Qm9 hq (by rw[<-hi i m hp,hq]) _ hx
  |_=>exact⟨f1,fun _=>rfl,hx,f2,fun _=>rfl,fun _ h=>h⟩
theorem QlG{o:Oper}{ops:cO}{i m:Nat}(h:CO T o=some (i,m)):i∈o.looksAt ops:=by
 have hm:Operand.tmp i∈o.op.operands:=by
  unfold CO at h
  split at h
  ·rename_i ho;rw[ho]
   split at h
   ·cases h;simp[Op.operands]
   ·cases h
  ·rename_i ho;rw[ho]
   split at h
   ·cases h;simp[Op.operands]
   ·cases h
  ·cases h
 unfold Oper.looksAt;simp only[aT,List.mem_filterMap];exact .inl ⟨.tmp i,by simpa using hm,rfl⟩
theorem Kj(call:FuncId->List (D C)->Pg C (D C))(ops:cO)(o:Oper)(env fE:Env C)(hh:∀t∈o.looksAt ops,cR env t=cR fE t){e:Pg.Lv}{h h':Heap C}{n n':Nat}{dS:Env C}{tr:Tr}
 (hx:Ex e (qg T call ops o env) h n dS h' n' tr) :
 ∃v j4,(∀t,cR dS t=if o.dst=some t then v else cR env t)/\Ex e (qg T call ops o fE) h n j4 h' n' tr/\∀t,cR j4 t=if o.dst=some t then v else cR fE t:=by
 have Sy:∀(f1 f2:Env C),(∀t,cR f1 t=cR env t)->(∀t,cR f2 t=cR fE t)->∀x∈o.op.operands,gZ f1 x=gZ f2 x:=by
  intro f1 f2 h1 h2 x hx;cases x with
  |tmp t=>
   simp only[gZ,h1,h2];refine hh t ?_;unfold Oper.looksAt;simp only[aT,List.mem_filterMap];exact .inl ⟨.tmp t,by simpa using hx,rfl⟩
  |_=>rfl
 have fe:∀(f1 f2:Env C),(∀t,cR f1 t=cR env t)->(∀t,cR f2 t=cR fE t)->Ex e (mF T o (fun env=>.bind (jt T call o (gZ env)) fun d=>.ret (put env o.dst d)) f1) h n dS h' n' tr ->
  ∃v j4,(∀t,cR dS t=if o.dst=some t then v else cR env t)/\Ex e (mF T o (fun env=>.bind (jt T call o (gZ env)) fun d=>.ret (put env o.dst d)) f2) h n j4 h' n' tr/\∀t,cR j4 t=if o.dst=some t then v else cR fE t:=by
  intro f1 f2 h1 h2 hx;obtain⟨g1,a1,hx,g2,a3,a4⟩:=Qna (f2:=f2) (fun i m hp=>by rw[h1,h2];exact hh i (QlG hp)) hx;have h1:∀t,cR g1 t=cR env t:=fun t=>by rw[a1,h1]
  have h2:∀t,cR g2 t=cR fE t:=fun t=>by rw[a3,h2]
  clear a1 a3;obtain⟨d,h3,n3,t1,t2,q1,q2,rfl⟩:=Ex.bind hx;obtain⟨rfl,rfl,rfl,rfl⟩:=Ex.ret q2;rw[Qp5 call o _ _ (Sy g1 g2 h1 h2)]at q1;exact⟨d,put g2 o.dst d,fun t=>by rw[Ed,h1],a4 _ (Pg.Ex.wc q1 (Pg.Ex.oQ _)),fun t=>by rw[Ed,h2]⟩
 have kK:∀(f1 f2:Env C),(∀t,cR f1 t=cR env t)->(∀t,cR f2 t=cR fE t)->Ex e (.ret (put f1 o.dst (.cG .bN)):Pg C (Env C)) h n dS h' n' tr ->
  ∃v j4,(∀t,cR dS t=if o.dst=some t then v else cR env t)/\Ex e (.ret (put f2 o.dst (.cG .bN)):Pg C (Env C)) h n j4 h' n' tr/\∀t,cR j4 t=if o.dst=some t then v else cR fE t:=by
  intro f1 f2 h1 h2 hx;obtain⟨rfl,rfl,rfl,rfl⟩:=Ex.ret hx;exact⟨_,put f2 o.dst (.cG .bN),fun t=>by rw[Ed,h1],Pg.Ex.oQ _,fun t=>by rw[Ed,h2]⟩
 unfold qg at hx ⊢;cases hg:o.guard with
 |none=>rw[hg]at hx;exact fe env fE (fun _=>rfl) (fun _=>rfl) hx
 |some jw=>
  obtain⟨j,want⟩:=jw;rw[hg]at hx;simp only at hx ⊢;cases hd:(ops[j]?).bind (·.dst)with
  |none=>rw[hd]at hx;exact Ex.cB hx
  |some d=>
   simp only[hd]at hx ⊢
   have jo:cR env d=cR fE d:=hh d (by
    unfold Oper.looksAt;rw[hg];simp[hd])
   rw[<-jo]
   have same:∀(f:Env C) (b:Bool),cR f d=.bool b->∀t,cR ((d,.bool b)::f) t=cR f t:=by
    intro f b hb t;rw[QG]
    by_cases ht:t=d
    ·simp[ht,hb]
    ·simp[ht]
   generalize hq:cR env d=q at hx
   match q,hq,hx with
   |.bool b,hq,hx=>
    simp only at hx ⊢;have Dn:cR fE d=.bool b:=by rw[<-jo,hq]
    rcases Ex.br hx with⟨rfl,hx⟩|⟨rfl,hx⟩
    ·cases want with
     |true=>
      obtain⟨v,j4,k1,k2,k3⟩:=fe _ _ (same env true hq) (same fE true Dn) hx;exact⟨v,j4,k1,Pg.Ex.lq (.inl ⟨rfl,k2⟩),k3⟩
     |false=>
      obtain⟨v,j4,k1,k2,k3⟩:=kK _ _ (same env true hq) (same fE true Dn) hx;exact⟨v,j4,k1,Pg.Ex.lq (.inl ⟨rfl,k2⟩),k3⟩
    ·cases want with
     |true=>
      obtain⟨v,j4,k1,k2,k3⟩:=kK _ _ (same env false hq) (same fE false Dn) hx;exact⟨v,j4,k1,Pg.Ex.lq (.inr ⟨rfl,k2⟩),k3⟩
     |false=>
      obtain⟨v,j4,k1,k2,k3⟩:=fe _ _ (same env false hq) (same fE false Dn) hx;exact⟨v,j4,k1,Pg.Ex.lq (.inr ⟨rfl,k2⟩),k3⟩
   |.cG .bN,hq,hx=>exact kK env fE (fun _=>rfl) (fun _=>rfl) hx
   |.cG (.bool _),_,hx |.cG (.int _ _),_,hx |.cG (.str _),_,hx |.cG (.bI _ _),_,hx |.cG (.arr _ _ _),_,hx |.cG (.cG _),_,hx |.cG .ez,_,hx |.cG (.sl _ _ _),_,hx |.cG (.vs _ _),_,hx
   |.cG (.ptr _ _),_,hx |.cG (.jg _ _ _ _ _),_,hx |.cG (.eY _ _ _),_,hx |.cG (.dC _),_,hx |.cG .eX,_,hx |.cG (.fn _ _),_,hx |.cG .cm,_,hx |.cG .gf,_,hx |.cG (.bm _ _),_,hx |.cG (.yl _ _ _ _ _ _ _),_,hx |.cG .top,_,hx |.cG (.jN _),_,hx |.jN _,_,hx
   |.int _ _,_,hx |.str _,_,hx |.bN,_,hx |.bI _ _,_,hx |.arr _ _ _,_,hx |.ez,_,hx |.sl _ _ _,_,hx |.vs _ _,_,hx |.jg _ _ _ _ _,_,hx |.ptr _ _,_,hx |.eY _ _ _,_,hx |.dC _,_,hx |.eX,_,hx
   |.fn _ _,_,hx |.cm,_,hx |.gf,_,hx |.bm _ _,_,hx |.yl _ _ _ _ _ _ _,_,hx |.top,_,hx=>exact Ex.cB hx
variable {X:Cx}{h h':Heap C}{nx cF:Nat}{e:Pg.Lv}{lim:ek}{tr:Tr}{env cZ:Env C}{a:Act}
theorem QB.put{d:D C}{v:Value}{dst:Option Tmp}(he:QB T X nx lim env a.tmps)(hd:RO T X nx lim d v)(hb:∀t,dst=some t->t<a.tmps.size):QB T X nx lim (Ev.put env dst d) (a.put dst v).tmps:=by
 intro t;rw[Ed];cases dst with
 |none=>simpa[Act.put]using he t
 |some j=>
  simp only[Act.put,aD]
  by_cases hj:j=t
  ·subst hj;have:=hb j rfl;simp[this];exact hd
  ·simp[hj];simpa using he t
def Kp(B:Nat->Bool)(u u':bY):Prop:=∀t,B t=true->u'.getD t undef=u.getD t undef
theorem Kp.refl(B:Nat->Bool)(u:bY):Kp B u u:=fun _ _=>rfl
theorem Kp.trans{B:Nat->Bool}{u v w:bY}(h:Kp B u v)(k:Kp B v w):Kp B u w:=fun t ht=>(k t ht).trans (h t ht)
theorem KP{B:Nat->Bool}(a:Act)(dst:Option Tmp)(v:Value)(hB:∀t,dst=some t->B t=false):Kp B a.tmps (a.put dst v).tmps:=by
 intro t ht;cases dst with
 |none=>rfl
 |some j=>
  have:j≠t:=fun e=>by have:=hB j rfl;rw[e,ht]at this;cases this
  simp[Act.put,this]
theorem QF(a:Act)(dst:Option Tmp)(v:Value):(a.put dst v).tmps.size=a.tmps.size/\(a.put dst v).defers=a.defers:=by
 cases dst<;>simp[Act.put]
include K
theorem Qnb{ro:dg}{m:Nat}{call:FuncId->List (D C)->Pg C (D C)}(gN:uO P T call)(g:G T X h nx lim)(he:QB T X nx lim env a.tmps)(dP:cF<=lim.top){ops:cO}{i:Nat}{o:Oper}(hi:ops[i]? = some o)
 (hb:∀t,o.dst=some t->t<a.tmps.size) {B:Nat->Bool} (hB:∀t,o.dst=some t->B t=false) (hx:Ex e (qg T call ops o env) h nx cZ h' cF tr) {k:Act->World->Prop} {Q:Exit->Act->World->Prop}
 (hk:∀a' X',G T X' h' cF lim->Step X nx lim X'->QB T X' cF lim cZ a'.tmps->a'.tmps.size=a.tmps.size->a'.defers=a.defers->Kp B a.tmps a'.tmps->k a' X'.w):wpOpIn (ou ro) m P ops Q i k a X.w:=by
 have fe:∀(f:Env C),QB T X nx lim f a.tmps->Region.wanted o (yielded ops a.tmps)=true->Ex e (mF T o (fun env=>.bind (jt T call o (gZ env)) fun d=>.ret (put env o.dst d)) f) h nx cZ h' cF tr->wpOpIn (ou ro) m P ops Q i k a X.w:=by
  intro f hf hw hx;obtain⟨g1,a1,hx,_⟩:=Qna (f2:=f) (fun _ _ _=>rfl) hx;have hf:QB T X nx lim g1 a.tmps:=fun t=>by rw[a1];exact hf t
  obtain⟨d,h3,n3,t1,t2,q1,q2,rfl⟩:=Ex.bind hx;obtain⟨rfl,rfl,rfl,rfl⟩:=Ex.ret q2;unfold wpOpIn;simp only[hi,hw,aU];refine QEx K gN g hf dP q1 fun v X' g' s' r'=>?_;have hle:=Ex.le q1;exact hk _ X' g' s' ((hf.step K.base s' hle).put r' hb) (QF _ _ _).1 (QF _ _ _).2 (KP _ _ _ hB)
 have kK:∀(f:Env C),QB T X nx lim f a.tmps->Region.wanted o (yielded ops a.tmps)=false->Ex e (.ret (put f o.dst (.cG .bN)):Pg C (Env C)) h nx cZ h' cF tr->wpOpIn (ou ro) m P ops Q i k a X.w:=by
  intro f hf hw hx;obtain⟨rfl,rfl,rfl,rfl⟩:=Ex.ret hx;unfold wpOpIn;simp only[hi,hw,bu,aL];refine⟨fun f _=>oR ro f,?_⟩;exact hk _ X g (.refl _ _ _) (hf.put (RO.mk (.mk rfl (.cG .iu)) rfl) hb) (QF _ _ _).1 (QF _ _ _).2 (KP _ _ _ hB)
 unfold qg at hx;cases hg:o.guard with
 |none=>rw[hg]at hx;exact fe env he (by simp[Region.wanted,hg]) hx
 |some jw=>
  obtain⟨j,want⟩:=jw;rw[hg]at hx;simp only at hx;cases hd:(ops[j]?).bind (·.dst)with
  |none=>rw[hd]at hx;exact Ex.cB hx
  |some d=>
   simp only[hd]at hx;have Df:=he d
   have same:∀(b:Bool),cR env d=.bool b->QB T X nx lim ((d,.bool b)::env) a.tmps:=by
    intro b iW t;rw[QG]
    by_cases ht:t=d
    ·subst ht;simp;rw[<-iW];simpa using he t
    ·simp[ht];simpa using he t
   generalize hq:cR env d=q at hx Df
   match q,hq,hx,Df with
   |.bool b,hq,hx,Df=>
    simp only at hx
    have hv:a.tmps[d]? = some (.bool b):=by
     have:=Df.1.bool;cases hs:a.tmps[d]? with
     |none=>simp[hs,undef]at this
     |some u=>simp[hs]at this;rw[this]
    have hy:yielded ops a.tmps j=some b:=by simp[yielded,hd,hv]
    rcases Ex.br hx with⟨rfl,hx⟩|⟨rfl,hx⟩
    ·cases want with
     |true=>exact fe _ (same true hq) (by simp[Region.wanted,hg,hy]) hx
     |false=>exact kK _ (same true hq) (by simp[Region.wanted,hg,hy]) hx
    ·cases want with
     |true=>exact kK _ (same false hq) (by simp[Region.wanted,hg,hy]) hx
     |false=>exact fe _ (same false hq) (by simp[Region.wanted,hg,hy]) hx
   |.cG .bN,hq,hx,Df=>
    have hR:=Df.1.one rfl
    have hv:a.tmps.getD d undef=.tuple #[]:=by
     generalize a.tmps.getD d undef=u at hR;cases hR with
     |cG hr=>cases hr;rfl
    have hy:yielded ops a.tmps j=none:=by
     simp only[yielded,hd,Option.bind_some];cases hs:a.tmps[d]? with
     |none=>rfl
     |some u=>simp[hs]at hv;rw[hv]
    exact kK env he (by simp[Region.wanted,hg,hy]) hx
   |.cG (.bool _),_,hx,_ |.cG (.int _ _),_,hx,_ |.cG (.str _),_,hx,_ |.cG (.bI _ _),_,hx,_ |.cG (.arr _ _ _),_,hx,_ |.cG (.cG _),_,hx,_ |.cG .ez,_,hx,_ |.cG (.sl _ _ _),_,hx,_ |.cG (.vs _ _),_,hx,_
   |.cG (.ptr _ _),_,hx,_ |.cG (.jg _ _ _ _ _),_,hx,_ |.cG (.eY _ _ _),_,hx,_ |.cG (.dC _),_,hx,_ |.cG .eX,_,hx,_ |.cG (.fn _ _),_,hx,_ |.cG .cm,_,hx,_ |.cG .gf,_,hx,_ |.cG (.bm _ _),_,hx,_ |.cG (.yl _ _ _ _ _ _ _),_,hx,_ |.cG .top,_,hx,_ |.cG (.jN _),_,hx,_ |.jN _,_,hx,_
   |.int _ _,_,hx,_ |.str _,_,hx,_ |.bN,_,hx,_ |.bI _ _,_,hx,_ |.arr _ _ _,_,hx,_ |.ez,_,hx,_ |.sl _ _ _,_,hx,_ |.vs _ _,_,hx,_ |.jg _ _ _ _ _,_,hx,_ |.ptr _ _,_,hx,_ |.eY _ _ _,_,hx,_ |.dC _,_,hx,_ |.eX,_,hx,_
   |.fn _ _,_,hx,_ |.cm,_,hx,_ |.gf,_,hx,_ |.bm _ _,_,hx,_ |.yl _ _ _ _ _ _ _,_,hx,_ |.top,_,hx,_=>exact Ex.cB hx
omit K in
theorem uP{o:Oper}{a:Act}{w w':World}{v:Value}{k:Act->World->Prop}{Q:Exit->Act->World->Prop}(eB:(execOp a.eval o).run P w=.ok (.value v) w')(hk:k (a.put o.dst v) w'):o.wp P a w k Q:=by
 unfold Oper.wp;rw[eB];exact hk
omit K in
theorem QEy{o:Oper}{a:Act}{w w':World}{k:Act->World->Prop}{Q:Exit->Act->World->Prop}(eB:(execOp a.eval o).run P w=.ok .skip w')(hk:k (a.put o.dst undef) w'):o.wp P a w k Q:=by
 unfold Oper.wp;rw[eB];exact hk
omit K in
theorem Il{a:Act}{d:Tmp}{v:Value}{x:Operand}(h:um d x=true):(a.put (some d) v).eval x=a.eval x:=by
 cases x with
 |tmp u=>
  have fg:d≠u:=fun e=>by simp[um,e]at h
  simp[Act.eval,Act.put,fg]
 |_=>rfl
omit K in
theorem Qp6{o1 o2 o3:Oper}{t:TypeId}{m k v:Operand}{d1 d2:Nat}(h:Ll o1 o2 o3=some (t,m,k,v,d1,d2)):∃t3,o1.op=.mapEntry t m k/\o1.dst=some d1/\o1.guard=none/\o2.op=.extract (.tmp d1) 1/\o2.dst=some d2/\o2.guard=none /\
 o3.op=.entryStore t3 m (.tmp d2) v/\o3.guard=none/\um d1 m=true/\um d2 m=true/\d1≠d2/\um d1 v=true/\um d2 v=true:=by
 unfold Ll at h
 split at h
 ·rename_i t0 m0 k0 q1
  split at h
  ·rename_i e1' d1' Lt n' q2 q3 q4 q5 q6 q7 q8
   split at h
   ·rename_i m1
    have key:∀(c:Bool) (x:TypeId×Operand×Operand×Operand×Nat×Nat),(bif c then some x else none)=some (t,m,k,v,d1,d2)->c=true/\x=(t,m,k,v,d1,d2):=by
     intro c x hh;cases c
     ·cases hh
     ·exact⟨rfl,aj hh⟩
    obtain⟨hc,hx⟩:=key _ _ h;simp only[Prod.mk.injEq]at hx;obtain⟨rfl,rfl,rfl,rfl,rfl,rfl⟩:=hx;simp only[ai]at hc;obtain⟨⟨⟨⟨h1,h2⟩,h3⟩,⟨h4,h5⟩,h6⟩,h7,h8⟩:=hc;have h1:=az h1;have h2:=az h2;have h3:=az h3;subst h1 h2 h3;exact⟨_,q1,by assumption,by assumption,by assumption,by assumption,by assumption,by assumption,by assumption,h4,h5,fun e=>by rw[e]at h6;simp at h6,h7,h8⟩
   ·cases h
  ·cases h
 ·cases h
omit K in
theorem Qp7{o1 o2:Oper}{t:TypeId}{x lo:Operand}{d1:Nat}(h:Lm o1 o2=some (t,x,lo,d1)):∃c e1,o1.op=.slice t x (some lo) none none/\o1.dst=some d1/\o1.guard=none/\o2.op=.call c/\o2.guard=none /\
 c.callee=.builtin .clear/\c.args = #[.tmp e1]/\e1=d1/\c.argTypes = #[t]:=by
 unfold Lm at h
 split at h
 ·rename_i t0 x0 rZ q1
  split at h
  ·rename_i d1' c q2 q3 q4 q5
   split at h
   ·rename_i e1 t' q6 q7 q8
    have key:∀(b:Bool) (y:TypeId×Operand×Operand×Nat),(bif b then some y else none)=some (t,x,lo,d1)->b=true/\y=(t,x,lo,d1):=by
     intro b y hh;cases b
     ·cases hh
     ·exact⟨rfl,aj hh⟩
    obtain⟨hc,hx⟩:=key _ _ h;simp only[Prod.mk.injEq]at hx;obtain⟨rfl,rfl,rfl,rfl⟩:=hx;simp only[ai,Nat.beq_eq]at hc;obtain⟨h1,h2⟩:=hc;subst h1 h2;exact⟨c,e1,q1,q2,q3,q4,q5,q6,by apply Array.ext';simpa using q7,rfl,by apply Array.ext';simpa using q8⟩
   ·cases h
  ·cases h
 ·cases h
theorem QsM{ro:dg}{m:Nat}{call:FuncId->List (D C)->Pg C (D C)}(gN:uO P T call){ops:cO}{B:Nat->Bool}(hB:∀o∈ops.toList,∀t,o.dst=some t->B t=false):∀(N:Nat) (l:fQ),l.length<=N->∀(i:Nat),ops.toList.drop i=l->∀{X:Cx} {h h':Heap C} {nx cF:Nat} {e:Pg.Lv} {lim:ek} {tr:Tr} {env cZ:Env C} {a:Act},
 G T X h nx lim->QB T X nx lim env a.tmps->cF<=lim.top->(∀o∈ops.toList,∀t,o.dst=some t->t<a.tmps.size)->Ex e (qT T call ops l env) h nx cZ h' cF tr->∀{Q:Exit->Act->World->Prop},
 (∀a' X',G T X' h' cF lim->Step X nx lim X'->QB T X' cF lim cZ a'.tmps->a'.tmps.size=a.tmps.size->a'.defers=a.defers->Kp B a.tmps a'.tmps->Q .normal a' X'.w)->wpOpsIn (ou ro) m P ops Q (List.range' i l.length) a X.w:=by
 intro N
 induction N with
 |zero=>
  intro l hN i hl X h h' nx cF e lim tr env cZ a g he dP hb hx Q hk;have:l=[]:=List.length_eq_zero_iff.1 (by omega);subst this;obtain⟨rfl,rfl,rfl,rfl⟩:=Ex.ret hx;exact hk a X g (.refl _ _ _) he rfl rfl (.refl _ _)
 |succ N ih=>
  intro l hN i hl X h h' nx cF e lim tr env cZ a g he dP hb hx Q hk
  have nth:∀(j:Nat) (o:Oper),l[j]? = some o->ops[i+j]? = some o/\o∈ops.toList:=by
   intro j o hj;rw[<-hl,List.getElem?_drop]at hj;exact⟨by rw[<-Array.getElem?_toList];exact hj,List.mem_of_getElem? hj⟩
  cases l with
  |nil=>
   obtain⟨rfl,rfl,rfl,rfl⟩:=Ex.ret hx;exact hk a X g (.refl _ _ _) he rfl rfl (.refl _ _)
  |cons o l=>
   have me:ops.toList.drop (i+1)=l:=by
    have:=ap (List.drop 1) hl;rw[bD]at this
    simpa using this
   obtain⟨oI,Dk⟩:=nth 0 o rfl;rw[Nat.add_zero]at oI
   have step:Ex e ((qg T call ops o env).bind fun env=>qT T call ops l env) h nx cZ h' cF tr->wpOpsIn (ou ro) m P ops Q (List.range' i (o::l).length) a X.w:=by
    intro hx;obtain⟨dS,h1,n1,t1,t2,q1,q2,_⟩:=Ex.bind hx;have hle:=Ex.le q2;rw[aE,List.range'_succ,wpOpsIn_cons];refine Qnb K gN g he (by omega) oI (fun t ht=>hb o Dk t ht) (fun t ht=>hB o Dk t ht) q1 fun a' X' g' s' e' hs hd rR=>?_;refine ih l (by simp at hN;omega) (i+1) me g' e' dP (fun o' gz t ht=>by rw[hs];exact hb o' gz t ht) q2 fun a2 X2 g2 s2 e2 kJ oG rS=>?_;exact hk a2 X2 g2 (s'.trans s2 (Ex.le q1)) e2 (by omega) (by rw[oG,hd]) (rR.trans rS)
   cases l with
   |nil=>exact step hx
   |cons o2 l=>
    cases sS:Lm o o2 with
    |some q=>
     obtain⟨t,xx,lo,d1⟩:=q;have hx:=hx;rw[qT.eq_def]at hx;simp only[sS]at hx;obtain⟨d,h1,n1,t1,t2,q1,q2,_⟩:=Ex.bind hx;obtain⟨c,e1,e2,e3,e4,e5,e6,e7,e8,e9,Ls⟩:=Qp7 sS;subst e9;obtain⟨y0,tj⟩:=nth 1 o2 rfl;obtain⟨v1,X',r1,r2,g',s',rfl⟩:=QAl K g (QQ he xx) (QQ he lo) q1;have hw:∀(o:Oper) (u:bY),o.guard=none->Region.wanted o (yielded ops u)=true:=fun o u hg=>by simp[Region.wanted,hg]
     rw[aE,aE,List.range'_succ,wpOpsIn_cons];unfold wpOpIn;simp only[oI,hw o _ e4,aU];refine ZD (fun c hc=>by rw[e2]at hc;cases hc) (uP (v:=v1) (w':=X.w) (by obtain⟨dst,op,ty,pos,after,guard⟩:=o;simp only at e2;subst e2;simp only[execOp,bC,Option.map_none,aG,r1,aA,aF]) ?_);rw[e3];rw[List.range'_succ,wpOpsIn_cons];unfold wpOpIn;simp only[y0,hw o2 _ e6,aU];have b1:=hb o Dk e1 e3;have RF:(a.put (some e1) v1).eval (.tmp e1)=v1:=by simp[Act.eval,Act.put,b1]
     refine ZD (fun c hc=>by rw[e5]at hc;cases hc) (uP (v:=.tuple #[]) (w':=X'.w) (by
      obtain⟨dst,op,ty,pos,after,guard⟩:=o2;obtain⟨callee,args,argTypes⟩:=c;simp only at e5 e7 e8 Ls;subst e5 e7 e8 Ls;have hbc:∀ats ty cs args,Go.builtin .clear ats ty cs args=(do pure (.value (<-Builtin.clear_ ats ty args))):=fun _ _ _ _=>rfl;simp only[execOp,resolve,aG,aF,aA,invoke,List.map_toArray,List.map_cons,List.map_nil,RF,hbc,r2 ty]) ?_)
     have hE:QB T X' n1 lim ((e1,.top)::env) (a.put (some e1) v1).tmps:=(he.step K.base s' (aq _)).put (dst:=some e1) (RO.mk (RV.top T _ _) rfl) (fun t ht=>by cases ht;exact b1);have fB:(a.put (some e1) v1).tmps.size=a.tmps.size:=(QF _ _ _).1;have vL:(a.put (some e1) v1).defers=a.defers:=(QF _ _ _).2;have rR:Kp B a.tmps (a.put (some e1) v1).tmps:=KP a _ _ (fun t ht=>by cases ht;exact hB o Dk e1 e3);generalize a.put (some e1) v1=a2 at hE fB vL rR ⊢
     have Gt:ops.toList.drop (i+1+1)=l:=by
      have:=ap (List.drop 1) me;rw[bD]at this
      simpa using this
     refine ih l (by simp at hN;omega) (i+1+1) Gt g' (hE.put (dst:=o2.dst) (d:=.cG .bN) (v:=.tuple #[]) (RO.mk (.mk rfl (.cG .iu)) rfl) (fun t ht=>by rw[fB];exact hb o2 tj t ht)) dP (fun o' gz t ht=>by rw[(QF _ _ _).1,fB];exact hb o' gz t ht) q2 fun a3 X3 g3 s3 Rx so yN y4=>?_;exact hk a3 X3 g3 (s'.trans s3 (aq _)) Rx (by rw[so,(QF _ _ _).1,fB]) (by rw[yN,(QF _ _ _).2,vL]) (rR.trans ((KP _ _ _ (fun t ht=>hB o2 tj t ht)).trans y4))
    |none=>
    cases l with
    |nil=>
     rw[qT.eq_def]at hx;simp only[sS]at hx;exact step hx
    |cons o3 l=>
     cases sW:Ll o o2 o3 with
     |none=>
      refine step ?_;rw[qT.eq_def]at hx;simp only[sS,sW]at hx;exact hx
     |some q=>
      obtain⟨t,mm,kk,v,d1,d2⟩:=q;rw[qT.eq_def]at hx;simp only[sS,sW]at hx;obtain⟨d,h1,n1,t1,t2,q1,q2,_⟩:=Ex.bind hx;have hle:=Ex.le q2;obtain⟨t3,e1,e2,e3,e4,e5,e6,e7,e8,e9,Ls,e11,e12,e13⟩:=Qp6 sW;obtain⟨y0,tj⟩:=nth 1 o2 rfl;obtain⟨Sf,Gy⟩:=nth 2 o3 rfl;obtain⟨v0,st,W1,X',r1,r2,g',s',rfl⟩:=QAn K g (t':=t3) (QQ he mm) (QQ he kk) (QQ he v) q1;have hw:∀(o:Oper) (u:bY),o.guard=none->Region.wanted o (yielded ops u)=true:=fun o u hg=>by simp[Region.wanted,hg]
      rw[aE,aE,aE,List.range'_succ,wpOpsIn_cons];unfold wpOpIn;simp only[oI,hw o _ e3,aU];refine ZD (fun c hc=>by rw[e1]at hc;cases hc) (uP (v:=.tuple #[v0,goInt st]) (w':=W1) (by obtain⟨dst,op,ty,pos,after,guard⟩:=o;simp only at e1;subst e1;simp only[execOp,aG,r1,aA,aF]) ?_);rw[e2];rw[List.range'_succ,wpOpsIn_cons];unfold wpOpIn;simp only[y0,hw o2 _ e6,aU];have b1:=hb o Dk d1 e2;have b2:=hb o2 tj d2 e5;have RF:(a.put (some d1) (.tuple #[v0,goInt st])).eval (.tmp d1)=.tuple #[v0,goInt st]:=by simp[Act.eval,Act.put,b1]
      refine ZD (fun c hc=>by rw[e4]at hc;cases hc) (uP (v:=goInt st) (w':=W1) (by obtain⟨dst,op,ty,pos,after,guard⟩:=o2;simp only at e4;subst e4;simp[execOp,Instr.extract,RF]) ?_);rw[e5];rw[List.range'_succ,wpOpsIn_cons];unfold wpOpIn;simp only[Sf,hw o3 _ e8,aU];have Rt:d2<(a.put (some d1) (.tuple #[v0,goInt st])).tmps.size:=by rw[(QF _ _ _).1];exact b2
      have Lw:((a.put (some d1) (.tuple #[v0,goInt st])).put (some d2) (goInt st)).eval (.tmp d2)=goInt st:=by
       generalize a.put (some d1) (.tuple #[v0,goInt st])=a1 at Rt ⊢;simp[Act.eval,Act.put,Rt]
      have ev3:((a.put (some d1) (.tuple #[v0,goInt st])).put (some d2) (goInt st)).eval mm=a.eval mm:=by rw[Il Ls,Il e9]
      have ev4:((a.put (some d1) (.tuple #[v0,goInt st])).put (some d2) (goInt st)).eval v=a.eval v:=by rw[Il e13,Il e12]
      refine ZD (fun c hc=>by rw[e7]at hc;cases hc) (QEy (w':=X'.w) (by obtain⟨dst,op,ty,pos,after,guard⟩:=o3;simp only at e7;subst e7;simp only[execOp,Lw,ev3,ev4,aG,r2,aA,aF]) ?_)
      have hE:QB T X' n1 lim ((d2,.top)::(d1,.top)::env) ((a.put (some d1) (.tuple #[v0,goInt st])).put (some d2) (goInt st)).tmps:=by
       have h1:QB T X' n1 lim (Ev.put env (some d1) .top) (a.put (some d1) (.tuple #[v0,goInt st])).tmps:=(he.step K.base s' (aq _)).put (RO.mk (RV.top T _ _) rfl) (fun t ht=>by cases ht;exact b1);exact h1.put (dst:=some d2) (RO.mk (RV.top T _ _) rfl) (fun t ht=>by cases ht;exact Rt)
      have fB:((a.put (some d1) (.tuple #[v0,goInt st])).put (some d2) (goInt st)).tmps.size=a.tmps.size:=by rw[(QF _ _ _).1,(QF _ _ _).1]
      have vL:((a.put (some d1) (.tuple #[v0,goInt st])).put (some d2) (goInt st)).defers=a.defers:=by rw[(QF _ _ _).2,(QF _ _ _).2]
      have rR:Kp B a.tmps ((a.put (some d1) (.tuple #[v0,goInt st])).put (some d2) (goInt st)).tmps:=(KP a _ _ (fun t ht=>by cases ht;exact hB o Dk d1 e2)).trans (KP _ _ _ (fun t ht=>by cases ht;exact hB o2 tj d2 e5));generalize (a.put (some d1) (.tuple #[v0,goInt st])).put (some d2) (goInt st)=a2 at hE fB vL rR ⊢
      have Gt:ops.toList.drop (i+1+1+1)=l:=by
       have:=ap (List.drop 2) me;rw[bD]at this
       simpa using this
      refine ih l (by simp at hN;omega) (i+1+1+1) Gt g' (hE.put (dst:=o3.dst) (d:=.cG .bN) (v:=undef) (RO.mk (.mk rfl (.cG .iu)) rfl) (fun t ht=>by rw[fB];exact hb o3 Gy t ht)) dP (fun o' gz t ht=>by rw[(QF _ _ _).1,fB];exact hb o' gz t ht) q2 fun a3 X3 g3 s3 Rx so yN y4=>?_;exact hk a3 X3 g3 (s'.trans s3 (aq _)) Rx (by rw[so,(QF _ _ _).1,fB]) (by rw[yN,(QF _ _ _).2,vL]) (rR.trans ((KP _ _ _ (fun t ht=>hB o3 Gy t ht)).trans y4))
theorem Qnc{ro:dg}{m:Nat}{call:FuncId->List (D C)->Pg C (D C)}(gN:uO P T call){ops:cO}{B:Nat->Bool}(hB:∀o∈ops.toList,∀t,o.dst=some t->B t=false)(l:fQ)(i:Nat)(hl:ops.toList.drop i=l){X:Cx}{h h':Heap C}{nx cF:Nat}{e:Pg.Lv}{lim:ek}{tr:Tr}{env cZ:Env C}{a:Act}
 (g:G T X h nx lim) (he:QB T X nx lim env a.tmps) (dP:cF<=lim.top) (hb:∀o∈ops.toList,∀t,o.dst=some t->t<a.tmps.size) (hx:Ex e (qT T call ops l env) h nx cZ h' cF tr) {Q:Exit->Act->World->Prop}
 (hk:∀a' X',G T X' h' cF lim->Step X nx lim X'->QB T X' cF lim cZ a'.tmps->a'.tmps.size=a.tmps.size->a'.defers=a.defers->Kp B a.tmps a'.tmps->Q .normal a' X'.w):wpOpsIn (ou ro) m P ops Q (List.range' i l.length) a X.w :=
 QsM K gN hB l.length l (aq _) i hl g he dP hb hx hk
end
end Go.Ev
