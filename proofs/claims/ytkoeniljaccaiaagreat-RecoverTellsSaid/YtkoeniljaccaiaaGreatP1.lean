/-
  A part of the proof of a statement of this seat: the model is run over values by content, proved sound; what the functions come to. No condition beyond the given statements. (text 2)
-/
import Derived.Test.YtkoeniljaccaiaaGreatP0
import Derived.Lib.ConvBytes
import Derived.MapKept
import Derived.Carry
import Derived.Laws.IdiomRangeMap
import Derived.OrdersIn
import Derived.RangeFuncFrom
noncomputable section
namespace Go.Ev
set_option linter.unusedVariables false
set_option linter.unusedSimpArgs false
theorem QqI(off:Nat):∀(vs:bT) (k:Nat) (cs:bT),off+k+vs.length<=cs.length ->
 (vs.zipIdx k).foldl (fun(a:b7) (x:Value×Nat)=>a.setIfInBounds (off+x.2) x.1) ⟨cs⟩=⟨cs.take (off+k)++vs++cs.drop (off+k+vs.length)⟩:=by
 intro vs
 induction vs with
 |nil=>intro k cs _;simp
 |cons v vs ih=>
  intro k cs hl;simp only[aE]at hl;simp only[List.zipIdx_cons,List.foldl_cons];have e1:(⟨cs⟩:b7).setIfInBounds (off+k) v=⟨cs.set (off+k) v⟩:=by apply Array.ext';simp
  rw[e1,ih (k+1) (cs.set (off+k) v) (by simp;omega)];have:=list_seg_step cs (off+k) v vs (by omega);rw[show off+(k+1)=off+k+1 by omega];exact ap _ this
theorem Tz(off:Nat)(v:Value)(cs:bT)(h:off+v.cells.size<=cs.length) :
 Array.foldl (fun(a:b7) (x:Value×Nat)=>a.setIfInBounds (off+x.2) x.1) (⟨cs⟩:b7) v.cells.zipIdx=⟨cs.take off++v.cells.toList++cs.drop (off+v.cells.toList.length)⟩:=by
 rw[<-Array.foldl_toList,Array.toList_zipIdx];have:=QqI off v.cells.toList 0 cs (by simpa using h)
 simpa using this
section
variable {C:ij}{P:Program}{T:fA C}(K:Zq P T)
open Pg (Ex)
variable {X:Cx}{h h':Heap C}{nx cM:Nat}{e:Pg.Lv}{lim:eL}{tr:Tr}(g:G T X h nx lim)(eA:cM<=lim.top)
theorem Yr{d:D C}{v:Value}{t:TypeId}(hd:RO T X nx lim d v):RO T X nx lim (YD T t d) v:=by
 cases d with
 |eO=>
  simp only[YD]
  split
  ·rw[hd.1.eO];exact RO.mk (.mk rfl (.li _ _ _)) rfl
  ·exact hd
 |_=>exact hd
theorem QBS{c a b d:D C}{vc va vb:Value}(hc:RO T X nx lim c vc)(ha:RO T X nx lim a va)(hb:RO T X nx lim b vb)(g:G T X h nx lim)(hx:Ex e (NY c a b) h nx d h' cM tr) :
 dz P T X nx lim h' cM d (do pure (if <-asBool vc then va else vb)):=by
 unfold NY at hx;cases c with
 |bool t=>
  simp only at hx;rw[hc.1.bool];rcases Ex.br hx with⟨rfl,hx⟩|⟨rfl,hx⟩
  ·obtain⟨rfl,rfl,rfl,rfl⟩:=Ex.ret hx;exact dz.same g va (by simp[asBool]) ha
  ·obtain⟨rfl,rfl,rfl,rfl⟩:=Ex.ret hx;exact dz.same g vb (by simp[asBool]) hb
 |_=>exact Ex.cI hx
include K g eA
theorem QqJ{t:TypeId}{d0 d:D C}{v:Value}(hv:RO T X nx lim d0 v)(hf:cZ T d0 (.inl t)=true)(hx:Ex e (.nw (.var t d0) fun id=>.ret (.ptr id [])) h nx d h' cM tr) :
 dz P T X nx lim h' cM d (do pure (.pointer (some (<-newVar t v)))):=by
 obtain⟨t1,hx,_⟩:=Ex.nw hx;obtain⟨rfl,rfl,rfl,rfl⟩:=Ex.ret hx;have hc:=hv.1.cells K hf;obtain⟨g1,s1⟩:=G.newVar K.base g (by omega) (c:=v.cells) hc hf hv.2;refine⟨.pointer (some ⟨X.w.heap.size,0,none⟩),_,?_,g1,s1,⟨.mk rfl (.ptr fun b t' hb=>?_),?_⟩⟩
 ·simp[newVar,newRow];rfl
 ·simp[Cx.newVar]at hb;obtain⟨rfl,rfl⟩:=hb;exact⟨by simp[Zr],by simp[er]⟩
 ·intro id dU;simp[D.refs]at dU;subst dU;exact g.new (by omega)
theorem Qx3{t:TypeId}{d:D C}(hx:Ex e (M7 T t) h nx d h' cM tr):dz P T X nx lim h' cM d (Instr.alloc t true (.tuple #[])):=by
 unfold M7 at hx;cases hz:T.zero t with
 |none=>rw[hz]at hx;exact Ex.cI hx
 |some z=>
  simp only[hz]at hx;cases hf:cZ T z (.inl t)with
  |false=>rw[hf]at hx;exact Ex.cI hx
  |true=>
   rw[hf]at hx;simp only[ag]at hx;obtain⟨i,v,h1,h2,h3,h4⟩:=K.zero _ _ hz;obtain⟨t1,hx,_⟩:=Ex.nw hx;obtain⟨rfl,rfl,rfl,rfl⟩:=Ex.ret hx;obtain⟨g1,s1⟩:=G.newVar K.base g (by omega) (c:=v.cells) (h4 X) hf (by simp[h3]);refine⟨.pointer (some ⟨X.w.heap.size,0,none⟩),_,?_,g1,s1,⟨.mk rfl (.ptr fun b t' hb=>?_),?_⟩⟩
   ·simp[Instr.alloc,zeroValue,typeInfo,h1,h2,newVar,newRow];rfl
   ·simp[Cx.newVar]at hb;obtain⟨rfl,rfl⟩:=hb;exact⟨by simp[Zr],by simp[er]⟩
   ·intro id dU;simp[D.refs]at dU;subst dU;exact g.new (by omega)
theorem QEr{t:TypeId}{d0 d:D C}{v:Value}(hv:RO T X nx lim d0 v)(hx:Ex e (IB T t d0) h nx d h' cM tr):dz P T X nx lim h' cM d (Instr.box t v):=by
 unfold IB at hx;cases hf:cZ T d0 (.inl t)with
 |false=>rw[hf]at hx;exact Ex.cI hx
 |true=>rw[hf]at hx;exact QqJ K g eA hv hf hx
omit eA g
theorem XB:∀(ps:List (Nat×D C)) (vs:eW) {fs:cK} {z d:D C} {cs:bT} (pl:Nat->Option (Nat×Nat)),mq z ps=some d->cZ T z (.inr fs)=true->R T X false z cs ->
 ps.length=vs.length->(∀(j:Nat) (p:Nat×D C) (q:Nat×Value),ps[j]? = some p->vs[j]? = some q->p.1=q.1/\RO T X nx lim p.2 q.2)->(∀p∈ps,cZ T p.2 (.inl (fs.getD p.1 0))=true) ->
 (∀i,i<fs.length->pl i=some (Zl T (fs.take i),T.size (fs.getD i 0))) ->
 ∃ds,Instr.fill pl ⟨cs⟩ vs=some ⟨ds⟩/\R T X false d ds/\∀r∈d.refs,r∈z.refs\/fL nx lim r:=by
 intro ps
 induction ps with
 |nil=>
  intro vs fs z d cs pl iH hf hz dc _ _ _;simp[mq]at iH;subst iH;cases vs with
  |nil=>exact⟨cs,rfl,hz,fun r hr=>.inl hr⟩
  |cons=>simp at dc
 |cons p ps ih=>
  intro vs fs z d cs pl iH hf hz dc oD hpf rY;obtain⟨i,x⟩:=p;cases vs with
  |nil=>simp at dc
  |cons q vs=>
   obtain⟨i',v⟩:=q;have h0:=oD 0 (i,x) (i',v) rfl rfl;obtain⟨rfl,hv⟩:=h0;simp only[mq]at iH;cases hs:z.gS i x with
   |none=>rw[hs]at iH;simp at iH
   |some z'=>
    simp only[hs]at iH;have jf:=hpf (i,x) (by simp);have rB:=hv.1.cells K jf;obtain⟨c1,c2,c3,hc,hl,jY,hi,hr,H6⟩:=hz.qU K.base hf hs rB jf;obtain⟨ds,qL,qQ,ql⟩:=ih vs pl iH H6 hr (by simpa using dc) (fun j p q hp hq=>oD (j+1) p q (by simpa using hp) (by simpa using hq)) (fun p hp=>hpf p (by simp[hp])) rY;refine⟨ds,?_,qQ,fun r fT=>?_⟩
    ·have fN:=rB.len K.base jf;have ma:v.cells.size=T.size (fs.getD i 0):=by simpa using fN
     simp only[Instr.fill,rY i hi]
     have hle:¬(v.cells.size≠T.size (fs.getD i 0)||decide (Zl T (fs.take i)+v.cells.size>(⟨cs⟩:b7).size))=true:=by
      simp only[ma,ne_eq,not_true_eq_false,aW,Bool.false_or,aa,Nat.not_lt];simp only[List.size_toArray,hc,aC,hl];have:c2.length=T.size (fs.getD i 0):=by rw[jY];simpa using ma
      omega
     rw[aw hle]
     have:(Array.foldl (fun cs x=>cs.setIfInBounds (Zl T (List.take i fs)+x.2) x.1) (⟨cs⟩:b7) v.cells.zipIdx)=⟨c1++v.cells.toList++c3⟩:=by
      rw[Tz _ _ _ (by
       simp only[hc,aC];have:c2.length=v.cells.size:=by simpa using jY
       omega)]
      have:=Gi [] c1 c2 c3 [] v.cells.toList jY;simp only[aH,aR,bH,aN]at this;rw[hc,<-hl,this]
     rw[this];exact qL
    ·rcases ql r fT with h1|h1
     ·rcases mD _ _ _ _ hs r h1 with h2|h2
      ·exact .inl h2
      ·exact .inr (hv.2 r h2)
     ·exact .inr h1
theorem XC:∀(ps:List (Nat×D C)) (vs:eW) {ty:C.Ty} {l l':List (C.A ty)} {n:Nat} {cs:bT},v9 T l ps=some l'->R T X false (.arr ty n l) cs ->
 ps.length=vs.length->(∀(j:Nat) (p:Nat×D C) (q:Nat×Value),ps[j]? = some p->vs[j]? = some q->p.1=q.1/\RO T X nx lim p.2 q.2) ->
 ∃ds,Instr.fill (fun i=>some (i*T.size (T.dG ty),T.size (T.dG ty))) ⟨cs⟩ vs=some ⟨ds⟩/\R T X false (.arr ty n l') ds:=by
 intro ps
 induction ps with
 |nil=>
  intro vs ty l l' n cs iH hz dc _;simp[v9]at iH;subst iH;cases vs with
  |nil=>exact⟨cs,rfl,hz⟩
  |cons=>simp at dc
 |cons p ps ih=>
  intro vs ty l l' n cs iH hz dc oD;obtain⟨i,x⟩:=p;cases vs with
  |nil=>simp at dc
  |cons q vs=>
   obtain⟨i',v⟩:=q;have h0:=oD 0 (i,x) (i',v) rfl rfl;obtain⟨rfl,hv⟩:=h0;simp only[v9]at iH;cases hb:cZ T x (.inl (T.dG ty))&&Nat.blt i l.length with
   |false=>rw[hb]at iH;simp at iH
   |true=>
    rw[hb]at iH;simp only[ag]at iH;simp only[ai,Nat.blt_eq]at hb;cases hd:T.dec ty x with
    |none=>rw[hd]at iH;simp at iH
    |some y=>
     simp only[hd]at iH;have rB:=hv.1.cells K hb.1;have PW:=K.base.mH X ty _ _ _ hd rB;have o6:=(hz.gE K.base).2;obtain⟨c1,c2,c3,hc,hl,jY,hr⟩:=hz.oN K.base i y (by omega) PW;obtain⟨ds,qL,qQ⟩:=ih vs iH hr (by simpa using dc) (fun j p q hp hq=>oD (j+1) p q (by simpa using hp) (by simpa using hq));refine⟨ds,?_,qQ⟩;have fN:=rB.len K.base hb.1;have ma:v.cells.size=T.size (T.dG ty):=by simpa using fN
     simp only[Instr.fill];have uV:c2.length=v.cells.size:=by simpa using jY
     have hle:¬(v.cells.size≠T.size (T.dG ty)||decide (i*T.size (T.dG ty)+v.cells.size>(⟨cs⟩:b7).size))=true:=by
      simp only[ma,ne_eq,not_true_eq_false,aW,Bool.false_or,aa,Nat.not_lt];simp only[List.size_toArray,hc,aC,hl];omega
     rw[aw hle];rw[Tz _ _ _ (by simp only[hc,aC];omega)];have:=Gi [] c1 c2 c3 [] v.cells.toList jY;simp only[aH,aR,bH,aN]at this;rw[hc,<-hl,this];exact qL
omit K g in
theorem QqK{x:D C}{v:Value}{t:TypeId}(h:RV T X x v)(fU:x.dA=false)(hf:cZ T x (.inl t)=true):v.cells = #[v]:=by
 have hR:=h.one fU;cases x<;>simp[D.dA]at fU<;>cases hR<;>first|rfl|(simp[cZ]at hf)
omit K g in
theorem Qx4{el:TypeId}(h1:∀d:D C,cZ T d (.inl el)=true->d.dA=false):∀(ps:List (Nat×D C)) (vs:eW) (i n:Nat) (cs:bT),tL i n ps=true->cs.length=n ->
 (ps.all fun p=>cZ T (YD T el p.2) (.inl el))=true->ps.length=vs.length->(∀(j:Nat) (p:Nat×D C) (q:Nat×Value),ps[j]? = some p->vs[j]? = some q->p.1=q.1/\RO T X nx lim p.2 q.2) ->
 ∃us,Instr.fill (fun i=>some (i*1,1)) ⟨cs⟩ vs=some ⟨cs.take i++us⟩/\iu T X (ps.map fun p=>YD T el p.2) us/\i+us.length=n:=by
 intro ps
 induction ps with
 |nil=>
  intro vs i n cs hs hl _ dc _;cases vs with
  |cons=>simp at dc
  |nil=>
   have hi:i=n:=az hs;refine⟨[],?_,.nil,by simpa using hi⟩;simp[Instr.fill,List.take_of_length_le (show cs.length<=i by omega)]
 |cons p ps ih=>
  intro vs i n cs hs hl hf dc oD;obtain⟨j,x⟩:=p;cases vs with
  |nil=>simp at dc
  |cons q vs=>
   obtain⟨j',v⟩:=q;obtain⟨rfl,hv⟩:=oD 0 (j,x) (j',v) rfl rfl;simp only[tL,ai,Nat.blt_eq]at hs;obtain⟨⟨hj,iY⟩,hs⟩:=hs;have hj:j=i:=az hj;subst hj;simp only[List.all_cons,ai]at hf;have hv':RV T X (YD T el x) v:=(Yr hv).1;have fU:=h1 _ hf.1;have wI:=QqK hv' fU hf.1;obtain⟨us,e1,e2,e3⟩:=ih vs (j+1) n (cs.set j v) hs (by simpa using hl) hf.2 (by simpa using dc) (fun k p q hp hq=>oD (k+1) p q (by simpa using hp) (by simpa using hq));refine⟨v::us,?_,.cons hv' e2,by simp;omega⟩;simp only[Instr.fill,wI];rw[aw (by simp;omega)]
   have e0:(Array.foldl (fun cs x=>cs.setIfInBounds (j+x.2) x.1) (⟨cs⟩:b7) (#[v].zipIdx))=⟨cs.set j v⟩:=by
    show Array.foldl _ _ #[(v,0)]=_;simp
   simp only[Nat.mul_one]at e1 ⊢;rw[e0,e1]
   have:(cs.set j v).take (j+1)=cs.take j++[v]:=by
    rw[List.take_add_one,List.take_set_of_le (aq _)];simp[List.getElem?_set,hl,iY]
   rw[this,ay];rfl
omit K g in
theorem Qj7{l:List (D C)}(h:∀d∈l,d.dA=false):(D.ofList l).hQ=true:=by
 induction l with
 |nil=>rfl
 |cons d l ih=>simp[D.ofList,D.hQ,h d (by simp),ih fun d hd=>h d (by simp[hd])]
omit K in
theorem R.Rb{ty:C.Ty}{x:C.A ty}{cs:bT}(h:R T X false (T.enc ty x) cs):∀n,R T X false (.arr ty n (List.replicate n x)) (List.replicate n cs).flatten:=by
 intro n
 induction n with
 |zero=>exact .iK ty
 |succ n ih=>simpa[List.replicate_succ]using R.jz h ih
omit K in
theorem Gk(z:b7)(hz:0<z.size):∀n,((Array.range (n*z.size)).map fun i=>z[i%z.size]!).toList=(List.replicate n z.toList).flatten:=by
 intro n
 induction n with
 |zero=>simp
 |succ n ih=>
  have e1:Array.range ((n+1)*z.size)=Array.range (n*z.size)++(Array.range z.size).map (n*z.size + ·):=by
   apply Array.ext';simp[Array.toList_range,Nat.add_mul,List.range_add]
  rw[e1,Array.map_append,Array.toList_append,ih]
  have e2:(((Array.range z.size).map (n*z.size + ·)).map fun i=>z[i%z.size]!).toList=z.toList:=by
   apply List.ext_getElem?;intro j;simp only[Array.toList_map,Array.toList_range,bB]
   by_cases hj:j<z.size
   ·have hm:(n*z.size+j)%z.size=j:=by rw[Nat.add_comm,Nat.add_mul_mod_self_right,Nat.mod_eq_of_lt hj]
    simp[List.getElem?_range hj,hm,hj]
   ·simp[hj]
  rw[e2]
  have e3:(List.replicate (n+1) z.toList).flatten=(List.replicate n z.toList).flatten++z.toList:=by
   rw[List.replicate_succ',List.flatten_append];simp
  rw[e3]
include g in
theorem Qx5{t:TypeId}{ps:List (Nat×D C)}{vs:eW}{d:D C}(dc:ps.length=vs.length)
 (oD:∀(j:Nat) (p:Nat×D C) (q:Nat×Value),ps[j]? = some p->vs[j]? = some q->p.1=q.1/\RO T X nx lim p.2 q.2) (hx:Ex e (M1 T t ps) h nx d h' cM tr) :
 dz P T X nx lim h' cM d (Instr.build t ⟨vs⟩):=by
 have yP:∀(f:Nat->TypeId) (j:Nat) (p:Nat×D C) (q:Nat×Value),(ps.map fun p=>(p.1,YD T (f p.1) p.2))[j]? = some p->vs[j]? = some q->p.1=q.1/\RO T X nx lim p.2 q.2:=by
  intro f j p q hp hq;rw[bB,Option.map_eq_some_iff]at hp;obtain⟨p',yG,rfl⟩:=hp;have:=oD j p' q yG hq;exact⟨this.1,Yr this.2⟩
 unfold M1 at hx;cases ht:T.ty t with
 |struct nX fs=>
  cases hz:T.zero t with
  |none=>rw[ht,hz]at hx;exact Ex.cI hx
  |some z=>
   simp only[ht,hz]at hx;cases hb:cZ T z (.inl t)&&ps.all (fun p=>cZ T (YD T (fs.getD p.1 0) p.2) (.inl (fs.getD p.1 0)))with
   |false=>rw[hb]at hx;exact Ex.cI hx
   |true=>
    rw[hb]at hx;obtain⟨iH,rfl,rfl,rfl⟩:=Ex.jZ hx;simp only[ai,aX]at hb;obtain⟨it,zv,hi,CO,pQ,Im⟩:=K.zero _ _ hz
    have hac:∃a b,z=.bI a b:=by
     have:=hb.1;cases z<;>simp[cZ,ht]at this
     ·cases fs with
      |nil=>
       have:=K.base.pos t (fun h=>by simp[ht]at h);rw[K.base.jN _ _ _ ht]at this;simp[Zl]at this
      |cons=>simp at this
     ·exact⟨_,_,rfl⟩
    have CB:cZ T z (.inr fs)=true:=by rw[<-Dx ht hac];exact hb.1
    have EL:∃ds,P.built t vs=some ⟨ds⟩/\R T X false d ds/\∀r∈d.refs,r∈z.refs\/fL cM lim r:=by
     cases nX with
     |true=>
      obtain⟨el,hu,_,H9,htk⟩:=IJ K ht;obtain⟨OM,PS,_,_,ie,rp,EO⟩:=K.qC _ _ ht;have Pd:OM=el:=by rw[hu]at PS;simp at PS;exact PS.symm
      subst Pd
      obtain⟨ds,qL,qQ,ql⟩:=XB K (ps.map fun p=>(p.1,YD T (fs.getD p.1 0) p.2)) vs (fs:=fs) (fun x=>some (x*T.size OM,T.size OM)) iH CB (Im X) (by simpa using dc)
       (yP fun i=>fs.getD i 0) (by
        intro p hp;rw[List.mem_map]at hp;obtain⟨p',yG,rfl⟩:=hp;exact hb.2 p' yG) (by
        intro i hi;rw[htk i (by omega),H9 i hi])
      refine⟨ds,?_,qQ,ql⟩;unfold Program.built;simp only[hi,hu,CO,rp,EO];exact qL
     |false=>
      obtain⟨db,hu,hm,ho,_⟩:=K.kA _ _ ht
      have fN:∀f∈fs,(P.info? f).map (·.size)=some (T.size f):=by
       intro f hf;obtain⟨i,h1,h2,_⟩:=K.qB _ _ _ ht hf;simp[h1,h2]
      have rY:db.toList.mapM (fun f=>(P.info? f.type).map fun i=>(f.offset,i.size))=some (db.toList.map fun f=>(f.offset,T.size f.type)):=by
       have:∀fl:List Field,(∀f∈fl,f.type∈fs)->fl.mapM (fun f=>(P.info? f.type).map fun i=>(f.offset,i.size))=some (fl.map fun f=>(f.offset,T.size f.type)):=by
        intro fl
        induction fl with
        |nil=>intro _;rfl
        |cons f fl ih=>
         intro iH;have h1:=fN f.type (iH f (by simp));rw[Option.map_eq_some_iff]at h1;obtain⟨i,h1,h2⟩:=h1;simp[List.mapM_cons,h1,h2,ih (fun q hq=>iH q (by simp[hq]))]
       refine this _ (fun f hf=>?_);rw[<-hm];exact List.mem_map.2 ⟨f,hf,rfl⟩
      obtain⟨ds,qL,qQ,ql⟩:=XB K (ps.map fun p=>(p.1,YD T (fs.getD p.1 0) p.2)) vs (fs:=fs) (fun x=>(db.toList.map fun f=>(f.offset,T.size f.type)).toArray[x]?) iH CB (Im X) (by simpa using dc)
       (yP fun i=>fs.getD i 0) (by
        intro p hp;rw[List.mem_map]at hp;obtain⟨p',yG,rfl⟩:=hp;exact hb.2 p' yG) (by
        intro i hi;have h1:(db.toList.map (·.type))[i]? = some (fs.getD i 0):=by rw[hm];simp[hi]
        rw[bB,Option.map_eq_some_iff]at h1;obtain⟨f,hf,yo⟩:=h1;have h2:=ho i f (by simpa using hf);simp only[List.getElem?_toArray,bB,hf,bC,h2,yo])
      refine⟨ds,?_,qQ,ql⟩;unfold Program.built;simp only[hi,hu,CO,rY];exact qL
    obtain⟨ds,O6,qQ,ql⟩:=EL
    have fU:d.dA=true:=by
     have:cZ T d (.inr fs)=true\/True:=.inr trivial
     have h2:∀(l:List (Nat×D C)) (z d:D C),(∃a b,z=.bI a b)->mq z l=some d->∃a b,d=.bI a b:=by
      intro l
      induction l with
      |nil=>intro z d hz hd;simp[mq]at hd;exact hd▸hz
      |cons p l ih=>
       intro z d hz hd;simp only[mq]at hd;cases hs:z.gS p.1 p.2 with
       |none=>rw[hs]at hd;simp at hd
       |some z'=>simp only[hs]at hd;exact ih z' d (Tv hs).2 hd
     obtain⟨a,b,rfl⟩:=h2 _ _ _ hac iH;rfl
    refine dz.same g (.agg ⟨ds⟩) (run_build X.w t _ _ O6) ⟨.inl ⟨fU,ds,qQ,rfl⟩,fun r hr=>?_⟩;rcases ql r hr with h1|h1
    ·rw[pQ]at h1;simp at h1
    ·exact h1
 |arr n el ty=>
  cases hz:T.zero t with
  |none=>rw[ht,hz]at hx;exact Ex.cI hx
  |some z=>
   cases z with
   |arr jn m l=>
    simp only[ht,hz]at hx
    by_cases jg:jn=ty
    ·subst jg;simp only[dite_true]at hx;cases iH:v9 T l (ps.map fun p=>(p.1,YD T el p.2))with
     |none=>rw[iH]at hx;exact Ex.cI hx
     |some l'=>
      simp only[iH]at hx;cases hn:Nat.beq n m with
      |false=>rw[hn]at hx;exact Ex.cI hx
      |true=>
       rw[hn]at hx;obtain⟨rfl,rfl,rfl,rfl⟩:=Ex.ret hx;have hn:=az hn;subst hn;obtain⟨it,zv,hi,CO,_,Im⟩:=K.zero _ _ hz;obtain⟨ds,qL,qQ⟩:=XC K _ vs iH (Im X) (by simpa using dc) (yP fun _=>el);obtain⟨ie,_,h1,h2,_⟩:=K.ll _ _ _ (.inl ⟨_,ht⟩);have mV:=(K.base.lj _ _ _ _ ht).2.2
       have O6:P.built t vs=some ⟨ds⟩:=by
        unfold Program.built;simp only[hi,(K.nZ _ _ _ _ ht).1,CO,h1,h2,mV];exact qL
       exact dz.same g (.agg ⟨ds⟩) (run_build X.w t _ _ O6) (RO.mk (.inl ⟨rfl,ds,qQ,rfl⟩) rfl)
    ·simp only[jg,dite_false]at hx;exact Ex.cI hx
   |_=>rw[ht,hz]at hx;exact Ex.cI hx
 |_=>rw[ht]at hx;exact Ex.cI hx
include g in
theorem Qgy{t:TypeId}{n:Nat}{ps:List (Nat×D C)}{vs:eW}{d:D C}(dc:ps.length=vs.length)
 (oD:∀(j:Nat) (p:Nat×D C) (q:Nat×Value),ps[j]? = some p->vs[j]? = some q->p.1=q.1/\RO T X nx lim p.2 q.2) (hx:Ex e (Kz T t n ps) h nx d h' cM tr) :
 dz P T X nx lim h' cM d (Instr.buildSlice t n ⟨vs⟩):=by
 unfold Kz at hx;cases ht:T.ty t with
 |sl el ty=>
  simp only[ht]at hx;cases iH:v9 T (List.replicate n (T.fh ty)) (ps.map fun p=>(p.1,YD T el p.2))with
  |none=>rw[iH]at hx;exact Ex.cI hx
  |some l=>
   simp only[iH]at hx;cases hb:Nat.ble (n*T.size el) 16777216 with
   |false=>rw[hb]at hx;exact Ex.cI hx
   |true=>
    rw[hb]at hx;obtain⟨rfl,rfl,rfl,rfl⟩:=Ex.ret hx;have hb:=Nat.le_of_ble_eq_true hb;obtain⟨ie,z,h1,h2,_,_,h3,h4,h5,h6⟩:=K.ll _ _ _ (.inr ht);have mV:=(K.base.mP _ _ _ ht).2.2;have CN:=R.Rb (h6 X) n;have tg:=Gk z.cells (by omega) n;rw[h5]at tg;rw[<-tg]at CN
    obtain⟨ds,qL,qQ⟩:=XC K _ vs iH CN (by simpa using dc) (by
     intro j p q hp hq;rw[bB,Option.map_eq_some_iff]at hp;obtain⟨p',yG,rfl⟩:=hp;have:=oD j p' q yG hq;exact⟨this.1,Yr this.2⟩)
    have CE:=(qQ.gE K.base).2;obtain⟨g1,s1,f1⟩:=G.data K.base g ⟨ds⟩ el;refine⟨.slice (some ⟨X.w.heap.size,0,none⟩) n n,⟨X.w.alloc (.cells ⟨ds⟩ el),X.ρ,X.O⟩,?_,g1,s1,RO.mk (.mk rfl ?_) rfl⟩
    ·have CG:¬(n*T.size el>2^24):=by omega
     simp only[Instr.buildSlice,aG,aB (K.oT _ _ _ ht),aA,sizeOf,typeInfo,run_program,h1,aF,Sem.run_ite,h2,CG,aL];rw[<-mV]at qL
     by_cases h0:n*T.size el=0
     ·have wN:n=0:=by
       rcases Nat.mul_eq_zero.1 h0 with h|h
       ·exact h
       ·omega
      subst wN;simp only[Nat.zero_mul,Array.range_zero',Array.map_empty,aU,aF,aA]at qL ⊢;rw[qL];simp[newRow]
     ·simp only[h0,aL,zeroValue,typeInfo,aG,run_program,aA,h1,aF,h4,h5];have yj:Instr.fill (fun i=>some (i*T.size el,T.size el)) (Array.map (fun x=>z.cells[x%T.size el]!) (Array.range (n*T.size el))) vs=some ⟨ds⟩:=qL;rw[yj];simp[newRow]
    ·have:=R.sl (X:=⟨X.w.alloc (.cells ⟨ds⟩ el),X.ρ,X.O⟩) (T:=T) (t:=ty) (cap:=true) (l:=l) (b:=X.w.heap.size) (off:=0) (cp:=l.length) (cs:=ds) (fun j v hj=>⟨by
      simp only[World.cell?,Zf,aN];simpa using hj,by simpa using f1 j⟩) (by rw[CE];exact qQ.step K.base s1 (by simp[D.refs])) (aq _) (fun _=>rfl)
     rw[CE]at this;exact this
 |fY el=>
  simp only[ht]at hx;cases hb:(tL 0 n ps&&Nat.ble n 16777216&&ps.all fun p=>cZ T (YD T el p.2) (.inl el))with
  |false=>rw[hb]at hx;exact Ex.cI hx
  |true=>
   rw[hb]at hx;obtain⟨rfl,rfl,rfl,rfl⟩:=Ex.ret hx;simp only[ai]at hb;obtain⟨⟨b1,b2⟩,b3⟩:=hb;have b2:=Nat.le_of_ble_eq_true b2;obtain⟨hu,fU,i,z,hi,hs,hz,Io,_⟩:=K.qA _ _ ht;obtain⟨us,e1,e2,e3⟩:=Qx4 (X:=X) fU ps vs 0 n ((List.replicate n z.cells.toList).flatten) b1 (by simp[Io]) b3 dc oD;simp only[List.take_zero,aH,aN]at e1 e3;obtain⟨g1,s1,f1⟩:=G.data K.base g ⟨us⟩ el
   have hrefs:∀r∈(D.ofList (ps.map fun p=>YD T el p.2)).refs,fL cM lim r:=by
    have:∀(ps:List (Nat×D C)) (vs:eW),ps.length=vs.length->(∀(j:Nat) (p:Nat×D C) (q:Nat×Value),ps[j]? = some p->vs[j]? = some q->p.1=q.1/\RO T X cM lim p.2 q.2) ->
     ∀r∈(D.ofList (ps.map fun p=>YD T el p.2)).refs,fL cM lim r:=by
     intro ps
     induction ps with
     |nil=>intro vs _ _ r hr;simp[D.ofList,D.refs]at hr
     |cons p ps ih=>
      intro vs hl oD r hr;cases vs with
      |nil=>simp at hl
      |cons q vs=>
       simp only[List.map_cons,D.ofList,D.refs,aT]at hr;rcases hr with hr|hr
       ·exact(Yr (oD 0 p q rfl rfl).2).2 r hr
       ·exact ih vs (by simpa using hl) (fun k p q hp hq=>oD (k+1) p q (by simpa using hp) (by simpa using hq)) r hr
    exact this ps vs dc oD
   refine⟨.slice (some ⟨X.w.heap.size,0,none⟩) n n,⟨X.w.alloc (.cells ⟨us⟩ el),X.ρ,X.O⟩,?_,g1,s1,⟨.mk rfl ?_,by simpa[D.refs]using hrefs⟩⟩
   ·have CG:¬(n*i.size>2^24):=by rw[hs];omega
    have tg:=Gk z.cells (by omega) n;rw[Io]at tg;simp only[Instr.buildSlice,aG,aB hu,aA,sizeOf,typeInfo,run_program,hi,aF,Sem.run_ite,CG,aL];rw[hs]
    by_cases h0:n*1=0
    ·have wN:n=0:=by omega
     subst wN;simp only[Nat.zero_mul,Array.range_zero',Array.map_empty,aU,aF,aA,bF,List.flatten_nil]at e1 ⊢;rw[e1];simp[newRow]
    ·simp only[h0,aL,zeroValue,typeInfo,aG,run_program,aA,hi,aF,hz,Io]
     have yj:Instr.fill (fun i=>some (i*1,1)) (Array.map (fun x=>z.cells[x%1]!) (Array.range (n*1))) vs=some ⟨us⟩:=by
      rw[<-e1,<-tg]
     rw[yj];simp[newRow]
   ·refine .fY (b:=X.w.heap.size) (off:=0) (cs:=us) (fun j v hj=>⟨?_,by simpa using f1 j⟩) ((e2.row T).step K.base s1 hrefs) (Nat.le_of_eq e3.symm) (Qj7 ?_) ⟨aq _,fun _=>⟨rfl,e3⟩⟩
    ·simp only[World.cell?,Zf,aN];simpa using hj
    ·intro d hd;obtain⟨p,hp,rfl⟩:=List.mem_map.1 hd;exact fU _ (aX.1 b3 p hp)
 |_=>rw[ht]at hx;exact Ex.cI hx
end
theorem QqL(n:Nat):∀(r c:Nat),Builtin.growBy n r c<=max c (n+(n+768)/4):=by
 intro r
 induction r with
 |zero=>intro c;simp[Builtin.growBy];omega
 |succ r ih=>
  intro c;simp only[Builtin.growBy]
  split
  ·omega
  ·have:=ih (c+(c+768)/4);omega
theorem QoG(n c:Nat)(h:c<n):Builtin.nextslicecap n c<=2*n+192:=by
 unfold Builtin.nextslicecap
 split
 ·omega
 ·split
  ·omega
  ·have:=QqL n 4 c;omega
theorem J5(n c b:Nat)(h:c<n)(hb:n*b<=1099511627776):Builtin.nextslicecap n c*b<=281474976710656:=by
 have h1:=QoG n c h;have h2:Builtin.nextslicecap n c*b<=(2*n+192)*b:=Nat.mul_le_mul_right _ h1;have h3:(2*n+192)*b=2*(n*b)+192*b:=by rw[Nat.add_mul,Nat.mul_assoc]
 have h4:b<=n*b:=Nat.le_mul_of_pos_left _ (by omega);omega
theorem J6(w:World)(Ft fL:Nat)(e:TypeId):Ft<=grownCap w Ft fL e:=by
 unfold grownCap Question.cut;simp
section
variable {C:ij}{P:Program}{T:fA C}(K:Zq P T)
open Pg (Ex)
variable {X:Cx}{h h':Heap C}{nx cM:Nat}{e:Pg.Lv}{lim:eL}{tr:Tr}(g:G T X h nx lim)(eA:cM<=lim.top)
def lO(T:fA C)(X:Cx)(nx:Nat)(lim:eL):Option (D C)->eG->Prop
 |none,none=>True
 |some d,some v=>RO T X nx lim d v
 |_,_=>False
theorem Ca{o:Option (D C)}{v:eG}{n a:Int}(h:lO T X nx lim o v)(ha:k9 o n=some a):(o=none/\v=none/\a=n)\/(o.isSome=true/\∃k,v=some (.int k a)):=by
 cases o with
 |none=>
  cases v with
  |none=>simp[k9]at ha;exact .inl ⟨rfl,rfl,ha.symm⟩
  |some=>simp[lO]at h
 |some d=>
  cases v with
  |none=>simp[lO]at h
  |some v=>
   cases d<;>simp[k9]at ha
   subst ha;exact .inr ⟨rfl,_,ap some h.1.int.1⟩
theorem Q4(k:IntKind)(i:Int)(y:Nat)(code:BoundsCode)(h0:0<=i)(h1:i<=y)(w:World):(Instr.sliceBound (.int k i) y code).run P w=.ok i.toNat w:=by
 simp[Instr.sliceBound,asIntOf,h0,h1]
include K g
theorem Sh{t el:TypeId}{ty:C.Ty}(ht:T.ty t=.sl el ty){cap:Bool}{l:List (C.A ty)}{d:D C}{v:Value}{lo hi mx:Option (D C)}{lN mG mR:eG}(hv:R T X false (.sl ty cap l) [v])
 (gk:lO T X nx lim lo lN) (nL:lO T X nx lim hi mG) (nM:lO T X nx lim mx mR) (hx:Ex e (uP cap l lo hi mx) h nx d h' cM tr):dz P T X nx lim h' cM d (Instr.sliceAt t v lN mG mR):=by
 unfold uP at hx;cases ha:k9 lo 0 with
 |none=>rw[ha]at hx;exact Ex.cI hx
 |some a=>
  cases hb:k9 hi l.length with
  |none=>rw[ha,hb]at hx;exact Ex.cI hx
  |some b=>
   simp only[ha,hb]at hx;have hu:=K.oT _ _ _ ht;have hs:=ZA K (.inr ht) X.w;have qa:=Ca gk ha;have qb:=Ca nL hb
   -- Rx is cut
   have fin:∀(c2:Bool) (m:Nat),0<=a->a<=b->b<=l.length->b.toNat<=m->(c2=true->m=b.toNat) ->
    ∀(ao:dN) (cp:Nat),v=.slice ao l.length cp->(m=cp\/m=b.toNat)->R T X false (.sl ty c2 ((l.take b.toNat).drop a.toNat)) [.slice (if m=a.toNat then ao else ao.map (·.add (a.toNat*T.size el))) (b.toNat-a.toNat) (m-a.toNat)]:=by
    intro c2 m h0 h1 h2 h3 h4 ao cp Fi h5;subst Fi;have dc:((l.take b.toNat).drop a.toNat).length=b.toNat-a.toNat:=by simp;omega
    cases hv with
    |li=>
     simp only[bH]at h2;have e1:a.toNat=0:=by omega
     have e2:b.toNat=0:=by omega
     rw[e1,e2]at *
     have e3:m=0:=by omega
     subst e3
     simpa using R.li ty c2 ao
    | @sl _ _ _ b0 off _ cs jq hr hc kZ=>
     obtain⟨c1,wE,wI,yB,gn,_⟩:=hr.jF K.base b.toNat (by omega);obtain⟨d1,d2,mI,u9,_,kK⟩:=gn.jF K.base a.toNat (by omega);rw[<-dc]
     by_cases hm:m=a.toNat
     ·have hz:(l.take b.toNat).drop a.toNat=[]:=List.length_eq_zero_iff.1 (by omega);rw[ax hm,hz];exact .sl (cs:=[]) (fun j v hj=>by simp at hj) (by simpa using R.iK ty) (by simp) (fun uV=>by have:=h4 uV;simp;omega)
     ·rw[aw hm];simp only[bC,Addr.add_lit];refine .sl (cs:=d2) (fun j v hj=>?_) (by rw[dc];exact kK) (by omega) (fun uV=>by have:=h4 uV;omega);rw[hs.2.1,<-u9,Nat.add_assoc];refine jq _ v ?_;rw[wI,mI,ay,List.getElem?_append_right (by omega)];rw[show d1.length+j-d1.length=j by omega,List.getElem?_append_left (av.1 hj).1];exact hj
   have nV:∃ao cp,v=.slice ao l.length cp/\l.length<=cp/\(cap=true->cp=l.length):=by
    cases hv with
    |li=>exact⟨_,0,rfl,by simp,fun _=>by simp⟩
    |sl jq hr hc kZ=>exact⟨_,_,rfl,hc,kZ⟩
   obtain⟨ao,cp,rfl,nK,kZ⟩:=nV;cases mx with
   |none=>
    cases mR with
    |some=>simp[lO]at nM
    |none=>
     have hx:Ex e (.br (decide (0<=a/\a<=b/\b<=l.length)) (.ret (.sl ty (cap&&hi.isNone) ((l.take b.toNat).drop a.toNat))) .fail) h nx d h' cM tr:=by
      cases hi with
      |none=>
       simp only[k9,aD]at hb;subst hb;have e1:decide (0<=a/\a<=(l.length:Int)/\(l.length:Int)<=l.length)=decide (0<=a/\a<=(l.length:Int)):=by simp
       have e2:l.take ((l.length:Int)).toNat=l:=by simp
       simpa only[e1,e2,Option.isNone_none,Bool.and_true]using hx
      |some q=>simpa using hx
     rcases Ex.br hx with⟨hc,hx⟩|⟨_,hx⟩
     ·obtain⟨rfl,rfl,rfl,rfl⟩:=Ex.ret hx;have hc:0<=a/\a<=b/\b<=l.length:=by simpa using hc
      have hR:=fin (cap&&hi.isNone) cp hc.1 hc.2.1 hc.2.2 (by omega) (by
       intro h1;simp only[ai,Option.isNone_iff_eq_none]at h1;rcases qb with⟨_,_,rfl⟩|⟨h2,_⟩
       ·have:=kZ h1.1;omega
       ·rw[h1.2]at h2;simp at h2) ao cp rfl (.inl rfl)
      have pw:(Instr.sliceBounds true l.length cp lN mG none).run P X.w=.ok (a.toNat,b.toNat,cp) X.w:=by
       rcases qa with⟨_,rfl,rfl⟩|⟨_,k,rfl⟩<;>rcases qb with⟨_,rfl,rfl⟩|⟨_,k2,rfl⟩
       ·simp[Instr.sliceBounds]
       ·simp[Instr.sliceBounds,Q4 k2 b cp _ (by omega) (by omega)]
       ·simp[Instr.sliceBounds,Q4 k a l.length _ (by omega) (by omega)]
       ·simp[Instr.sliceBounds,Q4 k2 b cp _ (by omega) (by omega),Q4 k a b.toNat _ (by omega) (by omega)]
      refine dz.same g _ ?_ (RO.mk (.mk rfl hR) rfl);simp only[Instr.sliceAt,Instr.slice,aG,aB hu,aA,pw,hs.1,aF]
     ·exact Ex.cI hx
   |some dm=>
    cases mR with
    |none=>simp[lO]at nM
    |some vm=>
     cases dm with
     |int km m=>
      simp only at hx;cases Ia:hi.isSome with
      |false=>rw[Ia]at hx;exact Ex.cI hx
      |true=>
       rw[Ia]at hx;simp only[ag]at hx;rcases Ex.br hx with⟨hc,hx⟩|⟨_,hx⟩
       ·obtain⟨rfl,rfl,rfl,rfl⟩:=Ex.ret hx;have hc:0<=a/\a<=b/\b<=l.length/\m=b:=by simpa using hc
        obtain⟨h1,h2,h3,rfl⟩:=hc;obtain⟨rfl,_⟩:=nM.1.int;rcases qb with⟨hn,_⟩|⟨_,k2,rfl⟩
        ·rw[hn]at Ia;simp at Ia
        ·have hR:=fin true m.toNat h1 h2 h3 (by omega) (fun _=>rfl) ao cp rfl (.inr rfl)
         have pw:(Instr.sliceBounds true l.length cp lN (some (.int k2 m)) (some (.int km m))).run P X.w=.ok (a.toNat,m.toNat,m.toNat) X.w:=by
          rcases qa with⟨_,rfl,rfl⟩|⟨_,k,rfl⟩
          ·simp[Instr.sliceBounds,Q4 km m cp _ (by omega) (by omega),Q4 k2 m m.toNat _ (by omega) (by omega)]
          ·simp[Instr.sliceBounds,Q4 km m cp _ (by omega) (by omega),Q4 k2 m m.toNat _ (by omega) (by omega),Q4 k a m.toNat _ (by omega) (by omega)]
         refine dz.same g _ ?_ (RO.mk (.mk rfl hR) rfl);simp only[Instr.sliceAt,Instr.slice,aG,aB hu,aA,pw,hs.1,aF]
       ·exact Ex.cI hx
     |_=>exact Ex.cI hx
omit K g in
theorem Vx.data{ty:C.Ty}{l:List (C.A ty)}{v:Value}{b lo hi:Nat}(hv:Vx T X ty false l v b lo hi):R T X false (.sl ty false l) [v]:=by
 rcases hv with⟨⟨a,rfl,_⟩,rfl,_⟩|⟨off,cp,rfl,h2,_,h4⟩
 ·exact .li _ _ _
 ·rcases h4 with⟨h4,_⟩|⟨_,_,⟨cs,h5,h6⟩,_⟩
  ·simp at h4
  ·exact .sl h5 h6 h2 (fun h=>by simp at h)
theorem MR{t:TypeId}{a d:D C}{va:Value}{lo hi mx:Option (D C)}{lN mG mR:eG}(ha:RO T X nx lim a va)
 (gk:lO T X nx lim lo lN) (nL:lO T X nx lim hi mG) (nM:lO T X nx lim mx mR) (hx:Ex e (DT T t a lo hi mx) h nx d h' cM tr):dz P T X nx lim h' cM d (Instr.sliceAt t va lN mG mR):=by
 unfold DT at hx;cases ht:T.ty t with
 |sl el ty0=>
  simp only[ht]at hx;cases a with
  |sl ty cap l=>
   simp only at hx;cases hd:decide (ty=ty0)with
   |false=>rw[hd]at hx;exact Ex.cI hx
   |true=>
    rw[hd]at hx;have hd:ty=ty0:=by simpa using hd
    subst hd;exact Sh K g ht (ha.1.one rfl) gk nL nM hx
  |vs id n=>
   simp only at hx;obtain⟨o,la,ho,hy,_⟩:=Ex.rd hx;clear hx;cases o with
   |var u d0=>exact Ex.cI hy
   |map _ _ _=>exact Ex.cI hy
   |ek _=>exact Ex.cI hy
   |cj ty dM l=>
    cases dM with
    |true=>exact Ex.cI hy
    |false=>
     simp only[S3]at hy;cases hd:decide (ty=ty0)with
     |false=>rw[hd]at hy;exact Ex.cI hy
     |true=>
      rw[hd]at hy;simp only[ag]at hy;have hd:ty=ty0:=by simpa using hd
      subst hd;rcases Ex.br hy with⟨hb,hx⟩|⟨_,hx⟩
      ·have hn:n=l.length:=az hb;obtain⟨v0,b,jt,ks,h1,h2⟩:=g.cj id ty false l ho;have hR:=ha.1.one rfl;cases hR with
       | @vs _ _ cp a0 hh=>
        have jI:=(hh _ _ _ _ _ h1).2 (by rw[h2.len,hn]);have hdt:=h2.data;rw[jI]at hdt;exact Sh K g ht hdt gk nL nM hx
      ·exact Ex.cI hx
  |_=>exact Ex.cI hx
 |str=>
  simp only[ht]at hx;cases a with
  |str s=>
   simp only at hx;cases rl:k9 lo 0 with
   |none=>rw[rl]at hx;exact Ex.cI hx
   |some a=>
    cases jV:k9 hi s.length with
    |none=>rw[rl,jV]at hx;exact Ex.cI hx
    |some b=>
     cases mx with
     |some=>rw[rl,jV]at hx;exact Ex.cI hx
     |none=>
      cases mR with
      |some=>simp[lO]at nM
      |none=>
       simp only[rl,jV]at hx;rcases Ex.br hx with⟨hc,hx⟩|⟨_,hx⟩
       ·obtain⟨rfl,rfl,rfl,rfl⟩:=Ex.ret hx;have hc:0<=a/\a<=b/\b<=s.length:=by simpa using hc
        have hu:=K.lv _ ht;rw[ha.1.str];have fN:(⟨⟨s⟩⟩:ByteArray).size=s.length:=rfl;have qa:=Ca gk rl;have qb:=Ca nL jV
        have pw:(Instr.sliceBounds false s.length s.length lN mG none).run P X.w=.ok (a.toNat,b.toNat,s.length) X.w:=by
         rcases qa with⟨_,rfl,rfl⟩|⟨_,k,rfl⟩<;>rcases qb with⟨_,rfl,rfl⟩|⟨_,k2,rfl⟩
         ·simp[Instr.sliceBounds]
         ·simp[Instr.sliceBounds,Q4 k2 b s.length _ (by omega) (by omega)]
         ·simp[Instr.sliceBounds,Q4 k a s.length _ (by omega) (by omega)]
         ·simp[Instr.sliceBounds,Q4 k2 b s.length _ (by omega) (by omega),Q4 k a b.toNat _ (by omega) (by omega)]
        have dX:(⟨⟨s⟩⟩:ByteArray).extract a.toNat b.toNat=⟨⟨(s.take b.toNat).drop a.toNat⟩⟩:=by
         apply ByteArray.ext;rw[ByteArray.data_extract];apply Array.ext';rw[Array.toList_extract,List.extract_eq_take_drop,List.drop_take]
        refine dz.same g (.string ⟨⟨(s.take b.toNat).drop a.toNat⟩⟩) ?_ (RO.mk (.mk rfl (.str _)) rfl);simp[Instr.sliceAt,Instr.slice,aB hu,fN,pw,dX]
       ·exact Ex.cI hx
  |_=>exact Ex.cI hx
 |_=>rw[ht]at hx;exact Ex.cI hx
theorem Qx6{t:TypeId}{id:Nat}{p:bU}{d:D C}{va:Value}{lo hi mx:Option (D C)}{lN mG mR:eG}(ha:RO T X nx lim (.ptr id p) va)
 (gk:lO T X nx lim lo lN) (nL:lO T X nx lim hi mG) (nM:lO T X nx lim mx mR) (hx:Ex e (match T.ty t with |.arr m _ _=>.rd id (Ix T t id p m lo hi mx)|_=>.fail) h nx d h' cM tr):dz P T X nx lim h' cM d (Instr.sliceAt t va lN mG mR):=by
 cases ht:T.ty t with
 |arr m el ty=>
  simp only[ht]at hx;obtain⟨o,la,ho,hx,_⟩:=Ex.rd hx;cases o with
  |cj ty dM l=>exact Ex.cI hx
  |map _ _ _=>exact Ex.cI hx
  |ek _=>exact Ex.cI hx
  |var u d0=>
   simp only[Ix]at hx;cases jg:decide (gG T u p=some t)with
   |false=>rw[jg]at hx;exact Ex.cI hx
   |true=>
    rw[jg]at hx;simp only[ag]at hx;have jg:gG T u p=some t:=by simpa using jg
    cases rl:k9 lo 0 with
    |none=>rw[rl]at hx;exact Ex.cI hx
    |some a=>
     cases jV:k9 hi m with
     |none=>rw[rl,jV]at hx;exact Ex.cI hx
     |some b=>
      cases mx with
      |some=>rw[rl,jV]at hx;exact Ex.cI hx
      |none=>
       cases mR with
       |some=>simp[lO]at nM
       |none=>
        simp only[rl,jV]at hx;rcases Ex.br hx with⟨hc,hx⟩|⟨_,hx⟩
        ·obtain⟨rfl,rfl,rfl,rfl⟩:=Ex.ret hx;have hc:0<=a/\a<m/\a<=b/\b<=m:=by simpa using hc
         have hu:=(K.nZ _ _ _ _ ht).1;have hs:=ZA K (.inl ⟨m,ht⟩) X.w;obtain⟨b1,c1,h1,h2,h3,h4⟩:=g.var id u d0 ho;have hR:=ha.1.one rfl;cases hR with
         | @ptr _ _ a' hq=>
          obtain⟨jk,rfl⟩:=hq b1 u h1;have qa:=Ca gk rl;have qb:=Ca nL jV
          have pw:(Instr.sliceBounds false m m lN mG none).run P X.w=.ok (a.toNat,b.toNat,m) X.w:=by
           rcases qa with⟨_,rfl,rfl⟩|⟨_,k,rfl⟩<;>rcases qb with⟨_,rfl,rfl⟩|⟨_,k2,rfl⟩
           ·simp[Instr.sliceBounds]
           ·simp[Instr.sliceBounds,Q4 k2 b m _ (by omega) (by omega)]
           ·simp[Instr.sliceBounds,Q4 k a m _ (by omega) (by omega)]
           ·simp[Instr.sliceBounds,Q4 k2 b m _ (by omega) (by omega),Q4 k a b.toNat _ (by omega) (by omega)]
          have gm:¬m=a.toNat:=by omega
          have kT:b.toNat-a.toNat=(b-a).toNat:=by omega
          refine dz.same g (.slice (some ⟨b1,er T u p+a.toNat*T.size (T.dG ty),none⟩) (b-a).toNat (m-a.toNat)) ?_ ⟨.mk rfl (.jR (fun b' t' h5=>?_) (fun _=>⟨_,_,rfl⟩) (fun v e b' l' ks h5=>by rw[h1]at h5;cases h5)),by simpa[D.refs]using ha.2⟩
          ·simp[Instr.sliceAt,Instr.sureAddr,aB hu,pw,hs.1,gm,kT,Addr.add_lit,hs.2.1]
          ·rw[h1]at h5;simp at h5;obtain⟨rfl,rfl⟩:=h5;exact⟨m,el,ty,ht,jg,jk,by omega,rfl⟩
        ·exact Ex.cI hx
 |_=>simp only[ht]at hx;exact Ex.cI hx
end
section
variable {C:ij}{P:Program}{T:fA C}(K:Zq P T)
open Pg (Ex)
variable {X:Cx}{h h':Heap C}{nx cM:Nat}{e:Pg.Lv}{lim:eL}{tr:Tr}(g:G T X h nx lim)(eA:cM<=lim.top)
def Src(T:fA C)(X:Cx)(w:World)(ty:C.Ty)(xs:List (C.A ty))(v:Value):Prop :=
 ((∃a,v=.slice a 0 0)/\xs=[])\/∃b off cp cs,v=.slice (some ⟨b,off,none⟩) xs.length cp/\R T X false (.arr ty xs.length xs) cs/\∀j u,cs[j]? = some u->w.cell? ⟨b,off+j,none⟩=some u
theorem Vx.src{ty:C.Ty}{dM:Bool}{l:List (C.A ty)}{v:Value}{b lo hi:Nat}(hv:Vx T X ty dM l v b lo hi):Src T X X.w ty l v:=by
 have h0:=hv;rcases hv with⟨⟨a,h1,_⟩,h2,_⟩|⟨off,cp,h1,_⟩
 ·exact .inl ⟨⟨a,h1⟩,h2⟩
 ·obtain⟨_,_,_,cs,h3,h4⟩:=h0.cells h1;exact .inr ⟨b,off,cp,cs,h1,h3,h4⟩
theorem R.src{ty:C.Ty}{cap:Bool}{l:List (C.A ty)}{v:Value}(hv:R T X false (.sl ty cap l) [v]):Src T X X.w ty l v:=by
 cases hv with
 |li=>exact .inl ⟨⟨_,rfl⟩,rfl⟩
 | @sl _ _ _ b off cp cs jq hr _ _=>exact .inr ⟨b,off,cp,cs,rfl,hr,fun j u hj=>(jq j u hj).1⟩
structure uo(P:Program)(T:fA C)(X:Cx)(w:World)(ty:C.Ty)(xs:List (C.A ty))(v:Value):Prop where
 len:∀w',(Builtin.lenOf v).run P w'=.ok xs.length w'
 cells:∃cs,R T X false (.arr ty xs.length xs) cs/\∀w':World,(∀a,w'.cell? a=w.cell? a)->(Builtin.firstCells (T.size (T.dG ty)) xs.length v).run P w'=.ok cs.toArray w'
theorem Src.feed(L:Laws T){w:World}{ty:C.Ty}{xs:List (C.A ty)}{v:Value}(h:Src T X w ty xs v):uo P T X w ty xs v:=by
 rcases h with⟨⟨a,rfl⟩,rfl⟩|⟨b,off,cp,cs,rfl,hr,hc⟩
 ·refine⟨fun w'=>by simp[Builtin.lenOf],[],.iK ty,fun w' _=>?_⟩;cases a<;>simp[Builtin.firstCells,loadCells,loadCellsFrom]
 ·refine⟨fun w'=>by simp[Builtin.lenOf],cs,hr,fun w' hw=>?_⟩;exact run_firstCells_some (P:=P) w' _ xs.length ⟨b,off,none⟩ xs.length cp cs (hr.gE L).1 (fun j v hj=>by rw[hw,Addr.add_lit];exact hc j v hj)
section run
variable {t tx ty0 el:TypeId}{ie:TypeInfo}{z:Value}(w:World)
theorem TA(ht:P.underlying t=some (.slice el))(kU:∃u,P.underlying tx=some u/\∀k,u ≠ .int k)(hi:P.info? el=some ie)(ao:dN)(n cp:Nat)(vx:Value)(dc:(Builtin.lenOf vx).run P w=.ok 0 w)(hf:(Builtin.firstCells ie.size 0 vx).run P w=.ok #[] w)(hc:n<=cp) :
 (Builtin.append_ #[t,tx] ty0 #[.slice ao n cp,vx]).run P w=.ok (.slice ao n cp) w:=by
 obtain⟨u,kU,qO⟩:=kU;have sS:(u matches .int _)=false:=by cases u<;>first|rfl|exact(qO _ rfl).elim
 cases ao<;>simp[Builtin.append_,aB ht,aB kU,sizeOf,typeInfo,hi,dc,sS,hc,hf,storeCells]
theorem Qj8(ht:P.underlying t=some (.slice el))(kU:∃u,P.underlying tx=some u/\∀k,u ≠ .int k)(hi:P.info? el=some ie)(g off n cp:Nat)(Em:b7)(eg:TypeId)(hg:w.heap[g]? = some (.cells Em eg (0,0)))
 (vx:Value) (m:Nat) (fv:bT) (dc:(Builtin.lenOf vx).run P w=.ok m w) (hf:(Builtin.firstCells ie.size m vx).run P w=.ok fv.toArray w) (h1:∀u∈fv,u.oneCell'=true)
 (qR:n+m<=cp) (ln:off+n*ie.size+fv.length<=Em.size) :
 (Builtin.append_ #[t,tx] ty0 #[.slice (some ⟨g,off,none⟩) n cp,vx]).run P w =
  .ok (.slice (some ⟨g,off,none⟩) (n+m) cp) (w.setRow g (Em.toList.take (off+n*ie.size)++fv++Em.toList.drop (off+n*ie.size+fv.length)).toArray):=by
 obtain⟨u,kU,qO⟩:=kU;have sS:(u matches .int _)=false:=by cases u<;>first|rfl|exact(qO _ rfl).elim
 have eI:=run_storeCells_at P g (off+n*ie.size) eg fv 0 Em w hg (by omega) h1;simp only[Nat.add_zero]at eI;simp[Builtin.append_,aB ht,aB kU,sizeOf,typeInfo,hi,dc,sS,qR,hf,Addr.add_lit,eI]
theorem LD(ht:P.underlying t=some (.slice el))(kU:∃u,P.underlying tx=some u/\∀k,u ≠ .int k)(hi:P.info? el=some ie)(hz:ie.zero=some z)(ao:dN)(n cp:Nat)(ig:bT)
 (holds:(ao=none/\ig=[])\/∃b,ao=some b/\ig.length=n*ie.size/\∀j v,ig[j]? = some v->w.cell? (b.add j)=some v)
 (vx:Value) (m:Nat) (fv:bT) (dc:(Builtin.lenOf vx).run P w=.ok m w) (hf:(Builtin.firstCells ie.size m vx).run P w.drew=.ok fv.toArray w.drew)
 (hg:cp<n+m) (h63:((n+m:Nat):Int)<=9223372036854775807) (ln:Builtin.nextslicecap (n+m) cp*ie.bytes<=281474976710656) :
 (Builtin.append_ #[t,tx] ty0 #[.slice ao n cp,vx]).run P w =
  .ok (.slice (some ⟨w.heap.size,0,none⟩) (n+m) (grownCap w (n+m) cp el))
   (w.drew.alloc (.cells (ig++fv++(Builtin.zeroCells z.cells (grownCap w (n+m) cp el-(n+m))).toList).toArray el)):=by
 obtain⟨u,kU,qO⟩:=kU;have sS:(u matches .int _)=false:=by cases u<;>first|rfl|exact(qO _ rfl).elim
 have hn:¬(n+m<=cp):=by omega
 have OX:¬(9223372036854775807<((n:Int)+(m:Int))):=by omega
 have OW:¬(281474976710656<Builtin.nextslicecap (n+m) cp*ie.bytes):=by omega
 have lq:(Builtin.firstCells ie.size n (.slice ao n cp)).run P w.drew=.ok ig.toArray w.drew:=by
  rcases holds with⟨rfl,rfl⟩|⟨b,rfl,h1,h2⟩
  ·simp[Builtin.firstCells]
  ·exact run_firstCells_some (P:=P) w.drew ie.size n b n cp ig h1 (by simpa using h2)
 simp[Builtin.append_,aB ht,aB kU,sizeOf,typeInfo,zeroValue,hi,hz,dc,sS,hn,OX,OW,Question.forced,hf,lq,newRow,grownCap]
 congr 2
 apply Array.ext';simp
end run
include K in
theorem G.qw{t:C.Ty}{dM:Bool}{l:List (C.A t)}{v:Value}{b lo hi:Nat}(g:G T X h nx lim)(hn:nx<lim.top)(hl:hi<=lo)
 (hV:Vx T X t dM l v b lo hi):∃X',X'.w=X.w/\X'.ρ nx=some (.cj v (T.dG t) b lo hi)/\G T X' ((nx,.cj t dM l)::h) (nx+1) lim/\Step X nx lim X':=by
 let l0:Loc:=.cj v (T.dG t) b lo hi
 have gT:∀c o,¬l0.owns c o:=fun c o h=>by have:=h.2;omega
 let X':Cx:=⟨X.w,fun id=>if id=nx then some l0 else X.ρ id,X.O⟩
 have gu:∀c o,X'.dI c o->X.dI c o:=by
  rintro c o ⟨id,k,h1,h2⟩
  by_cases hi:id=nx
  ·simp[X',hi]at h1;subst h1;exact absurd h2 (gT c o)
  ·simp[X',hi]at h1;exact⟨id,k,h1,h2⟩
 have hs:Step X nx lim X':=by
  refine⟨rfl,rfl,rfl,rfl,aq _,?_,fun c o _=>gu c o,fun _ _ _ _=>rfl,fun _ _ _=>rfl,fun _ _=>rfl⟩;intro id ho;have:id≠nx:=by have:=ho.1;omega
  simp[X',this,Qo.refl]
 have hc:Ch X X' nx lim nx:=⟨hs,fun id hi=>by simp[X',hi],fun c d e f hb=>⟨d,hb,rfl,fun _ _=>rfl⟩,fun c o hb _ _=>hb⟩;obtain⟨o1,o2,o3,o4⟩:=G.ej K.base g hc;refine⟨X',rfl,by simp[X',l0],⟨?_,?_,?_,?_,?_,?_,?_,?_,g.outs,Nat.le_succ_of_le g.low,g.pre.step hs⟩,hs⟩
 ·intro id t' d' hg;rw[Qz]at hg
  by_cases hi:id=nx
  ·simp[hi]at hg
  ·simp[hi]at hg;exact o1 id t' d' hi hg
 ·intro id t' gF l' hg;rw[Qz]at hg
  by_cases ks:id=nx
  ·simp[ks]at hg;obtain⟨rfl,rfl,hg⟩:=hg;simp at hg;subst hg;refine⟨v,b,lo,hi,by simp[X',ks,l0],?_⟩;rcases hV with h2|⟨off,cp,h2,h3,h4,h5⟩
   ·exact .inl h2
   ·refine .inr ⟨off,cp,h2,h3,h4,?_⟩;rcases h5 with⟨ht,gk,h5|⟨cs,e,h5,h6,h7⟩⟩|⟨ht,gk,⟨cs,h5,h6⟩,h7⟩
    ·exact .inl ⟨ht,gk,.inl h5⟩
    ·exact .inl ⟨ht,gk,.inr ⟨cs,e,h5,h6,h7.step K.base hs (by simp[D.refs])⟩⟩
    ·exact .inr ⟨ht,gk,⟨cs,h5.step hs,h6.step K.base hs (by simp[D.refs])⟩,h7⟩
  ·simp[ks]at hg;exact o2 id t' gF l' ks hg
 ·intro id ck cv l' hg;rw[Qz]at hg
  by_cases ks:id=nx
  ·simp[ks]at hg
  ·simp[ks]at hg;exact o3 id ck cv l' ks hg
 ·intro id cc hg;rw[Qz]at hg
  by_cases ks:id=nx
  ·simp[ks]at hg
  ·simp[ks]at hg;exact o4 id cc ks hg
 ·intro id k hr;rw[Qz]
  by_cases hi:id=nx
  ·simp[hi]
  ·simp[X',hi]at hr ⊢;exact g.kg id k hr
 ·intro id o hg;rw[Qz]at hg
  by_cases hi:id=nx
  ·simp[hi]at hg;subst hg;exact⟨hi▸g.new hn,fun r fT=>by simp[Obj.refs]at fT⟩
  ·simp[hi]at hg;exact g.mz (by omega) id o hg
 ·intro id ka k k' c o o' h1 h2 h3 h4
  by_cases hi:id=nx
  ·simp[X',hi]at h1;subst h1;exact absurd h3 (gT c o)
  ·by_cases hj:ka=nx
   ·simp[X',hj]at h2;subst h2;exact absurd h4 (gT c o')
   ·simp[X',hi]at h1;simp[X',hj]at h2;exact g.apart id ka k k' c o o' h1 h2 h3 h4
 ·intro c o hm;exact g.outer c o (gu c o hm)
theorem Mb{n b:Nat}(h:Qf n b=true):n*b<=1099511627776:=by simpa[Qf]using h
include K g
theorem XD{t tx el:TypeId}{ty:C.Ty}(ht:T.ty t=.sl el ty)(kU:∃u,P.underlying tx=some u/\∀k,u ≠ .int k)(ty0:TypeId)(dM:Bool)(l xs:List (C.A ty))(ao:dN)(cp:Nat)(vx:Value)
 (hl:Src T X X.w ty l (.slice ao l.length cp)) (hx:uo P T X X.w ty xs vx) (gm:xs≠[]) (nK:cp<l.length+xs.length) (fN:Qf (l.length+xs.length) (T.bytes el)=true) (hn:nx+1<=lim.top) :
 dz P T X nx lim ((nx,.cj ty dM (l++xs))::h) (nx+1) (.vs nx (l.length+xs.length)) (Builtin.append_ #[t,tx] ty0 #[.slice ao l.length cp,vx]):=by
 obtain⟨ie,z,h1,h2,h3,hbp,h4,h5,h6,_⟩:=K.ll _ _ _ (.inr ht);have mV:=(K.base.mP _ _ _ ht).2.2;have ma:=Mb fN;obtain⟨nd,fv,o8,u4⟩:=hx
 ·have ve:=(o8.gE K.base).1;have hxl:0<xs.length:=List.length_pos_iff.2 gm
  have hole:∃ig,R T X false (.arr ty l.length l) ig/\((ao=none/\ig=[])\/∃b,ao=some b/\ig.length=l.length*ie.size/\∀j v,ig[j]? = some v->X.w.cell? (b.add j)=some v):=by
   rcases hl with⟨hv,rfl⟩|⟨b,off,lz,cs,hv,hr,hc⟩
   ·refine⟨[],.iK ty,?_⟩;cases ao with
    |none=>exact .inl ⟨rfl,rfl⟩
    |some b=>exact .inr ⟨b,rfl,by simp,fun j v hj=>by simp at hj⟩
   ·simp at hv;refine⟨cs,hr,.inr ⟨_,hv.1,by rw[(hr.gE K.base).1,h2,mV],fun j v hj=>?_⟩⟩;rw[Addr.add_lit];exact hc j v hj
  obtain⟨ig,yJ,holds⟩:=hole;have gk:=(yJ.gE K.base).1;have ye:l.length+xs.length<=(l.length+xs.length)*T.bytes el:=Nat.le_mul_of_pos_right _ hbp
  have ez:=LD (P:=P) (t:=t) (tx:=tx) (ty0:=ty0) X.w (K.oT _ _ _ ht) kU h1 h5 ao l.length cp ig holds vx xs.length fv (nd _) (by rw[h2,mV];exact u4 _ fun _=>rfl) nK
   (by omega) (by rw[h3];exact J5 _ _ _ nK ma)
  have yp:=J6 X.w (l.length+xs.length) cp el;generalize grownCap X.w (l.length+xs.length) cp el=cap at ez yp;obtain⟨g1,s1⟩:=G.world K.base g X.w.drew rfl rfl rfl rfl
  have PJ:R T X false (.arr ty (l++xs).length (l++xs)) (ig++fv):=by
   have:=yJ.jB o8
   simpa using this
  have PC:(ig++fv).length=(l++xs).length*T.size (T.dG ty):=by simp[gk,ve,Nat.add_mul]
  obtain⟨X',pu,g2,s2,r2⟩:=G.qx K.base g1 (by omega) (t:=ty) (l:=l++xs) (c:=(ig++fv++(Builtin.zeroCells z.cells (cap-(l.length+xs.length))).toList).toArray) (e:=el) (cp:=cap) dM (by
   have e1:(ig++fv++(Builtin.zeroCells z.cells (cap-(l.length+xs.length))).toList).toArray.toList.take ((l++xs).length*T.size (T.dG ty))=ig++fv:=by
    rw[List.toList_toArray,List.take_left' PC]
   rw[e1];exact PJ.step K.base s1 (by simp[D.refs])) (by simpa using yp) (by
   simp only[List.size_toArray,aC,Array.length_toList,size_zeroCells,h6,gk,ve,mV];rw[<-Nat.add_mul,<-Nat.add_mul];exact Nat.le_of_eq (by congr 1;omega))
  have dc:(l++xs).length=l.length+xs.length:=by simp
  rw[dc]at r2;refine⟨_,X',?_,g2,s1.trans s2 (aq _),⟨.mk rfl r2,?_⟩⟩
  ·rw[ez,pu];rfl
  ·intro id dU;simp[D.refs]at dU;subst dU;exact g.new (by omega)
omit K g in
theorem G.congr{h2:Heap C}(g:G T X h nx lim)(hh:∀id,h2.get id=h.get id):G T X h2 nx lim :=
 ⟨fun id t d ho=>g.var id t d (by rw[<-hh];exact ho),fun id t dM l ho=>g.cj id t dM l (by rw[<-hh];exact ho),fun id ck cv l ho=>g.map id ck cv l (by rw[<-hh];exact ho),fun id cc ho=>g.ek id cc (by rw[<-hh];exact ho),fun id l hr=>by rw[hh];exact g.kg id l hr,fun id o ho=>g.eY id o (by rw[<-hh];exact ho),g.apart,g.outer,g.outs,g.low,g.pre⟩
omit K g in
theorem QoH{α:Type}(l:List α)(off k:Nat)(fv:List α)(h:off+k+fv.length<=l.length) :
 ((l.take (off+k)++fv++l.drop (off+k+fv.length)).drop off).take (k+fv.length)=(l.drop off).take k++fv:=by
 have e1:l.take (off+k)=l.take off++(l.drop off).take k:=by rw[List.take_add]
 have h1:(l.take off).length=off:=by simp;omega
 rw[e1,ay,ay,List.drop_left' h1,<-ay,List.take_left' (by simp;omega)]
include eA
theorem Si{t tx el:TypeId}{ty:C.Ty}(ht:T.ty t=.sl el ty)(kU:∃u,P.underlying tx=some u/\∀k,u ≠ .int k)(ty0:TypeId){s d:D C}{vs vx:Value}(hs:RO T X nx lim s vs)(xs:List (C.A ty))(wR:uo P T X X.w ty xs vx)
 (dX:Ex e (HX ty (T.bytes el) s xs) h nx d h' cM tr):dz P T X nx lim h' cM d (Builtin.append_ #[t,tx] ty0 #[vs,vx]):=by
 obtain⟨ie,z,q1,q2,q3,qb,q4,q5,q6,_⟩:=K.ll _ _ _ (.inr ht);have mV:=(K.base.mP _ _ _ ht).2.2;have hu:=K.oT _ _ _ ht
 have Fj:xs=[]->(Builtin.lenOf vx).run P X.w=.ok 0 X.w/\(Builtin.firstCells ie.size 0 vx).run P X.w=.ok #[] X.w:=by
  rintro rfl
  obtain⟨nd,fv,o8,u4⟩:=wR;have:=(o8.gE K.base).1;simp at this;subst this;refine⟨nd _,?_⟩;rw[q2,mV];exact u4 _ fun _=>rfl
 -- a new tw FQ only Ra
 have wZ:∀(dM:Bool) (l:List (C.A ty)) (ao:dN),xs=[]->R T X false (.sl ty true l) [.slice ao l.length l.length]->(dM=true->l=[])->nx+1<=lim.top ->
  dz P T X nx lim ((nx,.cj ty dM (l++xs))::h) (nx+1) (.vs nx (l.length+xs.length)) (Builtin.append_ #[t,tx] ty0 #[.slice ao l.length l.length,vx]):=by
  intro dM l ao lS hR kI hn;obtain⟨yQ,r6⟩:=Fj lS;subst lS;have ez:=TA (P:=P) (t:=t) (tx:=tx) (ty0:=ty0) X.w hu kU q1 ao l.length l.length vx yQ r6 (aq _);simp only[aR,bH,Nat.add_zero]
  have hV:∃b lo hi,hi<=lo/\Vx T X ty dM l (.slice ao l.length l.length) b lo hi:=by
   generalize hv:(Value.slice ao l.length l.length)=v at hR;cases hR with
   |li _ _ a=>
    by_cases ha:∃b off,a=some ⟨b,off,none⟩
    ·obtain⟨b,off,rfl⟩:=ha;cases dM with
     |true=>exact⟨b,off,off,aq _,.inr ⟨off,0,rfl,by simp,by simp,.inl ⟨rfl,rfl,.inl rfl⟩⟩⟩
     |false=>exact⟨b,off,off,aq _,.inr ⟨off,0,rfl,by simp,by simp,.inr ⟨rfl,by simp,⟨[],fun j v hj=>by simp at hj,.iK _⟩,.inl rfl⟩⟩⟩
    ·exact⟨0,0,0,aq _,.inl ⟨⟨a,rfl,fun b off e=>ha ⟨b,off,e⟩⟩,rfl,aq _⟩⟩
   | @sl _ _ _ b off cp cs jq hr _ hc=>
    have nK:=hc rfl;subst nK;cases dM with
    |true=>
     have:=kI rfl;subst this;exact⟨b,off,off,aq _,.inr ⟨off,0,rfl,by simp,by simp,.inl ⟨rfl,rfl,.inl rfl⟩⟩⟩
    |false=>exact⟨b,_,_,aq _,.inr ⟨off,l.length,rfl,aq _,rfl,.inr ⟨rfl,rfl,⟨cs,jq,hr⟩,.inl rfl⟩⟩⟩
  obtain⟨b,lo,hi,hle,hV⟩:=hV;obtain⟨X',pu,hρ,g2,s2⟩:=G.qw K g (by omega) hle hV;refine⟨_,X',by rw[ez,pu],g2,s2,⟨.mk rfl (.vs fun v e b' jt ks hv=>?_),?_⟩⟩
  ·rw[hρ]at hv;simp at hv;obtain⟨rfl,_⟩:=hv;exact⟨aq _,fun _=>rfl⟩
  ·intro id dU;simp[D.refs]at dU;subst dU;exact g.new (by omega)
 unfold HX at dX;cases s with
 |eO=>
  rw[hs.1.eO];simp only at dX;rcases Ex.br dX with⟨hb,dX⟩|⟨_,dX⟩
  ·obtain⟨t1,dX,_⟩:=Ex.nw dX;obtain⟨rfl,rfl,rfl,rfl⟩:=Ex.ret dX
   by_cases lS:xs=[]
   ·have:=wZ true [] none lS (.li _ _ _) (fun _=>rfl) (by omega)
    simpa using this
   ·have:=XD K g ht kU ty0 true [] xs none 0 vx (.inl ⟨⟨none,rfl⟩,rfl⟩) wR lS (by have:=List.length_pos_iff.2 lS;simp;omega) (by simpa using hb) (by omega)
    simpa using this
  ·exact Ex.cI dX
 |sl t' cap l=>
  simp only at dX
  by_cases jg:t'=ty
  ·subst jg;simp only[dite_true]at dX;cases cap with
   |false=>exact Ex.cI dX
   |true=>
    simp only at dX;rcases Ex.br dX with⟨hb,dX⟩|⟨_,dX⟩
    ·obtain⟨t1,dX,_⟩:=Ex.nw dX;obtain⟨rfl,rfl,rfl,rfl⟩:=Ex.ret dX;have hR:=hs.1.one rfl
     have nV:∃ao,vs=.slice ao l.length l.length:=by
      cases hR with
      |li=>exact⟨_,rfl⟩
      |sl jq hr _ hc=>have:=hc rfl;subst this;exact⟨_,rfl⟩
     obtain⟨ao,rfl⟩:=nV
     by_cases lS:xs=[]
     ·exact wZ l.isEmpty l ao lS hR (fun hh=>by simpa using hh) (by omega)
     ·exact XD K g ht kU ty0 l.isEmpty l xs ao l.length vx hR.src wR lS (by have:=List.length_pos_iff.2 lS;omega) hb (by omega)
    ·exact Ex.cI dX
  ·simp only[jg,dite_false]at dX;exact Ex.cI dX
 |vs id n=>
  simp only at dX;obtain⟨o,la,ho,l4,_⟩:=Ex.rd dX;clear dX;cases o with
  |var u d0=>exact Ex.cI l4
  |map _ _ _=>exact Ex.cI l4
  |ek _=>exact Ex.cI l4
  |cj jn dM l=>
   simp only at l4
   by_cases jg:jn=ty
   ·subst jg;simp only[dite_true]at l4;rcases Ex.br l4 with⟨hb,dX⟩|⟨_,dX⟩
    ·obtain⟨o',t2,_,dX,_⟩:=Ex.wr dX;obtain⟨rfl,rfl,rfl,rfl⟩:=Ex.ret dX;simp only[ai]at hb;have hn:n=l.length:=az hb.1;subst hn;obtain⟨v0,b,lo,hi,h1,h2⟩:=g.cj id jn dM l ho;have hR:=hs.1.one rfl;cases hR with
     | @vs _ _ cp a0 hh=>
      have jI:=(hh _ _ _ _ _ h1).2 h2.len;subst jI;have qm:=h2.src
      have nK:l.length<=cp:=by
       rcases h2 with⟨h3,h4,_⟩|⟨off,lz,h3,h4,_⟩
       ·rw[h4];simp
       ·simp at h3;omega
      have yu:∀r∈(D.vs id (l.length+xs.length):D C).refs,fL cM lim r:=by
       intro r hr;simp[D.refs]at hr;subst hr;exact hs.2 r (by simp[D.refs])
      by_cases lS:xs=[]
      ·obtain⟨yQ,r6⟩:=Fj lS;subst lS;have ez:=TA (P:=P) (t:=t) (tx:=tx) (ty0:=ty0) X.w hu kU q1 a0 l.length cp vx yQ r6 nK;refine⟨_,X,ez,g.congr (fun j=>?_),.refl _ _ _,⟨hs.1,by simpa using yu⟩⟩;rw[Qu (g.kg id _ h1)]
       by_cases hj:j=id
       ·simp[hj,ho]
       ·simp[hj]
      ·have hxl:=List.length_pos_iff.2 lS;rcases Nat.lt_or_ge cp (l.length+xs.length)with qN|qR
       ·-- aas a new block
        obtain⟨nd,fv,o8,u4⟩:=wR
        ·have ve:=(o8.gE K.base).1
         have hole:∃ig,R T X false (.arr jn l.length l) ig/\((a0=none/\ig=[])\/∃b,a0=some b/\ig.length=l.length*ie.size/\∀j v,ig[j]? = some v->X.w.cell? (b.add j)=some v):=by
          rcases qm with⟨hv,rfl⟩|⟨b,off,lz,cs,hv,hr,hc⟩
          ·refine⟨[],.iK jn,?_⟩;cases a0 with
           |none=>exact .inl ⟨rfl,rfl⟩
           |some b=>exact .inr ⟨b,rfl,by simp,fun j v hj=>by simp at hj⟩
          ·simp at hv;refine⟨cs,hr,.inr ⟨_,hv.1,by rw[(hr.gE K.base).1,q2,mV],fun j v hj=>?_⟩⟩;rw[Addr.add_lit];exact hc j v hj
         obtain⟨ig,yJ,holds⟩:=hole;have gk:=(yJ.gE K.base).1;have ma:=Mb hb.2;have ye:l.length+xs.length<=(l.length+xs.length)*T.bytes el:=Nat.le_mul_of_pos_right _ qb
         have ez:=LD (P:=P) (t:=t) (tx:=tx) (ty0:=ty0) X.w hu kU q1 q5 a0 l.length cp ig holds vx xs.length fv (nd _) (by rw[q2,mV];exact u4 _ fun _=>rfl) qN
          (by omega) (by rw[q3];exact J5 _ _ _ qN ma)
         have yp:=J6 X.w (l.length+xs.length) cp el;generalize grownCap X.w (l.length+xs.length) cp el=cap at ez yp;obtain⟨g1,s1⟩:=G.world K.base g X.w.drew rfl rfl rfl rfl
         have PJ:R T X false (.arr jn (l++xs).length (l++xs)) (ig++fv):=by
          have:=yJ.jB o8
          simpa using this
         have PC:(ig++fv).length=(l++xs).length*T.size (T.dG jn):=by simp[gk,ve,Nat.add_mul]
         have dc:(l++xs).length=l.length+xs.length:=by simp
         have EH:(ig++fv++(Builtin.zeroCells z.cells (cap-(l.length+xs.length))).toList).toArray.size=cap*T.size (T.dG jn):=by
          simp only[List.size_toArray,aC,Array.length_toList,size_zeroCells,q6,gk,ve,mV];rw[<-Nat.add_mul,<-Nat.add_mul]
          congr 1;omega
         have hmul:(l++xs).length*T.size (T.dG jn)<=cap*T.size (T.dG jn):=Nat.mul_le_mul_right _ (by omega)
         obtain⟨X',pu,hρ,g2,s2⟩:=G.vz K.base g1 (gF:=dM) (l':=l++xs) (v':=.slice (some ⟨X.w.heap.size,0,none⟩) (l.length+xs.length) cap)
          (c:=(ig++fv++(Builtin.zeroCells z.cells (cap-(l.length+xs.length))).toList).toArray) (e:=el) (jt:=if dM then 0 else(l++xs).length*T.size (T.dG jn)) (ks:=cap*T.size (T.dG jn)) ho h1
          ⟨by simp[hJ],fun he=>by simp only[hJ]at he;omega⟩ (by
          intro X' hw hO hm hO2 pB;have fT:=(PJ.step K.base s1 (by simp[D.refs])).step K.base pB (by simp[D.refs])
          have kQ:X'.w.heap[X.w.heap.size]? = some (.cells (ig++fv++(Builtin.zeroCells z.cells (cap-(l.length+xs.length))).toList).toArray el (0,0)):=by
           rw[hw];exact Zf X.w.drew _
          refine .inr ⟨0,cap,by rw[dc];rfl,by omega,by simp,?_⟩;cases dM with
          |true=>
           refine .inl ⟨rfl,by simp,.inr ⟨_,el,kQ,by rw[EH];exact aq _,?_⟩⟩;rw[List.toList_toArray,bG,List.take_left' PC];exact fT
          |false=>
           refine .inr ⟨rfl,by simp,⟨_,?_,fT⟩,.inr ⟨_,el,kQ,by rw[EH];exact aq _⟩⟩;intro j u hj;have mr:j<(ig++fv).length:=(av.1 hj).1;refine⟨?_,hO2 _,hm _ (by simp only[bu,aL];omega)⟩;have ED:X'.w.heap[X.w.drew.heap.size]? = some (.cells (ig++fv++(Builtin.zeroCells z.cells (cap-(l.length+xs.length))).toList).toArray el (0,0)):=kQ;simp only[World.cell?,ED,aN];simp only[List.getElem?_toArray];rw[List.getElem?_append_left mr,hj];rfl)
         refine⟨_,X',by rw[ez,pu],g2,s1.trans s2 (aq _),⟨.mk rfl (.vs fun v e b' jt ks hv=>?_),yu⟩⟩;rw[hρ]at hv;simp at hv;obtain⟨rfl,_⟩:=hv;exact⟨by simp[hJ],fun _=>rfl⟩
       ·-- where there is room
        rcases h2 with⟨h3,h4,_⟩|⟨off,lz,h3,h4,h5,h6⟩
        ·simp at h3;omega
        ·simp at h3;obtain⟨rfl,rfl⟩:=h3;obtain⟨nd,fv,o8,u4⟩:=wR
         ·have ve:=(o8.gE K.base).1
          have kQ:∃c ee,X.w.heap[b]? = some (.cells c ee (0,0))/\hi<=c.size:=by
           rcases h6 with⟨_,_,h6|⟨c,ee,h6,h7,_⟩⟩|⟨_,_,_,h6|⟨c,ee,h6,h7⟩⟩
           ·omega
           ·exact⟨c,ee,h6,h7⟩
           ·omega
           ·exact⟨c,ee,h6,h7⟩
          obtain⟨c,ee,kQ,oc⟩:=kQ;have lD:=o8.hQ K.base rfl (.inr ⟨_,_,_,rfl⟩);have hmul:(l.length+xs.length)*T.size (T.dG jn)<=cp*T.size (T.dG jn):=Nat.mul_le_mul_right _ qR;rw[Nat.add_mul]at hmul
          have ez:=Qj8 (P:=P) (t:=t) (tx:=tx) (ty0:=ty0) X.w hu kU q1 b off l.length cp c ee kQ vx xs.length fv (nd _) (by rw[q2,mV];exact u4 _ fun _=>rfl) lD qR
           (by rw[ve,q2,mV];omega)
          rw[q2,mV]at ez;have aac:c.toList.length=c.size:=by simp
          have sM:off+l.length*T.size (T.dG jn)+fv.length<=c.toList.length:=by omega
          have rV:=Gh c.toList (off+l.length*T.size (T.dG jn)) fv sM;have o6:=Gg c.toList (off+l.length*T.size (T.dG jn)) fv sM;have u3:=QoH c.toList off (l.length*T.size (T.dG jn)) fv sM
          have E6:∀j,j<fv.length->(c.toList.take (off+l.length*T.size (T.dG jn))++fv++c.toList.drop (off+l.length*T.size (T.dG jn)+fv.length))[off+l.length*T.size (T.dG jn)+j]? = fv[j]? := by
           intro j hj;have rY:(c.toList.take (off+l.length*T.size (T.dG jn))).length=off+l.length*T.size (T.dG jn):=by simp;omega
           rw[ay,List.getElem?_append_right (by omega),rY,Nat.add_sub_cancel_left,List.getElem?_append_left hj]
          generalize hk:c.toList.take (off+l.length*T.size (T.dG jn))++fv++c.toList.drop (off+l.length*T.size (T.dG jn)+fv.length)=k at ez rV o6 u3 E6;have dc:(l++xs).length=l.length+xs.length:=by simp
          have aao:lo=off\/lo=off+l.length*T.size (T.dG jn):=by
           rcases h6 with⟨_,h6,_⟩|⟨_,h6,_⟩
           ·exact .inl h6
           ·exact .inr h6
          obtain⟨X',pu,hρ,g2,s2⟩:=G.oP K.base g ho h1 kQ (c':=k.toArray) (l':=l++xs) (v':=.slice (some ⟨b,off,none⟩) (l.length+xs.length) cp)
           (jt:=if dM then lo else off+(l++xs).length*T.size (T.dG jn)) (by simp[o6]) (by
           intro o gU;have:=rV o (by omega)
           simpa using this) (by
           cases dM with
           |true=>simp
           |false=>simp only[bu,aL];rw[dc,Nat.add_mul];omega) (by
           cases dM with
           |true=>simp
           |false=>simp only[bu,aL];rw[dc,Nat.add_mul];omega)
           ⟨by simp[hJ],fun he=>by simp only[hJ]at he;omega⟩ (by
           intro X' hw hO hm EU pB;have uU:X'.w.heap[b]? = some (.cells k.toArray ee (0,0)):=by rw[hw];exact setRow_heap _ _ _ _ _ _ kQ
           refine .inr ⟨off,cp,by rw[dc],by omega,h5,?_⟩;rcases h6 with⟨rfl,gk,h6|⟨c2,ee2,h6,h7,h8⟩⟩|⟨rfl,gk,⟨cs,h6,h7⟩,h8⟩
           ·omega
           ·rw[kQ]at h6;simp at h6;obtain⟨rfl,rfl⟩:=h6;refine .inl ⟨rfl,by simpa using gk,.inr ⟨_,ee,uU,by simp[o6];omega,?_⟩⟩
            have fT:R T X false (.arr jn (l++xs).length (l++xs)) ((c.toList.drop off).take (l.length*T.size (T.dG jn))++fv):=by
             have:=h8.jB o8
             simpa using this
            have e1:(l++xs).length*T.size (T.dG jn)=l.length*T.size (T.dG jn)+fv.length:=by rw[dc,Nat.add_mul,ve]
            rw[e1,List.toList_toArray,u3];exact fT.step K.base pB (by simp[D.refs])
           ·refine .inr ⟨rfl,by simp,⟨cs++fv,?_,?_⟩,.inr ⟨_,ee,uU,by simp[o6];omega⟩⟩
            ·have aal:=(h7.gE K.base).1;intro j u hj;rcases Nat.lt_or_ge j cs.length with cY|Ph
             ·rw[List.getElem?_append_left cY]at hj;exact(h6.step pB) j u hj
             ·rw[List.getElem?_append_right Ph]at hj;have Ie:j-cs.length<fv.length:=(av.1 hj).1;have nj:off+j=off+l.length*T.size (T.dG jn)+(j-cs.length):=by omega
              refine⟨?_,?_,?_⟩
              ·simp only[World.cell?,uU];have:=E6 (j-cs.length) Ie;rw[<-nj,hj]at this
               simpa using this
              ·rw[hO];exact(g.outer b (off+j) ⟨id,_,h1,⟨rfl,by omega,by omega⟩⟩).1
              ·refine EU _ (by omega) ?_;simp only[bu,aL];rw[dc,Nat.add_mul];omega
            ·have:=h7.jB o8;have fT:R T X false (.arr jn (l++xs).length (l++xs)) (cs++fv):=by simpa using this
             exact fT.step K.base pB (by simp[D.refs]))
          refine⟨_,X',by rw[ez,pu],g2,s2,⟨.mk rfl (.vs fun v e b' jt ks hv=>?_),yu⟩⟩;rw[hρ]at hv;simp at hv;obtain⟨rfl,_⟩:=hv;exact⟨by simp[hJ],fun _=>rfl⟩
    ·exact Ex.cI dX
   ·simp only[jg,dite_false]at l4;exact Ex.cI l4
 |_=>exact Ex.cI dX
end
section
variable {C:ij}{P:Program}{T:fA C}(K:Zq P T)
open Pg (Ex)
variable {X:Cx}{h h':Heap C}{nx cM:Nat}{e:Pg.Lv}{lim:eL}{tr:Tr}(g:G T X h nx lim)(eA:cM<=lim.top)
include K g
theorem QhP(eA:cM<=lim.top){t:TypeId}{n c d:D C}{vn vc:Value}(hn:RO T X nx lim n vn)(hc:RO T X nx lim c vc)(hx:Ex e (LA T t n c) h nx d h' cM tr) :
 dz P T X nx lim h' cM d (Instr.makeSlice t vn vc):=by
 unfold LA at hx;cases ht:T.ty t with
 |sl el ty=>
  simp only[ht]at hx
  split at hx
  ·rename_i e2 CS n0 c0 hq;simp only[GT.sl.injEq]at hq;obtain⟨rfl,rfl⟩:=hq;obtain⟨rfl,hnr⟩:=hn.1.int;obtain⟨rfl,Cz⟩:=hc.1.int;rcases Ex.br hx with⟨hb,hx⟩|⟨_,hx⟩
   ·obtain⟨t1,hx,_⟩:=Ex.nw hx;obtain⟨rfl,rfl,rfl,rfl⟩:=Ex.ret hx;simp only[ai,aa]at hb;obtain⟨⟨h0,hnc⟩,fN⟩:=hb;have ma:=Mb fN;obtain⟨ie,z,q1,q2,q3,qb,q4,q5,q6,q7⟩:=K.ll _ _ _ (.inr ht);have mV:=(K.base.mP _ _ _ ht).2.2
    have hw:IntKind.i64.wrap n0=n0:=by
     simp[IntKind.min,IntKind.max,IntKind.signed,IntKind.bits]at hnr;unfold IntKind.wrap;simp[IntKind.signed,IntKind.bits];omega
    have hwc:IntKind.i64.wrap c0=c0:=by
     simp[IntKind.min,IntKind.max,IntKind.signed,IntKind.bits]at Cz;unfold IntKind.wrap;simp[IntKind.signed,IntKind.bits];omega
    have CN:=R.Rb (q7 X) n0.toNat;have tg:=Gk z.cells (by omega) c0.toNat;rw[q6]at tg;have hlz:((Array.range (c0.toNat*T.size el)).map fun i=>z.cells[i%T.size el]!).size=c0.toNat*T.size el:=by simp
    have cY:n0.toNat<=c0.toNat:=by omega
    obtain⟨X',pu,g2,s2,r2⟩:=G.qx K.base g (by omega) (t:=ty) (l:=List.replicate n0.toNat (T.fh ty)) (c:=(Array.range (c0.toNat*T.size el)).map fun i=>z.cells[i%T.size el]!) (e:=el) (cp:=c0.toNat) true (by
     have e1:((Array.range (c0.toNat*T.size el)).map fun i=>z.cells[i%T.size el]!).toList.take ((List.replicate n0.toNat (T.fh ty)).length*T.size (T.dG ty))=(List.replicate n0.toNat z.cells.toList).flatten:=by
      rw[tg,show c0.toNat=n0.toNat+(c0.toNat-n0.toNat)by omega,<-List.replicate_append_replicate,List.flatten_append];rw[bt,List.take_left'];simp[<-mV,q6]
     rw[e1]
     simpa using CN) (by simpa using cY) (by rw[hlz,mV];exact aq _)
    rw[bt]at r2;refine⟨_,X',?_,g2,s2,⟨.mk rfl r2,?_⟩⟩
    ·have sD:(T.bytes el:Int)*c0=((c0.toNat*T.bytes el:Nat):Int):=by
      rw[Int.natCast_mul,Int.mul_comm];congr 1;omega
     have hle:¬(281474976710656<(T.bytes el:Int)*c0):=by rw[sD];omega
     rw[pu]
     by_cases PY:c0.toNat*T.size el=0
     ·have wN:c0.toNat=0:=by
       rcases Nat.mul_eq_zero.1 PY with h|h
       ·exact h
       ·omega
      have oC:c0=0:=by omega
      have ng:n0=0:=by omega
      subst oC;subst ng;simp[Instr.makeSlice,aB (K.oT _ _ _ ht),asInt,asIntOf,typeInfo,q1,q2,q3,sizeOf,hw,newRow];rw[Array.range_zero',Array.map_empty,Array.map_empty]
     ·have Ph:¬n0<0:=by omega
      have Pj:¬c0<0:=by omega
      have Pk:¬n0>c0:=by omega
      have Pl:¬c0<n0:=by omega
      simp only[Instr.makeSlice,aG,aB (K.oT _ _ _ ht),aA,asInt,asIntOf,typeInfo,run_program,q1,aF,q2,q3,sizeOf,hw,hwc];simp[Ph,Pj,Pk,Pl,hle,q1,q2,q5,q6,zeroValue,typeInfo,newRow,PY]
    ·intro id dU;simp[D.refs]at dU;subst dU;exact g.new (by omega)
   ·exact Ex.cI hx
  ·exact Ex.cI hx
 |_=>rw[ht]at hx;exact Ex.cI hx
theorem QEs{t ty0:TypeId}{a d:D C}{va:Value}(ha:RO T X nx lim a va)(hx:Ex e (yV T t a) h nx d h' cM tr):dz P T X nx lim h' cM d (Builtin.len_ #[t] ty0 #[va]):=by
 have hi:∀n:Nat,n<=9223372036854775807->RO T X nx lim (.int .i64 n) (.int .i64 n):=fun n hn=>RO.mk (.mk rfl (.int (by simp[IntKind.min,IntKind.max,IntKind.signed,IntKind.bits];omega))) rfl;unfold yV at hx;cases ht:T.ty t with
 |sl el ty=>
  simp only[ht]at hx;have hu:=K.oT _ _ _ ht;cases a with
  |eO=>
   obtain⟨rfl,rfl,rfl,rfl⟩:=Ex.ret hx;rw[ha.1.eO];exact dz.same g _ (by simp[Builtin.len_,aB hu,goInt]) (hi 0 (by omega))
  |sl jn cap l=>
   simp only at hx;rcases Ex.br hx with⟨hb,hx⟩|⟨_,hx⟩
   ·obtain⟨rfl,rfl,rfl,rfl⟩:=Ex.ret hx;have hR:=ha.1.one rfl;cases hR with
    |li=>exact dz.same g _ (by simp[Builtin.len_,aB hu,goInt]) (hi 0 (by omega))
    |sl jq hr _ _=>exact dz.same g _ (by simp[Builtin.len_,aB hu,goInt]) (hi _ (Nat.le_of_ble_eq_true hb))
   ·exact Ex.cI hx
  |vs id n=>
   simp only at hx;rcases Ex.br hx with⟨hb,hx⟩|⟨_,hx⟩
   ·obtain⟨rfl,rfl,rfl,rfl⟩:=Ex.ret hx;have hR:=ha.1.one rfl;cases hR with
    |vs hh=>exact dz.same g _ (by simp[Builtin.len_,aB hu,goInt]) (hi _ (Nat.le_of_ble_eq_true hb))
   ·exact Ex.cI hx
  |jR ta id p lo n=>
   simp only at hx;rcases Ex.br hx with⟨hb,hx⟩|⟨_,hx⟩
   ·obtain⟨rfl,rfl,rfl,rfl⟩:=Ex.ret hx;have hR:=ha.1.one rfl;cases hR with
    |jR hh=>exact dz.same g _ (by simp[Builtin.len_,aB hu,goInt]) (hi _ (Nat.le_of_ble_eq_true hb))
   ·exact Ex.cI hx
  |_=>exact Ex.cI hx
 |str=>
  simp only[ht]at hx;have hu:=K.lv _ ht;cases a with
  |str s=>
   simp only at hx;rcases Ex.br hx with⟨hb,hx⟩|⟨_,hx⟩
   ·obtain⟨rfl,rfl,rfl,rfl⟩:=Ex.ret hx;rw[ha.1.str];have fN:(⟨⟨s⟩⟩:ByteArray).size=s.length:=rfl;exact dz.same g _ (by simp[Builtin.len_,aB hu,goInt,fN]) (hi _ (Nat.le_of_ble_eq_true hb))
   ·exact Ex.cI hx
  |_=>exact Ex.cI hx
 |arr n el ty=>
  simp only[ht]at hx;have hu:=(K.nZ _ _ _ _ ht).1;cases hb:Nat.ble n 9223372036854775807 with
  |false=>rw[hb]at hx;exact Ex.cI hx
  |true=>
   rw[hb]at hx;obtain⟨rfl,rfl,rfl,rfl⟩:=Ex.ret hx;exact dz.same g _ (by simp[Builtin.len_,aB hu,goInt]) (hi _ (Nat.le_of_ble_eq_true hb))
 |struct nX fs=>
  cases nX with
  |false=>rw[ht]at hx;exact Ex.cI hx
  |true=>
   simp only[ht]at hx;obtain⟨el,hu,_⟩:=K.qC _ _ ht;cases hb:Nat.ble fs.length 9223372036854775807 with
   |false=>rw[hb]at hx;exact Ex.cI hx
   |true=>
    rw[hb]at hx;obtain⟨rfl,rfl,rfl,rfl⟩:=Ex.ret hx;exact dz.same g _ (by simp[Builtin.len_,aB hu,goInt]) (hi _ (Nat.le_of_ble_eq_true hb))
 |fY el=>
  simp only[ht]at hx;have hu:=(K.qA _ _ ht).1;cases a with
  |fY n xT ds=>
   simp only at hx;rcases Ex.br hx with⟨hb,hx⟩|⟨_,hx⟩
   ·obtain⟨rfl,rfl,rfl,rfl⟩:=Ex.ret hx;have hR:=ha.1.one rfl;cases hR with
    |fY jq hr hn h1 hc=>exact dz.same g _ (by simp[Builtin.len_,aB hu,goInt]) (hi _ (Va hb))
   ·exact Ex.cI hx
  |_=>exact Ex.cI hx
 |_=>rw[ht]at hx;exact Ex.cI hx
omit K in
theorem U0{args:List (D C)}{vs:bT}{d:D C}(ty0:TypeId)(tO:Array TypeId)(ha:iu T X args vs) :
 (Dz args=some d->dz P T X nx lim h nx d (Builtin.min_ tO ty0 ⟨vs⟩))/\(DA args=some d->dz P T X nx lim h nx d (Builtin.max_ tO ty0 ⟨vs⟩)):=by
 cases ha with
 |nil=>exact⟨fun hf=>by simp[Dz]at hf,fun hf=>by simp[DA]at hf⟩
 | @cons d0 ds v vs h0 hr=>
  cases d0 with
  |int k a=>
   obtain⟨rfl,Cu⟩:=h0.int;constructor
   ·intro hf;simp only[Dz,Option.map_eq_some_iff]at hf;obtain⟨n,hf,rfl⟩:=hf
    have key:∀(ds:List (D C)) (vs:bT) (a:Int),iu T X ds vs->k.min<=a/\a<=k.max->rF k a ds=some n ->
     (k.min<=n/\n<=k.max)/\(vs.foldlM Builtin.min2 (.int k a)).run P X.w=.ok (.int k n) X.w:=by
     intro ds
     induction ds with
     |nil=>intro vs a nV ha hf;cases nV;simp[rF]at hf;subst hf;exact⟨ha,by simp⟩
     |cons x ds ih=>
      intro vs a nV ha hf;cases nV with
      |cons hx hr=>
       cases x with
       |int k2 b=>
        obtain⟨rfl,hb⟩:=hx.int;simp only[rF]at hf
        split at hf
        ·rename_i hk;subst hk;have:=ih _ _ hr (by split<;>assumption) hf;refine⟨this.1,?_⟩;simp only[List.foldlM_cons,Builtin.min2,pure_bind];exact this.2
        ·simp at hf
       |_=>simp[rF]at hf
    obtain⟨hn,ez⟩:=key ds vs a hr Cu hf;exact dz.same g _ (by simp only[Builtin.min_];exact ez) (RO.mk (.mk rfl (.int hn)) rfl)
   ·intro hf;simp only[DA,Option.map_eq_some_iff]at hf;obtain⟨n,hf,rfl⟩:=hf
    have key:∀(ds:List (D C)) (vs:bT) (a:Int),iu T X ds vs->k.min<=a/\a<=k.max->rE k a ds=some n ->
     (k.min<=n/\n<=k.max)/\(vs.foldlM Builtin.max2 (.int k a)).run P X.w=.ok (.int k n) X.w:=by
     intro ds
     induction ds with
     |nil=>intro vs a nV ha hf;cases nV;simp[rE]at hf;subst hf;exact⟨ha,by simp⟩
     |cons x ds ih=>
      intro vs a nV ha hf;cases nV with
      |cons hx hr=>
       cases x with
       |int k2 b=>
        obtain⟨rfl,hb⟩:=hx.int;simp only[rE]at hf
        split at hf
        ·rename_i hk;subst hk;have:=ih _ _ hr (by split<;>assumption) hf;refine⟨this.1,?_⟩;simp only[List.foldlM_cons,Builtin.max2,pure_bind];exact this.2
        ·simp at hf
       |_=>simp[rE]at hf
    obtain⟨hn,ez⟩:=key ds vs a hr Cu hf;exact dz.same g _ (by simp only[Builtin.max_];exact ez) (RO.mk (.mk rfl (.int hn)) rfl)
  |_=>exact⟨fun hf=>by simp[Dz]at hf,fun hf=>by simp[DA]at hf⟩
omit K in
theorem MI{ty:C.Ty}{x d:D C}{vx:Value}(hx:RO T X nx lim x vx){k:List (C.A ty)->Pg C (D C)}(dX:Ex e (lf ty x k) h nx d h' cM tr) :
 ∃xs la,Src T X X.w ty xs vx/\Ex e (k xs) h nx d h' cM la:=by
 unfold lf at dX;cases x with
 |eO=>rw[hx.1.eO];exact⟨[],_,.inl ⟨⟨_,rfl⟩,rfl⟩,dX⟩
 |sl t' cap l=>
  simp only at dX
  by_cases jg:t'=ty
  ·subst jg;simp only[dite_true]at dX;exact⟨l,_,(hx.1.one rfl).src,dX⟩
  ·simp only[jg,dite_false]at dX;exact Ex.cI dX
 |vs id n=>
  simp only at dX;obtain⟨o,la,ho,l4,_⟩:=Ex.rd dX;clear dX;cases o with
  |var u d0=>exact Ex.cI l4
  |map _ _ _=>exact Ex.cI l4
  |ek _=>exact Ex.cI l4
  |cj jn dM l=>
   simp only at l4
   by_cases jg:jn=ty
   ·subst jg;simp only[dite_true]at l4;rcases Ex.br l4 with⟨hb,dX⟩|⟨_,dX⟩
    ·have hn:n=l.length:=az hb;obtain⟨v0,b,lo,hi,h1,h2⟩:=g.cj id jn dM l ho;have hR:=hx.1.one rfl;cases hR with
     | @vs _ _ cp a0 hh=>
      have jI:=(hh _ _ _ _ _ h1).2 (by rw[h2.len,hn]);rw[jI]at h2;exact⟨l,_,h2.src,dX⟩
    ·exact Ex.cI dX
   ·simp only[jg,dite_false]at l4;exact Ex.cI l4
 |_=>exact Ex.cI dX
omit g K in
theorem QqM{t tx ty0 el:TypeId}{ie:TypeInfo}(w:World)(hu:P.underlying t=some (.slice el))(hi:P.info? el=some ie)(ao bo:dN)(n cp m c:Nat)(h:Nat.min m n=0) :
 (Builtin.copy_ #[t,tx] ty0 #[.slice ao n cp,.slice bo m c]).run P w=.ok (.int .i64 0) w:=by
 cases ao<;>cases bo<;>simp[Builtin.copy_,aB hu,Builtin.lenOf,h,Builtin.firstCells,loadCells,loadCellsFrom,sizeOf,typeInfo,hi,storeCells,goInt]
theorem QBT{t tx el:TypeId}{ty:C.Ty}(ht:T.ty t=.sl el ty)(ty0:TypeId){s d:D C}{vs vx:Value}(hs:RO T X nx lim s vs)(xs:List (C.A ty))(wR:Src T X X.w ty xs vx)
 (dX:Ex e (Iw ty s xs) h nx d h' cM tr):dz P T X nx lim h' cM d (Builtin.copy_ #[t,tx] ty0 #[vs,vx]):=by
 obtain⟨ie,z,q1,q2,q3,qb,q4,q5,q6,_⟩:=K.ll _ _ _ (.inr ht);have mV:=(K.base.mP _ _ _ ht).2.2;have hu:=K.oT _ _ _ ht;unfold Iw at dX;cases s with
 |vs id n=>
  simp only at dX;obtain⟨o,la,ho,l4,_⟩:=Ex.rd dX;clear dX;cases o with
  |var u d0=>exact Ex.cI l4
  |map _ _ _=>exact Ex.cI l4
  |ek _=>exact Ex.cI l4
  |cj jn dM l=>
   cases dM with
   |false=>exact Ex.cI l4
   |true=>
    simp only[Qqu]at l4
    by_cases jg:jn=ty
    ·subst jg;simp only[dite_true]at l4;rcases Ex.br l4 with⟨hb,dX⟩|⟨_,dX⟩
     ·obtain⟨o',t2,_,dX,_⟩:=Ex.wr dX;obtain⟨rfl,rfl,rfl,rfl⟩:=Ex.ret dX;simp only[ai]at hb;have hn:n=l.length:=az hb.1;have jk:=Va hb.2;subst hn;obtain⟨v0,b,lo,hi,h1,h2⟩:=g.cj id jn true l ho;have hR:=hs.1.one rfl
      have hint:RO T X cM lim (.int .i64 ((min xs.length l.length:Nat):Int)) (.int .i64 ((min xs.length l.length:Nat):Int)):=
       RO.mk (.mk rfl (.int (by simp[IntKind.min,IntKind.max,IntKind.signed,IntKind.bits];omega))) rfl
      cases hR with
      | @vs _ _ cp a0 hh=>
       have jI:=(hh _ _ _ _ _ h1).2 h2.len;subst jI
       have yR:∃bo m c,vx=.slice bo m c/\m=xs.length:=by
        rcases wR with⟨⟨a,rfl⟩,rfl⟩|⟨b,off,cp,cs,rfl,_⟩
        ·exact⟨a,0,0,rfl,rfl⟩
        ·exact⟨_,_,_,rfl,rfl⟩
       by_cases hk:min xs.length l.length=0
       ·obtain⟨bo,m,c,rfl,rfl⟩:=yR;have ez:=QqM (P:=P) (t:=t) (tx:=tx) (ty0:=ty0) X.w hu q1 a0 bo l.length cp xs.length c hk
        have kR:xs.take l.length++l.drop xs.length=l:=by
         rcases Nat.eq_zero_or_pos l.length with h0|h0
         ·have:l=[]:=List.length_eq_zero_iff.1 h0;subst this;simp
         ·have:xs=[]:=List.length_eq_zero_iff.1 (by omega);subst this;simp
        rw[kR]at *
        refine⟨_,X,by rw[ez],g.congr (fun j=>?_),.refl _ _ _,?_⟩
        ·rw[Qu (g.kg id _ h1)]
         by_cases hj:j=id
         ·simp[hj,ho]
         ·simp[hj]
        ·rw[hk];rw[hk]at hint;exact hint
       ·have Ps:min xs.length l.length<=l.length:=Nat.min_le_right _ _;have CD:min xs.length l.length<=xs.length:=Nat.min_le_left _ _;have E7:Nat.min xs.length l.length=min xs.length l.length:=rfl
        have kR:xs.take l.length++l.drop xs.length=xs.take (min xs.length l.length)++l.drop (min xs.length l.length):=by
         rcases Nat.le_total xs.length l.length with h0|h0
         ·rw[Nat.min_eq_left h0,List.take_of_length_le h0,List.take_of_length_le (aq _)]
         ·rw[Nat.min_eq_right h0,aO h0,aO (aq _)]
        generalize min xs.length l.length=k at hk Ps CD E7 kR hint;rcases wR with⟨_,rfl⟩|⟨bx,ox,cx,cs,rfl,o8,hcx⟩
        ·simp at CD;omega
        rcases h2 with⟨⟨a,q9,_⟩,rfl,_⟩|⟨off,lz,q9,q10,q11,q12⟩
        ·simp at Ps;omega
        simp only[Value.slice.injEq]at q9;obtain⟨rfl,_,rfl⟩:=q9;rcases q12 with⟨_,gk,Cw|⟨c,ee,hc,oc,Ih⟩⟩|⟨hf,_⟩
        ·omega
        ·obtain⟨n1,n2,rfl,hnl,oC,ng⟩:=o8.jF K.base k CD;obtain⟨l1,l2,CE,E0,yB,nR⟩:=Ih.jF K.base k Ps;have Pu:=(nR.gE K.base).1;have hmul:l.length*T.size (T.dG jn)<=cp*T.size (T.dG jn):=Nat.mul_le_mul_right _ q10;have yO:k*T.size (T.dG jn)+(l.length-k)*T.size (T.dG jn)=l.length*T.size (T.dG jn):=by rw[<-Nat.add_mul];congr 1;omega
         have O8:c.toList.length=c.size:=by simp
         have lD:=oC.hQ K.base rfl (.inr ⟨_,_,_,rfl⟩);have eI:=run_storeCells_at P b off ee n1 0 c X.w hc (by omega) lD
         have u4:=run_firstCells_some (P:=P) X.w ie.size k ⟨bx,ox,none⟩ xs.length cx n1 (by rw[hnl,q2,mV]) (fun j v hj=>by
          rw[Addr.add_lit];exact hcx j v (by rw[List.getElem?_append_left (av.1 hj).1];exact hj))
         have nm:=Ma c.toList off (l.length*T.size (T.dG jn)) [] l1 l2 n1 (by simpa using CE) (by omega) (by omega);have rV:=Gh c.toList off n1 (by omega);have o6:=Gg c.toList off n1 (by omega);simp only[bH,Nat.add_zero,aH]at nm;simp only[Nat.add_zero]at eI;generalize rT:c.toList.take off++n1++c.toList.drop (off+n1.length)=kk at eI nm rV o6
         have yE:R T X false (.arr jn l.length (xs.take k++l.drop k)) (n1++l2):=by
          have:=oC.jB nR;rw[show k+(l.length-k)=l.length by omega]at this;exact this
         have jY:(xs.take k++l.drop k).length=l.length:=by simp;omega
         rw[kR]
         obtain⟨X',pu,_,hg,lR⟩:=G.oP K.base g ho h1 hc (c':=kk.toArray) (l':=xs.take k++l.drop k) (v':=.slice (some ⟨b,off,none⟩) l.length cp) (jt:=lo) (by simp[o6]) (by
          intro o gU;have:=rV o (by omega)
          simpa using this) (aq _) (.inr rfl) ⟨aq _,fun _=>rfl⟩ (by
          intro X' hw hO hm _ pB;refine .inr ⟨off,cp,by rw[jY],by rw[jY];exact q10,q11,.inl ⟨rfl,gk,.inr ⟨_,ee,by rw[hw];exact setRow_heap _ _ _ _ _ _ hc,by simpa[o6]using oc,?_⟩⟩⟩;have fT:=yE.step K.base pB (by simp[D.refs]);rw[jY]
          simpa[nm]using fT)
         refine⟨_,X',?_,hg,lR,hint.step K.base lR (aq _)⟩;simp[Builtin.copy_,aB hu,Builtin.lenOf,E7,sizeOf,typeInfo,q1,u4,eI,pu,goInt]
        ·simp at hf
     ·exact Ex.cI dX
    ·simp only[jg,dite_false]at l4;exact Ex.cI l4
 |_=>exact Ex.cI dX
omit K g in
theorem MJ{ty:C.Ty}:∀(l:List (C.A ty)) (bs:bK),l.map (T.enc ty)=(bs.map fun b=>D.int .u8 (b.toNat:Int))->R T X false (.arr ty l.length l) (bs.map fun b=>Value.int .u8 (b.toNat:Int))
 |[],bs,h=>by cases bs with|nil=>exact .iK ty|cons=>simp at h
 |x::l,bs,h=>by
  cases bs with
  |nil=>simp at h
  |cons b bs=>
   simp only[List.map_cons,List.cons.injEq]at h
   have h1:R T X false (T.enc ty x) [.int .u8 (b.toNat:Int)]:=by
    rw[h.1];have:=b.toNat_lt;exact .int (by simp[IntKind.min,IntKind.max,IntKind.signed,IntKind.bits];omega)
   exact .jz h1 (MJ l bs h.2)
omit g in
theorem Qx7{t el:TypeId}{ty:C.Ty}(ht:T.ty t=.sl el ty)(he:T.ty el=.int .u8){xs:List (C.A ty)}{bs:bK}(h:xs.map (T.enc ty)=bs.map fun b=>D.int .u8 (b.toNat:Int)){w:World}:uo P T X w ty xs (.string ⟨⟨bs⟩⟩):=by
 have dc:xs.length=bs.length:=by have:=ap List.length h;simpa using this
 have sY:T.size (T.dG ty)=1:=by rw[<- (K.base.mP _ _ _ ht).2.2];exact K.base.tN _ _ he
 refine⟨fun w'=>?_,bs.map fun b=>Value.int .u8 (b.toNat:Int),MJ _ _ h,fun w' _=>?_⟩
 ·simp only[Builtin.lenOf,aF];rw[dc];rfl
 ·rw[sY,dc];simp only[Builtin.firstCells,aF]
  congr 1
  apply Array.ext'
  have:((⟨⟨bs⟩⟩:ByteArray).extract 0 bs.length).data=⟨bs⟩:=by
   apply Array.ext';simp
  rw[this];simp
omit K g in
theorem R.tK{X:Cx}{m:Bool}{d:D C}{vs:bT}(h:R T X m d vs):m=true->vs.length=d.size:=by
 induction h with
 |iV=>intro _;rfl
 |jU _ _ _ _ ih=>intro _;simp[D.size,ih rfl]
 |ju _ _ _ _ ih=>intro _;simp[D.size,ih rfl]
 |_=>intro hm;simp at hm
omit K g in
theorem R.y9{X:Cx}{m:Bool}{d e:D C}{vs us:bT}(h:R T X m d vs)(k:R T X true e us):m=true->R T X true (d.append e) (vs++us):=by
 induction h with
 |iV=>intro _;exact k
 |jU h1 h2 _ _ ih=>intro _;exact .jU h1 h2 (ih rfl)
 |ju h1 h2 _ _ ih=>intro _;exact .ju h1 h2 (ih rfl)
 |_=>intro hm;simp at hm
omit K g in
theorem D.mA:∀{d e:D C},d.hQ=true->e.hQ=true->(d.append e).hQ=true
 |.bI a b,e,h1,h2=>by
  simp only[D.hQ,ai]at h1;simp only[D.append,D.hQ,h1.1,D.mA h1.2 h2,au]
 |.bN,e,_,h2=>h2
 |.bool _,_,h,_ |.int _ _,_,h,_ |.str _,_,h,_ |.arr _ _ _,_,h,_ |.cH _,_,h,_ |.eO,_,h,_ |.sl _ _ _,_,h,_ |.vs _ _,_,h,_ |.ptr _ _,_,h,_ |.fx _ _ _,_,h,_ |.dS _,_,h,_ |.fw,_,h,_ |.fn _ _,_,h,_
 |.cD,_,h,_ |.gz,_,h,_ |.bm _ _,_,h,_ |.yl _ _ _ _ _ _ _,_,h,_ |.fY _ _ _,_,h,_ |.ku _,_,h,_ |.mp _,_,h,_ |.jR _ _ _ _ _,_,h,_ |.top,_,h,_=>by simp[D.hQ]at h
omit K g in
theorem D.mC:∀{d e:D C} (r:Nat),r∈(d.append e).refs->d.hQ=true->r∈d.refs\/r∈e.refs
 |.bI a b,e,r,h,ho=>by
  simp only[D.append,D.refs,aT]at h;simp only[D.hQ,ai]at ho;rcases h with h|h
  ·exact .inl (by simp[D.refs,h])
  ·rcases D.mC r h ho.2 with h|h
   ·exact .inl (by simp[D.refs,h])
   ·exact .inr h
 |.bN,e,r,h,_=>.inr h
 |.bool _,_,_,_,h |.int _ _,_,_,_,h |.str _,_,_,_,h |.arr _ _ _,_,_,_,h |.cH _,_,_,_,h |.eO,_,_,_,h |.sl _ _ _,_,_,_,h |.vs _ _,_,_,_,h |.ptr _ _,_,_,_,h |.fx _ _ _,_,_,_,h |.dS _,_,_,_,h |.fw,_,_,_,h |.fn _ _,_,_,_,h
 |.cD,_,_,_,h |.gz,_,_,_,h |.bm _ _,_,_,_,h |.yl _ _ _ _ _ _ _,_,_,_,h |.fY _ _ _,_,_,_,h |.ku _,_,_,_,h |.mp _,_,_,_,h |.jR _ _ _ _ _,_,_,_,h |.top,_,_,_,h=>by simp[D.hQ]at h
omit eA in
theorem QqN{t tx el:TypeId}(ht:T.ty t=.fY el)(kU:∃u,P.underlying tx=some u/\∀k,u ≠ .int k)(ty0:TypeId){n m:Nat}{cx:Bool}{ds es:D C}{vs vx:Value}(hs:RO T X nx lim (.fY n true ds) vs)(kh:RO T X nx lim (.fY m cx es) vx)
 (h1:n=ds.size) (h2:m=es.size) (h3:1<=m) (h4:n+m<=16777216):dz P T X nx lim h nx (.fY (n+m) false (ds.append es)) (Builtin.append_ #[t,tx] ty0 #[vs,vx]):=by
 obtain⟨hu,fU,i,z,hi,fN,hz,Io,hby⟩:=K.qA _ _ ht;have hR:=hs.1.one rfl;have hRx:=kh.1.one rfl;cases hR with
 | @fY _ b off cp _ _ cs jq hr hn ho hc=>
  cases hRx with
  | @fY _ b2 Fw cp2 _ _ xU O2 kK ng mJ uV=>
   obtain⟨rfl,uW⟩:=hc.2 rfl;have nR:xU.length=m:=by rw[kK.tK rfl,h2]
   have u9:=run_loadCells_list (P:=P) X.w.drew ⟨b2,Fw,none⟩ xU (fun j v hj=>by rw[Addr.add_lit];exact(O2 j v hj).1);rw[nR]at u9
   have hnc:Builtin.nextslicecap (cp+m) cp*i.bytes<=281474976710656:=J5 _ _ _ (by omega) (by
    have:(cp+m)*i.bytes<=16777216*1024:=Nat.mul_le_mul h4 hby;omega)
   have ez:=LD (P:=P) (t:=t) (tx:=tx) (ty0:=ty0) X.w hu kU hi hz (some ⟨b,off,none⟩) cp cp cs (.inr ⟨_,rfl,by rw[uW,fN];omega,fun j v hj=>by rw[Addr.add_lit];exact(jq j v hj).1⟩) (.slice (some ⟨b2,Fw,none⟩) m cp2) m xU
    (by simp[Builtin.lenOf]) (by simpa[Builtin.firstCells,fN]using u9) (by omega) (by omega) hnc
   have yp:=J6 X.w (cp+m) cp el;generalize grownCap X.w (cp+m) cp el=cap at ez yp;obtain⟨g1,s1⟩:=G.world K.base g X.w.drew rfl rfl rfl rfl;obtain⟨g2,s2,f2⟩:=G.data K.base g1 (cs++xU++(Builtin.zeroCells z.cells (cap-(cp+m))).toList).toArray el;have eI:=s1.trans s2 (aq _)
   have hrefs:∀r∈(ds.append es).refs,fL nx lim r:=fun r hr=>by
    rcases D.mC r hr ho with h|h
    ·exact hs.2 r (by simpa[D.refs]using h)
    ·exact kh.2 r (by simpa[D.refs]using h)
   refine⟨_,_,ez,g2,eI,⟨.mk rfl ?_,by simpa[D.refs]using hrefs⟩⟩;refine .fY (cs:=cs++xU) (fun j v hj=>⟨?_,f2 _⟩) ((hr.y9 kK rfl).step K.base eI hrefs) (by simp;omega) (D.mA ho mJ) ⟨yp,fun h=>by cases h⟩;have kQ:(X.w.drew.alloc (.cells (cs++xU++(Builtin.zeroCells z.cells (cap-(cp+m))).toList).toArray el)).heap[X.w.heap.size]? = some (.cells (cs++xU++(Builtin.zeroCells z.cells (cap-(cp+m))).toList).toArray el (0,0)):=Zf X.w.drew _;simp only[World.cell?,kQ,aN];simp only[List.getElem?_toArray];rw[List.getElem?_append_left (av.1 hj).1,hj];rfl
theorem QoI(eA:cM<=lim.top){b:Builtin}{tO:cK}{ty0:TypeId}{args:List (D C)}{vs:bT}{d:D C}(ha:iu T X args vs)(hr:∀a∈args,∀id∈a.refs,fL nx lim id)(dc:tO.length=args.length)
 (hx:Ex e (MP T b tO args) h nx d h' cM tr) :
 ∃s:Sem Value,(∀qe,Go.builtin b ⟨tO⟩ ty0 qe ⟨vs⟩=(do pure (.value (<-s))))/\dz P T X nx lim h' cM d s:=by
 unfold MP at hx
 split at hx
 ·-- len
  rename_i a;cases ha with
  |cons h0 hn=>
   cases hn;cases tO with
   |nil=>simp at dc
   |cons t ts=>
    cases ts with
    |cons=>simp at dc
    |nil=>exact⟨_,fun _=>rfl,QEs K g ⟨h0,hr a (by simp)⟩ hx⟩
 ·-- append
  rename_i s x;cases ha with
  |cons h0 hn=>
   cases hn with
   |cons h1 hn=>
    cases hn
    match tO,dc with
    |[t,tx],_=>
     simp only[List.getD_cons_zero,List.getD_cons_succ]at hx;cases ht:T.ty t with
     |sl el ty=>
      simp only[ht]at hx;cases kU:T.ty tx with
      |sl ON CS=>
       simp only[kU]at hx;cases hd:decide (ty=CS)with
       |false=>rw[hd]at hx;exact Ex.cI hx
       |true=>
        rw[hd]at hx;simp only[ag]at hx;obtain⟨xs,la,qm,hx⟩:=MI g (ty:=ty) ⟨h1,hr x (by simp)⟩ hx;exact⟨_,fun _=>rfl,Si K g eA ht ⟨_,K.oT _ _ _ kU,by simp⟩ ty0 ⟨h0,hr s (by simp)⟩ xs (qm.feed K.base) hx⟩
      |str=>
       simp only[kU]at hx
       split at hx
       rotate_left
       ·exact Ex.cI hx
       rename_i he
       split at hx
       rotate_left
       ·exact Ex.cI hx
       rename_i fu EV
       split at hx
       rotate_left
       ·exact Ex.cI hx
       rename_i bs _;rw[h1.str];exact⟨_,fun _=>rfl,Si K g eA ht ⟨_,K.lv _ kU,by simp⟩ ty0 ⟨h0,hr s (by simp)⟩ (fu bs) (Qx7 K ht he (K.base.kD _ _ bs EV)) hx⟩
      |_=>rw[kU]at hx;exact Ex.cI hx
     |fY el=>
      simp only[ht]at hx;cases kU:T.ty tx with
      |fY ON=>
       simp only[kU]at hx;cases hd:Nat.beq el ON with
       |false=>rw[hd]at hx;exact Ex.cI hx
       |true=>
        rw[hd]at hx;simp only[ag]at hx
        split at hx
        ·rename_i n ds m cx es _;cases hc:(Nat.beq n ds.size&&Nat.beq m es.size&&(Nat.ble 1 m&&Nat.ble (n+m) 16777216))with
         |false=>rw[hc]at hx;exact Ex.cI hx
         |true=>
          rw[hc]at hx;obtain⟨rfl,rfl,rfl,rfl⟩:=Ex.ret hx;simp only[ai,Nat.beq_eq]at hc;exact⟨_,fun _=>rfl,QqN K g ht ⟨_,(K.qA _ _ kU).1,by simp⟩ ty0 ⟨h0,hr (.fY n true ds) (by simp)⟩ ⟨h1,hr (.fY m cx es) (by simp)⟩ hc.1.1 hc.1.2 (Nat.le_of_ble_eq_true hc.2.1) (Nat.le_of_ble_eq_true hc.2.2)⟩
        ·exact Ex.cI hx
      |_=>rw[kU]at hx;exact Ex.cI hx
     |_=>rw[ht]at hx;exact Ex.cI hx
 ·-- copy
  rename_i s x;cases ha with
  |cons h0 hn=>
   cases hn with
   |cons h1 hn=>
    cases hn
    match tO,dc with
    |[t,tx],_=>
     simp only[List.getD_cons_zero,List.getD_cons_succ]at hx;cases ht:T.ty t with
     |sl el ty=>
      simp only[ht]at hx;cases kU:T.ty tx with
      |sl ON CS=>
       simp only[kU]at hx;cases hd:decide (ty=CS)with
       |false=>rw[hd]at hx;exact Ex.cI hx
       |true=>
        rw[hd]at hx;simp only[ag]at hx;obtain⟨xs,la,qm,hx⟩:=MI g (ty:=ty) ⟨h1,hr x (by simp)⟩ hx;exact⟨_,fun _=>rfl,QBT K g ht ty0 ⟨h0,hr s (by simp)⟩ xs qm hx⟩
      |_=>rw[kU]at hx;exact Ex.cI hx
     |_=>rw[ht]at hx;exact Ex.cI hx
 ·obtain⟨hm,rfl,rfl,rfl⟩:=Ex.jZ hx;exact⟨_,fun _=>rfl,(U0 g ty0 ⟨tO⟩ ha).1 hm⟩
 ·obtain⟨hm,rfl,rfl,rfl⟩:=Ex.jZ hx;exact⟨_,fun _=>rfl,(U0 g ty0 ⟨tO⟩ ha).2 hm⟩
 ·exact Ex.cI hx
omit K g in
theorem QBU{ty:C.Ty}:∀{xs:List (C.A ty)} {n:Nat} {cs:bT} {bs:bK},R T X false (.arr ty n xs) cs->bytesOf T xs=some bs ->
 ∃ns:bY,cs=ns.map (Value.int .u8)/\bs=ns.map fun n=>UInt8.ofNat n.toNat:=by
 intro xs
 induction xs with
 |nil=>intro n cs bs h hb;cases h;simp[bytesOf]at hb;exact⟨[],rfl,by simp[hb]⟩
 |cons x xs ih=>
  intro n cs bs h hb;cases h with
  |jz h1 h2=>
   simp only[bytesOf]at hb
   split at hb
   ·rename_i m r he hr;rw[he]at h1;cases h1;obtain⟨ns,rfl,rfl⟩:=ih h2 hr;simp at hb;exact⟨m::ns,rfl,by simp[hb]⟩
   ·simp at hb
omit K g in
theorem QoJ(ns:bY):∀(s:bK),ns.foldl (fun r n=>r.push (UInt8.ofNat n.toNat)) (⟨⟨s⟩⟩:ByteArray)=⟨⟨s++ns.map fun n=>UInt8.ofNat n.toNat⟩⟩:=by
 induction ns with
 |nil=>intro s;simp
 |cons n ns ih=>
  intro s
  have e:(⟨⟨s⟩⟩:ByteArray).push (UInt8.ofNat n.toNat)=⟨⟨s++[UInt8.ofNat n.toNat]⟩⟩:=by
   apply ByteArray.ext;simp[ByteArray.push]
  rw[List.foldl_cons,e,ih];simp
theorem QBV{src dst:TypeId}{x d:D C}{vx:Value}(hx:RO T X nx lim x vx)(dX:Ex e (IA T src dst x) h nx d h' cM tr):dz P T X nx lim h' cM d (convert src dst vx):=by
 unfold IA at dX
 split at dX
 ·rename_i k0 k hs hd
  split at dX
  ·rename_i k1 n;obtain⟨rfl,rfl,rfl,rfl⟩:=Ex.ret dX;obtain⟨rfl,_⟩:=hx.1.int;exact dz.same g _ (by simp[convert,aB (K.nG _ _ hs),aB (K.nG _ _ hd),Conv.intToInt]) (RO.mk (.mk rfl (.int (Gj _ _))) rfl)
  ·exact Ex.cI dX
 ·rename_i hs hd
  split at dX
  ·rename_i s;obtain⟨rfl,rfl,rfl,rfl⟩:=Ex.ret dX;rw[hx.1.str];exact dz.same g _ (by simp[convert,aB (K.lv _ hs),aB (K.lv _ hd)]) (RO.mk (.mk rfl (.str _)) rfl)
  ·exact Ex.cI dX
 ·rename_i el ty hs hd
  split at dX
  ·rename_i he
   split at dX
   rotate_left
   ·exact Ex.cI dX
   rename_i fu EV;obtain⟨xs,la,qm,dX⟩:=MI g (ty:=ty) (Yr hx) dX;obtain⟨rfl,rfl,rfl,rfl⟩:=Ex.ret dX;have hb:=K.base.um _ _ xs EV;generalize fu xs=bs at hb ⊢;refine dz.same g (.string ⟨⟨bs⟩⟩) ?_ (RO.mk (.mk rfl (.str _)) rfl);have sY:T.size (T.dG ty)=1:=by rw[<- (K.base.mP _ _ _ hs).2.2];exact K.base.tN _ _ he
   rcases qm with⟨⟨a,rfl⟩,rfl⟩|⟨b,off,cp,cs,rfl,hr,hc⟩
   ·simp[bytesOf]at hb;subst hb;rw[run_convert_bytes_string X.w src dst el a 0 0 (K.oT _ _ _ hs) (K.nG _ _ he) (K.lv _ hd)];cases a<;>simp[Conv.bytesToString,loadCells,loadCellsFrom]<;>rfl
   ·rw[run_convert_bytes_string X.w src dst el _ _ _ (K.oT _ _ _ hs) (K.nG _ _ he) (K.lv _ hd)];obtain⟨ns,rfl,rfl⟩:=QBU hr hb;have dc:=(hr.gE K.base).1;rw[sY,Nat.mul_one]at dc;have u9:=run_loadCells_list (P:=P) X.w ⟨b,off,none⟩ (ns.map (Value.int .u8)) (fun j v hj=>by rw[Addr.add_lit];exact hc j v hj);rw[dc]at u9;rw[run_bytesToString X.w ⟨b,off,none⟩ xs.length cp ns u9];have:=QoJ ns []
    congr 2
  ·exact Ex.cI dX
 ·rename_i el ty hs hd
  split at dX
  rotate_left
  ·exact Ex.cI dX
  rename_i he
  split at dX
  rotate_left
  ·exact Ex.cI dX
  rename_i fu EV
  split at dX
  rotate_left
  ·exact Ex.cI dX
  rename_i s;rcases Ex.br dX with⟨hb,dX⟩|⟨_,dX⟩;rotate_left
  ·exact Ex.cI dX
  obtain⟨rfl,rfl,rfl,rfl⟩:=Ex.ret dX;rw[hx.1.str];have ez:=Go.Lib.run_convert_string_bytes (P:=P) X.w src dst el (⟨⟨s⟩⟩:ByteArray) (K.lv _ hs) (K.oT _ _ _ hd) (K.nG _ _ he);have fN:(⟨⟨s⟩⟩:ByteArray).size=s.length:=rfl;obtain⟨g1,s1⟩:=g.grow K.base (Go.Lib.bytesWorld X.w el ⟨⟨s⟩⟩) (by rw[Go.Lib.bytesWorld_size];omega) (fun b hb=>Go.Lib.bytesWorld_at_old _ _ _ _ hb) rfl rfl rfl (fun a ha=>Yy (Go.Lib.bytesWorld_at_old _ _ _ _ ha));have E5:=K.base.kD _ _ s EV;have dc:(fu s).length=s.length:=by have:=ap List.length E5;simpa using this
  have kZ:=J6 X.w s.length 0 el;refine⟨_,⟨Go.Lib.bytesWorld X.w el ⟨⟨s⟩⟩,X.ρ,X.O⟩,ez,g1,s1,RO.mk (.mk rfl ?_) rfl⟩;rw[fN,<-dc];refine .sl (cs:=s.map fun b=>Value.int .u8 (b.toNat:Int)) (fun j u hj=>⟨?_,?_⟩) (MJ _ _ E5) (by rw[dc];exact kZ) (by simp)
  ·have mr:=(av.1 hj).1;simp only[List.length_map]at mr;have:=Go.Lib.bytesWorld_cell X.w el (⟨⟨s⟩⟩:ByteArray) j (by rw[fN];exact mr);rw[aN,this];rw[bB,aY mr]at hj;simp only[bC,aD]at hj;rw[<-hj];simp[mr]
  ·refine⟨fun ho=>?_,fun hm=>?_⟩
   ·have:=g.outs _ _ ho;omega
   ·have:=(g.outer _ _ hm).2;omega
 ·exact Ex.cI dX
omit K g in
theorem Qj9{x d:D C}{vx:Value}(hx:RO T X nx lim x vx)(dX:Ex e (L9 x) h nx d h' cM tr) :
 ∃v,(∀(r:Operand->Value) (o:Oper) (y:Operand),o.op=.nilCheck y->r y=vx->execOp r o=(pure (.value v):Sem Next))/\RO T X nx lim d v/\h'=h/\cM=nx:=by
 unfold L9 at dX;cases x with
 |ptr id p=>
  obtain⟨rfl,rfl,rfl,rfl⟩:=Ex.ret dX;have hR:=hx.1.one rfl;cases hR with
  |ptr hh=>exact⟨_,fun r o y ho hy=>by unfold execOp;rw[ho];simp only;rw[hy],hx,rfl,rfl⟩
 |fx id n p=>
  obtain⟨rfl,rfl,rfl,rfl⟩:=Ex.ret dX;have hR:=hx.1.one rfl;cases hR with
  |fx hh=>exact⟨_,fun r o y ho hy=>by unfold execOp;rw[ho];simp only;rw[hy],hx,rfl,rfl⟩
 |dS q=>
  obtain⟨rfl,rfl,rfl,rfl⟩:=Ex.ret dX;have hR:=hx.1.one rfl;cases hR with
  |dS hh=>exact⟨_,fun r o y ho hy=>by unfold execOp;rw[ho];simp only;rw[hy],hx,rfl,rfl⟩
 |fn f c=>
  obtain⟨rfl,rfl,rfl,rfl⟩:=Ex.ret dX;have hR:=hx.1.one rfl;cases hR with
  |fn hh=>exact⟨_,fun r o y ho hy=>by unfold execOp;rw[ho];simp only;rw[hy],hx,rfl,rfl⟩
 |_=>exact Ex.cI dX
omit K in
theorem QFy{x d:D C}{vx:Value}(hx:RO T X nx lim x vx){op:UnOp}(dX:Ex e (ya op x) h nx d h' cM tr):dz P T X nx lim h' cM d (Op.unary op vx):=by
 unfold ya at dX
 split at dX
 ·obtain⟨rfl,rfl,rfl,rfl⟩:=Ex.ret dX;rw[hx.1.bool];exact dz.same g _ (by simp[Op.unary]) (RO.mk (.mk rfl (.bool _)) rfl)
 ·obtain⟨rfl,rfl,rfl,rfl⟩:=Ex.ret dX;obtain⟨rfl,_⟩:=hx.1.int;exact dz.same g _ (by simp[Op.unary,Op.intArith]) (RO.mk (.mk rfl (.int (Gj _ _))) rfl)
 ·obtain⟨rfl,rfl,rfl,rfl⟩:=Ex.ret dX;obtain⟨rfl,_⟩:=hx.1.int;refine dz.same g _ ?_ (RO.mk (.mk rfl (.int (Gj _ _))) rfl);simp only[Op.unary,Op.intBits,aF,bits];rename_i k n _;cases k<;>rfl
 ·exact Ex.cI dX
end
section
variable {C:ij}{P:Program}{T:fA C}
open Pg (Ex)
variable (K:Zq P T)
theorem Pg.nB{α β:Type}{p:Pg C α}{e  :Pg.Lv}{h h':Heap C}{n n':Nat}{a:α}{t:Tr}(hx:Ex e p h n a h' n' t)(l:Tr)(k:α->Heap C->Nat->Tr->Option β):p.run e h n l k=k a h' n' (t++l):=by
 rw[run_eq];unfold Ex at hx;rw[hx];rfl
theorem Pg.Ex.rd_mk{α:Type}{e:Pg.Lv}{h h':Heap C}{n n':Nat}{t:Tr}{id:Nat}{f:Obj C->Pg C α}{a:α}{o:Obj C}(ho:h.get id=some o)(hx:Ex e (f o) h n a h' n' t):Ex e (.rd id f) h n a h' n' (t++[(id,false)]):=by
 show Pg.run _ _ _ _ _ _=_;simp only[Pg.run,ho];rw[Pg.nB hx]
include K in
theorem RV.xd{X X':Cx}{nx:Nat}{lim:eL}(s:Step X nx lim X'){d:D C}{v:Value}(h:RV T X d v)(hr:∀id∈d.refs,fL nx lim id):RV T X' d v:=by
 rcases h with⟨i1,cs,r1,rfl⟩|⟨i1,r1⟩
 ·exact .inl ⟨i1,cs,r1.step K.base s hr,rfl⟩
 ·exact .inr ⟨i1,r1.step K.base s hr⟩
include K in
theorem iu.step{X X':Cx}{nx:Nat}{lim:eL}(s:Step X nx lim X'){ds:List (D C)}{vs:bT}(h:iu T X ds vs)(hr:∀a∈ds,∀id∈D.refs a,fL nx lim id):iu T X' ds vs:=by
 induction h with
 |nil=>exact .nil
 |cons h _ ih=>exact .cons (RV.xd K s h (hr _ (by simp))) (ih fun a ha=>hr a (by simp[ha]))
section frz
include K
theorem NU{X:Cx}{h h':Heap C}{nx cM:Nat}{e:Pg.Lv}{lim:eL}{tr:Tr}{id n:Nat}{d':D C}{v:Value}(g:G T X h nx lim)(hr:R T X false (.vs id n) [v])
 (hx:Ex e (frz (.vs id n)) h nx d' h' cM tr):∃X',X'.w=X.w/\G T X' h' nx lim/\Step X nx lim X'/\R T X' false d' [v]/\cM=nx/\d'.refs=[]/\d'.dA=false:=by
 simp only[frz]at hx;obtain⟨o,t',ho,hx,_⟩:=Ex.rd hx;cases o with
 |var t d=>exact Ex.cI hx
 |map _ _ _=>exact Ex.cI hx
 |ek _=>exact Ex.cI hx
 |cj ty dM l=>
  rcases Ex.br hx with⟨hb,hx⟩|⟨hb,hx⟩
  ·obtain⟨o',t2,_,hx,_⟩:=Ex.wr hx;obtain⟨rfl,rfl,rfl,rfl⟩:=Ex.ret hx;have hn:n=l.length:=az hb;obtain⟨v0,b,lo,hi,h1,h2⟩:=g.cj id ty dM l ho;have dc:=h2.len;cases hr with
   | @vs _ _ cp a hh=>
    have hv:=(hh _ _ _ _ _ h1).2 (by rw[dc,hn])
    have key:∃jt,lo<=jt/\∀X':Cx,X'.w=X.w->X'.O=X.O->(∀o,lo<=o->o<jt->o<hi->¬X'.dI b o)->Step X cM lim X'->Vx T X' ty false l v0 b jt hi:=by
     rcases h2 with⟨h2,h3,h4⟩|⟨off,lz,h2,h3,h4,h5⟩
     ·exact⟨lo,aq _,fun X' _ _ _ _=>.inl ⟨h2,h3,h4⟩⟩
     ·rcases h5 with⟨ht,gk,h5⟩|⟨ht,gk,⟨cs,h5,h6⟩,h7⟩
      ·refine⟨off+l.length*T.size (T.dG ty),by omega,fun X' hw hO hm s'=>.inr ⟨off,lz,h2,h3,h4,.inr ⟨rfl,rfl,?_⟩⟩⟩;rcases h5 with h5|⟨c,ce,h5,h6,h7⟩
       ·have rX:l=[]:=List.length_eq_zero_iff.1 (by omega);subst rX;exact⟨⟨[],fun j u hj=>by simp at hj,.iK _⟩,.inl (by simpa using h5)⟩
       ·refine⟨⟨(c.toList.drop off).take (l.length*T.size (T.dG ty)),fun j u hj=>?_,h7.step K.base s' (by simp[D.refs])⟩,.inr ⟨c,ce,by rw[hw];exact h5,h6⟩⟩;rw[List.getElem?_take]at hj
        split at hj
        ·rename_i mr;rw[List.getElem?_drop]at hj;have hmul:l.length*T.size (T.dG ty)<=lz*T.size (T.dG ty):=Nat.mul_le_mul_right _ h3;refine⟨?_,?_,hm _ (by omega) (by omega) (by omega)⟩
         ·rw[hw];simp only[World.cell?,h5];simpa using hj
         ·rw[hO];exact(g.outer b _ ⟨id,_,h1,rfl,by omega,by omega⟩).1
        ·simp at hj
      ·exact⟨lo,aq _,fun X' hw hO hm s'=>.inr ⟨off,lz,h2,h3,h4,.inr ⟨rfl,gk,⟨cs,h5.step s',h6.step K.base s' (by simp[D.refs])⟩,by rw[hw];exact h7⟩⟩⟩
    obtain⟨jt,k1,k2⟩:=key;obtain⟨X',hw,hρ',g',s',hV⟩:=G.Fz K.base g ho h1 k1 k2;refine⟨X',hw,g',s',?_,rfl,rfl,rfl⟩;rcases hV with⟨⟨a9,q2,_⟩,rfl,_⟩|⟨off,lz,q2,q3,q4,q5⟩
    ·rw[q2]at hv;simp only[Value.slice.injEq]at hv;obtain⟨rfl,rfl,rfl⟩:=hv;exact .li _ _ _
    ·rw[q2]at hv;simp only[Value.slice.injEq]at hv;obtain⟨rfl,_,rfl⟩:=hv;subst hn;rcases q5 with⟨ht,_⟩|⟨_,_,⟨cs,q5,q6⟩,_⟩
     ·cases ht
     ·exact .sl q5 q6 q3 (by simp)
  ·exact Ex.cI hx
theorem Cb:∀(d:D C) {m:Bool} {vs:bT} {X:Cx} {h h':Heap C} {nx cM:Nat} {e:Pg.Lv} {lim:eL} {tr:Tr} {d':D C},G T X h nx lim->R T X m d vs->(∀id∈d.refs,fL nx lim id) ->
 Ex e (frz d) h nx d' h' cM tr->∃X',X'.w=X.w/\G T X' h' nx lim/\Step X nx lim X'/\R T X' m d' vs/\cM=nx/\(∀id∈d'.refs,fL nx lim id)/\d'.dA=d.dA:=by
 intro d
 have Ro:∀(d:D C),(frz d:Pg C (D C))=.ret d->∀{m:Bool} {vs:bT} {X:Cx} {h h':Heap C} {nx cM:Nat} {e:Pg.Lv} {lim:eL} {tr:Tr} {d':D C},G T X h nx lim->R T X m d vs->(∀id∈d.refs,fL nx lim id) ->
  Ex e (frz d) h nx d' h' cM tr->∃X',X'.w=X.w/\G T X' h' nx lim/\Step X nx lim X'/\R T X' m d' vs/\cM=nx/\(∀id∈d'.refs,fL nx lim id)/\d'.dA=d.dA:=by
  intro d hd m vs X h h' nx cM e lim tr d' g hr ho hx;rw[hd]at hx;obtain⟨rfl,rfl,rfl,rfl⟩:=Ex.ret hx;exact⟨X,rfl,g,.refl _ _ _,hr,rfl,ho,rfl⟩
 induction d with
 |bI d ds ih1 ih2=>
  intro m vs X h h' nx cM e lim tr d' g hr ho hx;simp only[frz]at hx;obtain⟨d1,h1,n1,t1,t2,q1,hx,_⟩:=Ex.bind hx;obtain⟨d2,h2,n2,t3,t4,q2,hx,_⟩:=Ex.bind hx;obtain⟨rfl,rfl,rfl,rfl⟩:=Ex.ret hx;have pP:∀id∈d.refs,fL nx lim id:=fun id hi=>ho id (by simp[D.refs,hi]);have mJ:∀id∈ds.refs,fL nx lim id:=fun id hi=>ho id (by simp[D.refs,hi])
  have fin:∀{m1 m2:Bool} {c1 c2:bT},R T X m1 d c1->R T X m2 ds c2->∃X',X'.w=X.w/\G T X' h' nx lim/\Step X nx lim X'/\R T X' m1 d1 c1/\R T X' m2 d2 c2/\cM=nx/\(∀id∈(D.bI d1 d2).refs,fL nx lim id)/\d1.dA=d.dA:=by
   intro m1 m2 c1 c2 r1 r2;obtain⟨X1,w1,g1,s1,a1,rfl,o1,i1⟩:=ih1 g r1 pP q1;obtain⟨X2,w2,g2,s2,a2,rfl,o2,i2⟩:=ih2 g1 (r2.step K.base s1 mJ) mJ q2;refine⟨X2,by rw[w2,w1],g2,s1.trans s2 (aq _),a1.step K.base s2 o1,a2,rfl,?_,i1⟩;intro id hi;simp only[D.refs,aT]at hi;rcases hi with hi|hi
   ·exact o1 id hi
   ·exact o2 id hi
  cases hr with
  |bI r1 r2=>obtain⟨X',a1,a2,a3,a4,a5,a6,a7,_⟩:=fin r1 r2;exact⟨X',a1,a2,a3,.bI a4 a5,a6,a7,rfl⟩
  |jU r1 fU r2=>obtain⟨X',a1,a2,a3,a4,a5,a6,a7,a8⟩:=fin r1 r2;exact⟨X',a1,a2,a3,.jU a4 (a8.trans fU) a5,a6,a7,rfl⟩
  |ju r1 fU r2=>obtain⟨X',a1,a2,a3,a4,a5,a6,a7,a8⟩:=fin r1 r2;exact⟨X',a1,a2,a3,.ju a4 (a8.trans fU) a5,a6,a7,rfl⟩
 |cH d ih=>
  intro m vs X h h' nx cM e lim tr d' g hr ho hx;simp only[frz]at hx;obtain⟨d1,h1,n1,t1,t2,q1,hx,_⟩:=Ex.bind hx;obtain⟨rfl,rfl,rfl,rfl⟩:=Ex.ret hx;cases hr with
  |cH r1=>
   obtain⟨X',a1,a2,a3,a4,a5,a6,a7⟩:=ih g r1 (fun id hi=>ho id (by simpa[D.refs]using hi)) q1;exact⟨X',a1,a2,a3,.cH a4,a5,by simpa[D.refs]using a6,rfl⟩
 |vs id n=>
  intro m vs X h h' nx cM e lim tr d' g hr ho hx;have hm:m=false/\∃v,vs=[v]:=by cases hr;exact⟨rfl,_,rfl⟩
  obtain⟨rfl,v,rfl⟩:=hm;obtain⟨X',a1,a2,a3,a4,a5,a6,a7⟩:=NU K g hr hx;exact⟨X',a1,a2,a3,a4,a5,by simp[a6],a7⟩
 |jR=>intro m vs X h h' nx cM e lim tr d' g hr ho hx;exact Ex.cI hx
 |_=>exact Ro _ rfl
end frz
include K in
theorem QqP:∀(args:List (D C)) {vs:bT} {X:Cx} {h h':Heap C} {nx cM:Nat} {e:Pg.Lv} {lim:eL} {tr:Tr} {iJ:List (D C)},G T X h nx lim->iu T X args vs->(∀a∈args,∀id∈D.refs a,fL nx lim id) ->
 Ex e (uS args) h nx iJ h' cM tr->∃X',X'.w=X.w/\G T X' h' nx lim/\Step X nx lim X'/\iu T X' iJ vs/\cM=nx/\(∀a∈iJ,∀id∈D.refs a,fL nx lim id)
 |[],vs,X,h,h',nx,cM,e,lim,tr,iJ,g,hr,ho,hx=>by
  obtain⟨rfl,rfl,rfl,rfl⟩:=Ex.ret hx;exact⟨X,rfl,g,.refl _ _ _,hr,rfl,ho⟩
 |d::ds,vs,X,h,h',nx,cM,e,lim,tr,iJ,g,hr,ho,hx=>by
  simp only[uS]at hx;obtain⟨d1,h1,n1,t1,t2,q1,hx,_⟩:=Ex.bind hx;obtain⟨d2,h2,n2,t3,t4,q2,hx,_⟩:=Ex.bind hx;obtain⟨rfl,rfl,rfl,rfl⟩:=Ex.ret hx;have pP:∀id∈d.refs,fL nx lim id:=ho d (by simp);have mJ:∀a∈ds,∀id∈D.refs a,fL nx lim id:=fun a ha=>ho a (by simp[ha]);cases hr with
  | @cons _ _ v vs' rv rs=>
   have key:∃X1,X1.w=X.w/\G T X1 h1 nx lim/\Step X nx lim X1/\RV T X1 d1 v/\n1=nx/\(∀id∈d1.refs,fL nx lim id):=by
    rcases rv with⟨i1,cs,r1,rfl⟩|⟨i1,r1⟩
    ·obtain⟨X1,w1,g1,s1,a1,e1,o1,i2⟩:=Cb K d g r1 pP q1;exact⟨X1,w1,g1,s1,.inl ⟨i2.trans i1,cs,a1,rfl⟩,e1,o1⟩
    ·obtain⟨X1,w1,g1,s1,a1,e1,o1,i2⟩:=Cb K d g r1 pP q1;exact⟨X1,w1,g1,s1,.inr ⟨i2.trans i1,a1⟩,e1,o1⟩
   obtain⟨X1,w1,g1,s1,a1,rfl,o1⟩:=key;have rs1:iu T X1 ds vs':=iu.step K s1 rs mJ;obtain⟨X2,w2,g2,s2,a2,rfl,o2⟩:=QqP ds g1 rs1 mJ q2;refine⟨X2,by rw[w2,w1],g2,s1.trans s2 (aq _),.cons (RV.xd K s2 a1 o1) a2,rfl,?_⟩;intro a ha;rcases aZ.1 ha with rfl|ha
   ·exact o1
   ·exact o2 a ha
theorem G.tI{X:Cx}{h:Heap C}{nx:Nat}{lim:eL}(g:G T X h nx lim){id:Nat}{u:TypeId}{d0 d:D C}(ho:h.get id=some (.var u d0))
 (hd:∀b c,X.ρ id=some (.var b u)->X.w.heap[b]? = some (.cells c u (0,0))->R T X false d c.toList) (hf:cZ T d (.inl u)=true) (hr:∀r∈d.refs,fL nx lim r) :
 G T X (h.put id (.var u d)) nx lim:=by
 have hs:(h.get id).isSome=true:=by rw[ho];rfl
 have iQ:∀j,(h.put id (.var u d)).get j=if j=id then some (.var u d)else h.get j:=fun j=>Qu hs
 refine⟨fun j t x hj=>?_,fun j t dM l hj=>?_,fun j ck cv l hj=>?_,fun j cc hj=>?_,fun j l hl=>?_,fun j o hj=>?_,g.apart,g.outer,g.outs,g.low,g.pre⟩
 ·rw[iQ]at hj
  by_cases e:j=id
  ·subst e;rw[ax rfl]at hj;cases hj;obtain⟨b,c,h1,h2,h3,h4⟩:=g.var _ _ _ ho;exact⟨b,c,h1,h2,hd b c h1 h2,hf⟩
  ·rw[aw e]at hj;exact g.var _ _ _ hj
 ·rw[iQ]at hj
  by_cases e:j=id
  ·rw[ax e]at hj;cases hj
  ·rw[aw e]at hj;exact g.cj _ _ _ _ hj
 ·rw[iQ]at hj
  by_cases e:j=id
  ·rw[ax e]at hj;cases hj
  ·rw[aw e]at hj;exact g.map _ _ _ _ hj
 ·rw[iQ]at hj
  by_cases e:j=id
  ·rw[ax e]at hj;cases hj
  ·rw[aw e]at hj;exact g.ek _ _ hj
 ·rw[iQ]
  by_cases e:j=id
  ·rw[ax e];rfl
  ·rw[aw e];exact g.kg j l hl
 ·rw[iQ]at hj
  by_cases e:j=id
  ·subst e;rw[ax rfl]at hj;cases hj;exact⟨(g.eY _ _ ho).1,hr⟩
  ·rw[aw e]at hj;exact g.eY _ _ hj
section
variable {X:Cx}{h h':Heap C}{nx cM:Nat}{e:Pg.Lv}{lim:eL}{tr:Tr}(g:G T X h nx lim)
theorem lM{t:TypeId}{a v d:D C}(hx:Ex e (GD T t a v) h nx d h' cM tr):(∃la,Ex e (JY T t a v) h nx d h' cM la) \/
 ∃i n d1 h1 n1 t1 t2,v=.vs i n/\Ex e (frz (.vs i n)) h nx d1 h1 n1 t1/\Ex e (JY T t a d1) h1 n1 d h' cM t2:=by
 unfold GD at hx
 split at hx
 ·rename_i id p i n;obtain⟨o,t',_,hx,_⟩:=Ex.rd hx;cases hc:S6 T p o with
  |false=>rw[hc]at hx;exact .inl ⟨_,hx⟩
  |true=>
   rw[hc]at hx;simp only[ag]at hx;obtain⟨d1,h1,n1,t1,t2,q1,q2,_⟩:=Ex.bind hx;exact .inr ⟨i,n,d1,h1,n1,t1,t2,rfl,q1,q2⟩
 ·exact .inl ⟨_,hx⟩
include K g in
theorem QqQ{t:TypeId}{a v d:D C}{va vv:Value}(ha:RO T X nx lim a va)(hv:RO T X nx lim v vv)(hx:Ex e (GD T t a v) h nx d h' cM tr) :
 ∃X',(Instr.storeAt t va vv).run P X.w=.ok () X'.w/\G T X' h' cM lim/\Step X nx lim X'/\d=.cH .bN:=by
 rcases lM hx with⟨_,hx⟩|⟨i,n,d1,h1,n1,t1,t2,rfl,q1,q2⟩
 ·exact XA K g ha hv hx
 ·obtain⟨X',w',g',s',r',hn,rZ,fU⟩:=NU K g (hv.1.one rfl) q1;subst hn;obtain⟨X2,k1,k2,k3,k4⟩:=XA K g' (RO.step K.base s' ha (aq _)) (RO.mk (.inr ⟨fU,r'⟩) rZ) q2;exact⟨X2,by rw[<-w'];exact k1,k2,s'.trans k3 (aq _),k4⟩
include K g in
theorem Qx8{t:TypeId}{a d:D C}{va:Value}(ha:RO T X nx lim a va)(hx:Ex e (M2 T t a) h nx d h' cM tr):dz P T X nx lim h' cM d (Instr.loadAt t va):=by
 unfold M2 at hx
 split at hx
 ·rename_i id
  split at hx
  ·cases oG:T.settle t with
   |false=>rw[oG]at hx;exact Hd K g ha hx
   |true=>
   rw[oG]at hx;simp only[ag]at hx;obtain⟨o,la,ho,hx,_⟩:=Ex.rd hx;cases o with
   |cj ty dM l=>exact Ex.cI hx
   |map _ _ _=>exact Ex.cI hx
   |ek _=>exact Ex.cI hx
   |var u d0=>
    simp only[ldS]at hx;cases hc:(decide (u=t)&&d0.oa)with
    |false=>
     rw[hc]at hx;simp only[ah]at hx
     exact Hd K g (e:=e) (tr:=la++[(id,false)]) ha (by
      unfold vO;exact Ex.rd_mk ho hx)
    |true=>
     rw[hc]at hx;simp only[ag]at hx;simp only[ai,aa]at hc;obtain⟨rfl,_⟩:=hc;obtain⟨d1,h1,n1,t1,t2,q1,hx,_⟩:=Ex.bind hx;cases hf:cZ T d1 (.inl u)with
     |false=>rw[hf]at hx;exact Ex.cI hx
     |true=>
      rw[hf]at hx;simp only[ag]at hx;obtain⟨o',t3,gU,hx,_⟩:=Ex.wr hx;obtain⟨rfl,rfl,rfl,rfl⟩:=Ex.ret hx;obtain⟨b,c,k1,k2,k3,k4⟩:=g.var id u d0 ho;obtain⟨X',w',g',s',r',hn,rZ,fU⟩:=Cb K d0 g k3 (g.eY id _ ho).2 q1;have hR:=ha.1.one rfl;cases hR with
      | @ptr _ _ a' hq=>
       obtain⟨jk,rfl⟩:=hq b u k1
       obtain⟨v,hv,mU⟩:=J3 K (w:=X.w) (b:=b) (off:=0) hf r' (by
        intro j w hj;simp only[World.cell?,k2,aN]
        simpa using hj)
       subst hn
       have hρ:∃d2,h1.get id=some (.var u d2)/\X'.ρ id=some (.var b u):=by
        have gD:=(g.eY id _ ho).1;have nJ:=s'.ρ id gD;rw[k1]at nJ;cases o' with
        |var u2 d2=>
         obtain⟨b',c',m1,_⟩:=g'.var id u2 d2 gU;rw[m1]at nJ;simp only[Qo,Loc.var.injEq]at nJ;obtain⟨rfl,rfl⟩:=nJ;exact⟨d2,gU,m1⟩
        |cj ty dM l=>
         obtain⟨v',b',lo,hi,m1,_⟩:=g'.cj id ty dM l gU;rw[m1]at nJ;simp[Qo]at nJ
        |map ck cv l=>
         obtain⟨b',es,cl,m1,_⟩:=g'.map id ck cv l gU;rw[m1]at nJ;simp[Qo]at nJ
        |ek cc=>
         obtain⟨s0,m1,_⟩:=g'.ek id cc gU;rw[m1]at nJ;simp[Qo]at nJ
       obtain⟨d2,m1,m2⟩:=hρ;refine⟨v,X',?_,?_,s',?_⟩
       ·rw[w'];have:er T u []=0:=rfl;simp[Instr.loadAt,Instr.sureAddr,hv,this]
       ·refine g'.tI m1 (fun b1 c1 x1 x2=>?_) hf rZ;rw[m2]at x1;cases x1;rw[w',k2]at x2;cases x2;exact r'
       ·exact⟨mU,rZ⟩
  ·exact Hd K g ha hx
 ·exact Hd K g ha hx
include K in
theorem G.xV{id b lo hi:Nat}{t:C.Ty}{dM:Bool}{l l':List (C.A t)}{v v':Value}(g:G T X h nx lim)(hn:nx<lim.top)(ho:h.get id=some (.cj t dM l))(hρ:X.ρ id=some (.cj v (T.dG t) b lo hi))
 (hV:∀X':Cx,X'.w=X.w->X'.O=X.O->Step X nx lim X'->Vx T X' t dM l' v' b lo hi) :
 ∃X',X'.w=X.w/\X'.ρ nx=some (.cj v' (T.dG t) b lo hi)/\G T X' ((nx,.cj t dM l')::h.del id) (nx+1) lim/\Step X nx lim X':=by
 let l0:Loc:=.cj v' (T.dG t) b lo hi
 let X':Cx:=⟨X.w,fun j=>if j=nx then some l0 else if j=id then none else X.ρ j,X.O⟩
 have dU:id≠nx:=by have:=(g.eY id _ ho).1.1;omega
 have back:∀j k,X'.ρ j=some k->(j=nx/\k=l0)\/(j≠nx/\j≠id/\X.ρ j=some k):=by
  intro j k hj
  by_cases h1:j=nx
  ·simp[X',h1]at hj;exact .inl ⟨h1,hj.symm⟩
  ·by_cases h2:j=id
   ·simp[X',h1,h2,dU]at hj
   ·simp[X',h1,h2]at hj;exact .inr ⟨h1,h2,hj⟩
 have gu:∀c o,X'.dI c o->X.dI c o:=by
  rintro c o ⟨j,k,h1,h2⟩
  rcases back j k h1 with⟨_,rfl⟩|⟨_,_,h3⟩
  ·exact⟨id,_,hρ,h2⟩
  ·exact⟨j,k,h3,h2⟩
 have hs:Step X nx lim X':=by
  refine⟨rfl,rfl,rfl,rfl,aq _,?_,fun c o _=>gu c o,fun _ _ _ _=>rfl,fun _ _ _=>rfl,fun _ _=>rfl⟩;intro j hj;have h1:j≠nx:=by have:=hj.1;omega
  by_cases h2:j=id
  ·simp only[X',h1,h2,aU,aL,dU];cases X.ρ id<;>simp[Qo]
  ·simp[X',h1,h2,Qo.refl]
 have iQ:∀j o,Heap.get j ((nx,Obj.cj t dM l')::h.del id)=some o->(j=nx/\o=.cj t dM l')\/(j≠nx/\j≠id/\h.get j=some o):=by
  intro j o hj;rw[Qz]at hj
  by_cases h1:j=nx
  ·simp[h1]at hj;exact .inl ⟨h1,hj.symm⟩
  ·rw[aw h1,Zp]at hj
   by_cases h2:j=id
   ·simp[h2]at hj
   ·rw[aw h2]at hj;exact .inr ⟨h1,h2,hj⟩
 have hX:∀j,j≠nx->j≠id->X'.ρ j=X.ρ j:=fun j h1 h2=>by simp[X',h1,h2]
 refine⟨X',rfl,by simp[X',l0],⟨?_,?_,?_,?_,?_,?_,?_,?_,g.outs,Nat.le_succ_of_le g.low,g.pre.step hs⟩,hs⟩
 ·intro j t' d' hg;rcases iQ j _ hg with⟨_,h1⟩|⟨h1,h2,h3⟩
  ·cases h1
  ·obtain⟨b',c,k1,k2,k3,k4⟩:=g.var j t' d' h3;exact⟨b',c,by rw[hX j h1 h2];exact k1,k2,k3.step K.base hs (g.eY j _ h3).2,k4⟩
 ·intro j t' gF k hg;rcases iQ j _ hg with⟨h1,h2⟩|⟨h1,h2,h3⟩
  ·cases h2;exact⟨v',b,lo,hi,by simp[X',h1,l0],hV X' rfl rfl hs⟩
  ·obtain⟨v1,b',jt,ks,k1,k2⟩:=g.cj j t' gF k h3;refine⟨v1,b',jt,ks,by rw[hX j h1 h2];exact k1,?_⟩;rcases k2 with k2|⟨off,cp,k2,k3,k4,k5⟩
   ·exact .inl k2
   ·refine .inr ⟨off,cp,k2,k3,k4,?_⟩;rcases k5 with⟨ht,gk,k5|⟨cs,e,k5,k6,k7⟩⟩|⟨ht,gk,⟨cs,k5,k6⟩,k7⟩
    ·exact .inl ⟨ht,gk,.inl k5⟩
    ·exact .inl ⟨ht,gk,.inr ⟨cs,e,k5,k6,k7.step K.base hs (by simp[D.refs])⟩⟩
    ·exact .inr ⟨ht,gk,⟨cs,k5.step hs,k6.step K.base hs (by simp[D.refs])⟩,k7⟩
 ·intro j ck cv k hg;rcases iQ j _ hg with⟨_,h1⟩|⟨h1,h2,h3⟩
  ·cases h1
  ·obtain⟨b',es,c,k1,k2,k3⟩:=g.map j ck cv k h3;exact⟨b',es,c,by rw[hX j h1 h2];exact k1,k2,k3.step K.base hs⟩
 ·intro j cc hg;rcases iQ j _ hg with⟨_,h1⟩|⟨h1,h2,h3⟩
  ·cases h1
  ·obtain⟨s,k1,k2⟩:=g.ek j cc h3;exact⟨s,by rw[hX j h1 h2];exact k1,k2.same K.base hs rfl⟩
 ·intro j k hr;rw[Qz];rcases back j k hr with⟨h1,_⟩|⟨h1,h2,h3⟩
  ·simp[h1]
  ·rw[aw h1,Zp,aw h2];exact g.kg j k h3
 ·intro j o hg;rcases iQ j _ hg with⟨h1,h2⟩|⟨h1,h2,h3⟩
  ·cases h2;exact⟨h1▸g.new hn,fun r fT=>by simp[Obj.refs]at fT⟩
  ·exact g.mz (by omega) j o h3
 ·intro j j' k k' c o o' h1 h2 h3 h4;rcases back j k h1 with⟨a1,rfl⟩|⟨a1,a2,a3⟩<;>rcases back j' k' h2 with⟨b1,rfl⟩|⟨b1,b2,b3⟩
  ·rw[a1,b1]
  ·exact absurd (g.apart id j' _ _ c o o' hρ b3 h3 h4).symm b2
  ·exact absurd (g.apart j id _ _ c o o' a3 hρ h3 h4) a2
  ·exact g.apart j j' k k' c o o' a3 b3 h3 h4
 ·intro c o hm;exact g.outer c o (gu c o hm)
omit K in
theorem R.xX(L:Laws T){X:Cx}{ty:C.Ty}{cap:Bool}{l:List (C.A ty)}{ao:dN}{n cp:Nat}(hr:R T X false (.sl ty cap l) [.slice ao n cp])(k:Nat)(hk:k<=l.length) :
 R T X false (.sl ty false (l.drop k)) [.slice (if cp=k then ao else ao.map (·.add (k*T.size (T.dG ty)))) (n-k) (cp-k)]:=by
 cases hr with
 |li=>
  simp only[bH]at hk;have:k=0:=by omega
  subst this
  simpa using R.li ty false ao
 | @sl _ _ _ b0 off _ cs jq hr hc kZ=>
  obtain⟨d1,d2,mI,u9,_,kK⟩:=hr.jF L k hk;have dc:(l.drop k).length=l.length-k:=by simp
  rw[<-dc]
  by_cases hm:cp=k
  ·have hz:l.drop k=[]:=List.length_eq_zero_iff.1 (by omega);rw[ax hm,hz];exact .sl (cs:=[]) (fun j v hj=>by simp at hj) (by simpa using R.iK ty) (by simp) (fun h=>by cases h)
  ·rw[aw hm];simp only[bC,Addr.add_lit];refine .sl (cs:=d2) (fun j v hj=>?_) (by rw[dc];exact kK) (by omega) (fun h=>by cases h);rw[<-u9,Nat.add_assoc];refine jq _ v ?_;rw[mI,List.getElem?_append_right (by omega)];rw[show d1.length+j-d1.length=j by omega];exact hj
include K g in
theorem Qx9(eA:cM<=lim.top){t:TypeId}{id n:Nat}{d:D C}{va:Value}{lo hi mx:Option (D C)}{lN mG mR:eG}(ha:RO T X nx lim (.vs id n) va)
 (gk:lO T X nx lim lo lN) (nL:lO T X nx lim hi mG) (nM:lO T X nx lim mx mR) (hx:Ex e (.rd id (Iy T t id n lo hi mx)) h nx d h' cM tr):dz P T X nx lim h' cM d (Instr.sliceAt t va lN mG mR):=by
 obtain⟨o,la,ho,hx,_⟩:=Ex.rd hx;cases o with
 |var _ _=>exact Ex.cI hx
 |map _ _ _=>exact Ex.cI hx
 |ek _=>exact Ex.cI hx
 |cj ty dM l=>
  cases dM with
  |false=>exact Ex.cI hx
  |true=>
   simp only[Iy]at hx;cases ht:T.ty t with
   |sl el ty0=>
    simp only[ht]at hx;cases hd:decide (ty=ty0)with
    |false=>rw[hd]at hx;exact Ex.cI hx
    |true=>
     rw[hd]at hx;simp only[ag]at hx;have hd:ty=ty0:=by simpa using hd
     subst hd;have hu:=K.oT _ _ _ ht;have hs:=ZA K (.inr ht) X.w;obtain⟨v0,b,rD,rq,h1,h2⟩:=g.cj id ty true l ho;have dc:=h2.len;have hR:=ha.1.one rfl;cases hR with
     | @vs _ _ cp a0 hh=>
      split at hx
      ·rename_i k a _;rcases Ex.br hx with⟨hc,hx⟩|⟨_,hx⟩
       ·obtain⟨rfl,rfl,rfl,rfl⟩:=Ex.ret hx;simp only[ai,Nat.beq_eq,aa]at hc;obtain⟨hn,Cu,Ey⟩:=hc;have jI:=(hh _ _ _ _ _ h1).2 (by rw[dc,hn]);cases lN with
        |none=>exact gk.elim
        |some lN=>
        cases mG with
        |some _=>exact nL.elim
        |none=>
        cases mR with
        |some _=>exact nM.elim
        |none=>
        obtain⟨rfl,_⟩:=gk.1.int
        have pw:(Instr.sliceBounds true n cp (some (.int k a)) none none).run P X.w=.ok (a.toNat,n,cp) X.w:=by
         simp[Instr.sliceBounds,Q4 k a n _ Cu (by omega)]
        refine dz.same g (.slice (if cp=a.toNat then a0 else a0.map (·.add (a.toNat*T.size (T.dG ty)))) (n-a.toNat) (cp-a.toNat)) ?_ ⟨.mk rfl (.jR (fun b' t' h5=>by rw[h1]at h5;cases h5) (fun nj=>?_) (fun v' e' b' l' ks h5=>?_)),by simpa[D.refs]using ha.2⟩
        ·simp only[Instr.sliceAt,Instr.slice,aG,aB hu,aA,pw,hs.1,aF,hs.2.1]
        ·rcases h2 with⟨_,h3,_⟩|⟨off,lz,h3,h4,h5,_⟩
         ·subst h3;simp at hn;omega
         ·rw[h3]at jI;simp only[Value.slice.injEq]at jI;obtain⟨rfl,_,rfl⟩:=jI;have cY:a.toNat<lz:=bj (Nat.lt_of_sub_pos nj) (hn▸h4);rw[aw (Nat.ne_of_gt cY)];exact⟨b,off+a.toNat*T.size (T.dG ty),by simp[Addr.add_lit]⟩
        ·rw[h1]at h5;cases h5;refine⟨by simp;omega,fun _=>⟨a0,cp,by simpa using jI,by simp,rfl,rfl⟩⟩
       ·exact Ex.cI hx
      ·rename_i k b1 _;rcases Ex.br hx with⟨hc,hx⟩|⟨_,hx⟩
       ·obtain⟨o',t2,_,hx,_⟩:=Ex.dl hx;obtain⟨t3,hx,_⟩:=Ex.nw hx;obtain⟨rfl,rfl,rfl,rfl⟩:=Ex.ret hx;simp only[ai,Nat.beq_eq,aa]at hc;obtain⟨hn,rn,sE⟩:=hc;have jI:=(hh _ _ _ _ _ h1).2 (by rw[dc,hn]);cases lN with
        |some _=>exact gk.elim
        |none=>
        cases mG with
        |none=>exact nL.elim
        |some mG=>
        cases mR with
        |some _=>exact nM.elim
        |none=>
        obtain⟨rfl,_⟩:=nL.1.int
        have nK:n<=cp:=by
         rcases h2 with⟨⟨a1,h3,_⟩,h4,_⟩|⟨off,lz,h3,h4,h5,_⟩
         ·rw[h3]at jI;simp only[Value.slice.injEq]at jI;omega
         ·rw[h3]at jI;simp only[Value.slice.injEq]at jI;omega
        have pw:(Instr.sliceBounds true n cp none (some (.int k b1)) none).run P X.w=.ok (0,b1.toNat,cp) X.w:=by
         simp[Instr.sliceBounds,Q4 k b1 cp _ rn (by omega)]
        have yd:(if cp=0 then a0 else a0.map (·.add (0*T.size el)))=a0:=by
         split
         ·rfl
         ·cases a0 with
          |none=>rfl
          |some a0=>simp[Addr.add]
        have htl:(l.take b1.toNat).length=b1.toNat:=by rw[bp];omega
        obtain⟨X',w',hρ',g',s'⟩:=G.xV K g (l':=l.take b1.toNat) (v':=.slice a0 b1.toNat cp) (by omega) ho h1 (fun X' hw hO eI=>by
         rcases h2 with⟨⟨a1,h3,h3'⟩,h4,h5⟩|⟨off,lz,h3,h4,h5,h6⟩
         ·rw[h3]at jI;simp only[Value.slice.injEq]at jI;obtain⟨rfl,h6,rfl⟩:=jI;have:b1.toNat=0:=by omega
          rw[this];exact .inl ⟨⟨a1,rfl,h3'⟩,by simp,h5⟩
         ·rw[h3]at jI;simp only[Value.slice.injEq]at jI;obtain⟨rfl,h7,rfl⟩:=jI;refine .inr ⟨off,lz,by rw[htl],by omega,h5,?_⟩;rcases h6 with⟨h6,h7,h8⟩|⟨h6,_⟩
          ·refine .inl ⟨rfl,h7,?_⟩;rcases h8 with h8|⟨c,ce,h8,h9,H5⟩
           ·exact .inl h8
           ·refine .inr ⟨c,ce,by rw[hw];exact h8,h9,?_⟩;have h11:=H5.step K.base eI (by simp[D.refs]);obtain⟨c1,c2,e1,e2,e3,_⟩:=h11.jF K.base b1.toNat (by omega);rw[htl]
            have:(c.toList.drop off).take (b1.toNat*T.size (T.dG ty))=c1:=by
             have hle:b1.toNat*T.size (T.dG ty)<=l.length*T.size (T.dG ty):=Nat.mul_le_mul_right _ (by omega);have h12:=ap (List.take (b1.toNat*T.size (T.dG ty))) e1;rw[List.take_take,Nat.min_eq_left hle,<-e2]at h12;rw[<-e2,h12];simp
            rw[this];exact e3
          ·cases h6)
        refine⟨.slice a0 b1.toNat cp,X',?_,g',s',?_⟩
        ·simp only[Instr.sliceAt,Instr.slice,aG,aB hu,aA,pw,hs.1,aF,Nat.sub_zero,yd,w']
        ·refine⟨.mk rfl (.vs fun v e b' jt ks h5=>?_),fun r hr=>?_⟩
         ·rw[hρ']at h5;cases h5;exact⟨by simp[hJ],fun _=>rfl⟩
         ·simp only[D.refs,bE]at hr;subst hr;exact g.new (by omega)
       ·exact Ex.cI hx
      ·exact Ex.cI hx
   |_=>rw[ht]at hx;exact Ex.cI hx
omit K g in
theorem R.vH{X:Cx}{m:Bool}{d:D C}{cs:bT}(h:R T X m d cs):m=false->d.hQ=true->R T X true d cs:=by
 induction h with
 |bN=>exact fun _ _=>.iV
 | @bI d ds c1 c2 h1 h2 _ i2=>
  intro _ ho;simp only[D.hQ,ai,Bool.not_eq_true']at ho
  have lD:∃v,c1=[v]:=by
   cases h1<;>first|exact⟨_,rfl⟩|simp[D.dA]at ho
  obtain⟨v,rfl⟩:=lD;exact .ju h1 ho.1 (i2 rfl ho.2)
 |iK=>intro _ ho;simp[D.hQ]at ho
 |jz=>intro _ ho;simp[D.hQ]at ho
 |iV|jU|ju=>intro hm;simp at hm
 |_=>intro _ ho;simp[D.hQ]at ho
include K g in
theorem Qya{t:TypeId}{id:Nat}{fs:cK}{d:D C}{va:Value}{lN mG mR:eG}(ht:T.ty t=.struct true fs)(ha:RO T X nx lim (.ptr id []) va)
 (gk:lO T X nx lim none lN) (nL:lO T X nx lim none mG) (nM:lO T X nx lim none mR) (hx:Ex e (.rd id (Iz t id fs)) h nx d h' cM tr):dz P T X nx lim h' cM d (Instr.sliceAt t va lN mG mR):=by
 obtain⟨o,la,ho,hx,_⟩:=Ex.rd hx;cases o with
 |cj ty dM l=>exact Ex.cI hx
 |map _ _ _=>exact Ex.cI hx
 |ek _=>exact Ex.cI hx
 |var u d0=>
  simp only[Iz]at hx;cases hc:(decide (u=t)&&(d0.hQ&&d0.eu&&Nat.beq d0.size fs.length&&Nat.ble 1 fs.length))with
  |false=>rw[hc]at hx;exact Ex.cI hx
  |true=>
   rw[hc]at hx;simp only[ag]at hx;obtain⟨o',t2,_,hx,_⟩:=Ex.dl hx;obtain⟨rfl,rfl,rfl,rfl⟩:=Ex.ret hx;simp only[ai,aa,Nat.beq_eq]at hc;obtain⟨rfl,⟨⟨h1,h2⟩,h3⟩,h4⟩:=hc;have h4:=Nat.le_of_ble_eq_true h4;cases lN with
   |some _=>exact gk.elim
   |none=>
   cases mG with
   |some _=>exact nL.elim
   |none=>
   cases mR with
   |some _=>exact nM.elim
   |none=>
   obtain⟨el,hu,_,_,i,hi,fN⟩:=K.qC _ _ ht;obtain⟨b,c,k1,k2,k3,k4⟩:=g.var id u d0 ho;have hR:=ha.1.one rfl;cases hR with
   | @ptr _ _ a' hq=>
    obtain⟨_,rfl⟩:=hq b u k1;have pw:(Instr.sliceBounds false fs.length fs.length none none none).run P X.w=.ok (0,fs.length,fs.length) X.w:=by simp[Instr.sliceBounds]
    have PO:(sizeOf el).run P X.w=.ok i.size X.w:=by simp[sizeOf,typeInfo,hi]
    have qk:er T u []=0:=rfl;obtain⟨X',w',g',s',jV⟩:=G.drop K.base g (h':=h.del id) (fun j=>by rw[Zp];by_cases hj:j=id<;>simp[hj])
    have vg:∀o,¬X'.dI b o:=by
     rintro o ⟨j,l,q1,q2⟩
     have q3:=jV j l q1;have:=g.apart j id l _ b o 0 q3 k1 q2 rfl;subst this;have:=g'.kg j l q1;rw[Zp]at this;simp at this
    have mU:=(k3.vH rfl h1);have dc:=mU.tK rfl;refine⟨.slice (some ⟨b,0,none⟩) fs.length fs.length,X',?_,g',s',⟨.mk rfl (.fY (cs:=c.toList) (fun j v hj=>⟨?_,?_,vg _⟩) (mU.step K.base s' (g.eY id _ ho).2) (by omega) h1 ⟨aq _,fun _=>⟨rfl,by omega⟩⟩),?_⟩⟩
    ·have gm:¬fs.length=0:=by omega
     simp[Instr.sliceAt,Instr.slice,Instr.sureAddr,aB hu,pw,PO,gm,Addr.add_lit,w',qk]
    ·rw[w'];simp only[World.cell?,k2,aN];simpa using hj
    ·rw[s'.O];exact(g.outer b _ ⟨id,_,k1,rfl⟩).1
    ·intro r hr;exact(g.eY id _ ho).2 r (by simpa[D.refs,Obj.refs]using hr)
include K g in
theorem QqR(eA:cM<=lim.top){t:TypeId}{a d:D C}{va:Value}{lo hi mx:Option (D C)}{lN mG mR:eG}(ha:RO T X nx lim a va)
 (gk:lO T X nx lim lo lN) (nL:lO T X nx lim hi mG) (nM:lO T X nx lim mx mR) (hx:Ex e (NX T t a lo hi mx) h nx d h' cM tr):dz P T X nx lim h' cM d (Instr.sliceAt t va lN mG mR):=by
 unfold NX at hx
 split at hx
 ·rename_i id n;cases oG:T.settle t with
  |false=>rw[oG]at hx;exact Qx9 K g eA ha gk nL nM hx
  |true=>
  rw[oG]at hx;simp only[ag]at hx;obtain⟨o,la,ho,hy,_⟩:=Ex.rd hx;unfold S4 at hy
  split at hy
  ·obtain⟨d1,h1,n1,t1,t2,q1,q2,_⟩:=Ex.bind hy;obtain⟨X',w',g',s',r',hn,rZ,fU⟩:=NU K g (ha.1.one rfl) q1;subst hn
   have st:∀{x:Option (D C)} {v:eG},lO T X n1 lim x v->lO T X' n1 lim x v:=by
    intro x v h;cases x with
    |none=>cases v with
     |none=>trivial
     |some v=>exact h.elim
    |some d=>cases v with
     |none=>exact h.elim
     |some v=>exact RO.step K.base s' h (aq _)
   obtain⟨v,X2,k1,k2,k3,k4⟩:=MR K g' (RO.mk (.inr ⟨fU,r'⟩) rZ) (st gk) (st nL) (st nM) q2;exact⟨v,X2,by rw[<-w'];exact k1,k2,s'.trans k3 (aq _),k4⟩
  ·exact MR K g ha gk nL nM hy
 ·rename_i id p;cases ht:T.ty t with
  |arr m el ty=>simp only[ht]at hx;exact Qx6 K g ha gk nL nM (by simpa only[ht]using hx)
  |struct a fs=>
   cases a with
   |false=>simp only[ht]at hx;exact Ex.cI hx
   |true=>
    simp only[ht]at hx
    split at hx
    ·exact Qya K g ht ha gk nL nM hx
    ·exact Ex.cI hx
  |_=>simp only[ht]at hx;exact Ex.cI hx
 ·rename_i n cap ds;cases ht:T.ty t with
  |fY el=>
   simp only[ht]at hx
   split at hx
   ·rename_i k b;rcases Ex.br hx with⟨hc,hx⟩|⟨_,hx⟩
    ·obtain⟨rfl,rfl,rfl,rfl⟩:=Ex.ret hx;simp only[aa]at hc;cases lN with
     |some _=>exact gk.elim
     |none=>
     cases mG with
     |none=>exact nL.elim
     |some mG=>
     cases mR with
     |some _=>exact nM.elim
     |none=>
     obtain⟨rfl,_⟩:=nL.1.int;obtain⟨hu,_,i,z,hi,fN,_⟩:=K.qA _ _ ht;have hR:=ha.1.one rfl;cases hR with
     | @fY _ b1 off cp _ _ cs jq hr hn ho Cy=>
      have pw:(Instr.sliceBounds true n cp none (some (.int k b)) none).run P X.w=.ok (0,b.toNat,cp) X.w:=by
       simp[Instr.sliceBounds,Q4 k b cp _ hc.1 (by have:=Cy.1;omega)]
      have yd:(if cp=0 then(some ⟨b1,off,none⟩:dN)else(some ⟨b1,off,none⟩:dN).map (·.add (0*i.size)))=some ⟨b1,off,none⟩:=by
       split
       ·rfl
       ·simp[Addr.add_lit]
      have PO:(sizeOf el).run P X.w=.ok i.size X.w:=by simp[sizeOf,typeInfo,hi]
      refine dz.same g (.slice (some ⟨b1,off,none⟩) b.toNat cp) ?_ ⟨.mk rfl (.fY jq hr (by omega) ho ⟨by have:=Cy.1;omega,fun h=>by cases h⟩),by simpa[D.refs]using ha.2⟩;simp only[Instr.sliceAt,Instr.slice,aG,aB hu,aA,pw,PO,aF,Nat.sub_zero,yd]
    ·exact Ex.cI hx
   ·exact Ex.cI hx
  |_=>simp only[ht]at hx;exact Ex.cI hx
 ·exact MR K g ha gk nL nM hx
include K in
theorem XE{X:Cx}{h h':Heap C}{nx cM:Nat}{e:Pg.Lv}{lim:eL}{u:Unit}:∀(p:bU) {tr:Tr} (id:Nat),G T X h nx lim->Ex e (D4 T p id) h nx u h' cM tr->∃X',X'.w=X.w/\G T X' h' nx lim/\Step X nx lim X'/\cM=nx
 |[],tr,id,g,hx=>by
  simp only[D4]at hx;obtain⟨o,la,ho,hx,_⟩:=Ex.rd hx;cases o with
  |cj ty dM l=>obtain⟨rfl,rfl,rfl,rfl⟩:=Ex.ret hx;exact⟨X,rfl,g,.refl _ _ _,rfl⟩
  |map _ _ _=>obtain⟨rfl,rfl,rfl,rfl⟩:=Ex.ret hx;exact⟨X,rfl,g,.refl _ _ _,rfl⟩
  |ek _=>obtain⟨rfl,rfl,rfl,rfl⟩:=Ex.ret hx;exact⟨X,rfl,g,.refl _ _ _,rfl⟩
  |var u d0=>
   simp only[S7]at hx;cases hc:d0.oa with
   |false=>
    rw[hc]at hx;obtain⟨rfl,rfl,rfl,rfl⟩:=Ex.ret hx;exact⟨X,rfl,g,.refl _ _ _,rfl⟩
   |true=>
    rw[hc]at hx;simp only[ag]at hx;obtain⟨d1,h1,n1,t1,t2,q1,hx,_⟩:=Ex.bind hx;cases hf:cZ T d1 (.inl u)with
    |false=>rw[hf]at hx;exact Ex.cI hx
    |true=>
     rw[hf]at hx;simp only[ag]at hx;obtain⟨o',t3,gU,hx,_⟩:=Ex.wr hx;obtain⟨rfl,rfl,rfl,rfl⟩:=Ex.ret hx;obtain⟨b,c,k1,k2,k3,k4⟩:=g.var id u d0 ho;obtain⟨X',w',g',s',r',hn,rZ,fU⟩:=Cb K d0 g k3 (g.eY id _ ho).2 q1;subst hn
     have hρ:∃d2,h1.get id=some (.var u d2)/\X'.ρ id=some (.var b u):=by
      have gD:=(g.eY id _ ho).1;have nJ:=s'.ρ id gD;rw[k1]at nJ;cases o' with
      |var u2 d2=>
       obtain⟨b',c',m1,_⟩:=g'.var id u2 d2 gU;rw[m1]at nJ;simp only[Qo,Loc.var.injEq]at nJ;obtain⟨rfl,rfl⟩:=nJ;exact⟨d2,gU,m1⟩
      |cj ty dM l=>
       obtain⟨v',b',lo,hi,m1,_⟩:=g'.cj id ty dM l gU;rw[m1]at nJ;simp[Qo]at nJ
      |map ck cv l=>
       obtain⟨b',es,cl,m1,_⟩:=g'.map id ck cv l gU;rw[m1]at nJ;simp[Qo]at nJ
      |ek cc=>
       obtain⟨s0,m1,_⟩:=g'.ek id cc gU;rw[m1]at nJ;simp[Qo]at nJ
     obtain⟨d2,m1,m2⟩:=hρ;refine⟨X',w',?_,s',rfl⟩;refine g'.tI m1 (fun b1 c1 x1 x2=>?_) hf rZ;rw[m2]at x1;cases x1;rw[w',k2]at x2;cases x2;exact r'
 |i::p,tr,id,g,hx=>by
  simp only[D4]at hx;obtain⟨o,la,ho,hx,_⟩:=Ex.rd hx;cases o with
  |cj ty dM l=>exact Ex.cI hx
  |map _ _ _=>exact Ex.cI hx
  |ek _=>exact Ex.cI hx
  |var u d0=>
   simp only at hx
   split at hx
   ·exact XE p _ g hx
   ·exact Ex.cI hx
include K in
theorem GF{env:Env C}:∀(l:eV) {X:Cx} {h h':Heap C} {nx cM:Nat} {e:Pg.Lv} {lim:eL} {u:Unit} {tr:Tr},G T X h nx lim->Ex e (wa T env l) h nx u h' cM tr->∃X',X'.w=X.w/\G T X' h' nx lim/\Step X nx lim X'/\cM=nx
 |[],X,h,h',nx,cM,e,lim,u,tr,g,hx=>by
  obtain⟨rfl,rfl,rfl,rfl⟩:=Ex.ret hx;exact⟨X,rfl,g,.refl _ _ _,rfl⟩
 |(t,p)::r,X,h,h',nx,cM,e,lim,u,tr,g,hx=>by
  simp only[wa]at hx
  split at hx
  ·obtain⟨d1,h1,n1,t1,t2,q1,q2,_⟩:=Ex.bind hx;obtain⟨X1,w1,g1,s1,rfl⟩:=XE K p _ g q1;obtain⟨X2,w2,g2,s2,rfl⟩:=GF r g1 q2;exact⟨X2,by rw[w2,w1],g2,s1.trans s2 (aq _),rfl⟩
  ·exact Ex.cI hx
end
end
section
variable {C:ij}{P:Program}{T:fA C}(K:Zq P T)
open Pg (Ex)
variable {X:Cx}{h h':Heap C}{nx cM:Nat}{e:Pg.Lv}{lim:eL}{tr:Tr}(g:G T X h nx lim)
include K g in
theorem QoK(eA:cM<=lim.top){t:TypeId}{d:D C}(hx:Ex e (Me T t) h nx d h' cM tr):dz P T X nx lim h' cM d (Instr.makeMap t none):=by
 unfold Me at hx
 split at hx
 ·obtain⟨t1,hx,_⟩:=Ex.nw hx;obtain⟨rfl,rfl,rfl,rfl⟩:=Ex.ret hx;obtain⟨X',hw,g',s',r'⟩:=G.yY K.base g (by omega) _ _;refine⟨_,X',by rw[hw];rfl,g',s',⟨.mk rfl r',?_⟩⟩;intro id dU;simp[D.refs]at dU;subst dU;exact g.new (by omega)
 ·exact Ex.cI hx
include K g in
theorem Qyb(eA:cM<=lim.top){t:TypeId}{m d:D C}{vm:Value}(hm:RO T X nx lim m vm)(hx:Ex e (M5 T t m) h nx d h' cM tr):dz P T X nx lim h' cM d (Instr.range t vm):=by
 unfold M5 at hx
 split at hx
 ·rename_i kt vt ck cv ht;obtain⟨hu,_⟩:=K.tP _ _ _ _ _ ht
  split at hx
  ·rename_i id;obtain⟨o,la,ho,hx,_⟩:=Ex.rd hx;cases o with
   |var u d0=>exact Ex.cI hx
   |cj ty dM l=>exact Ex.cI hx
   |ek _=>exact Ex.cI hx
   |map ly kM l=>
    simp only[R9]at hx;obtain⟨o',t2,_,hx,_⟩:=Ex.dl hx;obtain⟨t3,hx,_⟩:=Ex.nw hx;obtain⟨rfl,rfl,rfl,rfl⟩:=Ex.ret hx;obtain⟨b,es,clock,q1,q2,q3⟩:=g.map id _ _ _ ho;have hR:=hm.1.one rfl;cases hR with
    | @mp _ b0 hb=>
     have hb:=hb b q1;subst hb;obtain⟨X',hw,g',s',r'⟩:=G.Fu K.base g (by omega) ho q1 q2 q3;refine⟨_,X',by rw[run_range_map X.w t kt vt b es clock hu q2,hw],g',s',⟨.mk rfl r',?_⟩⟩;intro i hi;simp[D.refs]at hi;subst hi;exact g.new (by omega)
  ·exact Ex.cI hx
 ·exact Ex.cI hx
include K g in
theorem Qyc{t:TypeId}{x lo d:D C}{vx lN:Value}(lS:RO T X nx lim x vx)(gk:RO T X nx lim lo lN)(hx:Ex e (M6 T t x lo) h nx d h' cM tr) :
 ∃v1 X',(Instr.sliceAt t vx (some lN) none none).run P X.w=.ok v1 X.w/\(∀ty0,(Builtin.clear_ #[t] ty0 #[v1]).run P X.w=.ok (.tuple #[]) X'.w)/\G T X' h' cM lim/\Step X nx lim X'/\cM=nx:=by
 unfold M6 at hx
 split at hx
 ·rename_i id n k a;obtain⟨o,la,ho,hx,_⟩:=Ex.rd hx;cases o with
  |var _ _=>exact Ex.cI hx
  |map _ _ _=>exact Ex.cI hx
  |ek _=>exact Ex.cI hx
  |cj ty dM l=>
   cases dM with
   |false=>exact Ex.cI hx
   |true=>
    simp only[Sa]at hx;cases ht:T.ty t with
    |sl el ty0=>
     simp only[ht]at hx;cases hd:decide (ty=ty0)with
     |false=>rw[hd]at hx;exact Ex.cI hx
     |true=>
      rw[hd]at hx;simp only[ag]at hx;have hd:ty=ty0:=by simpa using hd
      subst hd;rcases Ex.br hx with⟨hc,hx⟩|⟨_,hx⟩;rotate_left
      ·exact Ex.cI hx
      obtain⟨o',t2,_,hx,_⟩:=Ex.wr hx;obtain⟨rfl,rfl,rfl,rfl⟩:=Ex.ret hx;simp only[ai,Nat.beq_eq,aa]at hc;obtain⟨hn,Cu,Ey⟩:=hc;obtain⟨ie,z,q1,q2,q3,qb,q4,q5,q6,q7⟩:=K.ll _ _ _ (.inr ht);have mV:=(K.base.mP _ _ _ ht).2.2;have hu:=K.oT _ _ _ ht;have hs:=ZA K (.inr ht) X.w;obtain⟨rfl,_⟩:=gk.1.int;obtain⟨v0,b,rD,rq,h1,h2⟩:=g.cj id ty true l ho;have dc:=h2.len;have hR:=lS.1.one rfl;cases hR with
      | @vs _ _ cp a0 hh=>
       have jI:=(hh _ _ _ _ _ h1).2 (by rw[dc,hn])
       have pw:(Instr.sliceBounds true n cp (some (.int k a)) none none).run P X.w=.ok (a.toNat,n,cp) X.w:=by
        simp[Instr.sliceBounds,Q4 k a n _ Cu (by omega)]
       have yM:(Instr.sliceAt t (.slice a0 n cp) (some (.int k a)) none none).run P X.w=.ok (.slice (if cp=a.toNat then a0 else a0.map (·.add (a.toNat*T.size (T.dG ty)))) (n-a.toNat) (cp-a.toNat)) X.w:=by
        simp only[Instr.sliceAt,Instr.slice,aG,aB hu,aA,pw,hs.1,aF,hs.2.1]
       by_cases hall:a.toNat=l.length
       ·refine⟨_,X,yM,fun ty0=>?_,g.congr (fun j=>?_),.refl _ _ _,rfl⟩
        ·have:n-a.toNat=0:=by omega
         rw[this];cases (if cp=a.toNat then a0 else a0.map (·.add (a.toNat*T.size (T.dG ty))))<;>simp[Builtin.clear_,aB hu]
        ·rw[Qu (g.kg id _ h1)]
         by_cases hj:j=id
         ·simp[hj,ho,hall]
         ·simp[hj]
       ·rcases h2 with⟨_,h4,_⟩|⟨off,lz,h3,h4,h5,h6⟩
        ·subst h4;simp at Ey hall;omega
        rw[h3]at jI;simp only[Value.slice.injEq]at jI;obtain⟨rfl,_,rfl⟩:=jI;have cY:a.toNat<l.length:=Nat.lt_of_le_of_ne (Int.toNat_le.2 Ey) hall;have gm:¬lz=a.toNat:=fun e=>Nat.lt_irrefl _ (e▸bj cY h4);rw[aw gm]at yM;simp only[bC,Addr.add_lit]at yM;rcases h6 with⟨_,Pv,h6|⟨c,ce,h6,h7,h8⟩⟩|⟨h6,_⟩
        ·exact absurd (h6▸bj cY h4) (Nat.not_lt_zero _)
        rotate_left
        ·cases h6
        obtain⟨l1,l2,CE,E0,yB,nR⟩:=h8.jF K.base a.toNat (by omega);have Pu:=(nR.gE K.base).1;have pQ:=R.Rb (q7 X) (l.length-a.toNat);have tg:=(pQ.gE K.base).1;have lD:=pQ.hQ K.base rfl (.inr ⟨_,_,_,rfl⟩);have hmul:l.length*T.size (T.dG ty)<=lz*T.size (T.dG ty):=Nat.mul_le_mul_right _ h4;have yO:a.toNat*T.size (T.dG ty)+(l.length-a.toNat)*T.size (T.dG ty)=l.length*T.size (T.dG ty):=by rw[<-Nat.add_mul];congr 1;omega
        have O8:c.toList.length=c.size:=by simp
        have PZ:(Builtin.zeroCells z.cells (n-a.toNat)).toList=(List.replicate (l.length-a.toNat) z.cells.toList).flatten:=by
         have:=Gk z.cells (by omega) (n-a.toNat);rw[hn]at this ⊢;rw[<-this];rfl
        have eI:=run_storeCells_at P b (off+a.toNat*T.size (T.dG ty)) ce (List.replicate (l.length-a.toNat) z.cells.toList).flatten 0 c X.w h6 (by omega) lD;have nm:=Ma c.toList off (l.length*T.size (T.dG ty)) l1 l2 [] (List.replicate (l.length-a.toNat) z.cells.toList).flatten (by simpa using CE) (by omega) (by omega);rw[E0]at nm;have rV:=Gh c.toList (off+a.toNat*T.size (T.dG ty)) (List.replicate (l.length-a.toNat) z.cells.toList).flatten (by omega);have o6:=Gg c.toList (off+a.toNat*T.size (T.dG ty)) (List.replicate (l.length-a.toNat) z.cells.toList).flatten (by omega);simp only[Nat.add_zero]at eI;generalize hzz:(List.replicate (l.length-a.toNat) z.cells.toList).flatten=zz at eI nm rV o6 pQ tg PZ lD;generalize rT:c.toList.take (off+a.toNat*T.size (T.dG ty))++zz++c.toList.drop (off+a.toNat*T.size (T.dG ty)+zz.length)=kk at eI nm rV o6
        have yE:R T X false (.arr ty l.length (l.take a.toNat++List.replicate (l.length-a.toNat) (T.fh ty))) (l1++zz):=by
         have:=yB.jB pQ;rw[show a.toNat+(l.length-a.toNat)=l.length by omega]at this;exact this
        have jY:(l.take a.toNat++List.replicate (l.length-a.toNat) (T.fh ty)).length=l.length:=by simp;omega
        obtain⟨X',pu,_,hg,lR⟩:=G.oP K.base g ho h1 h6 (c':=kk.toArray) (l':=l.take a.toNat++List.replicate (l.length-a.toNat) (T.fh ty)) (v':=v0) (jt:=rD) (by simp[o6]) (by
         intro o gU;have:=rV o (by omega)
         simpa using this) (aq _) (.inr rfl) ⟨aq _,fun _=>rfl⟩ (by
         intro X' hw hO hm _ r5;refine .inr ⟨off,lz,by rw[h3,jY],by rw[jY];exact h4,h5,.inl ⟨rfl,Pv,.inr ⟨_,ce,by rw[hw];exact setRow_heap _ _ _ _ _ _ h6,by simpa[o6]using h7,?_⟩⟩⟩;have fT:=yE.step K.base r5 (by simp[D.refs]);rw[jY]
         simpa[nm]using fT)
        refine⟨_,X',yM,fun ty0=>?_,hg,lR,rfl⟩;have nj:0<n-a.toNat:=by omega
        have CO:(zeroValue el).run P X.w=.ok z X.w:=by simp[zeroValue,typeInfo,q1,q5]
        obtain⟨m,hm⟩:∃m,n-a.toNat=m+1:=⟨n-a.toNat-1,by omega⟩;rw[hm]at PZ ⊢;simp only[Builtin.clear_,List.getElem?_toArray,List.getElem?_cons_zero,aG,aB hu,aA,CO,PZ,eI,pu,aF]
    |_=>rw[ht]at hx;exact Ex.cI hx
 ·exact Ex.cI hx
def uq(T:fA C)(kt:TypeId):Prop:=(∃ik,T.ty kt=.int ik)\/T.ty kt=.str\/T.ty kt=.bool
include K in
theorem Mc{kt:TypeId}(hk:uq T kt):∃desc,P.underlying kt=some desc/\∀(d:D C) (v:Value),cZ T d (.inl kt)=true->R T X false d [v]->MapKept.IsKey desc v:=by
 rcases hk with⟨ik,hk⟩|hk|hk
 ·refine⟨_,K.nG _ _ hk,fun d v hf hr=>?_⟩;cases d<;>simp[cZ,hk]at hf
  cases hr;exact hf
 ·refine⟨_,K.lv _ hk,fun d v hf hr=>?_⟩;cases d<;>simp[cZ,hk]at hf
  cases hr;trivial
 ·refine⟨_,K.ol _ hk,fun d v hf hr=>?_⟩;cases d<;>simp[cZ,hk]at hf
  cases hr;trivial
include K in
theorem Qyd{kt:TypeId}(hk:uq T kt){desc:TypeDesc}(hd:P.underlying kt=some desc){d1 d2:D C}{v1 v2:Value}(f1:cZ T d1 (.inl kt)=true)(f2:cZ T d2 (.inl kt)=true)(r1:R T X false d1 [v1])(r2:R T X false d2 [v2]) :
 ∃r,Instr.sameNow desc v1 v2=some r/\o5 d1 d2=some r/\(r=true->v1=v2):=by
 rcases hk with⟨ik,hk⟩|hk|hk
 ·rw[K.nG _ _ hk]at hd;cases hd;cases d1<;>simp[cZ,hk]at f1
  cases d2<;>simp[cZ,hk]at f2
  subst f1;subst f2;cases r1;cases r2;rename_i a _ b _ _;exact⟨a==b,by simp[Instr.sameNow],by simp[o5],fun q=>by simp at q;rw[q]⟩
 ·rw[K.lv _ hk]at hd;cases hd;cases d1<;>simp[cZ,hk]at f1
  cases d2<;>simp[cZ,hk]at f2
  cases r1;cases r2;rename_i a b
  have e:((⟨⟨a⟩⟩:ByteArray)==⟨⟨b⟩⟩)=(a==b):=by
   rw[Bool.eq_iff_iff,MapKept.bytes_beq,bi];constructor
   ·intro q;simpa using q
   ·intro q;rw[q]
  exact⟨a==b,by simp only[Instr.sameNow,e],by simp only[o5],fun q=>by simp at q;rw[q]⟩
 ·rw[K.ol _ hk]at hd;cases hd;cases d1<;>simp[cZ,hk]at f1
  cases d2<;>simp[cZ,hk]at f2
  cases r1;cases r2;rename_i a b;exact⟨a==b,by simp[Instr.sameNow],by simp[o5],fun q=>by simp at q;rw[q]⟩
theorem Tw{desc:TypeDesc}{v:Value}(h:MapKept.IsKey desc v):Instr.sameBits 10000 v v=true:=by
 cases desc<;>cases v<;>simp_all[MapKept.IsKey,Instr.sameBits]
 exact(MapKept.bytes_beq _ _).2 rfl
include K in
theorem ov{kt:TypeId}{ck cv:C.Ty}(hk:uq T kt)(u7:T.ty kt=T.ty (T.dG ck)){desc:TypeDesc}(hd:P.underlying kt=some desc){a:C.A ck}{vk:Value}(hr:R T X false (T.enc ck a) [vk]) :
 ∀{l:List (C.A ck×C.A cv)} {es:ec} (hE:Yx T X ck cv l es) (i:Nat),
 (Instr.findNow desc vk es i=some none/\oJ (Vw T ck) a l=none/\∀v e',R T X false (T.enc ck a) [e'.key]->RV T X (T.enc cv v) e'.val->Yx T X ck cv (iR (Vw T ck) a v l) (es++[e'])) \/
 ∃j e y,Instr.findNow desc vk es i=some (some (i+j,e.val))/\es[j]? = some e/\oJ (Vw T ck) a l=some y/\RV T X (T.enc cv y) e.val/\e.key=vk /\
  ∀v e',R T X false (T.enc ck a) [e'.key]->RV T X (T.enc cv v) e'.val->Yx T X ck cv (iR (Vw T ck) a v l) (es.set j e'):=by
 intro l es hE;have ff:∀x:C.A ck,cZ T (T.enc ck x) (.inl kt)=true:=fun x=>by rw[YG u7];exact K.base.gh _ _
 induction hE with
 |nil=>intro i;exact .inl ⟨rfl,rfl,fun v e' h1 h2=>.cons h1 h2 .nil⟩
 | @cons x l e es Pr Fi hE ih=>
  intro i;obtain⟨r,q1,q2,q3⟩:=Qyd K hk hd (ff a) (ff x.1) hr Pr;obtain⟨x1,x2⟩:=x;have ru:Vw T ck a x1=r:=by unfold Vw;rw[q2];rfl
  cases r with
  |true=>
   refine .inr ⟨0,e,x2,by simp[Instr.findNow,q1],rfl,by simp only[oJ,ru,ag],Fi,(q3 rfl).symm,fun v e' h1 h2=>?_⟩;simp only[iR,ru,ag,List.set_cons_zero];exact .cons h1 h2 hE
  |false=>
   rcases ih (i+1)with⟨p1,p2,p3⟩|⟨j,e1,y,p1,p2,p3,p4,p5,p6⟩
   ·refine .inl ⟨by simp[Instr.findNow,q1,p1],by simp only[oJ,ru,ah,p2],fun v e' h1 h2=>?_⟩;simp only[iR,ru,ah,aP];exact .cons Pr Fi (p3 v e' h1 h2)
   ·refine .inr ⟨j+1,e1,y,by simp[Instr.findNow,q1,p1];omega,by simpa using p2,by simp only[oJ,ru,ah,p3],p4,p5,fun v e' h1 h2=>?_⟩;simp only[iR,ru,ah,List.set_cons_succ];exact .cons Pr Fi (p6 v e' h1 h2)
include K in
theorem Sj{kt:TypeId}{ck:C.Ty}(u7:T.ty kt=T.ty (T.dG ck)){d:D C}{v:Value}{a:C.A ck}(hd:T.dec ck d=some a)(hf:cZ T d (.inl kt)=true)(h:RV T X d v):RV T X (T.enc ck a) v:=by
 have ET:cZ T (T.enc ck a) (.inl kt)=true:=by rw[YG u7];exact K.base.gh _ _
 have fU:(T.enc ck a).dA=true↔d.dA=true:=by rw[J2 hf,J2 ET]
 rcases h with⟨h1,cs,h2,rfl⟩|⟨h1,h2⟩
 ·exact .inl ⟨fU.2 h1,cs,K.base.mH _ _ _ _ _ hd h2,rfl⟩
 ·refine .inr ⟨?_,K.base.mH _ _ _ _ _ hd h2⟩;cases hq:(T.enc ck a).dA with
  |false=>rfl
  |true=>rw[fU.1 hq]at h1;cases h1
theorem Np{kt:TypeId}(hk:uq T kt){d:D C}(hf:cZ T d (.inl kt)=true):d.dA=false:=by
 rcases hk with⟨ik,hk⟩|hk|hk<;>cases d<;>simp_all[cZ,D.dA]
include K g in
theorem QqS{t:TypeId}{m k d:D C}{vm vk:Value}{ok:Bool}(hm:RO T X nx lim m vm)(hk:RO T X nx lim k vk)(hx:Ex e (MQ T t m k ok) h nx d h' cM tr):dz P T X nx lim h' cM d (Instr.lookup t vm vk ok):=by
 unfold MQ at hx
 split at hx
 ·rename_i kt vt ck cv ht;obtain⟨hu,u7,Il,hK,iz,z,hi,hz,pQ⟩:=K.tP _ _ _ _ _ ht
  split at hx
  ·rename_i id;obtain⟨o,la,ho,hx,_⟩:=Ex.rd hx;cases o with
   |var u d0=>exact Ex.cI hx
   |cj ty dM l=>exact Ex.cI hx
   |ek _=>exact Ex.cI hx
   |map ly kM l=>
    simp only[Qqx]at hx
    by_cases h1:ly=ck
    rotate_left
    ·simp only[h1,dite_false]at hx;exact Ex.cI hx
    subst h1
    by_cases h2:kM=cv
    rotate_left
    ·simp only[h2,dite_true,dite_false]at hx;exact Ex.cI hx
    subst h2;simp only[dite_true]at hx;cases hd:T.dec ly k with
    |none=>rw[hd]at hx;exact Ex.cI hx
    |some a=>
     simp only[hd]at hx;cases hf:cZ T k (.inl kt)with
     |false=>rw[hf]at hx;exact Ex.cI hx
     |true=>
      simp only[hf,ag]at hx;obtain⟨b,es,clock,q1,q2,q3⟩:=g.map id _ _ _ ho;have hR:=hm.1.one rfl;cases hR with
      | @mp _ b0 hb=>
       have hb:=hb b q1;subst hb;have wL:=hk.1.one (Np hK hf);have uj:=K.base.mH _ _ _ _ _ hd wL;obtain⟨desc,jW,j9⟩:=Mc (X:=X) K hK;have yv:=j9 k vk hf wL;have qg:(Instr.checkKey es.isEmpty 10000 kt vk).run P X.w=.ok () X.w:=MapKept.run_checkKey jW yv _ _
       have nU:∀(v:Value) (y:C.A kM) (bb:Bool),RV T X (T.enc kM y) v->RO T X nx lim (match ok with|true=>D.cH (.bI (T.enc kM y) (.bI (.bool bb) .bN))|false=>T.enc kM y) (if ok then .tuple #[v,.bool bb]else v):=by
        intro v y bb hv;cases ok with
        |false=>exact⟨hv,by simp[K.base.fI]⟩
        |true=>
         refine⟨.mk rfl (.cH ?_),by simp[D.refs,K.base.fI]⟩;rcases hv with⟨e1,cs,e2,rfl⟩|⟨e1,e2⟩
         ·exact .jU e2 e1 (.ju (.bool bb) rfl .iV)
         ·exact .ju e2 e1 (.ju (.bool bb) rfl .iV)
       rcases ov K hK u7 jW uj q3.rj 0 with⟨p1,p2,_⟩|⟨j,e1,y,p1,p2,p3,p4,_⟩
       ·have ez:(Instr.lookup t (.map (some b)) vk ok).run P X.w=.ok (if ok then .tuple #[z,.bool false]else z) X.w:=by
         simp[Instr.lookup,aB hu,MapKept.run_getObj_map q2,qg,MapKept.run_findKey jW p1,Result.andThen,zeroValue,typeInfo,hi,hz]
        simp only[p2,Option.getD_none,Option.isSome_none]at hx;have:=nU z (T.fh kM) false (pQ X);cases ok<;>obtain⟨rfl,rfl,rfl,rfl⟩:=Ex.ret hx<;>exact dz.same g _ ez this
       ·have ez:(Instr.lookup t (.map (some b)) vk ok).run P X.w=.ok (if ok then .tuple #[e1.val,.bool true]else e1.val) X.w:=by
         simp[Instr.lookup,aB hu,MapKept.run_getObj_map q2,qg,MapKept.run_findKey jW p1,Result.andThen]
        simp only[p3,ba,Option.isSome_some]at hx;have:=nU e1.val y true p4;cases ok<;>obtain⟨rfl,rfl,rfl,rfl⟩:=Ex.ret hx<;>exact dz.same g _ ez this
  ·exact Ex.cI hx
 ·exact Ex.cI hx
theorem YZ{es:eB}{j:Nat}{e1:MapEntry}(h:es.toList[j]? = some e1)(f:MapEntry->MapEntry):(es.modify j f).toList=es.toList.set j (f e1):=by
 apply List.ext_getElem?;intro i;rw[Array.getElem?_toList,Array.getElem?_modify,List.getElem?_set]
 by_cases lP:j=i
 ·subst lP;have cY:=(av.1 h).1;rw[Array.getElem?_toList]at h;simp only[Array.length_toList]at cY;simp only[h,bC];simp[cY]
 ·simp[lP]
theorem J1.push{X:Cx}{ck cv:C.Ty}{l l':List (C.A ck×C.A cv)}{es:eB}{clock:Nat}(q:J1 T X ck cv l es clock){e:MapEntry}(hE:Yx T X ck cv l' (es.push e).toList)(hb:e.born=clock):J1 T X ck cv l' (es.push e) (clock+1):=by
 refine⟨hE,fun x hx=>?_,?_⟩
 ·rw[Array.toList_push,aT,bE]at hx;rcases hx with hx|rfl
  ·have:=q.born x hx;omega
  ·omega
 ·rw[Array.toList_push,List.map_append,List.nodup_append];refine⟨q.nodup,by simp,fun a ha c hc e1=>?_⟩;simp only[List.map_cons,List.map_nil,bE]at hc;obtain⟨x,hx,rfl⟩:=List.mem_map.1 ha;have:=q.born x hx;omega
theorem J1.pL{X:Cx}{ck cv:C.Ty}{l l':List (C.A ck×C.A cv)}{es:eB}{clock:Nat}(q:J1 T X ck cv l es clock){j:Nat}{e1:MapEntry}(h:es.toList[j]? = some e1)(f:MapEntry->MapEntry)(hf:(f e1).born=e1.born)
 (hE:Yx T X ck cv l' (es.modify j f).toList):J1 T X ck cv l' (es.modify j f) clock:=by
 have hm:(es.modify j f).toList.map (·.born)=es.toList.map (·.born):=by
  rw[YZ h f,List.map_set,hf];apply List.ext_getElem?;intro i
  by_cases lP:j=i
  ·subst lP;have cY:=(av.1 h).1;rw[List.getElem?_set_self (by simpa using cY),bB,h];rfl
  ·rw[List.getElem?_set_ne lP]
 refine⟨hE,fun x hx=>?_,by rw[hm];exact q.nodup⟩;have CL:x.born∈(es.modify j f).toList.map (·.born):=List.mem_map.2 ⟨x,hx,rfl⟩;rw[hm]at CL;obtain⟨y,hy,e⟩:=List.mem_map.1 CL;rw[<-e];exact q.born y hy
theorem U1{l:ec}(hn:(l.map (·.born)).Nodup):∀{j:Nat} {e0:MapEntry},l[j]? = some e0->l.findIdx? (fun e=>((e.born:Nat):Int)==((e0.born:Nat):Int))=some j:=by
 induction l with
 |nil=>intro j e0 h;simp at h
 |cons a r ih=>
  intro j e0 h;rw[List.map_cons,List.nodup_cons]at hn;cases j with
  |zero=>simp at h;subst h;simp[List.findIdx?_cons]
  |succ j=>
   have h':r[j]? = some e0:=by simpa using h
   have gm:a.born≠e0.born:=fun e=>hn.1 (List.mem_map.2 ⟨e0,List.mem_of_getElem? h',e.symm⟩)
   have hb:(((a.born:Nat):Int)==((e0.born:Nat):Int))=false:=by
    rw[beq_eq_false_iff_ne];omega
   rw[List.findIdx?_cons,hb,ih hn.2 h'];rfl
include K g in
theorem Qye{t t':TypeId}{m k x d:D C}{vm vk vx:Value}(hm:RO T X nx lim m vm)(hk:RO T X nx lim k vk)(kh:RO T X nx lim x vx)(hx:Ex e (Yt T t m k x) h nx d h' cM tr) :
 ∃v0 st W1 X',(Instr.mapEntry t vm vk).run P X.w=.ok (.tuple #[v0,goInt st]) W1/\(Instr.entryStore t' vm (goInt st) vx).run P W1=.ok () X'.w/\G T X' h' cM lim/\Step X nx lim X'/\cM=nx:=by
 unfold Yt at hx
 split at hx
 ·rename_i kt vt ck cv ht;obtain⟨hu,u7,Il,hK,iz,z,hi,hz,pQ⟩:=K.tP _ _ _ _ _ ht
  split at hx
  ·rename_i id;have tf:=Yr (t:=vt) kh;generalize YD T vt x=x' at hx tf;obtain⟨o,la,ho,hx,_⟩:=Ex.rd hx;cases o with
   |var u d0=>exact Ex.cI hx
   |cj ty dM l=>exact Ex.cI hx
   |ek _=>exact Ex.cI hx
   |map ly kM l=>
    simp only[IG]at hx
    by_cases h1:ly=ck
    rotate_left
    ·simp only[h1,dite_false]at hx;exact Ex.cI hx
    subst h1
    by_cases h2:kM=cv
    rotate_left
    ·simp only[h2,dite_true,dite_false]at hx;exact Ex.cI hx
    subst h2;simp only[dite_true]at hx;cases hd:T.dec ly k with
    |none=>simp only[hd]at hx;exact Ex.cI hx
    |some a=>
     cases oA:T.dec kM x' with
     |none=>simp only[hd,oA]at hx;exact Ex.cI hx
     |some y=>
     simp only[hd,oA]at hx;cases hf:(cZ T k (.inl kt)&&cZ T x' (.inl vt))with
     |false=>rw[hf]at hx;exact Ex.cI hx
     |true=>
      simp only[hf,ag]at hx;obtain⟨o',t2,_,hx,_⟩:=Ex.wr hx;obtain⟨rfl,rfl,rfl,rfl⟩:=Ex.ret hx;simp only[ai]at hf;obtain⟨b,es,clock,q1,q2,q3⟩:=g.map id _ _ _ ho;have hR:=hm.1.one rfl;cases hR with
      | @mp _ b0 hb=>
       have hb:=hb b q1;subst hb;have wL:=hk.1.one (Np hK hf.1);have uj:=K.base.mH _ _ _ _ _ hd wL;have Fl:=Sj K Il oA hf.2 tf.1;obtain⟨desc,jW,j9⟩:=Mc (X:=X) K hK;have yv:=j9 k vk hf.1 wL;have qg:(Instr.checkKey false 10000 kt vk).run P X.w=.ok () X.w:=MapKept.run_checkKey jW yv _ _;have O4:b<X.w.heap.size:=(aI.1 q2).1
       have jq:∀(ob:Go.Obj),({ X.w with heap:=X.w.heap.setIfInBounds b ob }:World).heap[b]? = some ob:=fun ob=>by
        show(X.w.heap.setIfInBounds b ob)[b]? = some ob;simp[O4]
       rcases ov K hK u7 jW uj q3.rj 0 with⟨p1,p2,p3⟩|⟨j,e1,y1,p1,p2,p3,p4,p5,p6⟩
       ·have hE:=p3 y { key:=vk,val:=vx,born:=clock } uj Fl;rw[<-Array.toList_push]at hE;have hM:=q3.push hE rfl;obtain⟨X',hw,g',s'⟩:=G.oO K.base g (k':=clock+1) ho q1 q2 hM
        have hN:J1 T X ly kM (iR (Vw T ly) a (T.fh kM) l) (es.push { key:=vk,val:=z,born:=clock }) (clock+1):=q3.push (by
         have:=p3 (T.fh kM) { key:=vk,val:=z,born:=clock } uj (pQ X);rw[<-Array.toList_push]at this;exact this) rfl
        have Pq:(es.push { key:=vk,val:=z,born:=clock }).findIdx? (fun e=>((e.born:Nat):Int)==((clock:Nat):Int))=some es.size:=by
         have:=U1 hN.nodup (j:=es.size) (e0:={ key:=vk,val:=z,born:=clock }) (by simp);rw[<-this];generalize (es.push { key:=vk,val:=z,born:=clock })=zs;cases zs;simp
        have yD:(es.push { key:=vk,val:=z,born:=clock }).modify es.size (fun e=>{ e with val:=vx })=es.push { key:=vk,val:=vx,born:=clock }:=by
         apply Array.ext';rw[YZ (e1:={ key:=vk,val:=z,born:=clock }) (by simp)];simp
        refine⟨z,clock,{ X.w with heap:=X.w.heap.setIfInBounds b (.map (es.push { key:=vk,val:=z,born:=clock }) (clock+1)) },X',?_,?_,g',s',rfl⟩
        ·simp[Instr.mapEntry,aB hu,MapKept.run_getObj_map q2,qg,MapKept.run_findKey jW p1,Result.andThen,zeroValue,typeInfo,hi,hz,MapKept.run_setObj_map _ q2]
        ·rw[hw];simp[Instr.entryStore,MapKept.run_getObj_map (jq _),asInt,asIntOf,goInt,Pq,yD,MapKept.run_setObj_map _ (jq _),Result.andThen]
       ·have hE:=p6 y { e1 with key:=vk,val:=vx } uj Fl;have Px:=YZ p2 (fun e=>{ e with key:=vk,val:=vx });rw[<-Px]at hE;obtain⟨X',hw,g',s'⟩:=G.oO K.base g (k':=clock) ho q1 q2 (q3.pL p2 (fun e=>{ e with key:=vk,val:=vx }) rfl hE);have CC:es[j]? = some e1:=by rw[<-Array.getElem?_toList];exact p2
        have yA:(Instr.keyThatStays e1.key vk).run P X.w=.ok vk X.w:=by
         simp only[p5,Instr.keyThatStays,Tw yv,aU,aF]
        simp only[aN]at p1
        have Fe:es.modify j (fun e=>{ e with key:=vk })=es:=by
         apply Array.ext';rw[YZ p2];have:({ e1 with key:=vk }:MapEntry)=e1:=by rw[<-p5]
         rw[this];apply List.ext_getElem?;intro i
         by_cases lP:j=i
         ·subst lP;rw[List.getElem?_set_self (av.1 p2).1,p2]
         ·rw[List.getElem?_set_ne lP]
        have Pq:es.findIdx? (fun e=>((e.born:Nat):Int)==((e1.born:Nat):Int))=some j:=by
         have:=U1 q3.nodup p2;rw[<-this];cases es;simp
        have yD:es.modify j (fun e=>{ e with val:=vx })=es.modify j (fun e=>{ e with key:=vk,val:=vx }):=by
         apply Array.ext';rw[YZ p2,YZ p2];have:({ e1 with val:=vx }:MapEntry)={ e1 with key:=vk,val:=vx }:=by rw[<-p5]
         rw[this]
        refine⟨e1.val,e1.born,{ X.w with heap:=X.w.heap.setIfInBounds b (.map es clock) },X',?_,?_,g',s',rfl⟩
        ·simp[Instr.mapEntry,aB hu,MapKept.run_getObj_map q2,qg,MapKept.run_findKey jW p1,Result.andThen,MapKept.run_setObj_map _ q2,yA,Fe,CC]
        ·rw[hw];simp[Instr.entryStore,MapKept.run_getObj_map (jq _),asInt,asIntOf,goInt,Pq,yD,MapKept.run_setObj_map _ (jq _),Result.andThen]
  ·exact Ex.cI hx
 ·exact Ex.cI hx
include K g in
theorem TC{t:TypeId}{m k x d:D C}{vm vk vx:Value}(hm:RO T X nx lim m vm)(hk:RO T X nx lim k vk)(kh:RO T X nx lim x vx)(hx:Ex e (Yt T t m k x) h nx d h' cM tr) :
 ∃X',(Instr.mapUpdate t vm vk vx).run P X.w=.ok () X'.w/\G T X' h' cM lim/\Step X nx lim X'/\d=.cH .bN/\cM=nx:=by
 unfold Yt at hx
 split at hx
 ·rename_i kt vt ck cv ht;obtain⟨hu,u7,Il,hK,iz,z,hi,hz,pQ⟩:=K.tP _ _ _ _ _ ht
  split at hx
  ·rename_i id;have tf:=Yr (t:=vt) kh;generalize YD T vt x=x' at hx tf;obtain⟨o,la,ho,hx,_⟩:=Ex.rd hx;cases o with
   |var u d0=>exact Ex.cI hx
   |cj ty dM l=>exact Ex.cI hx
   |ek _=>exact Ex.cI hx
   |map ly kM l=>
    simp only[IG]at hx
    by_cases h1:ly=ck
    rotate_left
    ·simp only[h1,dite_false]at hx;exact Ex.cI hx
    subst h1
    by_cases h2:kM=cv
    rotate_left
    ·simp only[h2,dite_true,dite_false]at hx;exact Ex.cI hx
    subst h2;simp only[dite_true]at hx;cases hd:T.dec ly k with
    |none=>simp only[hd]at hx;exact Ex.cI hx
    |some a=>
     cases oA:T.dec kM x' with
     |none=>simp only[hd,oA]at hx;exact Ex.cI hx
     |some y=>
     simp only[hd,oA]at hx;cases hf:(cZ T k (.inl kt)&&cZ T x' (.inl vt))with
     |false=>rw[hf]at hx;exact Ex.cI hx
     |true=>
      simp only[hf,ag]at hx;obtain⟨o',t2,_,hx,_⟩:=Ex.wr hx;obtain⟨rfl,rfl,rfl,rfl⟩:=Ex.ret hx;simp only[ai]at hf;obtain⟨b,es,clock,q1,q2,q3⟩:=g.map id _ _ _ ho;have hR:=hm.1.one rfl;cases hR with
      | @mp _ b0 hb=>
       have hb:=hb b q1;subst hb;have wL:=hk.1.one (Np hK hf.1);have uj:=K.base.mH _ _ _ _ _ hd wL;have Fl:=Sj K Il oA hf.2 tf.1;obtain⟨desc,jW,j9⟩:=Mc (X:=X) K hK;have yv:=j9 k vk hf.1 wL;have qg:(Instr.checkKey false 10000 kt vk).run P X.w=.ok () X.w:=MapKept.run_checkKey jW yv _ _;rcases ov K hK u7 jW uj q3.rj 0 with⟨p1,p2,p3⟩|⟨j,e1,y1,p1,p2,p3,p4,p5,p6⟩
       ·have hE:=p3 y { key:=vk,val:=vx,born:=clock } uj Fl;rw[<-Array.toList_push]at hE;obtain⟨X',hw,g',s'⟩:=G.oO K.base g (k':=clock+1) ho q1 q2 (q3.push hE rfl);refine⟨X',?_,g',s',rfl,rfl⟩;rw[hw];simp[Instr.mapUpdate,aB hu,MapKept.run_getObj_map q2,qg,MapKept.run_findKey jW p1,Result.andThen,MapKept.run_setObj_map _ q2]
       ·have hE:=p6 y { e1 with key:=vk,val:=vx } uj Fl;have Px:=YZ p2 (fun e=>{ e with key:=vk,val:=vx });rw[<-Px]at hE;obtain⟨X',hw,g',s'⟩:=G.oO K.base g (k':=clock) ho q1 q2 (q3.pL p2 (fun e=>{ e with key:=vk,val:=vx }) rfl hE);refine⟨X',?_,g',s',rfl,rfl⟩;rw[hw]
        have yA:(Instr.keyThatStays (((es[j]?).map (·.key)).getD vk) vk).run P X.w=.ok vk X.w:=by
         have:es[j]? = some e1:=by rw[<-Array.getElem?_toList];exact p2
         rw[this];simp only[bC,ba,p5,Instr.keyThatStays,Tw yv,aU,aF]
        simp only[aN]at p1;simp[Instr.mapUpdate,aB hu,MapKept.run_getObj_map q2,qg,MapKept.run_findKey jW p1,Result.andThen,MapKept.run_setObj_map _ q2,yA]
  ·exact Ex.cI hx
 ·exact Ex.cI hx
end
section
variable {C:ij}{P:Program}{T:fA C}(K:Zq P T)
open Pg (Ex)
def ZZ(T:fA C)(X:Cx)(nx:Nat)(lim:eL)(h':Heap C)(cM:Nat)(d:D C)(en:Ending)(w':World):Prop :=
 ∃v X',en=.returned v/\X'.w=w'/\G T X' h' cM lim/\Step X nx lim X'/\RO T X' cM lim d v
def oh:dD->Fence
 |none=>Fence.wide
 |some l=>Fence.wide.inRound l
theorem oM(ro:dD)(f:FuncId):(oh ro).fn f:=by cases ro<;>trivial
theorem QqT(ro:dD):(oh ro).depth=none:=by cases ro<;>rfl
theorem QqU(ro:dD):(oh ro).round=ro:=by cases ro<;>rfl
theorem Ht{ro:dD}{m:Nat}:(oh ro).depth.isSome=true->1<=m:=by rw[QqT];intro h;cases h
theorem XF{ro:dD}{m:Nat}{f:FuncId}{args:b7}{w:World}{R:Ending->World->Prop}(h:Calls P f args w R):CallsIn (oh ro) m P f args w R:=by
 have h:=callsIn_wide (n:=m).2 h;cases ro with
 |none=>exact h
 |some l=>exact h
theorem QBW{ro:dD}{m:Nat}{row:String}{args:b7}{w:World}{R:Value->World->Prop}(h:Rows P row args w R):RowsIn (oh ro) m P row args w R:=by
 have h:RowsIn Fence.wide m P row args w R:=fun c cs _=>let ⟨v,w',r,s⟩:=h c cs;⟨v,w',r,stepsIn_wide.2 s⟩
 cases ro with
 |none=>exact h
 |some l=>exact h
theorem Qyf{ro:dD}{m l:Nat}{f:FuncId}{tmps:b7}{jC body:Code}{w:World}{R:Ending->World->Prop}(h:RoundIn Fence.wide m P l f tmps jC body w R):RoundIn (oh ro) m P l f tmps jC body w R:=by
 cases ro with
 |none=>exact h
 |some l=>exact h
theorem ZI{ro:dD}{m:Nat}{o:Oper}{a:Act}{w:World}{k:Act->World->Prop}{Q:Exit->Act->World->Prop}(lC:∀c,o.op ≠ .defer c)(h:o.wp P a w k Q):o.wpIn (oh ro) m P a w k Q:=by
 refine⟨fun f _=>oM ro f,?_⟩;rw[Oper.semAt_eq _ _ _ lC];unfold Oper.wp at h;generalize (execOp a.eval o).run P w=r at h;cases r with
 |ok x w'=>
  cases x<;>simp only[Oper.upon]at h<;>simp only[Oper.uponIn]<;>
   first
    |exact h
    |exact⟨Ht,XF h⟩
    |exact⟨Ht,QBW h⟩
    |exact h.elim
 |halt x w'=>cases x<;>simp only[Oper.upon]at h<;>simp only[Oper.uponIn]<;>first|exact h|exact h.elim
def QqV(P:Program)(T:fA C)(call:FuncId->List (D C)->Pg C (D C)):Prop :=
 ∀nt dW ps jC body fC om xs l vs X h nx lim e d h' cM tr,G T X h nx lim->R T X false (.yl nt dW ps jC body fC om) [.func (.yield l) #[] #[]]->(∀id∈D.refs (.yl nt dW ps jC body fC om:D C),fL nx lim id)->iu T X xs vs->(∀a∈xs,∀id∈D.refs a,fL nx lim id)->cM<=lim.top ->
  Ex e (call Ve (.yl nt dW ps jC body fC om::xs)) h nx d h' cM tr ->
  ∃fn tmps xR jj,(Instr.yield l ⟨vs⟩).run P X.w=.ok (.round l fn tmps xR jj) X.w/\∀m,RoundIn Fence.wide m P l fn tmps xR jj X.w (ZZ T X nx lim h' cM d)
def uu(P:Program)(T:fA C)(call:FuncId->List (D C)->Pg C (D C)):Prop :=
 QqV P T call/\∀f,f≠Ve->∀args vs X h nx lim e d h' cM tr,G T X h nx lim->iu T X args vs->(∀a∈args,∀id∈D.refs a,fL nx lim id)->cM<=lim.top->Ex e (call f args) h nx d h' cM tr ->
  (callFunc f ⟨vs⟩).run P X.w=.ok (.enter f ⟨vs⟩) X.w/\Calls P f ⟨vs⟩ X.w (ZZ T X nx lim h' cM d)
variable {X:Cx}{h h':Heap C}{nx cM:Nat}{e:Pg.Lv}{lim:eL}{tr:Tr}{env:Env C}{a:Act}
theorem Qyg(v:Value):RO T X nx lim (qd v:D C) v:=by
 unfold qd
 split
 ·exact RO.mk (.mk rfl (.bool _)) rfl
 ·rename_i k n;cases hb:decide (k.min<=n)&&decide (n<=k.max)with
  |true=>exact RO.mk (.mk rfl (.int (by simpa using hb))) rfl
  |false=>exact RO.mk (RV.top _ _ _) rfl
 ·exact RO.mk (.mk rfl (.str _)) rfl
 ·exact RO.mk (.mk rfl .eO) rfl
 ·exact RO.mk (.mk rfl .fw) rfl
 ·exact RO.mk (.mk rfl .cD) rfl
 ·exact RO.mk (.mk rfl (.cH .iV)) rfl
 ·exact RO.mk (.mk rfl .gz) rfl
 ·exact RO.mk (RV.top _ _ _) rfl
theorem Q1(he:QE T X nx lim env a.tmps)(x:Operand):RO T X nx lim (iD env x) (a.eval x):=by
 cases x with
 |tmp t=>exact he t
 |const v=>exact Qyg v
 |global g=>exact RO.mk (RV.top _ _ _) rfl
 |func f=>exact RO.mk (.mk rfl (.fn .iV)) rfl
theorem Dy(he:QE T X nx lim env a.tmps)(l:List Operand):iu T X (l.map (iD env)) (l.map a.eval)/\∀d∈l.map (iD env),∀id∈D.refs d,fL nx lim id:=by
 induction l with
 |nil=>exact⟨.nil,by simp⟩
 |cons x l ih=>
  refine⟨.cons (Q1 he x).1 ih.1,?_⟩;intro d hd;simp only[List.map_cons,aZ]at hd;rcases hd with rfl|hd
  ·exact(Q1 he x).2
  ·exact ih.2 d hd
theorem Md{ts:cK}:∀{ds:List (D C)} {vs:bT},iu T X ds vs->(∀d∈ds,∀id∈D.refs d,fL nx lim id)->iu T X (Ce T ts ds) vs/\∀d∈Ce T ts ds,∀id∈D.refs d,fL nx lim id:=by
 induction ts with
 |nil=>intro ds vs h hr;cases ds<;>exact⟨h,hr⟩
 |cons t ts ih=>
  intro ds vs h hr;cases h with
  |nil=>exact⟨.nil,by simp[Ce]⟩
  | @cons d ds v vs h0 h1=>
   have:=ih h1 (fun d hd=>hr d (by simp[hd]));have h2:RO T X nx lim (YD T t d) v:=Yr ⟨h0,hr d (by simp)⟩;refine⟨.cons h2.1 this.1,?_⟩;intro q hq;simp only[Ce,aZ]at hq;rcases hq with rfl|hq
   ·exact h2.2
   ·exact this.2 q hq
theorem XG(he:QE T X nx lim env a.tmps)(l:List (Nat×Operand)):∀(j:Nat) (p:Nat×D C) (q:Nat×Value),(l.map fun p=>(p.1,iD env p.2))[j]? = some p->(l.map fun p=>(p.1,a.eval p.2))[j]? = some q->p.1=q.1/\RO T X nx lim p.2 q.2:=by
 intro j p q hp hq;rw[bB,Option.map_eq_some_iff]at hp hq;obtain⟨x,hx,rfl⟩:=hp;obtain⟨y,hy,rfl⟩:=hq;rw[hx]at hy;simp at hy;subst hy;exact⟨rfl,Q1 he _⟩
theorem J7(d:D C):∀q∈d.toList,∀id∈q.refs,id∈d.refs:=by
 induction d with
 |bI a b _ ih=>
  intro q hq id dU;simp only[D.toList,aZ]at hq;simp only[D.refs,aT];rcases hq with rfl|hq
  ·exact .inl dU
  ·exact .inr (ih q hq id dU)
 |_=>intro q hq;simp[D.toList]at hq
theorem LF(l:List (D C)):∀id∈(D.ofList l).refs,∃d∈l,id∈d.refs:=by
 induction l with
 |nil=>intro id h;simp[D.ofList,D.refs]at h
 |cons d l ih=>
  intro id dU;simp only[D.ofList,D.refs,aT]at dU;rcases dU with h|h
  ·exact⟨d,by simp,h⟩
  ·obtain⟨q,hq,hi⟩:=ih id h;exact⟨q,by simp[hq],hi⟩
theorem QZ{o:Oper}{s:Sem Value}{d:D C}{k:Act->World->Prop}{Q:Exit->Act->World->Prop}(ez:(execOp a.eval o).run P X.w=(s.run P X.w).andThen fun v w=>.ok (.value v) w)
 (hp:dz P T X nx lim h' cM d s) (hk:∀v X',G T X' h' cM lim->Step X nx lim X'->RO T X' cM lim d v->k (a.put o.dst v) X'.w):o.wp P a X.w k Q:=by
 obtain⟨v,X',h1,h2,h3,h4⟩:=hp;unfold Oper.wp;rw[ez,h1];exact hk v X' h2 h3 h4
include K
theorem Qyh{call:FuncId->List (D C)->Pg C (D C)}(ia:uu P T call)(g:G T X h nx lim)(he:QE T X nx lim env a.tmps)(eA:cM<=lim.top){o:Oper}{d:D C}(hny:∀c f,o.op=.call c->c.callee=.value f->∀nt s p jC b cp om,iD env f ≠ .yl nt s p jC b cp om)(hx:Ex e (j8 T call o (iD env)) h nx d h' cM tr)
 {k:Act->World->Prop} {Q:Exit->Act->World->Prop} (hk:∀v X',G T X' h' cM lim->Step X nx lim X'->RO T X' cM lim d v->k (a.put o.dst v) X'.w):o.wp P a X.w k Q:=by
 obtain⟨dst,op,ty,pos,after,guard⟩:=o;unfold j8 at hx;cases op<;>simp only at hx
 case move x=>
  obtain⟨rfl,rfl,rfl,rfl⟩:=Ex.ret hx;exact hk _ X g (.refl _ _ _) (Yr (Q1 he x))
 case assign x=>
  obtain⟨rfl,rfl,rfl,rfl⟩:=Ex.ret hx;exact hk _ X g (.refl _ _ _) (Yr (Q1 he x))
 case pick c x y=>
  refine QZ (P:=P) ?_ (QBS (P:=P) (Q1 he c) (Q1 he x) (Q1 he y) g hx) hk;simp only[execOp,aG,aF];cases (asBool (a.eval c)).run P X.w<;>rfl
 case alloc t=>exact QZ (by simp only[execOp,aG,aF]) (Qx3 K g eA hx) hk
 case box t x=>exact QZ (by simp only[execOp,aG,aF]) (QEr K g eA (Yr (Q1 he x)) hx) hk
 case build t ps=>
  refine QZ (s:=Instr.build t (ps.map fun p=>(p.1,a.eval p.2))) (by simp only[execOp,aG,aF]) ?_ hk;have:=Qx5 K g (vs:=ps.toList.map fun p=>(p.1,a.eval p.2)) (by simp) (XG he ps.toList) hx;have e1:(ps.map fun p=>(p.1,a.eval p.2))=⟨ps.toList.map fun p=>(p.1,a.eval p.2)⟩:=by apply Array.ext';simp
  rw[e1];exact this
 case buildSlice t n ps=>
  refine QZ (s:=Instr.buildSlice t n (ps.map fun p=>(p.1,a.eval p.2))) (by simp only[execOp,aG,aF]) ?_ hk;have:=Qgy K g (vs:=ps.toList.map fun p=>(p.1,a.eval p.2)) (by simp) (XG he ps.toList) hx;have e1:(ps.map fun p=>(p.1,a.eval p.2))=⟨ps.toList.map fun p=>(p.1,a.eval p.2)⟩:=by apply Array.ext';simp
  rw[e1];exact this
 case load t x=>exact QZ (by simp only[execOp,aG,aF]) (Qx8 K g (Q1 he x) hx) hk
 case store t x y=>
  obtain⟨X',h1,h2,h3,rfl⟩:=QqQ K g (Q1 he x) (Yr (Q1 he y)) hx;unfold Oper.wp;simp only[execOp,aG,h1,aA,aF];exact hk undef X' h2 h3 (RO.mk (.mk rfl (.cH .iV)) rfl)
 case nilCheck x=>
  obtain⟨v,h1,h2,rfl,rfl⟩:=Qj9 (Q1 he x) hx;unfold Oper.wp;rw[h1 a.eval _ x rfl rfl];exact hk v X g (.refl _ _ _) h2
 case binOp op t x y yt=>exact QZ (by simp only[execOp,aG,aF]) (QEq K g x y (Q1 he x) (Q1 he y) hx) hk
 case unOp op t x=>exact QZ (by simp only[execOp,aG,aF]) (QFy g (Q1 he x) hx) hk
 case convert s t x=>exact QZ (by simp only[execOp,aG,aF]) (QBV K g (Q1 he x) hx) hk
 case makeFunc fn first fC=>
  unfold UE at hx
  split at hx
  ·rename_i f na;obtain⟨rfl,rfl,rfl,rfl⟩:=Ex.ret hx;have hc:=Dy he fC.toList
   have hf:first = #[]:=by
    apply Array.ext'
    simpa using na
   subst hf;have e1:fC.map a.eval=⟨fC.toList.map a.eval⟩:=by apply Array.ext';simp
   have:=hk (.func (.func f) #[] ⟨fC.toList.map a.eval⟩) X g (.refl _ _ _) ⟨.mk rfl (.fn hc.1.row),fun id dU=>by
    obtain⟨q,hq,hi⟩:=LF _ id (by simpa[D.refs]using dU);exact hc.2 q hq id hi⟩
   unfold Oper.wp;simp only[execOp,aG,Instr.makeFunc,aF,aA,e1,Array.map_empty];exact this
  ·rename_i f k n na
   split at hx
   ·rename_i sF;obtain⟨rfl,rfl,rfl,rfl⟩:=Ex.ret hx
    have hc:fC = #[]:=by
     apply Array.ext'
     simpa using sF
    subst hc;have rU:=(Dy he first.toList).1
    have hl:first.toList.map a.eval=[.int k n]/\(k.min<=n/\n<=k.max):=by
     rw[na]at rU;generalize first.toList.map a.eval=vs at rU
     cases rU with
     |cons hv hr=>
      cases hr;have:=hv.one rfl;cases this with
      |int hb=>exact⟨rfl,hb⟩
    have e1:first.map a.eval = #[.int k n]:=by apply Array.ext';simpa using hl.1
    have:=hk (.func (.func f) #[.int k n] #[]) X g (.refl _ _ _) ⟨.inr ⟨rfl,.bm (.int hl.2) rfl⟩,fun id dU=>by simp[D.refs]at dU⟩;unfold Oper.wp;simp only[execOp,aG,Instr.makeFunc,aF,aA,e1,Array.map_empty];exact this
   ·exact Ex.cI hx
  ·rename_i f pid pp na
   split at hx
   ·rename_i sF;obtain⟨rfl,rfl,rfl,rfl⟩:=Ex.ret hx
    have hc:fC = #[]:=by
     apply Array.ext'
     simpa using sF
    subst hc;have lq:=Dy he first.toList
    have hl:∃v,first.toList.map a.eval=[v]/\R T X false (.ptr pid pp) [v]/\∀id∈(.ptr pid pp:D C).refs,fL cM lim id:=by
     rw[na]at lq;obtain⟨rU,CB⟩:=lq;generalize first.toList.map a.eval=vs at rU
     cases rU with
     |cons hv hr=>
      cases hr;exact⟨_,rfl,hv.one rfl,CB _ (by simp)⟩
    obtain⟨v,yB,nR,E1⟩:=hl;have e1:first.map a.eval = #[v]:=by apply Array.ext';simpa using yB
    have:=hk (.func (.func f) #[v] #[]) X g (.refl _ _ _) ⟨.inr ⟨rfl,.bm nR rfl⟩,fun id dU=>E1 id (by simpa[D.refs]using dU)⟩;unfold Oper.wp;simp only[execOp,aG,Instr.makeFunc,aF,aA,e1,Array.map_empty];exact this
   ·exact Ex.cI hx
  ·exact Ex.cI hx
 case makeSlice t x y=>exact QZ (by simp only[execOp,aG,aF]) (QhP K g eA (Q1 he x) (Q1 he y) hx) hk
 case slice t x lo hi mx=>
  have ho:∀q:Option Operand,lO T X nx lim (q.map (iD env)) (q.map a.eval):=by
   intro q;cases q with
   |none=>trivial
   |some q=>exact Q1 he q
  exact QZ (by simp only[execOp,aG,aF]) (QqR K g eA (Q1 he x) (ho lo) (ho hi) (ho mx) hx) hk
 case fieldAddr s x i=>exact QZ (by simp only[execOp,aG,aF]) (QhN K g (Q1 he x) hx) hk
 case field s x i=>exact QZ (by simp only[execOp,aG,aF]) (Qx0 K g (Q1 he x) hx) hk
 case indexAddr t x i=>exact QZ (by simp only[execOp,aG,aF]) (QhO K g (Q1 he x) (Q1 he i) hx) hk
 case index t x i=>exact QZ (by simp only[execOp,aG,aF]) (Qx1 K g (Q1 he x) (Q1 he i) hx) hk
 case makeMap t r=>
  cases r with
  |none=>exact QZ (by simp only[execOp,aG,aF,Option.map_none]) (QoK K g eA hx) hk
  |some r=>exact Ex.cI hx
 case mapUpdate t x y z=>
  obtain⟨X',h1,h2,h3,rfl,rfl⟩:=TC K g (Q1 he x) (Q1 he y) (Q1 he z) hx;unfold Oper.wp;simp only[execOp,aG,h1,aA,aF];exact hk undef X' h2 h3 (RO.mk (.mk rfl (.cH .iV)) rfl)
 case insert t x y z=>
  obtain⟨X',h1,h2,h3,rfl,rfl⟩:=TC K g (Q1 he x) (Q1 he y) (Q1 he z) hx;unfold Oper.wp;simp only[execOp,aG,h1,aA,aF];exact hk undef X' h2 h3 (RO.mk (.mk rfl (.cH .iV)) rfl)
 case range t x=>exact QZ (by simp only[execOp,aG,aF]) (Qyb K g eA (Q1 he x) hx) hk
 case lookup t x i ok=>exact QZ (by simp only[execOp,aG,aF]) (QqS K g (Q1 he x) (Q1 he i) hx) hk
 case extract x i=>
  unfold UY at hx;have lS:=Q1 he x;generalize iD env x=q at hx lS;cases q with
  |cH ds=>
   simp only at hx;obtain⟨hn,rfl,rfl,rfl⟩:=Ex.jZ hx;have hR:=lS.1.one rfl;generalize hv:a.eval x=vv at hR lS;cases hR with
   |cH hr=>
    obtain⟨v,yQ,r6⟩:=hr.nth T rfl i d hn;unfold Oper.wp;simp only[execOp,aG,hv,Instr.extract];rename_i vs;have:(⟨vs⟩:b7)[i]? = some v:=by simpa using yQ
    simp only[this,aF,aA];exact hk v X g (.refl _ _ _) ⟨r6,fun id dU=>lS.2 id (by simpa[D.refs]using VG _ _ _ hn id dU)⟩
  |_=>exact Ex.cI hx
 case call c=>
  obtain⟨callee,args,argTypes⟩:=c;have ha:=Dy he args.toList;have e1:args.map a.eval=⟨args.toList.map a.eval⟩:=by apply Array.ext';simp
  cases callee with
  |builtin b=>
   simp only at hx;cases hb:Nat.beq argTypes.toList.length args.toList.length with
   |false=>rw[hb]at hx;exact Ex.cI hx
   |true=>
    rw[hb]at hx;simp only[ag]at hx;obtain⟨s,lQ,lR⟩:=QoI K g eA (ty0:=ty) ha.1 ha.2 (by simpa using az hb) hx;refine QZ (s:=s) ?_ lR hk;have PM:∀qe,Go.builtin b argTypes ty qe ⟨args.toList.map a.eval⟩=(do pure (.value (<-s))):=lQ;simp only[execOp,resolve,aG,aF,aA,invoke,e1,PM]
  |value f=>
   simp only at hx;unfold NZ at hx;have hf:=Q1 he f;have hq:=hny _ f rfl rfl;generalize iD env f=q at hx hf hq;cases q with
   |yl nt s p jC b cp om=>exact absurd rfl (hq nt s p jC b cp om)
   |fn pN fC=>
    simp only at hx;cases o9:Nat.beq pN Ve with
    |true=>rw[o9]at hx;exact Ex.cI hx
    |false=>
    rw[o9]at hx;have kw:pN≠Ve:=fun e=>by rw[e]at o9;simp at o9
    simp only[ah]at hx;have hR:=hf.1.one rfl;generalize hv:a.eval f=vf at hR hf;cases hR with
    | @fn _ _ wF hc=>
     have ht:=Md (ts:=argTypes.toList) ha.1 ha.2;have uW:=hc.toList T rfl
     obtain⟨q1,q2⟩:=ia.2 pN kw _ _ X h nx lim e d h' cM tr g (iu.append T ht.1 uW) (by
      intro x CL;rcases aT.1 CL with h1|h1
      ·exact ht.2 x h1
      ·exact fun id dU=>hf.2 id (by simpa[D.refs]using J7 fC x h1 id dU)) eA hx
     unfold Oper.wp;have e2:(#[]++args.map a.eval)++(⟨wF⟩:b7)=⟨args.toList.map a.eval++wF⟩:=by apply Array.ext';simp
     simp only[execOp,resolve,aG,hv,Deferred.ofValue,aF,aA,invoke,e2,q1];rw[Oper.upon_enter];refine q2.mono fun en w' hp=>?_;obtain⟨v,X',rfl,rfl,h2,h3,h4⟩:=hp;exact hk v X' h2 h3 h4
   |bm pN d0=>
    simp only at hx;cases o9:Nat.beq pN Ve with
    |true=>rw[o9]at hx;exact Ex.cI hx
    |false=>
    rw[o9]at hx;have kw:pN≠Ve:=fun e=>by rw[e]at o9;simp at o9
    simp only[ah]at hx;have hR:=hf.1.one rfl;generalize hv:a.eval f=vf at hR hf;cases hR with
    | @bm _ _ v0 jI Fb=>
     have ht:=Md (ts:=argTypes.toList) ha.1 ha.2
     obtain⟨q1,q2⟩:=ia.2 pN kw _ _ X h nx lim e d h' cM tr g (iu.cons (.inr ⟨Fb,jI⟩) ht.1) (by
      intro x CL;rcases aZ.1 CL with h1|h1
      ·subst h1;exact fun id dU=>hf.2 id (by simpa[D.refs]using dU)
      ·exact ht.2 x h1) eA hx
     unfold Oper.wp;have e2:(#[v0]++args.map a.eval)++(#[]:b7)=⟨v0::args.toList.map a.eval⟩:=by apply Array.ext';simp
     simp only[execOp,resolve,aG,hv,Deferred.ofValue,aF,aA,invoke,e2,q1];rw[Oper.upon_enter];refine q2.mono fun en w' hp=>?_;obtain⟨v,X',rfl,rfl,h2,h3,h4⟩:=hp;exact hk v X' h2 h3 h4
   |_=>exact Ex.cI hx
  |invoke r m=>exact Ex.cI hx
 all_goals exact Ex.cI hx
theorem QBX{ro:dD}{m:Nat}{call:FuncId->List (D C)->Pg C (D C)}(ia:uu P T call)(g:G T X h nx lim)(he:QE T X nx lim env a.tmps)(eA:cM<=lim.top){o:Oper}{d:D C}(hx:Ex e (j8 T call o (iD env)) h nx d h' cM tr)
 {k:Act->World->Prop} {Q:Exit->Act->World->Prop} (hk:∀v X',G T X' h' cM lim->Step X nx lim X'->RO T X' cM lim d v->k (a.put o.dst v) X'.w):o.wpIn (oh ro) m P a X.w k Q:=by
 by_cases hyl:∃c f nt s p jC b cp om,o.op=.call c/\c.callee=.value f/\iD env f=.yl nt s p jC b cp om
 ·obtain⟨c,f,nt,s,p,jC,b,cp,om,ho,hc,hf⟩:=hyl;obtain⟨dst,op,ty,pos,after,guard⟩:=o;obtain⟨callee,args,argTypes⟩:=c;simp only at ho hc;subst ho;subst hc;unfold j8 at hx;simp only[hf,NZ]at hx;have ha:=Dy he args.toList;have e1:args.map a.eval=⟨args.toList.map a.eval⟩:=by apply Array.ext';simp
  have lq:=Q1 he f;rw[hf]at lq;have hR:=lq.1.one rfl;have ht:=Md (ts:=argTypes.toList) ha.1 ha.2;generalize hv:a.eval f=vf at hR lq;have hR2:=hR;cases hR with
  | @yl _ l _ _ _ _ _ _ rec hw hs nK=>
   obtain⟨fn,tmps,xR,jj,q1,q2⟩:=ia.1 nt s p jC b cp om _ l _ X h nx lim e d h' cM tr g hR2 lq.2 ht.1 ht.2 eA hx;refine⟨fun f _=>oM ro f,?_⟩;rw[Oper.semAt_eq _ _ _ (fun c h=>by cases h)];have e2:(#[]++args.map a.eval)=⟨args.toList.map a.eval⟩:=by apply Array.ext';simp
   simp only[execOp,resolve,aG,hv,Deferred.ofValue,aF,aA,invoke,e2,q1];refine⟨Ht,Qyf ((q2 _).mono fun en w' hp=>?_)⟩;obtain⟨v,X',rfl,rfl,h2,h3,h4⟩:=hp;exact hk v X' h2 h3 h4
 ·refine ZI (fun c hc=>?_) (Qyh K ia g he eA (fun c f ho hc nt s p jC b cp om h=>hyl ⟨c,f,nt,s,p,jC,b,cp,om,ho,hc,h⟩) hx hk);unfold j8 at hx;rw[hc]at hx;exact Ex.cI hx
end
section
variable {C:ij}
open Pg (Ex)
namespace Pg
theorem Ex.oK{α:Type}{e:Lv}{h:Heap C}{n:Nat}(a:α):Ex e (.ret a:Pg C α) h n a h n []:=by simp[Ex,run]
theorem Vf{α β:Type}{p:Pg C α}{e:Lv}{h h':Heap C}{n n':Nat}{a:α}{t:Tr}(hx:Ex e p h n a h' n' t)(l:Tr)(k:α->Heap C->Nat->Tr->Option β):p.run e h n l k=k a h' n' (t++l):=by
 rw[run_eq];unfold Ex at hx;rw[hx];rfl
theorem Ex.lF{α:Type}{e:Lv}{h h':Heap C}{n n':Nat}{t:Tr}{b:Bool}{x y:Pg C α}{a:α}(hx:(b=true/\Ex e x h n a h' n' t)\/(b=false/\Ex e y h n a h' n' t)):Ex e (.br b x y) h n a h' n' t:=by
 rcases hx with⟨rfl,hx⟩|⟨rfl,hx⟩<;>simpa[Ex,run]using hx
theorem Ex.Fq{α:Type}{e:Lv}{h h':Heap C}{n n':Nat}{t:Tr}{id:Nat}{f:Obj C->Pg C α}{a:α}{o:Obj C}(ho:h.get id=some o)(hx:Ex e (f o) h n a h' n' t):Ex e (.rd id f) h n a h' n' (t++[(id,false)]):=by
 show run _ _ _ _ _ _=_;simp only[run,ho];rw[Vf hx]
theorem Ex.Fs{α:Type}{e:Lv}{h h':Heap C}{n n':Nat}{t:Tr}{id:Nat}{o o':Obj C}{f:Pg C α}{a:α}(ho:h.get id=some o')(hx:Ex e f (h.put id o) n a h' n' t):Ex e (.wr id o f) h n a h' n' (t++[(id,true)]):=by
 show run _ _ _ _ _ _=_;simp only[run,ho];rw[Vf hx]
theorem Ex.Fp{α:Type}{e:Lv}{h h':Heap C}{n n':Nat}{t:Tr}{o:Obj C}{f:Nat->Pg C α}{a:α}(hx:Ex e (f n) ((n,o)::h) (n+1) a h' n' t):Ex e (.nw o f) h n a h' n' (t++[(n,true)]):=by
 show run _ _ _ _ _ _=_;simp only[run];rw[Vf hx]
theorem Ex.Fm{α:Type}{e:Lv}{h h':Heap C}{n n':Nat}{t:Tr}{id:Nat}{o':Obj C}{f:Pg C α}{a:α}(ho:h.get id=some o')(hx:Ex e f (h.del id) n a h' n' t):Ex e (.dl id f) h n a h' n' (t++[(id,true)]):=by
 show run _ _ _ _ _ _=_;simp only[run,ho];rw[Vf hx]
theorem Ex.yW{α:Type}{e:Lv}{h h':Heap C}{n n':Nat}{t:Tr}{f:Nat->Nat->Pg C α}{a:α}(hx:Ex e (f n (span e.1)) h n a h' n' t):Ex e (.oY f) h n a h' n' t:=by simpa[Ex,run]using hx
theorem Ex.vw{α:Type}{e:Lv}{h h':Heap C}{n n' m:Nat}{t:Tr}{f:Pg C α}{a:α}(hm:n<=m)(hx:Ex e f h m a h' n' t):Ex e (.upto m f) h n a h' n' t:=by
 show run _ _ _ _ _ _=_;simp only[run,Nat.ble_eq_true_of_le hm,ag];exact hx
theorem Ex.Fo{α:Type}{e:Lv}{h h':Heap C}{n n' lo:Nat}{iZ:bU}{t:Tr}{f:Pg C α}{a:α}(hl:e.2<=lo)(hx:Ex e f (h.drop lo n iZ) n a h' n' t):Ex e (.gc lo iZ f) h n a h' n' t:=by
 show run _ _ _ _ _ _=_;simp only[run,Nat.ble_eq_true_of_le hl,ag];exact hx
theorem Ex.yX{α:Type}{e:Lv}{h h1 h':Heap C}{n n1 n':Nat}{t1 t2:Tr}{p:Pg C (Env C)}{f:Env C->Tr->Pg C α}{v:Env C}{a:α}(hp:Ex (e.1+1,n) p h n v h1 n1 t1)(hx:Ex e (f v t1) h1 n1 a h' n' t2) :
 Ex e (.sub p f) h n a h' n' (t2++t1):=by
 show run _ _ _ _ _ _=_;simp only[run];rw[Vf hp];simp only[aR];rw[Vf hx]
theorem Ex.vu{α β:Type}{e:Lv}{h h1 h':Heap C}{n n1 n':Nat}{t1 t2:Tr}{p:Pg C α}{f:α->Pg C β}{v:α}{a:β}(hp:Ex e p h n v h1 n1 t1)(hx:Ex e (f v) h1 n1 a h' n' t2) :
 Ex e (p.bind f) h n a h' n' (t2++t1):=by
 show run _ _ _ _ _ _=_;rw[run_bind,Vf hp];simp only[aR];rw[Vf hx]
theorem Ex.local{α:Type}{p:Pg C α}:∀{e:Lv} {h:Heap C} {n:Nat} {a:α} {h':Heap C} {n':Nat} {t:Tr},Ex e p h n a h' n' t->e.2<=n->∀g:Heap C,
 (∀id w,(id,w)∈t->id<e.2\/n'<=id->g.get id=h.get id)->(∀id,e.2<=id->id<n'->g.get id=h.get id) ->
 ∃g',Ex e p g n a g' n' t/\(∀id,e.2<=id->id<n'->g'.get id=h'.get id) /\
  (∀id,id<e.2\/n'<=id->((id,true)∈t->g'.get id=h'.get id)/\((id,true)∉t->g'.get id=g.get id/\h'.get id=h.get id)):=by
 induction p with
 |ret a=>
  intro e h n a' h' n' t hx hl g hA hB;obtain⟨rfl,rfl,rfl,rfl⟩:=Ex.ret hx;exact⟨g,.oK _,hB,fun id dU=>⟨fun hm=>by simp at hm,fun _=>⟨rfl,rfl⟩⟩⟩
 |fail=>intro e h n a' h' n' t hx;exact Ex.cI hx
 |br b x y ix iy=>
  intro e h n a' h' n' t hx hl g hA hB;rcases Ex.br hx with⟨hb,hx⟩|⟨hb,hx⟩
  ·obtain⟨g',h1,h2⟩:=ix hx hl g hA hB;exact⟨g',.lF (.inl ⟨hb,h1⟩),h2⟩
  ·obtain⟨g',h1,h2⟩:=iy hx hl g hA hB;exact⟨g',.lF (.inr ⟨hb,h1⟩),h2⟩
 |rd id f ih=>
  intro e h n a' h' n' t hx hl g hA hB;obtain⟨o,t',ho,hy,rfl⟩:=Ex.rd hx
  have hg:g.get id=some o:=by
   rw[<-ho]
   by_cases iY:e.2<=id/\id<n'
   ·exact hB id iY.1 iY.2
   ·exact hA id false (by simp) (by omega)
  obtain⟨g',h1,h2,h3⟩:=ih o hy hl g (fun i w hi=>hA i w (by simp[hi])) hB;refine⟨g',.Fq hg h1,h2,fun i hi=>?_⟩
  simpa using h3 i hi
 |wr id o f ih=>
  intro e h n a' h' n' t hx hl g hA hB;obtain⟨o',t',ho,hy,rfl⟩:=Ex.wr hx
  have hg:g.get id=some o':=by
   rw[<-ho]
   by_cases iY:e.2<=id/\id<n'
   ·exact hB id iY.1 iY.2
   ·exact hA id true (by simp) (by omega)
  have Ij:(h.get id).isSome=true:=by simp[ho]
  have Ii:(g.get id).isSome=true:=by simp[hg]
  obtain⟨g',h1,h2,h3⟩:=ih hy hl (g.put id o) (fun i w hi hr=>by
   rw[Qu Ii,Qu Ij]
   by_cases he:i=id
   ·simp[he]
   ·simp[he];exact hA i w (by simp[hi]) hr) (fun i h4 h5=>by
   rw[Qu Ii,Qu Ij]
   by_cases he:i=id
   ·simp[he]
   ·simp[he];exact hB i h4 h5)
  refine⟨g',.Fs hg h1,h2,fun i hi=>⟨fun hm=>?_,fun hm=>?_⟩⟩
  ·by_cases yC:(i,true)∈t'
   ·exact(h3 i hi).1 yC
   ·have:=(h3 i hi).2 yC;have he:i=id:=by simpa[yC]using hm
    rw[this.1,this.2,Qu Ii,Qu Ij];simp[he]
  ·simp only[aT,bE,Prod.mk.injEq,and_true,not_or]at hm;have:=(h3 i hi).2 hm.1;rw[this.1,this.2,Qu Ii,Qu Ij];simp[hm.2]
 |nw o f ih=>
  intro e h n a' h' n' t hx hl g hA hB;obtain⟨t',hy,rfl⟩:=Ex.nw hx;have hle:=Ex.le hy
  obtain⟨g',h1,h2,h3⟩:=ih n hy (by omega) ((n,o)::g) (fun i w hi hr=>by
   rw[Qz,Qz]
   by_cases he:i=n
   ·simp[he]
   ·simp[he];exact hA i w (by simp[hi]) hr) (fun i h4 h5=>by
   rw[Qz,Qz]
   by_cases he:i=n
   ·simp[he]
   ·simp[he];exact hB i h4 h5)
  refine⟨g',.Fp h1,h2,fun i hi=>⟨fun hm=>?_,fun hm=>?_⟩⟩
  ·have gm:i≠n:=by omega
   exact(h3 i hi).1 (by simpa[gm]using hm)
  ·have gm:i≠n:=by omega
   have:=(h3 i hi).2 (by simpa[gm]using hm);rw[this.1,this.2,Qz,Qz];simp[gm]
 |dl id f ih=>
  intro e h n a' h' n' t hx hl g hA hB;obtain⟨o',t',ho,hy,rfl⟩:=Ex.dl hx
  have hg:g.get id=some o':=by
   rw[<-ho]
   by_cases iY:e.2<=id/\id<n'
   ·exact hB id iY.1 iY.2
   ·exact hA id true (by simp) (by omega)
  obtain⟨g',h1,h2,h3⟩:=ih hy hl (g.del id) (fun i w hi hr=>by
   rw[Zp,Zp]
   by_cases he:i=id
   ·simp[he]
   ·simp[he];exact hA i w (by simp[hi]) hr) (fun i h4 h5=>by
   rw[Zp,Zp]
   by_cases he:i=id
   ·simp[he]
   ·simp[he];exact hB i h4 h5)
  refine⟨g',.Fm hg h1,h2,fun i hi=>⟨fun hm=>?_,fun hm=>?_⟩⟩
  ·by_cases yC:(i,true)∈t'
   ·exact(h3 i hi).1 yC
   ·have:=(h3 i hi).2 yC;have he:i=id:=by simpa[yC]using hm
    rw[this.1,this.2,Zp,Zp];simp[he]
  ·simp only[aT,bE,Prod.mk.injEq,and_true,not_or]at hm;have:=(h3 i hi).2 hm.1;rw[this.1,this.2,Zp,Zp];simp[hm.2]
 |oY f ih=>
  intro e h n a' h' n' t hx hl g hA hB;obtain⟨g',h1,h2⟩:=ih _ _ (Ex.oY hx) hl g hA hB;exact⟨g',.yW h1,h2⟩
 |upto m f ih=>
  intro e h n a' h' n' t hx hl g hA hB;obtain⟨hm,hx⟩:=Ex.upto hx;obtain⟨g',h1,h2⟩:=ih hx (by omega) g hA hB;exact⟨g',.vw hm h1,h2⟩
 |gc lo iZ f ih=>
  intro e h n a' h' n' t hx hl g hA hB;obtain⟨hm,hx⟩:=Ex.gc hx;have hle:=Ex.le hx
  have EM:∀i,(Nat.ble lo i&&Nat.blt i n && !(iZ.any (Nat.beq i)))=true->e.2<=i/\i<n':=by
   intro i hi;simp only[ai,Nat.ble_eq,Nat.blt_eq]at hi;omega
  obtain⟨g',h1,h2,h3⟩:=ih hx hl (g.drop lo n iZ) (fun i w hi hr=>by
   rw[VF,VF]
   split
   ·rfl
   ·exact hA i w hi hr) (fun i h4 h5=>by
   rw[VF,VF]
   split
   ·rfl
   ·exact hB i h4 h5)
  refine⟨g',.Fo hm h1,h2,fun i hi=>⟨(h3 i hi).1,fun hn=>?_⟩⟩;have:=(h3 i hi).2 hn;rw[this.1,this.2,VF,VF];have gm:¬(Nat.ble lo i&&Nat.blt i n && !(iZ.any (Nat.beq i)))=true:=fun hd=>by have:=EM i hd;omega
  simp only[gm];exact⟨rfl,rfl⟩
 |sub p f ip ik=>
  intro e h n a' h' n' t hx hl g hA hB;obtain⟨v,h1,n1,t1,t2,hp,hy,rfl⟩:=Ex.sub hx;have k8:=Ex.le hp;have vd:=Ex.le hy
  obtain⟨g1,q1,q2,q3⟩:=ip hp (aq _) g (fun i w hi hr=>by
   by_cases iY:e.2<=i/\i<n'
   ·exact hB i iY.1 iY.2
   ·exact hA i w (by simp[hi]) (by omega)) (fun i h4 h5=>hB i (by simp at h4;omega) (by omega))
  have same:∀i,g.get i=h.get i->g1.get i=h1.get i:=by
   intro i hi
   by_cases iY:n<=i/\i<n1
   ·exact q2 i iY.1 iY.2
   ·have:=q3 i (by simp;omega)
    by_cases hm:(i,true)∈t1
    ·exact this.1 hm
    ·rw[(this.2 hm).1,(this.2 hm).2,hi]
  obtain⟨g',k1,k2,k3⟩:=ik _ _ hy (by omega) g1 (fun i w hi hr=>same i (hA i w (by simp[hi]) hr)) (fun i h4 h5=>same i (hB i h4 h5));refine⟨g',.yX q1 k1,k2,fun i hi=>?_⟩;have l8:=q3 i (by simp;omega);refine⟨fun hm=>?_,fun hm=>?_⟩
  ·by_cases Ig:(i,true)∈t2
   ·exact(k3 i hi).1 Ig
   ·have hm1:(i,true)∈t1:=by simpa[Ig]using hm
    have:=(k3 i hi).2 Ig;rw[this.1,this.2];exact l8.1 hm1
  ·simp only[aT,not_or]at hm;have:=(k3 i hi).2 hm.1;have h5:=l8.2 hm.2;rw[this.1,this.2];exact h5
end Pg
end
section
variable {C:ij}{P:Program}{T:fA C}(K:Zq P T)
open Pg (Ex)
theorem QP(env:Env C)(t j:Nat)(d:D C):c8 ((j,d)::env) t=if t=j then d else c8 env t:=by
 simp only[c8]
 by_cases h:t=j
 ·subst h;simp
 ·simp[mZ h,h]
theorem Df(env:Env C)(dst:Option Tmp)(d:D C)(t:Nat):c8 (put env dst d) t=if dst=some t then d else c8 env t:=by
 cases dst with
 |none=>simp[put]
 |some j=>
  simp only[put,QP]
  by_cases h:t=j
  ·simp[h]
  ·have:¬j=t:=fun e=>h e.symm;simp[h,this]
theorem QoL(call:FuncId->List (D C)->Pg C (D C))(o:Oper)(r s:Operand->D C)(hh:∀x∈o.op.operands,r x=s x):j8 T call o r=j8 T call o s:=by
 obtain⟨dst,op,ty,pos,after,guard⟩:=o;have hl:∀(xs:Array Operand),(∀x∈xs,r x=s x)->xs.toList.map r=xs.toList.map s:=fun xs hx=>List.map_congr_left fun x hm=>hx x (by simpa using hm)
 have hp:∀(ps:Array (Nat×Operand)),(∀x∈(ps.toList.map (·.2)).toArray,r x=s x)->(ps.toList.map fun p=>(p.1,r p.2))=ps.toList.map fun p=>(p.1,s p.2):=fun ps hx=>List.map_congr_left fun p hm=>by
  rw[hx p.2 (by simp;exact⟨p.1,by simpa using hm⟩)]
 have yF:∀(q:Option Operand),(∀x∈q.toArray,r x=s x)->q.map r=q.map s:=fun q hx=>by
  cases q with
  |none=>rfl
  |some q=>simp[hx q (by simp)]
 cases op<;>simp only[Op.operands]at hh<;>simp only[j8]
 case build t ps=>rw[hp ps hh]
 case buildSlice t n ps=>rw[hp ps hh]
 case makeMap t q=>cases q<;>rfl
 case makeFunc fn a b=>rw[hl a (fun x hx=>hh x (by simp[hx])),hl b (fun x hx=>hh x (by simp[hx]))]
 case slice t x lo hi mx=>
  rw[hh x (by simp),yF lo (fun y hy=>hh y (by simp at hy ⊢;simp[hy])),yF hi (fun y hy=>hh y (by simp at hy ⊢;simp[hy])),yF mx (fun y hy=>hh y (by simp at hy ⊢;simp[hy]))]
 case call c=>
  obtain⟨callee,args,argTypes⟩:=c;have ha:=hl args (fun x hx=>hh x (by simp[Call.operands,hx]));cases callee with
  |builtin b=>simp only[ha]
  |value f=>simp only[ha,hh f (by simp[Call.operands])]
  |invoke q m=>rfl
 all_goals simp_all
theorem XH{i:Nat}{k:IntKind}{n:Int}{go:Env C->Pg C (Env C)}{f1 f2:Env C}(h1:c8 f1 i=.int k n)(h2:c8 f2 i=.int k n){e:Pg.Lv}{h h':Heap C}{nx cM:Nat}{r:Env C}{tr:Tr}{w:Bool}:∀(l:bY),
 Ex e (pins i k n go w f1 l) h nx r h' cM tr->∃g1,(∀t,c8 g1 t=c8 f1 t)/\Ex e (go g1) h nx r h' cM tr/\∃g2,(∀t,c8 g2 t=c8 f2 t)/\∀r3,Ex e (go g2) h nx r3 h' cM tr->Ex e (pins i k n go w f2 l) h nx r3 h' cM tr
 |[],hx=>by
  cases w
  ·exact⟨f1,fun _=>rfl,hx,f2,fun _=>rfl,fun _ h=>h⟩
  ·exact Ex.cI hx
 |j::l,hx=>by
  rcases Ex.br hx with⟨hb,hx⟩|⟨hb,hx⟩
  ·have hj:n=j:=by simpa using hb
   refine⟨(i,.int k j)::f1,fun t=>?_,hx,(i,.int k j)::f2,fun t=>?_,fun r3 h3=>Pg.Ex.lF (.inl ⟨hb,h3⟩)⟩
   ·rw[QP]
    by_cases ht:t=i
    ·simp[ht,h1,hj]
    ·simp[ht]
   ·rw[QP]
    by_cases ht:t=i
    ·simp[ht,h2,hj]
    ·simp[ht]
  ·obtain⟨g1,a1,a2,g2,a3,a4⟩:=XH h1 h2 l hx;exact⟨g1,a1,a2,g2,a3,fun r3 h3=>Pg.Ex.lF (.inr ⟨hb,a4 r3 h3⟩)⟩
theorem XI{o:Oper}{go:Env C->Pg C (Env C)}{f1 f2:Env C}(hi:∀i m,Ci T o=some (i,m)->c8 f1 i=c8 f2 i){e:Pg.Lv}{h h':Heap C}{nx cM:Nat}{r:Env C}{tr:Tr}
 (hx:Ex e (mO T o go f1) h nx r h' cM tr):∃g1,(∀t,c8 g1 t=c8 f1 t)/\Ex e (go g1) h nx r h' cM tr/\∃g2,(∀t,c8 g2 t=c8 f2 t)/\∀r3,Ex e (go g2) h nx r3 h' cM tr->Ex e (mO T o go f2) h nx r3 h' cM tr:=by
 unfold mO at hx ⊢;cases hp:Ci T o with
 |none=>simp only[hp]at hx ⊢;exact⟨f1,fun _=>rfl,hx,f2,fun _=>rfl,fun _ h=>h⟩
 |some q=>
  obtain⟨i,m⟩:=q;simp only[hp]at hx ⊢;rw[<-hi i m hp];generalize hq:c8 f1 i=d at hx;cases d with
  |int k n=>
   exact XH hq (by rw[<-hi i m hp,hq]) _ hx
  |_=>exact⟨f1,fun _=>rfl,hx,f2,fun _=>rfl,fun _ h=>h⟩
theorem Qkb{o:Oper}{ops:cV}{i m:Nat}(h:Ci T o=some (i,m)):i∈o.looksAt ops:=by
 have hm:Operand.tmp i∈o.op.operands:=by
  unfold Ci at h
  split at h
  ·rename_i ho;rw[ho]
   split at h
   ·cases h;simp[Op.operands]
   ·cases h
  ·rename_i ho;rw[ho]
   split at h
   ·cases h;simp[Op.operands]
   ·cases h
  ·cases h
 unfold Oper.looksAt;simp only[aT,List.mem_filterMap];exact .inl ⟨.tmp i,by simpa using hm,rfl⟩
theorem J8(call:FuncId->List (D C)->Pg C (D C))(ops:cV)(o:Oper)(env fP:Env C)(hh:∀t∈o.looksAt ops,c8 env t=c8 fP t){e:Pg.Lv}{h h':Heap C}{n n':Nat}{eD:Env C}{tr:Tr}
 (hx:Ex e (pV T call ops o env) h n eD h' n' tr) :
 ∃v kG,(∀t,c8 eD t=if o.dst=some t then v else c8 env t)/\Ex e (pV T call ops o fP) h n kG h' n' tr/\∀t,c8 kG t=if o.dst=some t then v else c8 fP t:=by
 have PD:∀(f1 f2:Env C),(∀t,c8 f1 t=c8 env t)->(∀t,c8 f2 t=c8 fP t)->∀x∈o.op.operands,iD f1 x=iD f2 x:=by
  intro f1 f2 h1 h2 x hx;cases x with
  |tmp t=>
   simp only[iD,h1,h2];refine hh t ?_;unfold Oper.looksAt;simp only[aT,List.mem_filterMap];exact .inl ⟨.tmp t,by simpa using hx,rfl⟩
  |_=>rfl
 have eM:∀(f1 f2:Env C),(∀t,c8 f1 t=c8 env t)->(∀t,c8 f2 t=c8 fP t)->Ex e (mO T o (fun env=>.bind (j8 T call o (iD env)) fun d=>.ret (put env o.dst d)) f1) h n eD h' n' tr ->
  ∃v kG,(∀t,c8 eD t=if o.dst=some t then v else c8 env t)/\Ex e (mO T o (fun env=>.bind (j8 T call o (iD env)) fun d=>.ret (put env o.dst d)) f2) h n kG h' n' tr/\∀t,c8 kG t=if o.dst=some t then v else c8 fP t:=by
  intro f1 f2 h1 h2 hx;obtain⟨g1,a1,hx,g2,a3,a4⟩:=XI (f2:=f2) (fun i m hp=>by rw[h1,h2];exact hh i (Qkb hp)) hx;have h1:∀t,c8 g1 t=c8 env t:=fun t=>by rw[a1,h1]
  have h2:∀t,c8 g2 t=c8 fP t:=fun t=>by rw[a3,h2]
  clear a1 a3;obtain⟨d,h3,n3,t1,t2,q1,q2,rfl⟩:=Ex.bind hx;obtain⟨rfl,rfl,rfl,rfl⟩:=Ex.ret q2;rw[QoL call o _ _ (PD g1 g2 h1 h2)]at q1;exact⟨d,put g2 o.dst d,fun t=>by rw[Df,h1],a4 _ (Pg.Ex.vu q1 (Pg.Ex.oK _)),fun t=>by rw[Df,h2]⟩
 have np:∀(f1 f2:Env C),(∀t,c8 f1 t=c8 env t)->(∀t,c8 f2 t=c8 fP t)->Ex e (.ret (put f1 o.dst (.cH .bN)):Pg C (Env C)) h n eD h' n' tr ->
  ∃v kG,(∀t,c8 eD t=if o.dst=some t then v else c8 env t)/\Ex e (.ret (put f2 o.dst (.cH .bN)):Pg C (Env C)) h n kG h' n' tr/\∀t,c8 kG t=if o.dst=some t then v else c8 fP t:=by
  intro f1 f2 h1 h2 hx;obtain⟨rfl,rfl,rfl,rfl⟩:=Ex.ret hx;exact⟨_,put f2 o.dst (.cH .bN),fun t=>by rw[Df,h1],Pg.Ex.oK _,fun t=>by rw[Df,h2]⟩
 unfold pV at hx ⊢;cases hg:o.guard with
 |none=>rw[hg]at hx;exact eM env fP (fun _=>rfl) (fun _=>rfl) hx
 |some jw=>
  obtain⟨j,want⟩:=jw;rw[hg]at hx;simp only at hx ⊢;cases hd:(ops[j]?).bind (·.dst)with
  |none=>rw[hd]at hx;exact Ex.cI hx
  |some d=>
   simp only[hd]at hx ⊢
   have jA:c8 env d=c8 fP d:=hh d (by
    unfold Oper.looksAt;rw[hg];simp[hd])
   rw[<-jA]
   have same:∀(f:Env C) (b:Bool),c8 f d=.bool b->∀t,c8 ((d,.bool b)::f) t=c8 f t:=by
    intro f b hb t;rw[QP]
    by_cases ht:t=d
    ·simp[ht,hb]
    ·simp[ht]
   generalize hq:c8 env d=q at hx
   match q,hq,hx with
   |.bool b,hq,hx=>
    simp only at hx ⊢;have CI:c8 fP d=.bool b:=by rw[<-jA,hq]
    rcases Ex.br hx with⟨rfl,hx⟩|⟨rfl,hx⟩
    ·cases want with
     |true=>
      obtain⟨v,kG,k1,k2,k3⟩:=eM _ _ (same env true hq) (same fP true CI) hx;exact⟨v,kG,k1,Pg.Ex.lF (.inl ⟨rfl,k2⟩),k3⟩
     |false=>
      obtain⟨v,kG,k1,k2,k3⟩:=np _ _ (same env true hq) (same fP true CI) hx;exact⟨v,kG,k1,Pg.Ex.lF (.inl ⟨rfl,k2⟩),k3⟩
    ·cases want with
     |true=>
      obtain⟨v,kG,k1,k2,k3⟩:=np _ _ (same env false hq) (same fP false CI) hx;exact⟨v,kG,k1,Pg.Ex.lF (.inr ⟨rfl,k2⟩),k3⟩
     |false=>
      obtain⟨v,kG,k1,k2,k3⟩:=eM _ _ (same env false hq) (same fP false CI) hx;exact⟨v,kG,k1,Pg.Ex.lF (.inr ⟨rfl,k2⟩),k3⟩
   |.cH .bN,hq,hx=>exact np env fP (fun _=>rfl) (fun _=>rfl) hx
   |.cH (.bool _),_,hx |.cH (.int _ _),_,hx |.cH (.str _),_,hx |.cH (.bI _ _),_,hx |.cH (.arr _ _ _),_,hx |.cH (.cH _),_,hx |.cH .eO,_,hx |.cH (.sl _ _ _),_,hx |.cH (.vs _ _),_,hx
   |.cH (.ptr _ _),_,hx |.cH (.jR _ _ _ _ _),_,hx |.cH (.fx _ _ _),_,hx |.cH (.dS _),_,hx |.cH .fw,_,hx |.cH (.fn _ _),_,hx |.cH .cD,_,hx |.cH .gz,_,hx |.cH (.bm _ _),_,hx |.cH (.yl _ _ _ _ _ _ _),_,hx |.cH .top,_,hx |.cH (.ku _),_,hx |.ku _,_,hx
   |.int _ _,_,hx |.str _,_,hx |.bN,_,hx |.bI _ _,_,hx |.arr _ _ _,_,hx |.eO,_,hx |.sl _ _ _,_,hx |.vs _ _,_,hx |.jR _ _ _ _ _,_,hx |.ptr _ _,_,hx |.fx _ _ _,_,hx |.dS _,_,hx |.fw,_,hx
   |.fn _ _,_,hx |.cD,_,hx |.gz,_,hx |.bm _ _,_,hx |.yl _ _ _ _ _ _ _,_,hx |.top,_,hx=>exact Ex.cI hx
variable {X:Cx}{h h':Heap C}{nx cM:Nat}{e:Pg.Lv}{lim:eL}{tr:Tr}{env dj:Env C}{a:Act}
theorem QE.put{d:D C}{v:Value}{dst:Option Tmp}(he:QE T X nx lim env a.tmps)(hd:RO T X nx lim d v)(hb:∀t,dst=some t->t<a.tmps.size):QE T X nx lim (Ev.put env dst d) (a.put dst v).tmps:=by
 intro t;rw[Df];cases dst with
 |none=>simpa[Act.put]using he t
 |some j=>
  simp only[Act.put,aD]
  by_cases hj:j=t
  ·subst hj;have:=hb j rfl;simp[this];exact hd
  ·simp[hj];simpa using he t
def Kp(B:Nat->Bool)(u u':b7):Prop:=∀t,B t=true->u'.getD t undef=u.getD t undef
theorem Kp.refl(B:Nat->Bool)(u:b7):Kp B u u:=fun _ _=>rfl
theorem Kp.trans{B:Nat->Bool}{u v w:b7}(h:Kp B u v)(k:Kp B v w):Kp B u w:=fun t ht=>(k t ht).trans (h t ht)
theorem Ku{B:Nat->Bool}(a:Act)(dst:Option Tmp)(v:Value)(hB:∀t,dst=some t->B t=false):Kp B a.tmps (a.put dst v).tmps:=by
 intro t ht;cases dst with
 |none=>rfl
 |some j=>
  have:j≠t:=fun e=>by have:=hB j rfl;rw[e,ht]at this;cases this
  simp[Act.put,this]
theorem QO(a:Act)(dst:Option Tmp)(v:Value):(a.put dst v).tmps.size=a.tmps.size/\(a.put dst v).defers=a.defers:=by
 cases dst<;>simp[Act.put]
include K
theorem XJ{ro:dD}{m:Nat}{call:FuncId->List (D C)->Pg C (D C)}(ia:uu P T call)(g:G T X h nx lim)(he:QE T X nx lim env a.tmps)(eA:cM<=lim.top){ops:cV}{i:Nat}{o:Oper}(hi:ops[i]? = some o)
 (hb:∀t,o.dst=some t->t<a.tmps.size) {B:Nat->Bool} (hB:∀t,o.dst=some t->B t=false) (hx:Ex e (pV T call ops o env) h nx dj h' cM tr) {k:Act->World->Prop} {Q:Exit->Act->World->Prop}
 (hk:∀a' X',G T X' h' cM lim->Step X nx lim X'->QE T X' cM lim dj a'.tmps->a'.tmps.size=a.tmps.size->a'.defers=a.defers->Kp B a.tmps a'.tmps->k a' X'.w):wpOpIn (oh ro) m P ops Q i k a X.w:=by
 have eM:∀(f:Env C),QE T X nx lim f a.tmps->Region.wanted o (yielded ops a.tmps)=true->Ex e (mO T o (fun env=>.bind (j8 T call o (iD env)) fun d=>.ret (put env o.dst d)) f) h nx dj h' cM tr->wpOpIn (oh ro) m P ops Q i k a X.w:=by
  intro f hf hw hx;obtain⟨g1,a1,hx,_⟩:=XI (f2:=f) (fun _ _ _=>rfl) hx;have hf:QE T X nx lim g1 a.tmps:=fun t=>by rw[a1];exact hf t
  obtain⟨d,h3,n3,t1,t2,q1,q2,rfl⟩:=Ex.bind hx;obtain⟨rfl,rfl,rfl,rfl⟩:=Ex.ret q2;unfold wpOpIn;simp only[hi,hw,aU];refine QBX K ia g hf eA q1 fun v X' g' s' r'=>?_;have hle:=Ex.le q1;exact hk _ X' g' s' ((hf.step K.base s' hle).put r' hb) (QO _ _ _).1 (QO _ _ _).2 (Ku _ _ _ hB)
 have np:∀(f:Env C),QE T X nx lim f a.tmps->Region.wanted o (yielded ops a.tmps)=false->Ex e (.ret (put f o.dst (.cH .bN)):Pg C (Env C)) h nx dj h' cM tr->wpOpIn (oh ro) m P ops Q i k a X.w:=by
  intro f hf hw hx;obtain⟨rfl,rfl,rfl,rfl⟩:=Ex.ret hx;unfold wpOpIn;simp only[hi,hw,bu,aL];refine⟨fun f _=>oM ro f,?_⟩;exact hk _ X g (.refl _ _ _) (hf.put (RO.mk (.mk rfl (.cH .iV)) rfl) hb) (QO _ _ _).1 (QO _ _ _).2 (Ku _ _ _ hB)
 unfold pV at hx;cases hg:o.guard with
 |none=>rw[hg]at hx;exact eM env he (by simp[Region.wanted,hg]) hx
 |some jw=>
  obtain⟨j,want⟩:=jw;rw[hg]at hx;simp only at hx;cases hd:(ops[j]?).bind (·.dst)with
  |none=>rw[hd]at hx;exact Ex.cI hx
  |some d=>
   simp only[hd]at hx;have CA:=he d
   have same:∀(b:Bool),c8 env d=.bool b->QE T X nx lim ((d,.bool b)::env) a.tmps:=by
    intro b jV t;rw[QP]
    by_cases ht:t=d
    ·subst ht;simp;rw[<-jV];simpa using he t
    ·simp[ht];simpa using he t
   generalize hq:c8 env d=q at hx CA
   match q,hq,hx,CA with
   |.bool b,hq,hx,CA=>
    simp only at hx
    have hv:a.tmps[d]? = some (.bool b):=by
     have:=CA.1.bool;cases hs:a.tmps[d]? with
     |none=>simp[hs,undef]at this
     |some u=>simp[hs]at this;rw[this]
    have hy:yielded ops a.tmps j=some b:=by simp[yielded,hd,hv]
    rcases Ex.br hx with⟨rfl,hx⟩|⟨rfl,hx⟩
    ·cases want with
     |true=>exact eM _ (same true hq) (by simp[Region.wanted,hg,hy]) hx
     |false=>exact np _ (same true hq) (by simp[Region.wanted,hg,hy]) hx
    ·cases want with
     |true=>exact np _ (same false hq) (by simp[Region.wanted,hg,hy]) hx
     |false=>exact eM _ (same false hq) (by simp[Region.wanted,hg,hy]) hx
   |.cH .bN,hq,hx,CA=>
    have hR:=CA.1.one rfl
    have hv:a.tmps.getD d undef=.tuple #[]:=by
     generalize a.tmps.getD d undef=u at hR;cases hR with
     |cH hr=>cases hr;rfl
    have hy:yielded ops a.tmps j=none:=by
     simp only[yielded,hd,Option.bind_some];cases hs:a.tmps[d]? with
     |none=>rfl
     |some u=>simp[hs]at hv;rw[hv]
    exact np env he (by simp[Region.wanted,hg,hy]) hx
   |.cH (.bool _),_,hx,_ |.cH (.int _ _),_,hx,_ |.cH (.str _),_,hx,_ |.cH (.bI _ _),_,hx,_ |.cH (.arr _ _ _),_,hx,_ |.cH (.cH _),_,hx,_ |.cH .eO,_,hx,_ |.cH (.sl _ _ _),_,hx,_ |.cH (.vs _ _),_,hx,_
   |.cH (.ptr _ _),_,hx,_ |.cH (.jR _ _ _ _ _),_,hx,_ |.cH (.fx _ _ _),_,hx,_ |.cH (.dS _),_,hx,_ |.cH .fw,_,hx,_ |.cH (.fn _ _),_,hx,_ |.cH .cD,_,hx,_ |.cH .gz,_,hx,_ |.cH (.bm _ _),_,hx,_ |.cH (.yl _ _ _ _ _ _ _),_,hx,_ |.cH .top,_,hx,_ |.cH (.ku _),_,hx,_ |.ku _,_,hx,_
   |.int _ _,_,hx,_ |.str _,_,hx,_ |.bN,_,hx,_ |.bI _ _,_,hx,_ |.arr _ _ _,_,hx,_ |.eO,_,hx,_ |.sl _ _ _,_,hx,_ |.vs _ _,_,hx,_ |.jR _ _ _ _ _,_,hx,_ |.ptr _ _,_,hx,_ |.fx _ _ _,_,hx,_ |.dS _,_,hx,_ |.fw,_,hx,_
   |.fn _ _,_,hx,_ |.cD,_,hx,_ |.gz,_,hx,_ |.bm _ _,_,hx,_ |.yl _ _ _ _ _ _ _,_,hx,_ |.top,_,hx,_=>exact Ex.cI hx
omit K in
theorem uv{o:Oper}{a:Act}{w w':World}{v:Value}{k:Act->World->Prop}{Q:Exit->Act->World->Prop}(ez:(execOp a.eval o).run P w=.ok (.value v) w')(hk:k (a.put o.dst v) w'):o.wp P a w k Q:=by
 unfold Oper.wp;rw[ez];exact hk
omit K in
theorem QBY{o:Oper}{a:Act}{w w':World}{k:Act->World->Prop}{Q:Exit->Act->World->Prop}(ez:(execOp a.eval o).run P w=.ok .skip w')(hk:k (a.put o.dst undef) w'):o.wp P a w k Q:=by
 unfold Oper.wp;rw[ez];exact hk
omit K in
theorem GG{a:Act}{d:Tmp}{v:Value}{x:Operand}(h:tZ d x=true):(a.put (some d) v).eval x=a.eval x:=by
 cases x with
 |tmp u=>
  have gm:d≠u:=fun e=>by simp[tZ,e]at h
  simp[Act.eval,Act.put,gm]
 |_=>rfl
omit K in
theorem QoM{o1 o2 o3:Oper}{t:TypeId}{m k v:Operand}{d1 d2:Nat}(h:HN o1 o2 o3=some (t,m,k,v,d1,d2)):∃t3,o1.op=.mapEntry t m k/\o1.dst=some d1/\o1.guard=none/\o2.op=.extract (.tmp d1) 1/\o2.dst=some d2/\o2.guard=none /\
 o3.op=.entryStore t3 m (.tmp d2) v/\o3.guard=none/\tZ d1 m=true/\tZ d2 m=true/\d1≠d2/\tZ d1 v=true/\tZ d2 v=true:=by
 unfold HN at h
 split at h
 ·rename_i t0 m0 k0 q1
  split at h
  ·rename_i e1' d1' H0 n' q2 q3 q4 q5 q6 q7 q8
   split at h
   ·rename_i m1
    have key:∀(c:Bool) (x:TypeId×Operand×Operand×Operand×Nat×Nat),(bif c then some x else none)=some (t,m,k,v,d1,d2)->c=true/\x=(t,m,k,v,d1,d2):=by
     intro c x hh;cases c
     ·cases hh
     ·exact⟨rfl,aj hh⟩
    obtain⟨hc,hx⟩:=key _ _ h;simp only[Prod.mk.injEq]at hx;obtain⟨rfl,rfl,rfl,rfl,rfl,rfl⟩:=hx;simp only[ai]at hc;obtain⟨⟨⟨⟨h1,h2⟩,h3⟩,⟨h4,h5⟩,h6⟩,h7,h8⟩:=hc;have h1:=az h1;have h2:=az h2;have h3:=az h3;subst h1 h2 h3;exact⟨_,q1,by assumption,by assumption,by assumption,by assumption,by assumption,by assumption,by assumption,h4,h5,fun e=>by rw[e]at h6;simp at h6,h7,h8⟩
   ·cases h
  ·cases h
 ·cases h
omit K in
theorem QoN{o1 o2:Oper}{t:TypeId}{x lo:Operand}{d1:Nat}(h:HO o1 o2=some (t,x,lo,d1)):∃c e1,o1.op=.slice t x (some lo) none none/\o1.dst=some d1/\o1.guard=none/\o2.op=.call c/\o2.guard=none /\
 c.callee=.builtin .clear/\c.args = #[.tmp e1]/\e1=d1/\c.argTypes = #[t]:=by
 unfold HO at h
 split at h
 ·rename_i t0 x0 rD q1
  split at h
  ·rename_i d1' c q2 q3 q4 q5
   split at h
   ·rename_i e1 t' q6 q7 q8
    have key:∀(b:Bool) (y:TypeId×Operand×Operand×Nat),(bif b then some y else none)=some (t,x,lo,d1)->b=true/\y=(t,x,lo,d1):=by
     intro b y hh;cases b
     ·cases hh
     ·exact⟨rfl,aj hh⟩
    obtain⟨hc,hx⟩:=key _ _ h;simp only[Prod.mk.injEq]at hx;obtain⟨rfl,rfl,rfl,rfl⟩:=hx;simp only[ai,Nat.beq_eq]at hc;obtain⟨h1,h2⟩:=hc;subst h1 h2;exact⟨c,e1,q1,q2,q3,q4,q5,q6,by apply Array.ext';simpa using q7,rfl,by apply Array.ext';simpa using q8⟩
   ·cases h
  ·cases h
 ·cases h
theorem QqW{ro:dD}{m:Nat}{call:FuncId->List (D C)->Pg C (D C)}(ia:uu P T call){ops:cV}{B:Nat->Bool}(hB:∀o∈ops.toList,∀t,o.dst=some t->B t=false):∀(N:Nat) (l:ga),l.length<=N->∀(i:Nat),ops.toList.drop i=l->∀{X:Cx} {h h':Heap C} {nx cM:Nat} {e:Pg.Lv} {lim:eL} {tr:Tr} {env dj:Env C} {a:Act},
 G T X h nx lim->QE T X nx lim env a.tmps->cM<=lim.top->(∀o∈ops.toList,∀t,o.dst=some t->t<a.tmps.size)->Ex e (qE T call ops l env) h nx dj h' cM tr->∀{Q:Exit->Act->World->Prop},
 (∀a' X',G T X' h' cM lim->Step X nx lim X'->QE T X' cM lim dj a'.tmps->a'.tmps.size=a.tmps.size->a'.defers=a.defers->Kp B a.tmps a'.tmps->Q .normal a' X'.w)->wpOpsIn (oh ro) m P ops Q (List.range' i l.length) a X.w:=by
 intro N
 induction N with
 |zero=>
  intro l hN i hl X h h' nx cM e lim tr env dj a g he eA hb hx Q hk;have:l=[]:=List.length_eq_zero_iff.1 (by omega);subst this;obtain⟨rfl,rfl,rfl,rfl⟩:=Ex.ret hx;exact hk a X g (.refl _ _ _) he rfl rfl (.refl _ _)
 |succ N ih=>
  intro l hN i hl X h h' nx cM e lim tr env dj a g he eA hb hx Q hk
  have nth:∀(j:Nat) (o:Oper),l[j]? = some o->ops[i+j]? = some o/\o∈ops.toList:=by
   intro j o hj;rw[<-hl,List.getElem?_drop]at hj;exact⟨by rw[<-Array.getElem?_toList];exact hj,List.mem_of_getElem? hj⟩
  cases l with
  |nil=>
   obtain⟨rfl,rfl,rfl,rfl⟩:=Ex.ret hx;exact hk a X g (.refl _ _ _) he rfl rfl (.refl _ _)
  |cons o l=>
   have nR:ops.toList.drop (i+1)=l:=by
    have:=ap (List.drop 1) hl;rw[bD]at this
    simpa using this
   obtain⟨kB,CF⟩:=nth 0 o rfl;rw[Nat.add_zero]at kB
   have step:Ex e ((pV T call ops o env).bind fun env=>qE T call ops l env) h nx dj h' cM tr->wpOpsIn (oh ro) m P ops Q (List.range' i (o::l).length) a X.w:=by
    intro hx;obtain⟨eD,h1,n1,t1,t2,q1,q2,_⟩:=Ex.bind hx;have hle:=Ex.le q2;rw[aE,List.range'_succ,wpOpsIn_cons];refine XJ K ia g he (by omega) kB (fun t ht=>hb o CF t ht) (fun t ht=>hB o CF t ht) q1 fun a' X' g' s' e' hs hd ry=>?_;refine ih l (by simp at hN;omega) (i+1) nR g' e' eA (fun o' gU t ht=>by rw[hs];exact hb o' gU t ht) q2 fun a2 X2 g2 s2 e2 lR oA rz=>?_;exact hk a2 X2 g2 (s'.trans s2 (Ex.le q1)) e2 (by omega) (by rw[oA,hd]) (ry.trans rz)
   cases l with
   |nil=>exact step hx
   |cons o2 l=>
    cases sG:HO o o2 with
    |some q=>
     obtain⟨t,xx,lo,d1⟩:=q;have hx:=hx;rw[qE.eq_def]at hx;simp only[sG]at hx;obtain⟨d,h1,n1,t1,t2,q1,q2,_⟩:=Ex.bind hx;obtain⟨c,e1,e2,e3,e4,e5,e6,e7,e8,e9,HZ⟩:=QoN sG;subst e9;obtain⟨yx,sR⟩:=nth 1 o2 rfl;obtain⟨v1,X',r1,r2,g',s',rfl⟩:=Qyc K g (Q1 he xx) (Q1 he lo) q1;have hw:∀(o:Oper) (u:b7),o.guard=none->Region.wanted o (yielded ops u)=true:=fun o u hg=>by simp[Region.wanted,hg]
     rw[aE,aE,List.range'_succ,wpOpsIn_cons];unfold wpOpIn;simp only[kB,hw o _ e4,aU];refine ZI (fun c hc=>by rw[e2]at hc;cases hc) (uv (v:=v1) (w':=X.w) (by obtain⟨dst,op,ty,pos,after,guard⟩:=o;simp only at e2;subst e2;simp only[execOp,bC,Option.map_none,aG,r1,aA,aF]) ?_);rw[e3];rw[List.range'_succ,wpOpsIn_cons];unfold wpOpIn;simp only[yx,hw o2 _ e6,aU];have b1:=hb o CF e1 e3;have OO:(a.put (some e1) v1).eval (.tmp e1)=v1:=by simp[Act.eval,Act.put,b1]
     refine ZI (fun c hc=>by rw[e5]at hc;cases hc) (uv (v:=.tuple #[]) (w':=X'.w) (by
      obtain⟨dst,op,ty,pos,after,guard⟩:=o2;obtain⟨callee,args,argTypes⟩:=c;simp only at e5 e7 e8 HZ;subst e5 e7 e8 HZ;have hbc:∀ats ty cs args,Go.builtin .clear ats ty cs args=(do pure (.value (<-Builtin.clear_ ats ty args))):=fun _ _ _ _=>rfl;simp only[execOp,resolve,aG,aF,aA,invoke,List.map_toArray,List.map_cons,List.map_nil,OO,hbc,r2 ty]) ?_)
     have hE:QE T X' n1 lim ((e1,.top)::env) (a.put (some e1) v1).tmps:=(he.step K.base s' (aq _)).put (dst:=some e1) (RO.mk (RV.top T _ _) rfl) (fun t ht=>by cases ht;exact b1);have fN:(a.put (some e1) v1).tmps.size=a.tmps.size:=(QO _ _ _).1;have uZ:(a.put (some e1) v1).defers=a.defers:=(QO _ _ _).2;have ry:Kp B a.tmps (a.put (some e1) v1).tmps:=Ku a _ _ (fun t ht=>by cases ht;exact hB o CF e1 e3);generalize a.put (some e1) v1=a2 at hE fN uZ ry ⊢
     have E1:ops.toList.drop (i+1+1)=l:=by
      have:=ap (List.drop 1) nR;rw[bD]at this
      simpa using this
     refine ih l (by simp at hN;omega) (i+1+1) E1 g' (hE.put (dst:=o2.dst) (d:=.cH .bN) (v:=.tuple #[]) (RO.mk (.mk rfl (.cH .iV)) rfl) (fun t ht=>by rw[fN];exact hb o2 sR t ht)) eA (fun o' gU t ht=>by rw[(QO _ _ _).1,fN];exact hb o' gU t ht) q2 fun a3 X3 g3 s3 OI r5 yh yz=>?_;exact hk a3 X3 g3 (s'.trans s3 (aq _)) OI (by rw[r5,(QO _ _ _).1,fN]) (by rw[yh,(QO _ _ _).2,uZ]) (ry.trans ((Ku _ _ _ (fun t ht=>hB o2 sR t ht)).trans yz))
    |none=>
    cases l with
    |nil=>
     rw[qE.eq_def]at hx;simp only[sG]at hx;exact step hx
    |cons o3 l=>
     cases sK:HN o o2 o3 with
     |none=>
      refine step ?_;rw[qE.eq_def]at hx;simp only[sG,sK]at hx;exact hx
     |some q=>
      obtain⟨t,mm,kk,v,d1,d2⟩:=q;rw[qE.eq_def]at hx;simp only[sG,sK]at hx;obtain⟨d,h1,n1,t1,t2,q1,q2,_⟩:=Ex.bind hx;have hle:=Ex.le q2;obtain⟨t3,e1,e2,e3,e4,e5,e6,e7,e8,e9,HZ,e11,e12,e13⟩:=QoM sK;obtain⟨yx,sR⟩:=nth 1 o2 rfl;obtain⟨Pp,E8⟩:=nth 2 o3 rfl;obtain⟨v0,st,W1,X',r1,r2,g',s',rfl⟩:=Qye K g (t':=t3) (Q1 he mm) (Q1 he kk) (Q1 he v) q1;have hw:∀(o:Oper) (u:b7),o.guard=none->Region.wanted o (yielded ops u)=true:=fun o u hg=>by simp[Region.wanted,hg]
      rw[aE,aE,aE,List.range'_succ,wpOpsIn_cons];unfold wpOpIn;simp only[kB,hw o _ e3,aU];refine ZI (fun c hc=>by rw[e1]at hc;cases hc) (uv (v:=.tuple #[v0,goInt st]) (w':=W1) (by obtain⟨dst,op,ty,pos,after,guard⟩:=o;simp only at e1;subst e1;simp only[execOp,aG,r1,aA,aF]) ?_);rw[e2];rw[List.range'_succ,wpOpsIn_cons];unfold wpOpIn;simp only[yx,hw o2 _ e6,aU];have b1:=hb o CF d1 e2;have b2:=hb o2 sR d2 e5;have OO:(a.put (some d1) (.tuple #[v0,goInt st])).eval (.tmp d1)=.tuple #[v0,goInt st]:=by simp[Act.eval,Act.put,b1]
      refine ZI (fun c hc=>by rw[e4]at hc;cases hc) (uv (v:=goInt st) (w':=W1) (by obtain⟨dst,op,ty,pos,after,guard⟩:=o2;simp only at e4;subst e4;simp[execOp,Instr.extract,OO]) ?_);rw[e5];rw[List.range'_succ,wpOpsIn_cons];unfold wpOpIn;simp only[Pp,hw o3 _ e8,aU];have OD:d2<(a.put (some d1) (.tuple #[v0,goInt st])).tmps.size:=by rw[(QO _ _ _).1];exact b2
      have H3:((a.put (some d1) (.tuple #[v0,goInt st])).put (some d2) (goInt st)).eval (.tmp d2)=goInt st:=by
       generalize a.put (some d1) (.tuple #[v0,goInt st])=a1 at OD ⊢;simp[Act.eval,Act.put,OD]
      have ev3:((a.put (some d1) (.tuple #[v0,goInt st])).put (some d2) (goInt st)).eval mm=a.eval mm:=by rw[GG HZ,GG e9]
      have ev4:((a.put (some d1) (.tuple #[v0,goInt st])).put (some d2) (goInt st)).eval v=a.eval v:=by rw[GG e13,GG e12]
      refine ZI (fun c hc=>by rw[e7]at hc;cases hc) (QBY (w':=X'.w) (by obtain⟨dst,op,ty,pos,after,guard⟩:=o3;simp only at e7;subst e7;simp only[execOp,H3,ev3,ev4,aG,r2,aA,aF]) ?_)
      have hE:QE T X' n1 lim ((d2,.top)::(d1,.top)::env) ((a.put (some d1) (.tuple #[v0,goInt st])).put (some d2) (goInt st)).tmps:=by
       have h1:QE T X' n1 lim (Ev.put env (some d1) .top) (a.put (some d1) (.tuple #[v0,goInt st])).tmps:=(he.step K.base s' (aq _)).put (RO.mk (RV.top T _ _) rfl) (fun t ht=>by cases ht;exact b1);exact h1.put (dst:=some d2) (RO.mk (RV.top T _ _) rfl) (fun t ht=>by cases ht;exact OD)
      have fN:((a.put (some d1) (.tuple #[v0,goInt st])).put (some d2) (goInt st)).tmps.size=a.tmps.size:=by rw[(QO _ _ _).1,(QO _ _ _).1]
      have uZ:((a.put (some d1) (.tuple #[v0,goInt st])).put (some d2) (goInt st)).defers=a.defers:=by rw[(QO _ _ _).2,(QO _ _ _).2]
      have ry:Kp B a.tmps ((a.put (some d1) (.tuple #[v0,goInt st])).put (some d2) (goInt st)).tmps:=(Ku a _ _ (fun t ht=>by cases ht;exact hB o CF d1 e2)).trans (Ku _ _ _ (fun t ht=>by cases ht;exact hB o2 sR d2 e5));generalize (a.put (some d1) (.tuple #[v0,goInt st])).put (some d2) (goInt st)=a2 at hE fN uZ ry ⊢
      have E1:ops.toList.drop (i+1+1+1)=l:=by
       have:=ap (List.drop 2) nR;rw[bD]at this
       simpa using this
      refine ih l (by simp at hN;omega) (i+1+1+1) E1 g' (hE.put (dst:=o3.dst) (d:=.cH .bN) (v:=undef) (RO.mk (.mk rfl (.cH .iV)) rfl) (fun t ht=>by rw[fN];exact hb o3 E8 t ht)) eA (fun o' gU t ht=>by rw[(QO _ _ _).1,fN];exact hb o' gU t ht) q2 fun a3 X3 g3 s3 OI r5 yh yz=>?_;exact hk a3 X3 g3 (s'.trans s3 (aq _)) OI (by rw[r5,(QO _ _ _).1,fN]) (by rw[yh,(QO _ _ _).2,uZ]) (ry.trans ((Ku _ _ _ (fun t ht=>hB o3 E8 t ht)).trans yz))
theorem XK{ro:dD}{m:Nat}{call:FuncId->List (D C)->Pg C (D C)}(ia:uu P T call){ops:cV}{B:Nat->Bool}(hB:∀o∈ops.toList,∀t,o.dst=some t->B t=false)(l:ga)(i:Nat)(hl:ops.toList.drop i=l){X:Cx}{h h':Heap C}{nx cM:Nat}{e:Pg.Lv}{lim:eL}{tr:Tr}{env dj:Env C}{a:Act}
 (g:G T X h nx lim) (he:QE T X nx lim env a.tmps) (eA:cM<=lim.top) (hb:∀o∈ops.toList,∀t,o.dst=some t->t<a.tmps.size) (hx:Ex e (qE T call ops l env) h nx dj h' cM tr) {Q:Exit->Act->World->Prop}
 (hk:∀a' X',G T X' h' cM lim->Step X nx lim X'->QE T X' cM lim dj a'.tmps->a'.tmps.size=a.tmps.size->a'.defers=a.defers->Kp B a.tmps a'.tmps->Q .normal a' X'.w):wpOpsIn (oh ro) m P ops Q (List.range' i l.length) a X.w :=
 QqW K ia hB l.length l (aq _) i hl g he eA hb hx hk
end
end Go.Ev
