/-
  A part of the proof of a statement of this seat: the model is run over values by content, proved sound; what the functions come to. No condition beyond the given statements. (text 7)
-/
import Derived.Test.YtndenhihcjijaaaGreatP5
import Derived.OpenShut
import Derived.ReadAgain
namespace Go.Ev
set_option linter.unusedVariables false
set_option linter.unusedSimpArgs false
theorem Qq7 {g g':CG} (hK:g'.K=g.K) (hV:g'.V=g.V) (hn:g'.n=g.n) (hm:g'.m=g.m) (hc:g'.cut=g.cut):g'=g:=by
 cases g;cases g';simp_all
theorem Qbc {g:CG} {cs:List Int} {d:Pick} {f:Frame} {got:List Int} {na:NA} (hC:QB g cs) (hP:PhI g cs d f got) (hm:g.m=g.n) (e:nCh false f got=na) (hk:na.a.kind=0 \/ na.a.kind=2) :
 Qau g cs d f got na g (doC4 cs na.a.kind na.a.a na.a.b na.a.v) (doG4 cs na.a.kind na.a.a na.a.b):=by
 rcases PhI.step hC hP with ⟨na',g',cs',x,st⟩ | ⟨args,he,ha⟩
 · have h1:na'=na:=by rw [<- e];exact (st.nx.e false).symm
   subst h1;have h2:g'=g:=Qq7 st.K st.V st.n (by have:=st.L.m;have:=st.C.mn;have:=st.n;omega) st.cut
   subst h2;rw [st.ce,st.xe];exact st
 · have h1:=he.e false;rw [e] at h1;have:na.a.kind=7:=congrArg Qb.kind h1;omega
theorem QlO {g:CG} {cs:List Int} {d:Pick} {f:Frame} {got args:List Int} (hC:QB g cs) (hP:PhI g cs d f got) (e:(nCh false f got).a=⟨7,0,0,0,0,[],args⟩):Tw d g cs f got g cs args:=by
 rcases PhI.step hC hP with ⟨na',g',cs',x,st⟩ | ⟨args',he,ha⟩
 · have h1:=st.nx.e false;rw [h1] at e;have:na'.a.kind=7:=congrArg Qb.kind e;rcases st.nx.kd with q | q <;> omega
 · have h1:=he.e false;rw [e] at h1;have h2:args=args':=congrArg Qb.args h1;subst h2;exact .fin he ha
theorem ld_of {g:CG} {cs:List Int} {d:Pick} {f:Frame} {got r:List Int} {p n a gn:Int} {i:Nat} {w:Int} {g2:CG} {cs2 args:List Int} (hC:QB g cs) (hP:PhI g cs d f got) (hm:g.m=g.n) (e:nCh false f got=naLd p n r a gn) (ai:a=(i:Int)) (hw:cs.getD i 0=w)
 (k:PhI g cs d ⟨p,n,r⟩ [w]->Tw d g cs ⟨p,n,r⟩ [w] g2 cs2 args):Tw d g cs f got g2 cs2 args:=by
 have st:=Qbc hC hP hm e (.inl rfl);have e1:doC4 cs 0 a 0 0=cs:=by unfold doC4;rw [if_neg (by omega),if_neg (by omega)]
 have e2:doG4 cs 0 a 0=w:=by unfold doG4;rw [if_pos (.inl rfl),ai,<- hw];rfl
 have h1:Qau g cs d f got (naLd p n r a gn) g (doC4 cs 0 a 0 0) (doG4 cs 0 a 0):=st;rw [e1,e2] at h1;exact .stp hC h1 (k h1.P)
structure QZ (g:CG) (cs:List Int) (k:Int) (lo:Nat):Prop where
 lo0:lo <= prevK g.K k (g.n+1)
 lk:lo=0 \/ g.K lo=k
 l1:1 <= lo->cs.getD (289+3 * lo) 0=0
 up:∀ p,1 <= p->p <= g.n->g.K p=k->lo < p->cs.getD (289+3 * p) 0=wP (prevK g.K k p)
 l0:lo=0->prevK g.K k (g.n+1)=0
theorem QZ.next {g:CG} {cs:List Int} {k:Int} {lo:Nat} (h:QZ g cs k lo) {p:Nat} (h1:1 <= p) (h2:p <= g.n) (hk:g.K p=k) (hl:lo <= p):cs.getD (289+3 * p) 0=wP (if p=lo then 0 else prevK g.K k p):=by
 by_cases e:p=lo
 · rw [if_pos e];subst e;rw [h.l1 h1];rfl
 · rw [if_neg e];exact h.up p h1 h2 hk (by omega)
theorem Qn2 {g:CG} {d:Pick} {lo:Nat} {cs:List Int} (hC:QB g cs) (hm:g.m=g.n) (hE:QZ g cs d.key lo) (hl:1 <= lo) :
 ∀ (y a:Nat) (r:List Int),r.length=96->PhI g cs d ⟨74,3,r⟩ [wP (if y=lo then 0 else prevK g.K d.key y)]->1 <= a->a <= g.n->g.K a=d.key->r.getD 2 0=wP a->r.getD 3 0=wP y->1 <= y->y=prevK g.K d.key a->lo <= y ->
  ∃ su x,su <= a /\ 1 <= su /\ g.K su=d.key /\ prevK g.K d.key su=lo /\ Tw d g cs ⟨74,3,r⟩ [wP (if y=lo then 0 else prevK g.K d.key y)] g (cs.set (289+3 * su) 0) [wP lo,x]:=by
 intro y
 induction y using Nat.strongRecOn with
 | ind y ih =>
  intro a r hr hP a1 an ka h2 h3 y1 hy hly;have n100:=hC.n100;have hle:=Qo g.K d.key a a1;have hl':=hC.len;have ky:g.K y=d.key:=by have:=prevK_key g.K d.key a;rw [<- hy] at this;exact this.resolve_left (by omega)
  have e0:∀ z,nCh false ⟨74,3,r⟩ [wP z]=if 0 < wP z then Qy false 3 (r.set 2 (wP y)) (wP z) else naCs 74 4 r (289+3 * (a:Int)) (wP y) 0 (255+(a:Int)):=fun z=>by
   rw [YK];unfold QH;rw [if_neg (by decide),if_neg (by decide),if_neg (by decide),if_pos rfl,h2,h3,ZM a1 (by omega),Q0 a1 (by omega) (by omega) (by omega),show 288+3 * (a:Int)+1=289+3 * (a:Int) by omega];rfl
  by_cases hyl:y=lo
  · rw [if_pos hyl] at hP ⊢;have hca:cs.getD (289+3 * a) 0=wP y:=by rw [hE.up a a1 an ka (by omega),<- hy]
    have e:nCh false ⟨74,3,r⟩ [wP 0]=naCs 74 4 r (289+3 * (a:Int)) (wP y) 0 (255+(a:Int)):=by rw [e0,if_neg (by rw [wP_0];omega)]
    have st:Qau g cs d ⟨74,3,r⟩ [wP 0] (naCs 74 4 r (289+3 * (a:Int)) (wP y) 0 (255+(a:Int))) g (doC4 cs 2 (289+3 * (a:Int)) (wP y) 0) (doG4 cs 2 (289+3 * (a:Int)) (wP y)):=Qbc hC hP hm e (.inr rfl);have ti:(289+3 * (a:Int)).toNat=289+3 * a:=by omega
    have e1:doC4 cs 2 (289+3 * (a:Int)) (wP y) 0=cs.set (289+3 * a) 0:=by
     unfold doC4;rw [ti,if_pos (.inr ⟨rfl,hca⟩)]
    have e2:doG4 cs 2 (289+3 * (a:Int)) (wP y)=1:=by
     unfold doG4;rw [ti,if_neg (by omega),if_pos ⟨rfl,hca⟩]
    rw [e1,e2] at st;have hC2:=st.C;have hP2:PhI g (cs.set (289+3 * a) 0) d ⟨74,4,r⟩ [1]:=st.P;refine ⟨a,(cs.set (289+3 * a) 0).getD 2 0,Nat.le_refl _,a1,ka,by rw [<- hy];exact hyl,.stp hC st (ld_of hC2 hP2 hm (p:=74) (n:=5) (r:=r) (a:=2) (gn:=0) (i:=2) ?_ rfl rfl fun hP3=>QlO hC2 hP3 ?_)⟩
    · show nCh false ⟨74,4,r⟩ [1]=_;rw [YK];unfold QH;rw [if_neg (by decide),if_neg (by decide),if_neg (by decide),if_neg (by decide),if_pos rfl,if_neg (by simp)]
    · rw [YK];unfold QH;rw [if_neg (by decide),if_neg (by decide),if_neg (by decide),if_neg (by decide),if_neg (by decide),h3,hyl];rfl
  · rw [if_neg hyl] at hP ⊢;have hlz:lo <= prevK g.K d.key y:=Zo hl (hE.lk.resolve_left (by omega)) (by omega)
    have hzy:=Qo g.K d.key y y1;generalize hz:prevK g.K d.key y=z at hP hlz hzy ⊢;have z1:1 <= z:=by omega
    have kz:g.K z=d.key:=by have:=prevK_key g.K d.key y;rw [hz] at this;exact this.resolve_left (by omega)
    have hgt:=Qat z1;have hcw:cellO (255+(z:Int)) 1 true=289+3 * (z:Int):=by rw [Q0 z1 (by omega) (by omega) (by omega)];omega
    have hb:=ZM z1 (show z <= 100 by omega)
    have e:nCh false ⟨74,3,r⟩ [wP z]=naLd 74 3 ((r.set 2 (wP y)).set 3 (wP z)) (289+3 * (z:Int)) (255+(z:Int)):=by
     rw [e0,if_pos hgt];unfold Qy;simp only [hb,hcw];rw [if_neg (by omega)]
    have hr2:((r.set 2 (wP y)).set 3 (wP z)).length=96:=by rw [List.length_set,List.length_set];exact hr
    have hw:=hE.next z1 (by omega) kz hlz
    have st:=Qbc hC hP hm e (.inl rfl);have e1:doC4 cs 0 (289+3 * (z:Int)) 0 0=cs:=by unfold doC4;rw [if_neg (by omega),if_neg (by omega)]
    have e2:doG4 cs 0 (289+3 * (z:Int)) 0=wP (if z=lo then 0 else prevK g.K d.key z):=by unfold doG4;rw [if_pos (.inl rfl),<- hw,show (289+3 * (z:Int)).toNat=289+3 * z by omega]
    have st:Qau g cs d ⟨74,3,r⟩ [wP z] (naLd 74 3 ((r.set 2 (wP y)).set 3 (wP z)) (289+3 * (z:Int)) (255+(z:Int))) g (doC4 cs 0 (289+3 * (z:Int)) 0 0) (doG4 cs 0 (289+3 * (z:Int)) 0):=st;rw [e1,e2] at st;obtain ⟨su,x,s1,s2,s3,s4,tw⟩:=ih z hzy y _ hr2 st.P y1 (by omega) ky (by rw [rset (by rw [List.length_set];exact hr) 3 _ (by omega),if_neg (by omega),rset hr 2 _ (by omega),if_pos rfl]) (by rw [rset (by rw [List.length_set];exact hr) 3 _ (by omega),if_pos rfl]) z1 hz.symm hlz
    exact ⟨su,x,by omega,s2,s3,s4,.stp hC st tw⟩
theorem Qq8 {g:CG} {d:Pick} {lo:Nat} {cs r:List Int} (hC:QB g cs) (hm:g.m=g.n) (hE:QZ g cs d.key lo) (hpl:d.place=(g.n:Int)) (hk:0 <= d.key /\ d.key < 24) (hr:r.length=96) (hP:PhI g cs d ⟨74,0,r⟩ []) (h0:r.getD 0 0=d.place) (h1:r.getD 1 0=d.key) :
 (prevK g.K d.key (g.n+1)=lo->Tw d g cs ⟨74,0,r⟩ [] g cs [0,0]) /\ (lo < prevK g.K d.key (g.n+1) -> ∃ su x,su <= prevK g.K d.key (g.n+1) /\ 1 <= su /\ g.K su=d.key /\ prevK g.K d.key su=lo /\ Tw d g cs ⟨74,0,r⟩ [] g (cs.set (289+3 * su) 0) [wP lo,x]):=by
 have n100:=hC.n100;have hlo:=hE.lo0;obtain ⟨hh,_⟩:=hC.head hk;rw [hm] at hh;have htn:=Qo g.K d.key (g.n+1) (by omega)
 have hl0:=hE.l0;have kt0:=prevK_key g.K d.key (g.n+1);generalize prevK g.K d.key (g.n+1)=top at hlo hh htn kt0 hl0 ⊢
 have e0:nCh false ⟨74,0,r⟩ []=naLd 74 1 r (21+d.key) 0:=by
  rw [YK];unfold QH;rw [if_pos rfl,h1,ZC false 74 r hk]
 have i0:21+d.key=((21+d.key.toNat:Nat):Int):=by omega
 have e1:nCh false ⟨74,1,r⟩ [wP top]=QY false 1 r (wP top):=by rw [YK];unfold QH;rw [if_neg (by decide),if_pos rfl];rfl
 by_cases t0:top=0
 · subst t0;refine ⟨fun _=>ld_of hC hP hm e0 i0 hh fun hP1=>QlO hC hP1 ?_,fun h=>by omega⟩
   rw [e1];unfold QY;rw [if_pos (.inl rfl)];rfl
 have t1:1 <= top:=by omega
 have kt:=kt0.resolve_left t0
 have l1:1 <= lo:=by
  rcases Nat.eq_zero_or_pos lo with e | e
  · exact absurd (hl0 e) t0
  · exact e
 have hgt:=Qat t1;have hcw:cellO (255+(top:Int)) 1 true=289+3 * (top:Int):=by rw [Q0 t1 (by omega) (by omega) (by omega)];omega
 have hb:=ZM t1 (show top <= 100 by omega)
 have hw:=Kj (show top <= 100 by omega)
 have e1':nCh false ⟨74,1,r⟩ [wP top]=naLd 74 2 (r.set 2 (wP top)) (289+3 * (top:Int)) (255+(top:Int)):=by
  rw [e1];unfold QY;simp only [hw,hb,hcw];rw [if_neg (by omega)]
 have i1:289+3 * (top:Int)=((289+3 * top:Nat):Int):=by omega
 have w1:=hE.next t1 (by omega) kt hlo
 have hr1:(r.set 2 (wP top)).length=96:=by rw [List.length_set];exact hr
 have e2:∀ b,nCh false ⟨74,2,r.set 2 (wP top)⟩ [wP b]=Qy false 2 (r.set 2 (wP top)) (wP b):=fun b=>by
  have q0:(r.set 2 (wP top)).getD 0 0=(g.n:Int):=by rw [rset hr 2 _ (by omega),if_neg (by omega),h0,hpl]
  have q2:plc ((r.set 2 (wP top)).getD 2 0)=(top:Int):=by rw [rset hr 2 _ (by omega),if_pos rfl,ZZ (by omega)]
  rw [YK];unfold QH;rw [if_neg (by decide),if_neg (by decide),if_pos rfl,q0,q2,if_neg (by omega)];rfl
 refine ⟨fun ht=>?_,fun ht=>?_⟩
 · rw [if_pos ht] at w1;refine ld_of hC hP hm e0 i0 hh fun hP1=>ld_of hC hP1 hm e1' i1 w1 fun hP2=>QlO hC hP2 ?_;rw [e2];unfold Qy;rw [if_pos (.inl (by rw [wP_0];omega))];rfl
 · rw [if_neg (by omega)] at w1
   have hbl:lo <= prevK g.K d.key top:=Zo l1 (hE.lk.resolve_left (by omega)) ht
   have hbt:=Qo g.K d.key top t1;generalize hbe:prevK g.K d.key top=b at w1 hbl hbt;have b1:1 <= b:=by omega
   have kb:g.K b=d.key:=by have:=prevK_key g.K d.key top;rw [hbe] at this;exact this.resolve_left (by omega)
   have hcb:cellO (255+(b:Int)) 1 true=289+3 * (b:Int):=by rw [Q0 b1 (by omega) (by omega) (by omega)];omega
   have hbb:=ZM b1 (show b <= 100 by omega)
   have hgb:=Qat b1
   have e2':nCh false ⟨74,2,r.set 2 (wP top)⟩ [wP b]=naLd 74 3 ((r.set 2 (wP top)).set 3 (wP b)) (289+3 * (b:Int)) (255+(b:Int)):=by
    rw [e2];unfold Qy;simp only [hbb,hcb];rw [if_neg (by omega)]
   have i2:289+3 * (b:Int)=((289+3 * b:Nat):Int):=by omega
   have w2:=hE.next b1 (by omega) kb hbl
   have P1:PhI g cs d ⟨74,1,r⟩ [wP top]:=by
    have st:=Qbc hC hP hm e0 (.inl rfl);have q:=st.P;have q1:doC4 cs 0 (21+d.key) 0 0=cs:=by unfold doC4;rw [if_neg (by omega),if_neg (by omega)]
    have q2:doG4 cs 0 (21+d.key) 0=wP top:=by unfold doG4;rw [if_pos (.inl rfl),i0,<- hh];rfl
    have q:PhI g (doC4 cs 0 (21+d.key) 0 0) d ⟨74,1,r⟩ [doG4 cs 0 (21+d.key) 0]:=q;rw [q1,q2] at q;exact q
   have P2:PhI g cs d ⟨74,2,r.set 2 (wP top)⟩ [wP b]:=by
    have st:=Qbc hC P1 hm e1' (.inl rfl);have q:PhI g (doC4 cs 0 (289+3 * (top:Int)) 0 0) d ⟨74,2,r.set 2 (wP top)⟩ [doG4 cs 0 (289+3 * (top:Int)) 0]:=st.P;have q1:doC4 cs 0 (289+3 * (top:Int)) 0 0=cs:=by unfold doC4;rw [if_neg (by omega),if_neg (by omega)]
    have q2:doG4 cs 0 (289+3 * (top:Int)) 0=wP b:=by unfold doG4;rw [if_pos (.inl rfl),i1,<- w1];rfl
    rw [q1,q2] at q;exact q
   have P3:PhI g cs d ⟨74,3,(r.set 2 (wP top)).set 3 (wP b)⟩ [wP (if b=lo then 0 else prevK g.K d.key b)]:=by
    have st:=Qbc hC P2 hm e2' (.inl rfl);have q:PhI g (doC4 cs 0 (289+3 * (b:Int)) 0 0) d ⟨74,3,(r.set 2 (wP top)).set 3 (wP b)⟩ [doG4 cs 0 (289+3 * (b:Int)) 0]:=st.P;have q1:doC4 cs 0 (289+3 * (b:Int)) 0 0=cs:=by unfold doC4;rw [if_neg (by omega),if_neg (by omega)]
    have q2:doG4 cs 0 (289+3 * (b:Int)) 0=wP (if b=lo then 0 else prevK g.K d.key b):=by unfold doG4;rw [if_pos (.inl rfl),i2,<- w2];rfl
    rw [q1,q2] at q;exact q
   obtain ⟨su,x,s1,s2,s3,s4,tw⟩:=Qn2 hC hm hE l1 b top _ (by rw [List.length_set];exact hr1) P3 t1 (by omega) kt (by rw [rset hr1 3 _ (by omega),if_neg (by omega),rset hr 2 _ (by omega),if_pos rfl]) (by rw [rset hr1 3 _ (by omega),if_pos rfl]) b1 hbe.symm hbl
   exact ⟨su,x,s1,s2,s3,s4,ld_of hC hP hm e0 i0 hh fun hP1=>ld_of hC hP1 hm e1' i1 w1 fun hP2=>ld_of hC hP2 hm e2' i2 w2 fun _=>tw⟩
theorem Tw.cells {d:Pick} {g:CG} {cs:List Int} {f:Frame} {got:List Int} {g2:CG} {cs2 args:List Int} (h:Tw d g cs f got g2 cs2 args) (hC:QB g cs):QB g2 cs2:=by
 induction h with
 | fin e a=>exact hC
 | stp hC' st r ih=>exact ih st.C
theorem QZ.cut {g:CG} {cs:List Int} {k:Int} {lo su:Nat} (h:QZ g cs k lo) (hl:cs.length=771) (h1:1 <= lo) (s1:1 <= su) (s2:su <= g.n) (n100:g.n <= 100) (ks:g.K su=k) (hs:prevK g.K k su=lo):QZ g (cs.set (289+3 * su) 0) k su:=by
 have hlt:=Qo g.K k su s1;have hi:289+3 * su < cs.length:=by omega
 refine ⟨Zo s1 ks (by omega),.inr ks,fun _=>by rw [gset _ _ hi,if_pos rfl],fun p a b c e=>?_,fun e=>by omega⟩
 rw [gset _ _ hi,if_neg (by omega)]
 exact h.up p a b c (by omega)
theorem QZ.other {g:CG} {cs:List Int} {k k':Int} {lo su:Nat} (h:QZ g cs k' lo) (hl:cs.length=771) (s2:su <= g.n) (n100:g.n <= 100) (ks:g.K su=k) (hk:k' ≠ k):QZ g (cs.set (289+3 * su) 0) k' lo:=by
 have hi:289+3 * su < cs.length:=by omega
 refine ⟨h.lo0,h.lk,fun e=>?_,fun p a b c e=>?_,h.l0⟩
 · rw [gset _ _ hi,if_neg (fun q=>?_)]
   · exact h.l1 e
   · have q:lo=su:=by omega
     rcases h.lk with z | z
     · omega
     · rw [q,ks] at z;exact hk z.symm
 · rw [gset _ _ hi,if_neg (fun q=>?_)]
   · exact h.up p a b c e
   · have q:p=su:=by omega
     rw [q,ks] at c;exact hk c.symm
def cntV (K:Nat->Int) (k:Int) (lo:Nat):Nat->Nat
 | 0=>0
 | q+1=>(if lo <= q+1 /\ K (q+1)=k then 1 else 0)+cntV K k lo q
theorem JJ {K:Nat->Int} {k:Int} {lo:Nat}:∀ {p:Nat},p < lo->cntV K k lo p=0
 | 0,_=>rfl
 | q+1,h=>by unfold cntV;rw [if_neg (fun e=>by omega),JJ (by omega)]
theorem Zp {K:Nat->Int} {k:Int} {lo q:Nat} (h:lo <= q+1) (hk:K (q+1)=k):cntV K k lo (q+1)=1+cntV K k lo q:=by
 conv=>lhs;unfold cntV
 rw [if_pos ⟨h,hk⟩]
theorem JZ {K:Nat->Int} {k:Int} {lo q:Nat} (hk:¬ K (q+1)=k):cntV K k lo (q+1)=cntV K k lo q:=by
 conv=>lhs;unfold cntV
 rw [if_neg (fun e=>hk e.2)];omega
theorem Ys {K:Nat->Int} {k:Int} {lo:Nat}:∀ (p:Nat),cntV K k lo p=cntV K k lo (prevK K k (p+1))
 | 0=>by
  have:prevK K k (0+1)=0:=by simp [prevK]
  rw [this]
 | q+1=>by
  unfold prevK
  by_cases h:K (q+1)=k
  · rw [if_pos ⟨by omega,h⟩]
  · rw [if_neg (fun e=>h e.2),<- Ys q]
    conv=>lhs;unfold cntV
    rw [if_neg (fun e=>h e.2)];omega
theorem Qgi {K:Nat->Int} {k:Int} {lo su:Nat} (h1:1 <= lo) (hk:K lo=k) (ks:K su=k) (s1:1 <= su) (hs:prevK K k su=lo):∀ {p:Nat},su <= p->cntV K k lo p=cntV K k su p+1
 | 0,h=>by omega
 | q+1,h=>by
  have hlt:=Qo K k su s1
  by_cases e:su=q+1
  · subst e;have a:cntV K k lo (q+1)=1+cntV K k lo q:=Zp (by omega) ks
    have b:cntV K k (q+1) (q+1)=1+cntV K k (q+1) q:=Zp (by omega) ks
    have c:cntV K k (q+1) q=0:=JJ (by omega)
    have d:cntV K k lo q=1:=by
     rw [Ys q,hs];obtain ⟨l,rfl⟩:∃ l,lo=l+1:=⟨lo - 1,by omega⟩
     rw [Zp (by omega) hk,JJ (by omega)]
    omega
  · have ih:=Qgi h1 hk ks s1 hs (p:=q) (by omega)
    by_cases hq:K (q+1)=k
    · rw [Zp (by omega) hq,Zp (by omega) hq];omega
    · rw [JZ hq,JZ hq];omega
theorem Qq9 {g:CG} {cs:List Int} {k:Int} {lo:Nat} (hC:QB g cs) (hm:g.m=g.n) (hE:QZ g cs k lo) (hl:1 <= lo):∀ (p n:Nat),p < n->lo <= p->p <= g.n->g.K p=k->(rdW cs k n (wP p)).length=cntV g.K k lo p:=by
 intro p
 induction p using Nat.strongRecOn with
 | ind p ih =>
  intro n hn hlp hp hk;have n100:=hC.n100;have hR:=hC.rok;obtain ⟨n,rfl⟩:∃ n',n=n'+1:=⟨n - 1,by omega⟩
  obtain ⟨q,rfl⟩:∃ q,p=q+1:=⟨p - 1,by omega⟩
  have hlt:=Qo g.K k (q+1) (by omega)
  unfold rdW;rw [if_neg (fun e=>by have:=Qdl e;omega),hR.nxt (by omega) (by omega),hE.next (by omega) hp hk hlp]
  rw [Zp hlp hk,List.length_cons]
  by_cases e:q+1=lo
  · rw [if_pos e,JJ (by omega),Kj (by omega)]
    have:(rdW cs k n (wP 0)).length=0:=by
     cases n with
     | zero=>rfl
     | succ n=>unfold rdW;rw [if_pos wP_0];rfl
    omega
  · rw [if_neg e,Kj (by omega),Ys q]
    have hge:lo <= prevK g.K k (q+1):=Zo hl (hE.lk.resolve_left (by omega)) (by omega)
    rw [ih _ hlt n (by omega) hge (by omega) ((prevK_key g.K k (q+1)).resolve_left (by omega))]
    omega
theorem Qn3 {g:CG} {cs:List Int} {k:Int} {lo:Nat} (hC:QB g cs) (hm:g.m=g.n) (hE:QZ g cs k lo) (hk:0 <= k /\ k < 24):(rdW cs k 160 (wh (cs.getD (21+k).toNat 0))).length=if lo=0 then 0 else cntV g.K k lo g.n:=by
 have n100:=hC.n100;obtain ⟨hh,_⟩:=hC.head hk;rw [hm] at hh;have hlo:=hE.lo0;have htn:=Qo g.K k (g.n+1) (by omega)
 rw [show (21+k).toNat=21+k.toNat by omega,hh,Kj (by omega)]
 by_cases l0:lo=0
 · rw [if_pos l0,hE.l0 l0];rfl
 · rw [if_neg l0,Ys g.n];exact Qq9 hC hm hE (by omega) _ 160 (by omega) hlo (by omega) ((prevK_key g.K k (g.n+1)).resolve_left (by omega))
def lowK (K:Nat->Int) (k:Int):Nat->Nat
 | 0=>0
 | q+1=>if 1 <= lowK K k q then lowK K k q else if K (q+1)=k then q+1 else 0
theorem Qb7 (K:Nat->Int) (k:Int):∀ n,lowK K k n <= n
 | 0=>Nat.le_refl _
 | n+1=>by
  have:=Qb7 K k n;unfold lowK
  split
  · omega
  · split <;> omega
theorem lowK_key (K:Nat->Int) (k:Int):∀ n,lowK K k n=0 \/ K (lowK K k n)=k
 | 0=>.inl rfl
 | n+1=>by
  unfold lowK
  split
  · rename_i h;exact .inr ((lowK_key K k n).resolve_left (by omega))
  · split
    · rename_i h;exact .inr h
    · exact .inl rfl
theorem YZ (K:Nat->Int) (k:Int):∀ n p,1 <= p->p <= n->K p=k->1 <= lowK K k n /\ lowK K k n <= p
 | 0,p,h1,h2,_=>by omega
 | n+1,p,h1,h2,hk=>by
  have hl:=Qb7 K k n;unfold lowK
  by_cases h:1 <= lowK K k n
  · rw [if_pos h];rcases Nat.eq_or_lt_of_le h2 with e | e
    · omega
    · exact YZ K k n p h1 (by omega) hk
  · rw [if_neg h];rcases Nat.eq_or_lt_of_le h2 with e | e
    · rw [if_pos (e ▸ hk)];omega
    · have:=YZ K k n p h1 (by omega) hk;omega
theorem QlP (K:Nat->Int) (k:Int) (n:Nat):prevK K k (lowK K k n)=0:=by
 rcases Nat.eq_zero_or_pos (prevK K k (lowK K k n)) with e | e
 · exact e
 · rcases Nat.eq_zero_or_pos (lowK K k n) with z | z
   · rw [z] at e ⊢;simp [prevK]
   · have h1:=Qo K k _ z;have h2:=Qb7 K k n;have h3:=(prevK_key K k (lowK K k n)).resolve_left (by omega)
     have h4:=YZ K k n _ e (by omega) h3
     omega
theorem Qdv {K:Nat->Int} {k:Int} {n:Nat} (h:lowK K k n=0):prevK K k (n+1)=0:=by
 rcases Nat.eq_zero_or_pos (prevK K k (n+1)) with e | e
 · exact e
 · have h1:=Qo K k (n+1) (by omega)
   have h3:=(prevK_key K k (n+1)).resolve_left (by omega)
   have h4:=YZ K k n _ e (by omega) h3
   omega
theorem QB.chain {g:CG} {cs:List Int} (hC:QB g cs) (hm:g.m=g.n) (h0:∀ k,g.ct k <= 0) (k:Int):QZ g cs k (lowK g.K k g.n):=by
 have hl:=Qb7 g.K k g.n
 have exact:∀ p,1 <= p->p <= g.n->cs.getD (289+3 * p) 0=wP (prevK g.K (g.K p) p):=fun p a b=>by
  rcases hC.nx p a (by omega) with e | ⟨_,e⟩
  · exact e
  · have:=h0 (g.K p);omega
 refine ⟨?_,lowK_key _ _ _,fun h=>?_,fun p a b c e=>by rw [exact p a b,c],Qdv⟩
 · rcases Nat.eq_zero_or_pos (lowK g.K k g.n) with z | z
   · omega
   · exact Zo z ((lowK_key g.K k g.n).resolve_left (by omega)) (by omega)
 · rw [exact _ h hl,(lowK_key g.K k g.n).resolve_left (by omega),QlP];rfl
theorem Qdw (K:Nat->Int) (k:Int) {n m:Nat} (h:lowK K k n=m):∀ p,p <= n->cntV K k (if m=0 then 1 else m) p=cntV K k 1 p
 | 0,_=>rfl
 | q+1,hq=>by
  have ih:=Qdw K k h q (by omega)
  by_cases hk:K (q+1)=k
  · have hl:=YZ K k n (q+1) (by omega) hq hk
    rw [Zp (by split <;> omega) hk,Zp (by omega) hk,ih]
  · rw [JZ hk,JZ hk,ih]
theorem QB.cutUp {g:CG} {cs:List Int} (h:QB g cs) {cut:List Int} (hc:∀ k,g.ct k <= ({ g with cut:=cut }:CG).ct k):QB { g with cut:=cut } cs :=
 ⟨h.len,h.fits,h.n100,h.mn,h.nm,h.kr,h.vr,h.hd,h.gen,h.val,fun p a b=>(h.nx p a b).imp id fun q=>⟨q.1,Int.le_trans q.2 (hc _)⟩,h.nxn,h.free⟩
theorem QZ.cutUp {g:CG} {cs:List Int} {k:Int} {lo:Nat} (h:QZ g cs k lo) (cut:List Int):QZ { g with cut:=cut } cs k lo:=⟨h.lo0,h.lk,h.l1,h.up,h.l0⟩
theorem Qgj {g:CG} {cs:List Int} {k:Int} {lo:Nat} (hE:QZ g cs k lo) (hl:1 <= lo):(prevK g.K k (g.n+1)=lo->cntV g.K k lo g.n=1) /\ (lo < prevK g.K k (g.n+1)->2 <= cntV g.K k lo g.n):=by
 have hk:=hE.lk.resolve_left (by omega)
 obtain ⟨l,rfl⟩:∃ l,lo=l+1:=⟨lo - 1,by omega⟩
 constructor
 · intro h;rw [Ys g.n,h,Zp (Nat.le_refl _) hk,JJ (by omega)]
 · intro h;rw [Ys g.n];have kt:=(prevK_key g.K k (g.n+1)).resolve_left (by omega)
   generalize prevK g.K k (g.n+1)=top at h kt ⊢;obtain ⟨t,rfl⟩:∃ t,top=t+1:=⟨top - 1,by omega⟩
   rw [Zp (by omega) kt]
   have hge:∀ p,l+1 <= p->1 <= cntV g.K k (l+1) p:=by
    intro p
    induction p with
    | zero=>intro q;omega
    | succ p ih =>
     intro q
     by_cases hkp:g.K (p+1)=k
     · rw [Zp q hkp];omega
     · rw [JZ hkp];refine ih ?_;rcases Nat.eq_or_lt_of_le q with e | e
       · rw [e] at hk;exact absurd hk hkp
       · omega
   have:=hge t (by omega)
   omega
theorem bit0 (i:Nat):QbO 0 i=false:=by
 unfold QbO;rw [show (0:Int).fdiv (2 ^ min i 64)=0 by simp]
 decide
theorem Qr4 {s:ChS} (hb:s.busy.getD 0 false=false) (hq:¬ (0 < s.last /\ s.done=false)) (hl:s.last < 100) (xk xv:Int):s.b1 0 0 xk xv 0 0=(⟨Q3 s.cs s.last (xk % 24) (xv % 256),s.ts,s.us,s.busy,s.last+1,false,xk % 24,s.does,s.cut⟩:ChS).beg 0 73 [s.last+1,256+s.last,xk % 24] ⟨0,0,0,0,s.last+1,0⟩:=by
 unfold ChS.b1;have e:((0:Int) % 4).toNat=0:=rfl
 rw [if_pos rfl,e,if_neg (fun h=>by
  rcases h with h | h | h
  · exact hq h
  · omega
  · rw [hb] at h;cases h)]
 have no:∀ (k:Nat) (i:Nat) (t:ChS) (ar:List Int) (d:Pick),1 <= i->begAll ((0:Int) % 4) 0 ar d k i t=t:=by
  intro k
  induction k with
  | zero=>intro i t ar d _;rfl
  | succ k ih =>
   intro i t ar d h;unfold begAll
   rw [if_neg (fun q=>by
    rcases q.2 with q | q
    · have:((0:Int) % 4)=0:=rfl;omega
    · rw [bit0] at q;cases q)]
   exact ih (i+1) t ar d (by omega)
 unfold begAll;rw [if_pos ⟨hb,.inl rfl⟩];exact no 3 1 _ _ _ (by omega)
structure PA (s:ChS) (g:CG):Prop where
 G:GI s g []
 m:g.m=g.n
 b:∀ c,c < 4->s.busy.getD c false=false
 z:∀ k,g.ct k <= 0
 dn:1 <= g.n->s.done=true
theorem Qr5 (g:CG) (k v:Int) (j:Int):(g.new k v).ct j=g.ct j:=rfl
theorem PA.put {s:ChS} {g:CG} (h:PA s g) (hn:g.n < 100) (xk xv:Int) {now sure:List Sector} (d1:Qx now sure=true) (d2:Qr now=true) (d3:Qr sure=true) :
 ∃ n g',Ends now sure (n+1) (s.b1 0 0 xk xv 0 0) /\ PA { runE (n+1) (s.b1 0 0 xk xv 0 0) with done:=true } g' /\ g'.n=g.n+1 /\ g'.K=(g.new (xk % 24) (xv % 256)).K /\ Qed s:=by
 have hlast:=h.G.last;have n100:=h.G.C.n100;have hok:Qed s:=⟨h.G.L,by omega,by omega⟩
 have hq:¬ (0 < s.last /\ s.done=false):=fun q=>by
  have:=h.dn (by omega)
  rw [this] at q;cases q.2
 have hone:=Qr4 (h.b 0 (by omega)) hq (by omega) xk xv
 obtain ⟨g1,G1,hc⟩:=h.G.b1 0 0 xk xv 0 0;have bl:(s.b1 0 0 xk xv 0 0).last=s.last+1:=by rw [hone];rfl
 have hg1:g1=g.new (xk % 24) (xv % 256):=by
  rcases hc with ⟨e,_⟩ | ⟨_,e,_⟩
  · omega
  · exact e
 have bb:∀ c,(s.b1 0 0 xk xv 0 0).busy.getD c false=if c=0 then true else s.busy.getD c false:=fun c=>by
  rw [hone];show (s.busy.set 0 true).getD c false=_;rw [ZD _ _ (by rw [h.G.L.busy];omega)]
 have bd:(s.b1 0 0 xk xv 0 0).does.getD 0 pk0=⟨0,0,0,0,s.last+1,0⟩:=by
  rw [hone];show (s.does.set 0 _).getD 0 pk0=_;rw [ZD _ _ (by rw [h.G.L.does];omega),if_pos rfl]
 have bc:(s.b1 0 0 xk xv 0 0).cut=s.cut:=by rw [hone];rfl
 generalize s.b1 0 0 xk xv 0 0=b at *
 obtain ⟨f,got,hcl⟩:=G1.cl 0 (by omega) (by rw [bb,if_pos rfl])
 have hP:=hcl.P;rw [bd] at hP;obtain ⟨g2,cs2,args,tw,r⟩:=Tw.ex (d:=⟨0,0,0,0,s.last+1,0⟩) (by show (0:Int) ≠ 1;omega) (phM f) (Nat.le_refl _) G1.C hP
 obtain ⟨n,t,e1,e2,e3⟩:=tw.ends d1 d2 d3 b rfl G1.L hcl.t hcl.u (by rw [bb,if_pos rfl]) hcl.nx
 have hi:s.last+1 <= g2.m:=r.i rfl;have gn:g1.n=g.n+1:=by rw [hg1];rfl
 have rn:=r.n;have mn:=r.C.mn;have b4:=G1.L.busy
 have bb2:∀ c,c < 4->(b.busy.set 0 false).getD c false=false:=fun c hc=>by
  rw [ZD _ _ (by omega)]
  by_cases e:c=0
  · rw [if_pos e]
  · rw [if_neg e,bb,if_neg e];exact h.b c hc
 have nob:∀ c,c < 4 -> ¬ (b.busy.set 0 false).getD c false=true:=fun c hc q=>by rw [bb2 c hc] at q;cases q
 refine ⟨n,g2,e1,?_,by omega,by rw [r.K,hg1],hok⟩
 rw [e3];refine ⟨⟨r.C,⟨?_,?_,?_,G1.L.does,G1.L.cut,r.C.len⟩,?_,fun _=>by omega,fun q=>?_,?_,fun k hk=>?_,fun c hc q=>(nob c hc q).elim,fun c c' hc _ _ q=>(nob c hc q).elim,fun c hc q=>(nob c hc q).elim,fun w hw=>by cases hw⟩,by omega,bb2,fun k=>?_,fun _=>rfl⟩
 · show (b.ts.set 0 t).length=4;rw [List.length_set];exact G1.L.ts
 · show (b.us.set 0 t).length=4;rw [List.length_set];exact G1.L.us
 · show (b.busy.set 0 false).length=4;rw [List.length_set];exact b4
 · show b.last=(g2.n:Int);rw [rn];exact G1.last
 · show b.key=g2.K g2.n;rw [r.K,rn];exact G1.key (by omega)
 · show b.cut=g2.cut;rw [r.cut];exact G1.cut
 · have e:g2.ct k=g1.ct k:=by unfold CG.ct;rw [r.cut]
   rw [e,rn];exact G1.cr k hk
 · have e:g2.ct k=g1.ct k:=by unfold CG.ct;rw [r.cut]
   rw [e,hg1,Qr5];exact h.z k
structure SB (s:ChS) (g:CG):Prop where
 C:QB g s.cs
 m:g.m=g.n
 L:s.Lens
 last:s.last=(g.n:Int)
 b:∀ c,c < 4->s.busy.getD c false=false
 ct:∀ k,0 <= k->k < 24->(g.n:Int) <= g.ct k
def ChS.begC (s:ChS) (k:Int):ChS:={ s with ts:=s.ts.set 0 (begTask 0 74 [s.last,k]),us:=s.us.set 0 (begTask 0 74 [s.last,k]),busy:=s.busy.set 0 true }
inductive CutT (g:CG) (cs cs':List Int) (k:Int) (lo:Nat) (a:Int):Prop
 | no (h:prevK g.K k (g.n+1)=lo) (a0:a=0) (e:cs'=cs)
 | yes (l1:1 <= lo) (h:lo < prevK g.K k (g.n+1)) (su:Nat) (a0:a=wP lo) (e:cs'=cs.set (289+3 * su) 0) (E:QZ g cs' k su) (lt:lo < su) (cn:cntV g.K k lo g.n=cntV g.K k su g.n+1) (o:∀ k' lo',k' ≠ k->QZ g cs k' lo'->QZ g cs' k' lo')
theorem SB.cut {s:ChS} {g:CG} (h:SB s g) {k:Int} (hk:0 <= k /\ k < 24) {lo:Nat} (hE:QZ g s.cs k lo) {now sure:List Sector} (d1:Qx now sure=true) (d2:Qr now=true) (d3:Qr sure=true) :
 ∃ n a x,Ends now sure (n+1) (s.begC k) /\ (∀ y,ansN (n+1) (s.begC k) y=[a,x]) /\ SB (runE (n+1) (s.begC k)) g /\ CutT g s.cs (runE (n+1) (s.begC k)).cs k lo a /\ (runE (n+1) (s.begC k)).last=s.last:=by
 have hl:=h.C.len;have n100:=h.C.n100
 have hP:PhI g s.cs ⟨0,2,k,0,(g.n:Int),0⟩ ⟨74,0,regs1 [s.last,k]⟩ [] :=
  .cut0 (VH (by simp)) rfl (by rw [h.last];exact Za (by simp)) (Za (by simp)) hk ⟨by show (0:Int) <= (g.n:Int);omega,h.ct k hk.1 hk.2⟩
 have r0:(regs1 [s.last,k]).getD 0 0=(g.n:Int):=by rw [h.last];exact Za (by simp)
 have r1:(regs1 [s.last,k]).getD 1 0=k:=Za (by simp)
 have hL:(s.begC k).Lens:=⟨by show (s.ts.set 0 _).length=4;rw [List.length_set];exact h.L.ts,by show (s.us.set 0 _).length=4;rw [List.length_set];exact h.L.us,by show (s.busy.set 0 _).length=4;rw [List.length_set];exact h.L.busy,h.L.does,h.L.cut,hl⟩
 have lt:=h.L.ts;have lu:=h.L.us;have lb:=h.L.busy
 have run:∀ {cs2 args:List Int},Tw ⟨0,2,k,0,(g.n:Int),0⟩ g s.cs ⟨74,0,regs1 [s.last,k]⟩ [] g cs2 args -> ∃ n,Ends now sure (n+1) (s.begC k) /\ (∀ y,ansN (n+1) (s.begC k) y=args) /\ SB (runE (n+1) (s.begC k)) g /\ (runE (n+1) (s.begC k)).cs=cs2 /\ (runE (n+1) (s.begC k)).last=s.last:=by
  intro cs2 args tw;obtain ⟨n,t,e1,e2,e3⟩:=tw.ends d1 d2 d3 (s.begC k) rfl hL (by show (s.ts.set 0 _).getD 0 tk0=_;rw [ZD _ _ (by omega),if_pos rfl];rfl) (by show (s.us.set 0 _).getD 0 tk0=_;rw [ZD _ _ (by omega),if_pos rfl];rfl) (by show (s.busy.set 0 true).getD 0 false=true;rw [ZD _ _ (by omega),if_pos rfl]) (hP.start h.C)
  refine ⟨n,e1,e2,?_,by rw [e3];rfl,by rw [e3];rfl⟩
  rw [e3];refine ⟨tw.cells h.C,h.m,⟨?_,?_,?_,h.L.does,h.L.cut,(tw.cells h.C).len⟩,h.last,fun c hc=>?_,h.ct⟩
  · show ((s.begC k).ts.set 0 t).length=4;rw [List.length_set];exact hL.ts
  · show ((s.begC k).us.set 0 t).length=4;rw [List.length_set];exact hL.us
  · show ((s.begC k).busy.set 0 false).length=4;rw [List.length_set];exact hL.busy
  · show ((s.busy.set 0 true).set 0 false).getD c false=false;rw [List.set_set,ZD _ _ (by omega)]
    split
    · rfl
    · exact h.b c hc
 obtain ⟨q1,q2⟩:=Qq8 (d:=⟨0,2,k,0,(g.n:Int),0⟩) h.C h.m hE rfl hk (VH (by simp)) hP r0 r1
 rcases Nat.eq_or_lt_of_le hE.lo0 with e | e
 · obtain ⟨n,a1,a2,a3,a4,a5⟩:=run (q1 e.symm);exact ⟨n,0,0,a1,a2,a3,.no e.symm rfl a4,a5⟩
 · obtain ⟨su,x,s1,s2,s3,s4,tw⟩:=q2 e;obtain ⟨n,a1,a2,a3,a4,a5⟩:=run tw
   have l1:1 <= lo:=by
    rcases Nat.eq_zero_or_pos lo with z | z
    · have:=hE.l0 z;have e:lo < prevK g.K k (g.n+1):=e;omega
    · exact z
   have htn:=Qo g.K k (g.n+1) (by omega)
   have s1:su <= prevK g.K k (g.n+1):=s1;have s4:prevK g.K k su=lo:=s4;have hlt:=Qo g.K k su s2;refine ⟨n,wP lo,x,a1,a2,a3,.yes l1 e su rfl a4 ?_ (by omega) (Qgi l1 (hE.lk.resolve_left (by omega)) s3 s2 s4 (by omega)) fun k' lo' hkk hE'=>?_,a5⟩
   · rw [a4];exact hE.cut hl l1 s2 (by omega) n100 s3 s4
   · rw [a4];exact hE'.other hl (by omega) n100 s3 hkk
open Go.Proofs
set_option maxRecDepth 100000
set_option maxHeartbeats 4000000
structure Qgk where
 now:List Sector
 sure:List Sector
 cs:List Int
 ts:List Task
 us:List Task
 busy:List Bool
 last:Int
 done:Bool
 key:Int
 does:List Pick
 cut:List Int
noncomputable def Qeu (now:List Sector) (sure:List Sector) (cs:List Int) (ts:List Task) (us:List Task) (busy:List Bool) (last:Int) (done:Bool) (key:Int) (does:List Pick) (cut:List Int):Env RC:=[(2,.bool false),(3,.ptr 0 [])]
def J0 (now:List Sector) (sure:List Sector) (cs:List Int) (ts:List Task) (us:List Task) (busy:List Bool) (last:Int) (done:Bool) (key:Int) (does:List Pick) (cut:List Int):List (Obj RC):=[.var 32 (.acons (.ptr 1 []) (.acons (.int .i64 last) (.acons (.bool done) (.acons (.int .i64 key) (.acons (.arr (C:=RC) .pick 4 does) (.acons (.arr (C:=RC) .int 24 cut) .anil)))))),.var 51 (.acons (.acons (.vs 2 (cs.length)) (.acons (.acons (.sl (C:=RC) .sector false now) (.acons (.sl (C:=RC) .sector false sure) .anil)) .anil)) (.acons (.arr (C:=RC) .task 4 ts) (.acons (.arr (C:=RC) .task 4 us) (.acons (.arr (C:=RC) .bool 4 busy) .anil)))),.vec .int true cs]
noncomputable def QlQ (now:List Sector) (sure:List Sector) (cs:List Int) (ts:List Task) (us:List Task) (busy:List Bool) (last:Int) (done:Bool) (key:Int) (does:List Pick) (cut:List Int):=rndV s18 up_1 (mvOf [2]) 4 10 80 3 [2,3] [2] [.slot 3 0,.path 0 [0],.path 1 [0,0]] (Qeu now sure cs ts us busy last done key does cut) (J0 now sure cs ts us busy last done key does cut)
theorem Qn4 (now:List Sector) (sure:List Sector) (cs:List Int) (ts:List Task) (us:List Task) (busy:List Bool) (last:Int) (done:Bool) (key:Int) (does:List Pick) (cut:List Int):QlQ now sure cs ts us busy last done key does cut=(let Z0:Nat:=List.length cs;let Z1:Task:=tkC ts (0:Int);let Z2:D RC:=.anil;let Z3:Option (Obj RC):=some (Obj.var 32 (.acons (D.ptr 1 []) (.acons (D.int .i64 last) (.acons (D.bool done) (.acons (D.int .i64 key) (.acons (D.arr RTy.pick (4:Nat) does) (.acons (D.arr RTy.int (24:Nat) cut) Z2)))))));let Z4:D RC:=D.acons (D.vs 2 Z0) (.acons (D.acons (D.sl RTy.sector false now) (.acons (D.sl RTy.sector false sure) Z2)) Z2);let Z5:Task:=gmT nCh false (gmX nCh cs Z1) Z1;bif List.getD busy (0:Nat) false then bif decide (Z0=Z0) && cdec ((0:Int) <= (0:Int) /\ (0:Int) <= (3:Int) /\ List.length ts=(4:Nat) /\ List.length us=(4:Nat) /\ Jh (0:Int) cs Z1 (tkC us (0:Int)) now sure) then some ((X.normal,[(2,D.bool false),(3,D.ptr 0 [])]),[Z3,some (Obj.var 51 (.acons Z4 (D.acons (D.arr RTy.task (4:Nat) (List.set ts (0:Nat) Z5)) (.acons (D.arr RTy.task (4:Nat) (List.set us (0:Nat) (gmT nCh true (gmX nCh cs Z1) (tkC us (0:Int))))) (.acons (D.arr RTy.bool (4:Nat) (bif GoM.is (goT nCh false Z5) then busy else List.set busy (0:Nat) false)) Z2))))),some (Obj.vec RTy.int true (gmCs nCh cs Z1))]) else none else some ((X.exit (2:Nat),[(2,D.bool false)]),[Z3,some (Obj.var 51 (.acons Z4 (D.acons (D.arr RTy.task (4:Nat) ts) (.acons (D.arr RTy.task (4:Nat) us) (.acons (D.arr RTy.bool (4:Nat) busy) Z2))))),some (Obj.vec RTy.int true cs)])):=by kernel_rfl
noncomputable def Yt (now:List Sector) (sure:List Sector) (cs:List Int) (ts:List Task) (us:List Task) (busy:List Bool) (last:Int) (done:Bool) (key:Int) (does:List Pick) (cut:List Int):RT RC:=.leaf (.exit 2) [(2,.bool false)] (J0 now sure (runE (Qt now sure ⟨cs,ts,us,busy,last,done,key,does,cut⟩) ⟨cs,ts,us,busy,last,done,key,does,cut⟩).cs (runE (Qt now sure ⟨cs,ts,us,busy,last,done,key,does,cut⟩) ⟨cs,ts,us,busy,last,done,key,does,cut⟩).ts (runE (Qt now sure ⟨cs,ts,us,busy,last,done,key,does,cut⟩) ⟨cs,ts,us,busy,last,done,key,does,cut⟩).us (runE (Qt now sure ⟨cs,ts,us,busy,last,done,key,does,cut⟩) ⟨cs,ts,us,busy,last,done,key,does,cut⟩).busy (runE (Qt now sure ⟨cs,ts,us,busy,last,done,key,does,cut⟩) ⟨cs,ts,us,busy,last,done,key,does,cut⟩).last (runE (Qt now sure ⟨cs,ts,us,busy,last,done,key,does,cut⟩) ⟨cs,ts,us,busy,last,done,key,does,cut⟩).done (runE (Qt now sure ⟨cs,ts,us,busy,last,done,key,does,cut⟩) ⟨cs,ts,us,busy,last,done,key,does,cut⟩).key (runE (Qt now sure ⟨cs,ts,us,busy,last,done,key,does,cut⟩) ⟨cs,ts,us,busy,last,done,key,does,cut⟩).does (runE (Qt now sure ⟨cs,ts,us,busy,last,done,key,does,cut⟩) ⟨cs,ts,us,busy,last,done,key,does,cut⟩).cut)
def VI (now:List Sector) (sure:List Sector) (cs:List Int) (ts:List Task) (us:List Task) (busy:List Bool) (last:Int) (done:Bool) (key:Int) (does:List Pick) (cut:List Int):Prop := ∃ n,Ends now sure n ⟨cs,ts,us,busy,last,done,key,does,cut⟩
noncomputable def Qai:QV RC Qgk where
 k:=3
 canon q:=Qeu q.now q.sure q.cs q.ts q.us q.busy q.last q.done q.key q.does q.cut
 objs q:=J0 q.now q.sure q.cs q.ts q.us q.busy q.last q.done q.key q.does q.cut
 fin q:=Yt q.now q.sure q.cs q.ts q.us q.busy q.last q.done q.key q.does q.cut
 Inv q:=VI q.now q.sure q.cs q.ts q.us q.busy q.last q.done q.key q.does q.cut
 μ q:=Qt q.now q.sure ⟨q.cs,q.ts,q.us,q.busy,q.last,q.done,q.key,q.does,q.cut⟩
theorem Qev (now:List Sector) (sure:List Sector) (cs:List Int) (ts:List Task) (us:List Task) (busy:List Bool) (last:Int) (done:Bool) (key:Int) (does:List Pick) (cut:List Int) (hI:VI now sure cs ts us busy last done key does cut):Leaf (QlQ now sure cs ts us busy last done key does cut) (LedR Qai ⟨now,sure,cs,ts,us,busy,last,done,key,does,cut⟩):=by
 (rw [Qn4];conv=>zeta)
 unfold VI at hI;obtain ⟨n,hE⟩:=hI;have hso:=Yf hE;cases n with
 | zero =>
  have hb:busy.getD 0 false=false:=hE;rw [hb,cond_false];refine QA (J0 now sure cs ts us busy last done key does cut) ?_ rfl;show (Yt now sure cs ts us busy last done key does cut).val=_;unfold Yt;rw [hso];rfl
 | succ n =>
  obtain ⟨h0,h1⟩:=hE;have hso1:=Yf h1;have hst:ChS.st0 ⟨cs,ts,us,busy,last,done,key,does,cut⟩=⟨gmCs nCh cs (tkC ts 0),ts.set 0 (gmT nCh false (gmX nCh cs (tkC ts 0)) (tkC ts 0)),us.set 0 (gmT nCh false (gmX nCh cs (tkC ts 0)) (tkC ts 0)),(bif (goT nCh false (gmT nCh false (gmX nCh cs (tkC ts 0)) (tkC ts 0))).is then busy else busy.set 0 false),last,done,key,does,cut⟩:=rfl;rw [hst] at h1 hso1;have hb:busy.getD 0 false=true:=h0.b;have hu:gmT nCh true (gmX nCh cs (tkC ts 0)) (tkC us 0)=(gmT nCh false (gmX nCh cs (tkC ts 0)) (tkC ts 0)):=h0.u;have hl:cs.length=(gmCs nCh cs (tkC ts 0)).length:=h0.len;rw [hb,cond_true];refine YG (by simp) ⟨by omega,by omega,h0.L.ts,h0.L.us,h0.ok⟩ ?_
  rw [hu,hl];refine QL ⟨now,sure,gmCs nCh cs (tkC ts 0),ts.set 0 (gmT nCh false (gmX nCh cs (tkC ts 0)) (tkC ts 0)),us.set 0 (gmT nCh false (gmX nCh cs (tkC ts 0)) (tkC ts 0)),(bif (goT nCh false (gmT nCh false (gmX nCh cs (tkC ts 0)) (tkC ts 0))).is then busy else busy.set 0 false),last,done,key,does,cut⟩ ⟨n,h1⟩ ?_ ?_ rfl rfl
  · show Qt now sure ⟨gmCs nCh cs (tkC ts 0),ts.set 0 (gmT nCh false (gmX nCh cs (tkC ts 0)) (tkC ts 0)),us.set 0 (gmT nCh false (gmX nCh cs (tkC ts 0)) (tkC ts 0)),(bif (goT nCh false (gmT nCh false (gmX nCh cs (tkC ts 0)) (tkC ts 0))).is then busy else busy.set 0 false),last,done,key,does,cut⟩ < Qt now sure ⟨cs,ts,us,busy,last,done,key,does,cut⟩;rw [hso,hso1];omega
  · show (Yt now sure (gmCs nCh cs (tkC ts 0)) (ts.set 0 (gmT nCh false (gmX nCh cs (tkC ts 0)) (tkC ts 0))) (us.set 0 (gmT nCh false (gmX nCh cs (tkC ts 0)) (tkC ts 0))) (bif (goT nCh false (gmT nCh false (gmX nCh cs (tkC ts 0)) (tkC ts 0))).is then busy else busy.set 0 false) last done key does cut).val=(Yt now sure cs ts us busy last done key does cut).val;unfold Yt;rw [hso,hso1];rfl
noncomputable def Qew (env:Env RC) (os:List (Obj RC)):Option (Bool × Qgk):=match env,os with
 | [(2,.bool false),(3,.ptr 0 [])],[.var 32 (.acons (.ptr 1 []) (.acons (.int .i64 last) (.acons (.bool done) (.acons (.int .i64 key) (.acons (.arr .pick 4 does) (.acons (.arr .int 24 cut) .anil)))))),.var 51 (.acons (.acons (.vs 2 x0) (.acons (.acons (.sl .sector false now) (.acons (.sl .sector false sure) .anil)) .anil)) (.acons (.arr .task 4 ts) (.acons (.arr .task 4 us) (.acons (.arr .bool 4 busy) .anil)))),.vec .int true cs]=>QO (true) (decide (x0=cs.length) && cdec (∃ n,Ends now sure n ⟨cs,ts,us,busy,last,done,key,does,cut⟩),⟨now,sure,cs,ts,us,busy,last,done,key,does,cut⟩)
 | _,_=>none
noncomputable def ur_1:=up_1.addLoop 4 10 (sumV s18 (mvOf [2]) [.slot 3 0,.path 0 [0],.path 1 [0,0]] [2,3] (resR Qai Qew))
theorem QlR:Qh Tryz.prog s18 ur_1:=by
 refine QlN.addRoundsV (mv:=(mvOf [2])) Qc (by kernel_rfl) Qai 80 [2,3] [2] [.slot 3 0,.path 0 [0],.path 1 [0,0]] [2,3] Qew (fun q hI=>?_) ?_
 · obtain ⟨now,sure,cs,ts,us,busy,last,done,key,does,cut⟩:=q;refine ⟨?_,?_,Qev now sure cs ts us busy last done key does cut hI⟩
   · simp_all [Qj,Qai,Qeu,J0,VI,D.refs,Obj.refs,rEnc]
   · simp_all [Qai,Yt,J0,VI,RT.refsOK,Qj,D.refs,Obj.refs,rEnc]
 · intro env os b q hd_ hb;unfold Qew at hd_
   split at hd_
   · obtain ⟨hs,hd_⟩:=Qg hd_;cases hd_;simp only [Bool.and_eq_true,decide_eq_true_eq] at hb;obtain ⟨rfl,hb⟩:=hb;exact ⟨QG.1 hb,rfl,rfl⟩
   · cases hd_
open Go.Proofs
def ChS.fl0 (s:ChS):Bool:=bif (goT nCh false s.t0).is then true else (goT nCh false s.t0).gf
def flN:Nat->ChS->Bool->Bool
 | 0,_,b=>b
 | n+1,s,_=>flN n s.st0 s.fl0
structure Qgl where
 ca:Bool
 an:List Int
 now:List Sector
 sure:List Sector
 cs:List Int
 ts:List Task
 us:List Task
 busy:List Bool
 last:Int
 done:Bool
 key:Int
 does:List Pick
 cut:List Int
noncomputable def Qex (ca:Bool) (an:List Int) (now:List Sector) (sure:List Sector) (cs:List Int) (ts:List Task) (us:List Task) (busy:List Bool) (last:Int) (done:Bool) (key:Int) (does:List Pick) (cut:List Int):Env RC:=[(2,.bool false),(3,.ptr 0 []),(12,.sl (C:=RC) .int ca an)]
def J1 (ca:Bool) (an:List Int) (now:List Sector) (sure:List Sector) (cs:List Int) (ts:List Task) (us:List Task) (busy:List Bool) (last:Int) (done:Bool) (key:Int) (does:List Pick) (cut:List Int):List (Obj RC):=[.var 32 (.acons (.ptr 1 []) (.acons (.int .i64 last) (.acons (.bool done) (.acons (.int .i64 key) (.acons (.arr (C:=RC) .pick 4 does) (.acons (.arr (C:=RC) .int 24 cut) .anil)))))),.var 51 (.acons (.acons (.vs 2 (cs.length)) (.acons (.acons (.sl (C:=RC) .sector false now) (.acons (.sl (C:=RC) .sector false sure) .anil)) .anil)) (.acons (.arr (C:=RC) .task 4 ts) (.acons (.arr (C:=RC) .task 4 us) (.acons (.arr (C:=RC) .bool 4 busy) .anil)))),.vec .int true cs]
noncomputable def QlS (ca:Bool) (an:List Int) (now:List Sector) (sure:List Sector) (cs:List Int) (ts:List Task) (us:List Task) (busy:List Bool) (last:Int) (done:Bool) (key:Int) (does:List Pick) (cut:List Int):=rndV s18 ur_1 (mvOf [2]) 4 25 80 3 [2,3,12] [2,12] [.slot 3 0,.path 0 [0],.path 1 [0,0]] (Qex ca an now sure cs ts us busy last done key does cut) (J1 ca an now sure cs ts us busy last done key does cut)
theorem Qn5 (ca:Bool) (an:List Int) (now:List Sector) (sure:List Sector) (cs:List Int) (ts:List Task) (us:List Task) (busy:List Bool) (last:Int) (done:Bool) (key:Int) (does:List Pick) (cut:List Int):QlS ca an now sure cs ts us busy last done key does cut=(let Z0:Nat:=List.length cs;let Z1:Task:=tkC ts (0:Int);let Z2:Task:=gmT nCh false (gmX nCh cs Z1) Z1;let Z3:GoM:=goT nCh false Z2;let Z4:D RC:=.anil;let Z5:Option (Obj RC):=some (Obj.var 32 (.acons (D.ptr 1 []) (.acons (D.int .i64 last) (.acons (D.bool done) (.acons (D.int .i64 key) (.acons (D.arr RTy.pick (4:Nat) does) (.acons (D.arr RTy.int (24:Nat) cut) Z4)))))));let Z6:D RC:=D.acons (D.vs 2 Z0) (.acons (D.acons (D.sl RTy.sector false now) (.acons (D.sl RTy.sector false sure) Z4)) Z4);bif List.getD busy (0:Nat) false then bif decide (Z0=Z0) && cdec ((0:Int) <= (0:Int) /\ (0:Int) <= (3:Int) /\ List.length ts=(4:Nat) /\ List.length us=(4:Nat) /\ Jh (0:Int) cs Z1 (tkC us (0:Int)) now sure) then some ((X.normal,[(2,D.bool false),(3,D.ptr 0 []),(12,D.sl RTy.int (bif GoM.is Z3 then true else GoM.gf Z3) (bif GoM.is Z3 then [] else GoM.got Z3))]),[Z5,some (Obj.var 51 (.acons Z6 (D.acons (D.arr RTy.task (4:Nat) (List.set ts (0:Nat) Z2)) (.acons (D.arr RTy.task (4:Nat) (List.set us (0:Nat) (gmT nCh true (gmX nCh cs Z1) (tkC us (0:Int))))) (.acons (D.arr RTy.bool (4:Nat) (bif GoM.is Z3 then busy else List.set busy (0:Nat) false)) Z4))))),some (Obj.vec RTy.int true (gmCs nCh cs Z1))]) else none else some ((X.exit (8:Nat),[(2,D.bool false),(12,D.sl RTy.int ca an)]),[Z5,some (Obj.var 51 (.acons Z6 (D.acons (D.arr RTy.task (4:Nat) ts) (.acons (D.arr RTy.task (4:Nat) us) (.acons (D.arr RTy.bool (4:Nat) busy) Z4))))),some (Obj.vec RTy.int true cs)])):=by kernel_rfl
noncomputable def Yu (ca:Bool) (an:List Int) (now:List Sector) (sure:List Sector) (cs:List Int) (ts:List Task) (us:List Task) (busy:List Bool) (last:Int) (done:Bool) (key:Int) (does:List Pick) (cut:List Int):RT RC:=.leaf (.exit 8) [(2,.bool false),(12,.sl (C:=RC) .int (flN (Qt now sure ⟨cs,ts,us,busy,last,done,key,does,cut⟩) ⟨cs,ts,us,busy,last,done,key,does,cut⟩ ca) (ansN (Qt now sure ⟨cs,ts,us,busy,last,done,key,does,cut⟩) ⟨cs,ts,us,busy,last,done,key,does,cut⟩ an))] (J1 ca an now sure (runE (Qt now sure ⟨cs,ts,us,busy,last,done,key,does,cut⟩) ⟨cs,ts,us,busy,last,done,key,does,cut⟩).cs (runE (Qt now sure ⟨cs,ts,us,busy,last,done,key,does,cut⟩) ⟨cs,ts,us,busy,last,done,key,does,cut⟩).ts (runE (Qt now sure ⟨cs,ts,us,busy,last,done,key,does,cut⟩) ⟨cs,ts,us,busy,last,done,key,does,cut⟩).us (runE (Qt now sure ⟨cs,ts,us,busy,last,done,key,does,cut⟩) ⟨cs,ts,us,busy,last,done,key,does,cut⟩).busy (runE (Qt now sure ⟨cs,ts,us,busy,last,done,key,does,cut⟩) ⟨cs,ts,us,busy,last,done,key,does,cut⟩).last (runE (Qt now sure ⟨cs,ts,us,busy,last,done,key,does,cut⟩) ⟨cs,ts,us,busy,last,done,key,does,cut⟩).done (runE (Qt now sure ⟨cs,ts,us,busy,last,done,key,does,cut⟩) ⟨cs,ts,us,busy,last,done,key,does,cut⟩).key (runE (Qt now sure ⟨cs,ts,us,busy,last,done,key,does,cut⟩) ⟨cs,ts,us,busy,last,done,key,does,cut⟩).does (runE (Qt now sure ⟨cs,ts,us,busy,last,done,key,does,cut⟩) ⟨cs,ts,us,busy,last,done,key,does,cut⟩).cut)
def VJ (ca:Bool) (an:List Int) (now:List Sector) (sure:List Sector) (cs:List Int) (ts:List Task) (us:List Task) (busy:List Bool) (last:Int) (done:Bool) (key:Int) (does:List Pick) (cut:List Int):Prop := ∃ n,Ends now sure n ⟨cs,ts,us,busy,last,done,key,does,cut⟩
noncomputable def Qaj:QV RC Qgl where
 k:=3
 canon q:=Qex q.ca q.an q.now q.sure q.cs q.ts q.us q.busy q.last q.done q.key q.does q.cut
 objs q:=J1 q.ca q.an q.now q.sure q.cs q.ts q.us q.busy q.last q.done q.key q.does q.cut
 fin q:=Yu q.ca q.an q.now q.sure q.cs q.ts q.us q.busy q.last q.done q.key q.does q.cut
 Inv q:=VJ q.ca q.an q.now q.sure q.cs q.ts q.us q.busy q.last q.done q.key q.does q.cut
 μ q:=Qt q.now q.sure ⟨q.cs,q.ts,q.us,q.busy,q.last,q.done,q.key,q.does,q.cut⟩
theorem Qey (ca:Bool) (an:List Int) (now:List Sector) (sure:List Sector) (cs:List Int) (ts:List Task) (us:List Task) (busy:List Bool) (last:Int) (done:Bool) (key:Int) (does:List Pick) (cut:List Int) (hI:VJ ca an now sure cs ts us busy last done key does cut):Leaf (QlS ca an now sure cs ts us busy last done key does cut) (LedR Qaj ⟨ca,an,now,sure,cs,ts,us,busy,last,done,key,does,cut⟩):=by
 (rw [Qn5];conv=>zeta)
 unfold VJ at hI;obtain ⟨n,hE⟩:=hI;have hso:=Yf hE;cases n with
 | zero =>
  have hb:busy.getD 0 false=false:=hE;rw [hb,cond_false];refine QA (J1 ca an now sure cs ts us busy last done key does cut) ?_ rfl;show (Yu ca an now sure cs ts us busy last done key does cut).val=_;unfold Yu;rw [hso];rfl
 | succ n =>
  obtain ⟨h0,h1⟩:=hE;have hso1:=Yf h1;have hst:ChS.st0 ⟨cs,ts,us,busy,last,done,key,does,cut⟩=⟨gmCs nCh cs (tkC ts 0),ts.set 0 (gmT nCh false (gmX nCh cs (tkC ts 0)) (tkC ts 0)),us.set 0 (gmT nCh false (gmX nCh cs (tkC ts 0)) (tkC ts 0)),(bif (goT nCh false (gmT nCh false (gmX nCh cs (tkC ts 0)) (tkC ts 0))).is then busy else busy.set 0 false),last,done,key,does,cut⟩:=rfl;rw [hst] at h1 hso1;have hb:busy.getD 0 false=true:=h0.b;have hu:gmT nCh true (gmX nCh cs (tkC ts 0)) (tkC us 0)=(gmT nCh false (gmX nCh cs (tkC ts 0)) (tkC ts 0)):=h0.u;have hl:cs.length=(gmCs nCh cs (tkC ts 0)).length:=h0.len;rw [hb,cond_true];refine YG (by simp) ⟨by omega,by omega,h0.L.ts,h0.L.us,h0.ok⟩ ?_
  rw [hu,hl];refine QL ⟨(bif (goT nCh false (gmT nCh false (gmX nCh cs (tkC ts 0)) (tkC ts 0))).is then true else (goT nCh false (gmT nCh false (gmX nCh cs (tkC ts 0)) (tkC ts 0))).gf),(bif (goT nCh false (gmT nCh false (gmX nCh cs (tkC ts 0)) (tkC ts 0))).is then [] else (goT nCh false (gmT nCh false (gmX nCh cs (tkC ts 0)) (tkC ts 0))).got),now,sure,gmCs nCh cs (tkC ts 0),ts.set 0 (gmT nCh false (gmX nCh cs (tkC ts 0)) (tkC ts 0)),us.set 0 (gmT nCh false (gmX nCh cs (tkC ts 0)) (tkC ts 0)),(bif (goT nCh false (gmT nCh false (gmX nCh cs (tkC ts 0)) (tkC ts 0))).is then busy else busy.set 0 false),last,done,key,does,cut⟩ ⟨n,h1⟩ ?_ ?_ rfl rfl
  · show Qt now sure ⟨gmCs nCh cs (tkC ts 0),ts.set 0 (gmT nCh false (gmX nCh cs (tkC ts 0)) (tkC ts 0)),us.set 0 (gmT nCh false (gmX nCh cs (tkC ts 0)) (tkC ts 0)),(bif (goT nCh false (gmT nCh false (gmX nCh cs (tkC ts 0)) (tkC ts 0))).is then busy else busy.set 0 false),last,done,key,does,cut⟩ < Qt now sure ⟨cs,ts,us,busy,last,done,key,does,cut⟩;rw [hso,hso1];omega
  · show (Yu (bif (goT nCh false (gmT nCh false (gmX nCh cs (tkC ts 0)) (tkC ts 0))).is then true else (goT nCh false (gmT nCh false (gmX nCh cs (tkC ts 0)) (tkC ts 0))).gf) (bif (goT nCh false (gmT nCh false (gmX nCh cs (tkC ts 0)) (tkC ts 0))).is then [] else (goT nCh false (gmT nCh false (gmX nCh cs (tkC ts 0)) (tkC ts 0))).got) now sure (gmCs nCh cs (tkC ts 0)) (ts.set 0 (gmT nCh false (gmX nCh cs (tkC ts 0)) (tkC ts 0))) (us.set 0 (gmT nCh false (gmX nCh cs (tkC ts 0)) (tkC ts 0))) (bif (goT nCh false (gmT nCh false (gmX nCh cs (tkC ts 0)) (tkC ts 0))).is then busy else busy.set 0 false) last done key does cut).val=(Yu ca an now sure cs ts us busy last done key does cut).val;unfold Yu;rw [hso,hso1];rfl
noncomputable def Qez (env:Env RC) (os:List (Obj RC)):Option (Bool × Qgl):=match env,os with
 | [(2,.bool false),(3,.ptr 0 []),(12,.sl .int ca an)],[.var 32 (.acons (.ptr 1 []) (.acons (.int .i64 last) (.acons (.bool done) (.acons (.int .i64 key) (.acons (.arr .pick 4 does) (.acons (.arr .int 24 cut) .anil)))))),.var 51 (.acons (.acons (.vs 2 x0) (.acons (.acons (.sl .sector false now) (.acons (.sl .sector false sure) .anil)) .anil)) (.acons (.arr .task 4 ts) (.acons (.arr .task 4 us) (.acons (.arr .bool 4 busy) .anil)))),.vec .int true cs]=>QO (true) (decide (x0=cs.length) && cdec (∃ n,Ends now sure n ⟨cs,ts,us,busy,last,done,key,does,cut⟩),⟨ca,an,now,sure,cs,ts,us,busy,last,done,key,does,cut⟩)
 | _,_=>none
noncomputable def us_1:=ur_1.addLoop 4 25 (sumV s18 (mvOf [2]) [.slot 3 0,.path 0 [0],.path 1 [0,0]] [2,3,12] (resR Qaj Qez))
theorem QlT:Qh Tryz.prog s18 us_1:=by
 refine QlR.addRoundsV (mv:=(mvOf [2])) Qc (by kernel_rfl) Qaj 80 [2,3,12] [2,12] [.slot 3 0,.path 0 [0],.path 1 [0,0]] [2,3,12] Qez (fun q hI=>?_) ?_
 · obtain ⟨ca,an,now,sure,cs,ts,us,busy,last,done,key,does,cut⟩:=q;refine ⟨?_,?_,Qey ca an now sure cs ts us busy last done key does cut hI⟩
   · simp_all [Qj,Qaj,Qex,J1,VJ,D.refs,Obj.refs,rEnc]
   · simp_all [Qaj,Yu,J1,VJ,RT.refsOK,Qj,D.refs,Obj.refs,rEnc]
 · intro env os b q hd_ hb;unfold Qez at hd_
   split at hd_
   · obtain ⟨hs,hd_⟩:=Qg hd_;cases hd_;simp only [Bool.and_eq_true,decide_eq_true_eq] at hb;obtain ⟨rfl,hb⟩:=hb;exact ⟨QG.1 hb,rfl,rfl⟩
   · cases hd_
noncomputable def Q4 (now sure:List Sector) (k:Int) (s:ChS):ChS:=runE (Qt now sure (s.begC k)) (s.begC k)
noncomputable def Qdx (now sure:List Sector) (k:Int) (s:ChS):List Int:=ansN (Qt now sure (s.begC k)) (s.begC k) []
noncomputable def QD (now sure:List Sector) (k:Int):Nat->ChS->ChS
 | 0,s=>s
 | n+1,s=>bif (Qdx now sure k s).getD 0 0 == 0 then Q4 now sure k s else QD now sure k n (Q4 now sure k s)
structure LN (now sure:List Sector) (g:CG) (s:ChS) (k was v:Int) (lo:Nat):Prop where
 d1:Qx now sure=true
 d2:Qr now=true
 d3:Qr sure=true
 B:SB s g
 k0:0 <= k
 k1:k < 24
 E:QZ g s.cs k lo
 v:v=if lo=0 then 0 else (cntV g.K k lo g.n:Int)
 w:was < lo \/ lo=0
structure LNs (now sure:List Sector) (g:CG) (s:ChS) (k was v:Int) (lo:Nat):Prop where
 is:∃ n,Ends now sure n (s.begC k)
 rd:((rdW s.cs k 160 (wh (s.cs.getD (21+k).toNat 0))).length:Int)=v
 rok:OkRd s.cs k
 go:(∃ x,Qdx now sure k s=[0,x] /\ v <= 1 /\ SB (Q4 now sure k s) g /\ (Q4 now sure k s).cs=s.cs) \/
  ∃ x su,Qdx now sure k s=[wP lo,x] /\ wP lo ≠ 0 /\ 2 <= v /\ plc (wP lo)=(lo:Int) /\ was < lo /\ LN now sure g (Q4 now sure k s) k lo (v - 1) su /\ ∀ k' lo',k' ≠ k->QZ g s.cs k' lo'->QZ g (Q4 now sure k s).cs k' lo'
theorem LN.step {now sure:List Sector} {g:CG} {s:ChS} {k was v:Int} {lo:Nat} (h:LN now sure g s k was v lo):LNs now sure g s k was v lo:=by
 obtain ⟨d1,d2,d3,hB,k0,k1,hE,hv,hw⟩:=h;have n100:=hB.C.n100;obtain ⟨n,a,x,e1,e2,e3,e4,e5⟩:=hB.cut ⟨k0,k1⟩ hE d1 d2 d3;have hs:=Yf e1;have tS:Q4 now sure k s=runE (n+1) (s.begC k):=by unfold Q4;rw [hs]
 have tA:Qdx now sure k s=[a,x]:=by unfold Qdx;rw [hs,e2]
 rw [<- tS] at e3 e4 e5;have hr:=Qn3 hB.C hB.m hE ⟨k0,k1⟩;refine ⟨⟨_,e1⟩,?_,⟨⟨_,_,hB.C.rok⟩,k0,k1⟩,?_⟩
 · rw [hr,hv];split <;> simp
 · cases e4 with
   | no ht a0 ec =>
    refine .inl ⟨x,by rw [tA,a0],?_,e3,ec⟩
    rcases Nat.eq_zero_or_pos lo with z | z
    · rw [hv,if_pos z];omega
    · have:=(Qgj hE z).1 ht;rw [hv,if_neg (by omega),this];omega
   | yes l1 ht su a0 ec E' lt cn o =>
    have h2:=(Qgj hE l1).2 ht;have htn:=Qo g.K k (g.n+1) (by omega)
    have hg:=Qat l1;refine .inr ⟨x,su,by rw [tA,a0],by omega,by rw [hv,if_neg (by omega)];omega,ZZ (by omega),by rcases hw with h | h <;> omega,⟨d1,d2,d3,e3,k0,k1,E',?_,.inl (by omega)⟩,o⟩
    rw [hv,if_neg (by omega),if_neg (by omega),cn]
    omega
theorem LN.all {now sure:List Sector} {g:CG} {k:Int}:∀ (n:Nat) {s:ChS} {was v:Int} {lo:Nat},LN now sure g s k was v lo->v.toNat < n->SB (QD now sure k n s) g /\ ∀ k' lo',k' ≠ k->QZ g s.cs k' lo'->QZ g (QD now sure k n s).cs k' lo'
 | 0,s,was,v,lo,h,hn=>by omega
 | n+1,s,was,v,lo,h,hn=>by
  obtain ⟨_,_,_,hgo⟩:=h.step;unfold QD;rcases hgo with ⟨x,e,_,hB,ec⟩ | ⟨x,su,e,hne,h2,_,_,hN,ho⟩
  · rw [e];exact ⟨hB,fun k' lo' _ hE=>by show QZ g (Q4 now sure k s).cs k' lo';rw [ec];exact hE⟩
  · have:((Qdx now sure k s).getD 0 0 == 0)=false:=by rw [e];exact beq_eq_false_iff_ne.2 hne
    rw [this];obtain ⟨q1,q2⟩:=LN.all n hN (by omega)
    exact ⟨q1,fun k' lo' hk hE=>q2 k' lo' hk (ho k' lo' hk hE)⟩
open Go.Proofs
structure Qgm where
 now:List Sector
 sure:List Sector
 cs:List Int
 ts:List Task
 us:List Task
 busy:List Bool
 last:Int
 done:Bool
 key:Int
 does:List Pick
 cut:List Int
 many:List Int
 k:Int
 was:Int
 v:Int
noncomputable def QeA (now:List Sector) (sure:List Sector) (cs:List Int) (ts:List Task) (us:List Task) (busy:List Bool) (last:Int) (done:Bool) (key:Int) (does:List Pick) (cut:List Int) (many:List Int) (k:Int) (was:Int) (v:Int):Env RC:=[(2,.bool false),(3,.ptr 0 []),(4,.ptr 3 []),(9,.int .i64 k),(10,.int .i64 was),(11,.int .i64 v)]
def J2 (now:List Sector) (sure:List Sector) (cs:List Int) (ts:List Task) (us:List Task) (busy:List Bool) (last:Int) (done:Bool) (key:Int) (does:List Pick) (cut:List Int) (many:List Int) (k:Int) (was:Int) (v:Int):List (Obj RC):=[.var 32 (.acons (.ptr 1 []) (.acons (.int .i64 last) (.acons (.bool done) (.acons (.int .i64 key) (.acons (.arr (C:=RC) .pick 4 does) (.acons (.arr (C:=RC) .int 24 cut) .anil)))))),.var 51 (.acons (.acons (.vs 2 (cs.length)) (.acons (.acons (.sl (C:=RC) .sector false now) (.acons (.sl (C:=RC) .sector false sure) .anil)) .anil)) (.acons (.arr (C:=RC) .task 4 ts) (.acons (.arr (C:=RC) .task 4 us) (.acons (.arr (C:=RC) .bool 4 busy) .anil)))),.vec .int true cs,.var 30 (.arr (C:=RC) .int 24 many)]
noncomputable def QlU (now:List Sector) (sure:List Sector) (cs:List Int) (ts:List Task) (us:List Task) (busy:List Bool) (last:Int) (done:Bool) (key:Int) (does:List Pick) (cut:List Int) (many:List Int) (k:Int) (was:Int) (v:Int):=rndV s18 us_1 (mvOf [2]) 4 21 100 4 [2,3,4,9,10,11] [2] [.slot 3 0,.path 0 [0],.path 1 [0,0],.slot 4 0] (QeA now sure cs ts us busy last done key does cut many k was v) (J2 now sure cs ts us busy last done key does cut many k was v)
theorem Qn6 (now:List Sector) (sure:List Sector) (cs:List Int) (ts:List Task) (us:List Task) (busy:List Bool) (last:Int) (done:Bool) (key:Int) (does:List Pick) (cut:List Int) (many:List Int) (k:Int) (was:Int) (v:Int):QlU now sure cs ts us busy last done key does cut many k was v=(let Z0:Nat:=List.length cs;let Z1:Bool:=decide (Z0=Z0);let Z2:Nat:=List.length (rdW cs k (160:Nat) (wh (List.getD cs ((21:Int)+k).toNat (0:Int))));let Z3:Int:=List.getD many k.toNat (0:Int);let Z4:Int:=if (1:Int) < Z3 then (1:Int) else Z3;let Z5:X × Env RC:=(X.ret,[(2,D.bool false)]);let Z6:D RC:=.anil;let Z7:D RC:=D.acons (D.acons (D.sl RTy.sector false now) (.acons (D.sl RTy.sector false sure) Z6)) Z6;let Z8:List (Option (Obj RC)):=[some (Obj.var 30 (D.arr RTy.int (24:Nat) many))];let Z9:Task:=begTask (0:Int) (74:Int) [last,k];let Z10:ChS:=ChS.mk cs (List.set ts (0:Nat) Z9) (List.set us (0:Nat) Z9) (List.set busy (0:Nat) true) last done key does cut;let Z11:List Int:=ansN (Qt now sure Z10) Z10 [];let Z12:Int:=(↑Z11.length:Int);let Z13:ChS:=runE (Qt now sure Z10) Z10;let Z14:List (Option (Obj RC)):=some (Obj.var 32 (.acons (D.ptr 1 []) (.acons (D.int .i64 (ChS.last Z13)) (.acons (D.bool (ChS.done Z13)) (.acons (D.int .i64 (ChS.key Z13)) (.acons (D.arr RTy.pick (4:Nat) (ChS.does Z13)) (.acons (D.arr RTy.int (24:Nat) (ChS.cut Z13)) Z6)))))))::some (Obj.var 51 (.acons (D.acons (D.vs 2 (ChS.cs Z13).length) Z7) (.acons (D.arr RTy.task (4:Nat) (ChS.ts Z13)) (.acons (D.arr RTy.task (4:Nat) (ChS.us Z13)) (.acons (D.arr RTy.bool (4:Nat) (ChS.busy Z13)) Z6)))))::some (Obj.vec RTy.int true (ChS.cs Z13))::Z8;let Z15:Bool:=decide ((0:Int) <= (0:Int) /\ (0:Int) < Z12);let Z16:Int:=List.getD Z11 (0:Nat) (0:Int);bif Z1 && cdec (OkRd cs k) then bif Qe Z2 then bif decide ((0:Int) <= k /\ k < (24:Int)) then bif (↑Z2:Int) != if v < Z4 then Z4 else v then some (Z5,some (Obj.var 32 (.acons (D.ptr 1 []) (.acons (D.int .i64 last) (.acons (D.bool done) (.acons (D.int .i64 key) (.acons (D.arr RTy.pick (4:Nat) does) (.acons (D.arr RTy.int (24:Nat) cut) Z6)))))))::some (Obj.var 51 (.acons (D.acons (D.vs 2 Z0) Z7) (.acons (D.arr RTy.task (4:Nat) ts) (.acons (D.arr RTy.task (4:Nat) us) (.acons (D.arr RTy.bool (4:Nat) busy) Z6)))))::some (Obj.vec RTy.int true cs)::Z8) else bif Z1 && cdec ((0:Int) <= (0:Int) /\ (0:Int) <= (3:Int) /\ (0:Int) <= (74:Int) /\ List.length [last,k] <= (96:Nat) /\ List.length ts=(4:Nat) /\ List.length us=(4:Nat) /\ List.length busy=(4:Nat) /\ List.getD busy (0:Nat) false=false) then bif Z1 && cdec (∃ (n:Nat),Ends now sure n Z10) then bif Qe Z11.length then bif Z12 != (2:Int) then some (Z5,Z14) else bif Z15 then bif !(Z16 == (0:Int)) == decide (v <= (1:Int)) then some (Z5,Z14) else bif Z15 then bif Z16 == (0:Int) then some ((X.exit (6:Nat),[(2,D.bool false)]),Z14) else bif Z15 then bif decide (plc Z16 <= was) then some (Z5,Z14) else bif Z15 then some ((X.normal,[(2,D.bool false),(3,D.ptr 0 []),(4,D.ptr 3 []),(9,D.int .i64 k),(10,D.int .i64 (plc Z16)),(11,D.int .i64 (IntKind.wrap .i64 (v - (1:Int))))]),Z14) else none else none else none else none else none else none else none else none else none else none):=by kernel_rfl
noncomputable def Yv (now:List Sector) (sure:List Sector) (cs:List Int) (ts:List Task) (us:List Task) (busy:List Bool) (last:Int) (done:Bool) (key:Int) (does:List Pick) (cut:List Int) (many:List Int) (k:Int) (was:Int) (v:Int):RT RC:=.leaf (.exit 6) [(2,.bool false)] (J2 now sure (QD now sure k (v.toNat+1) ⟨cs,ts,us,busy,last,done,key,does,cut⟩).cs (QD now sure k (v.toNat+1) ⟨cs,ts,us,busy,last,done,key,does,cut⟩).ts (QD now sure k (v.toNat+1) ⟨cs,ts,us,busy,last,done,key,does,cut⟩).us (QD now sure k (v.toNat+1) ⟨cs,ts,us,busy,last,done,key,does,cut⟩).busy (QD now sure k (v.toNat+1) ⟨cs,ts,us,busy,last,done,key,does,cut⟩).last (QD now sure k (v.toNat+1) ⟨cs,ts,us,busy,last,done,key,does,cut⟩).done (QD now sure k (v.toNat+1) ⟨cs,ts,us,busy,last,done,key,does,cut⟩).key (QD now sure k (v.toNat+1) ⟨cs,ts,us,busy,last,done,key,does,cut⟩).does (QD now sure k (v.toNat+1) ⟨cs,ts,us,busy,last,done,key,does,cut⟩).cut many k was v)
def VK (now:List Sector) (sure:List Sector) (cs:List Int) (ts:List Task) (us:List Task) (busy:List Bool) (last:Int) (done:Bool) (key:Int) (does:List Pick) (cut:List Int) (many:List Int) (k:Int) (was:Int) (v:Int):Prop := ∃ g lo,LN now sure g ⟨cs,ts,us,busy,last,done,key,does,cut⟩ k was v lo /\ (many.getD k.toNat 0 <= 0 \/ 1 <= v)
noncomputable def Qak:QV RC Qgm where
 k:=4
 canon q:=QeA q.now q.sure q.cs q.ts q.us q.busy q.last q.done q.key q.does q.cut q.many q.k q.was q.v
 objs q:=J2 q.now q.sure q.cs q.ts q.us q.busy q.last q.done q.key q.does q.cut q.many q.k q.was q.v
 fin q:=Yv q.now q.sure q.cs q.ts q.us q.busy q.last q.done q.key q.does q.cut q.many q.k q.was q.v
 Inv q:=VK q.now q.sure q.cs q.ts q.us q.busy q.last q.done q.key q.does q.cut q.many q.k q.was q.v
 μ q:=q.v.toNat
theorem QeB (now:List Sector) (sure:List Sector) (cs:List Int) (ts:List Task) (us:List Task) (busy:List Bool) (last:Int) (done:Bool) (key:Int) (does:List Pick) (cut:List Int) (many:List Int) (k:Int) (was:Int) (v:Int) (hI:VK now sure cs ts us busy last done key does cut many k was v):Leaf (QlU now sure cs ts us busy last done key does cut many k was v) (LedR Qak ⟨now,sure,cs,ts,us,busy,last,done,key,does,cut,many,k,was,v⟩):=by
 (rw [Qn6];conv=>zeta)
 unfold VK at hI;obtain ⟨g,lo,hN,hmn⟩:=hI;obtain ⟨his,hrd,hok,hgo⟩:=hN.step;have hL:=hN.B.L;have hlen:=Qln cs k 160 (wh (cs.getD (21+k).toNat 0));have hb0:busy.getD 0 false=false:=hN.B.b 0 (by omega)
 dsimp only at his hrd hok hL
 refine YG (by simp) hok ?_
 refine Yr (Qu (by omega)) ?_
 refine Yr (decide_eq_true ⟨hN.k0,hN.k1⟩) ?_
 refine Kg (by
  rw [bne_eq_false_iff_eq,hrd];have h0:0 <= v:=by omega
  generalize many.getD k.toNat 0=y at hmn
  split <;> (split at * <;> omega)) ?_
 refine YG (by simp) ⟨by omega,by omega,by omega,by simp,hL.ts,hL.us,hL.busy,hb0⟩ ?_
 refine YG (by simp) his ?_
 have eA:ansN (Qt now sure ⟨cs,ts.set 0 (begTask 0 74 [last,k]),us.set 0 (begTask 0 74 [last,k]),busy.set 0 true,last,done,key,does,cut⟩) ⟨cs,ts.set 0 (begTask 0 74 [last,k]),us.set 0 (begTask 0 74 [last,k]),busy.set 0 true,last,done,key,does,cut⟩ []=Qdx now sure k ⟨cs,ts,us,busy,last,done,key,does,cut⟩:=rfl;have eS:runE (Qt now sure ⟨cs,ts.set 0 (begTask 0 74 [last,k]),us.set 0 (begTask 0 74 [last,k]),busy.set 0 true,last,done,key,does,cut⟩) ⟨cs,ts.set 0 (begTask 0 74 [last,k]),us.set 0 (begTask 0 74 [last,k]),busy.set 0 true,last,done,key,does,cut⟩=Q4 now sure k ⟨cs,ts,us,busy,last,done,key,does,cut⟩:=rfl;rw [eA,eS];rcases hgo with ⟨x,e,hv1,hB,ec⟩ | ⟨x,su,e,hne,h2,hpl,hwl,hN2,ho⟩
 · have hc:QD now sure k (v.toNat+1) ⟨cs,ts,us,busy,last,done,key,does,cut⟩=Q4 now sure k ⟨cs,ts,us,busy,last,done,key,does,cut⟩:=by unfold QD;rw [e];rfl
   rw [e];refine Yr (Qu (by simp)) ?_
   refine Kg rfl ?_;refine Yr (decide_eq_true ⟨by omega,by simp⟩) ?_
   refine Kg (by rw [decide_eq_true hv1];rfl) ?_
   refine Yr (decide_eq_true ⟨by omega,by simp⟩) ?_
   refine Yr rfl ?_;refine QA (J2 now sure (Q4 now sure k ⟨cs,ts,us,busy,last,done,key,does,cut⟩).cs (Q4 now sure k ⟨cs,ts,us,busy,last,done,key,does,cut⟩).ts (Q4 now sure k ⟨cs,ts,us,busy,last,done,key,does,cut⟩).us (Q4 now sure k ⟨cs,ts,us,busy,last,done,key,does,cut⟩).busy (Q4 now sure k ⟨cs,ts,us,busy,last,done,key,does,cut⟩).last (Q4 now sure k ⟨cs,ts,us,busy,last,done,key,does,cut⟩).done (Q4 now sure k ⟨cs,ts,us,busy,last,done,key,does,cut⟩).key (Q4 now sure k ⟨cs,ts,us,busy,last,done,key,does,cut⟩).does (Q4 now sure k ⟨cs,ts,us,busy,last,done,key,does,cut⟩).cut many k was v) ?_ rfl;show (Yv now sure cs ts us busy last done key does cut many k was v).val=_;unfold Yv;rw [hc];rfl
 · have hc:QD now sure k (v.toNat+1) ⟨cs,ts,us,busy,last,done,key,does,cut⟩=QD now sure k ((v - 1).toNat+1) (Q4 now sure k ⟨cs,ts,us,busy,last,done,key,does,cut⟩):=by
    have e2:((Qdx now sure k ⟨cs,ts,us,busy,last,done,key,does,cut⟩).getD 0 0 == 0)=false:=by rw [e];exact beq_eq_false_iff_ne.2 hne
    conv=>lhs;unfold QD
    rw [e2,cond_false,show (v - 1).toNat+1=v.toNat by omega]
   rw [e];have hd:decide (v <= 1)=false:=decide_eq_false (by omega)
   have e0:(([wP lo,x]:List Int).getD 0 0 == 0)=false:=beq_eq_false_iff_ne.2 hne;have w1:IntKind.i64.wrap (v - 1)=v - 1:=Qq (by omega) (by omega)
   refine Yr (Qu (by simp)) ?_
   refine Kg rfl ?_;refine Yr (decide_eq_true ⟨by omega,by simp⟩) ?_
   refine Kg (by rw [hd,e0];rfl) ?_
   refine Yr (decide_eq_true ⟨by omega,by simp⟩) ?_
   refine Kg e0 ?_;refine Yr (decide_eq_true ⟨by omega,by simp⟩) ?_
   refine Kg (decide_eq_false (by show ¬ plc (wP lo) <= was;omega)) ?_
   refine Yr (decide_eq_true ⟨by omega,by simp⟩) ?_
   rw [w1];have hpl2:plc (([wP lo,x]:List Int).getD 0 0)=(lo:Int):=hpl;rw [hpl2];refine QL ⟨now,sure,(Q4 now sure k ⟨cs,ts,us,busy,last,done,key,does,cut⟩).cs,(Q4 now sure k ⟨cs,ts,us,busy,last,done,key,does,cut⟩).ts,(Q4 now sure k ⟨cs,ts,us,busy,last,done,key,does,cut⟩).us,(Q4 now sure k ⟨cs,ts,us,busy,last,done,key,does,cut⟩).busy,(Q4 now sure k ⟨cs,ts,us,busy,last,done,key,does,cut⟩).last,(Q4 now sure k ⟨cs,ts,us,busy,last,done,key,does,cut⟩).done,(Q4 now sure k ⟨cs,ts,us,busy,last,done,key,does,cut⟩).key,(Q4 now sure k ⟨cs,ts,us,busy,last,done,key,does,cut⟩).does,(Q4 now sure k ⟨cs,ts,us,busy,last,done,key,does,cut⟩).cut,many,k,lo,v - 1⟩ ⟨g,su,hN2,.inr (show (1:Int) <= v - 1 by omega)⟩ (by show (v - 1).toNat < v.toNat;omega) ?_ rfl rfl
   show (Yv now sure (Q4 now sure k ⟨cs,ts,us,busy,last,done,key,does,cut⟩).cs (Q4 now sure k ⟨cs,ts,us,busy,last,done,key,does,cut⟩).ts (Q4 now sure k ⟨cs,ts,us,busy,last,done,key,does,cut⟩).us (Q4 now sure k ⟨cs,ts,us,busy,last,done,key,does,cut⟩).busy (Q4 now sure k ⟨cs,ts,us,busy,last,done,key,does,cut⟩).last (Q4 now sure k ⟨cs,ts,us,busy,last,done,key,does,cut⟩).done (Q4 now sure k ⟨cs,ts,us,busy,last,done,key,does,cut⟩).key (Q4 now sure k ⟨cs,ts,us,busy,last,done,key,does,cut⟩).does (Q4 now sure k ⟨cs,ts,us,busy,last,done,key,does,cut⟩).cut many k lo (v - 1)).val=(Yv now sure cs ts us busy last done key does cut many k was v).val;unfold Yv;rw [hc];rfl
noncomputable def QeC (env:Env RC) (os:List (Obj RC)):Option (Bool × Qgm):=match env,os with
 | [(2,.bool false),(3,.ptr 0 []),(4,.ptr 3 []),(9,.int .i64 k),(10,.int .i64 was),(11,.int .i64 v)],[.var 32 (.acons (.ptr 1 []) (.acons (.int .i64 last) (.acons (.bool done) (.acons (.int .i64 key) (.acons (.arr .pick 4 does) (.acons (.arr .int 24 cut) .anil)))))),.var 51 (.acons (.acons (.vs 2 x0) (.acons (.acons (.sl .sector false now) (.acons (.sl .sector false sure) .anil)) .anil)) (.acons (.arr .task 4 ts) (.acons (.arr .task 4 us) (.acons (.arr .bool 4 busy) .anil)))),.vec .int true cs,.var 30 (.arr .int 24 many)]=>QO (true) (decide (x0=cs.length) && cdec (∃ g lo,LN now sure g ⟨cs,ts,us,busy,last,done,key,does,cut⟩ k was v lo /\ (many.getD k.toNat 0 <= 0 \/ 1 <= v)),⟨now,sure,cs,ts,us,busy,last,done,key,does,cut,many,k,was,v⟩)
 | _,_=>none
noncomputable def ut_1:=us_1.addLoop 4 21 (sumV s18 (mvOf [2]) [.slot 3 0,.path 0 [0],.path 1 [0,0],.slot 4 0] [2,3,4,9,10,11] (resR Qak QeC))
theorem QlV:Qh Tryz.prog s18 ut_1:=by
 refine QlT.addRoundsV (mv:=(mvOf [2])) Qc (by kernel_rfl) Qak 100 [2,3,4,9,10,11] [2] [.slot 3 0,.path 0 [0],.path 1 [0,0],.slot 4 0] [2,3,4,9,10,11] QeC (fun q hI=>?_) ?_
 · obtain ⟨now,sure,cs,ts,us,busy,last,done,key,does,cut,many,k,was,v⟩:=q;refine ⟨?_,?_,QeB now sure cs ts us busy last done key does cut many k was v hI⟩
   · simp_all [Qj,Qak,QeA,J2,VK,D.refs,Obj.refs,rEnc]
   · simp_all [Qak,Yv,J2,VK,RT.refsOK,Qj,D.refs,Obj.refs,rEnc]
 · intro env os b q hd_ hb;unfold QeC at hd_
   split at hd_
   · obtain ⟨hs,hd_⟩:=Qg hd_;cases hd_;simp only [Bool.and_eq_true,decide_eq_true_eq] at hb;obtain ⟨rfl,hb⟩:=hb;exact ⟨QG.1 hb,rfl,rfl⟩
   · cases hd_
noncomputable def ZE (now sure:List Sector) (many:List Int):Nat->Nat->ChS->ChS
 | 0,_,s=>s
 | n+1,k,s=>ZE now sure many n (k+1) (QD now sure k ((many.getD k 0).toNat+1) s)
structure LK (now sure:List Sector) (s:ChS) (many:List Int) (k:Nat) (g:CG):Prop where
 d1:Qx now sure=true
 d2:Qr now=true
 d3:Qr sure=true
 B:SB s g
 E:∀ j:Nat,k <= j->j < 24->QZ g s.cs j (lowK g.K j g.n)
 mn:∀ j:Nat,j < 24->many.getD j 0=(cntV g.K j 1 g.n:Int)
theorem LK.ln {now sure:List Sector} {s:ChS} {many:List Int} {k:Nat} {g:CG} (h:LK now sure s many k g) (hk:k < 24):LN now sure g s k 0 (many.getD k 0) (lowK g.K k g.n) /\ (many.getD k 0 <= 0 \/ 1 <= many.getD k 0):=by
 have hE:=h.E k (Nat.le_refl _) hk;have e:=Qdw g.K k (n:=g.n) rfl g.n (Nat.le_refl _);refine ⟨⟨h.d1,h.d2,h.d3,h.B,by omega,by omega,hE,?_,?_⟩,by omega⟩
 · rw [h.mn k hk,<- e]
   by_cases z:lowK g.K k g.n=0
   · rw [if_pos z,if_pos z];rw [if_pos z] at e
     have:cntV g.K k 1 g.n=0:=by
      rw [Ys g.n,Qdv z];rfl
     omega
   · rw [if_neg z,if_neg z]
 · rcases Nat.eq_zero_or_pos (lowK g.K k g.n) with z | z
   · exact .inr z
   · exact .inl (by omega)
theorem LK.next {now sure:List Sector} {s:ChS} {many:List Int} {k:Nat} {g:CG} (h:LK now sure s many k g) (hk:k < 24):LK now sure (QD now sure k ((many.getD k 0).toNat+1) s) many (k+1) g:=by
 obtain ⟨q1,q2⟩:=LN.all ((many.getD k 0).toNat+1) (h.ln hk).1 (by omega)
 exact ⟨h.d1,h.d2,h.d3,q1,fun j a b=>q2 j _ (by omega) (h.E j (by omega) b),h.mn⟩
theorem LK.all {now sure:List Sector} {many:List Int} {g:CG}:∀ (n k:Nat) {s:ChS},LK now sure s many k g->n+k <= 24->SB (ZE now sure many n k s) g
 | 0,k,s,h,_=>h.B
 | n+1,k,s,h,hn=>LK.all n (k+1) (h.next (by omega)) (by omega)
open Go.Proofs
structure Qgn where
 now:List Sector
 sure:List Sector
 cs:List Int
 ts:List Task
 us:List Task
 busy:List Bool
 last:Int
 done:Bool
 key:Int
 does:List Pick
 cut:List Int
 many:List Int
 k:Nat
noncomputable def QeD (now:List Sector) (sure:List Sector) (cs:List Int) (ts:List Task) (us:List Task) (busy:List Bool) (last:Int) (done:Bool) (key:Int) (does:List Pick) (cut:List Int) (many:List Int) (k:Nat):Env RC:=[(2,.bool false),(3,.ptr 0 []),(4,.ptr 3 []),(9,.int .i64 (k:Int))]
def J3 (now:List Sector) (sure:List Sector) (cs:List Int) (ts:List Task) (us:List Task) (busy:List Bool) (last:Int) (done:Bool) (key:Int) (does:List Pick) (cut:List Int) (many:List Int) (k:Nat):List (Obj RC):=[.var 32 (.acons (.ptr 1 []) (.acons (.int .i64 last) (.acons (.bool done) (.acons (.int .i64 key) (.acons (.arr (C:=RC) .pick 4 does) (.acons (.arr (C:=RC) .int 24 cut) .anil)))))),.var 51 (.acons (.acons (.vs 2 (cs.length)) (.acons (.acons (.sl (C:=RC) .sector false now) (.acons (.sl (C:=RC) .sector false sure) .anil)) .anil)) (.acons (.arr (C:=RC) .task 4 ts) (.acons (.arr (C:=RC) .task 4 us) (.acons (.arr (C:=RC) .bool 4 busy) .anil)))),.vec .int true cs,.var 30 (.arr (C:=RC) .int 24 many)]
noncomputable def QlW (now:List Sector) (sure:List Sector) (cs:List Int) (ts:List Task) (us:List Task) (busy:List Bool) (last:Int) (done:Bool) (key:Int) (does:List Pick) (cut:List Int) (many:List Int) (k:Nat):=rndV s18 ut_1 (mvOf [2]) 4 16 100 4 [2,3,4,9] [2] [.slot 3 0,.path 0 [0],.path 1 [0,0],.slot 4 0] (QeD now sure cs ts us busy last done key does cut many k) (J3 now sure cs ts us busy last done key does cut many k)
theorem Qn7 (now:List Sector) (sure:List Sector) (cs:List Int) (ts:List Task) (us:List Task) (busy:List Bool) (last:Int) (done:Bool) (key:Int) (does:List Pick) (cut:List Int) (many:List Int) (k:Nat):QlW now sure cs ts us busy last done key does cut many k=(let Z0:Int:=(↑k:Int);let Z1:Nat:=List.length cs;let Z2:ChS:=ChS.mk cs ts us busy last done key does cut;let Z3:Int:=List.getD many Z0.toNat (0:Int);let Z4:ChS:=QD now sure Z0 (Int.toNat Z3+(1:Nat)) Z2;let Z5:D RC:=.anil;let Z6:D RC:=D.acons (D.acons (D.sl RTy.sector false now) (.acons (D.sl RTy.sector false sure) Z5)) Z5;let Z7:List (Option (Obj RC)):=[some (Obj.var 30 (D.arr RTy.int (24:Nat) many))];bif decide (Z0 < (24:Int)) then bif decide ((0:Int) <= Z0 /\ Z0 < (24:Int)) then bif decide (Z1=Z1) && cdec (∃ (g:CG),∃ (lo:Nat),LN now sure g Z2 Z0 (0:Int) Z3 lo /\ (Z3 <= (0:Int) \/ (1:Int) <= Z3)) then some ((X.normal,[(2,D.bool false),(3,D.ptr 0 []),(4,D.ptr 3 []),(9,D.int .i64 (IntKind.wrap .i64 (Z0+(1:Int))))]),some (Obj.var 32 (.acons (D.ptr 1 []) (.acons (D.int .i64 (ChS.last Z4)) (.acons (D.bool (ChS.done Z4)) (.acons (D.int .i64 (ChS.key Z4)) (.acons (D.arr RTy.pick (4:Nat) (ChS.does Z4)) (.acons (D.arr RTy.int (24:Nat) (ChS.cut Z4)) Z5)))))))::some (Obj.var 51 (.acons (D.acons (D.vs 2 (ChS.cs Z4).length) Z6) (.acons (D.arr RTy.task (4:Nat) (ChS.ts Z4)) (.acons (D.arr RTy.task (4:Nat) (ChS.us Z4)) (.acons (D.arr RTy.bool (4:Nat) (ChS.busy Z4)) Z5)))))::some (Obj.vec RTy.int true (ChS.cs Z4))::Z7) else none else none else some ((X.exit (4:Nat),[(2,D.bool false)]),some (Obj.var 32 (.acons (D.ptr 1 []) (.acons (D.int .i64 last) (.acons (D.bool done) (.acons (D.int .i64 key) (.acons (D.arr RTy.pick (4:Nat) does) (.acons (D.arr RTy.int (24:Nat) cut) Z5)))))))::some (Obj.var 51 (.acons (D.acons (D.vs 2 Z1) Z6) (.acons (D.arr RTy.task (4:Nat) ts) (.acons (D.arr RTy.task (4:Nat) us) (.acons (D.arr RTy.bool (4:Nat) busy) Z5)))))::some (Obj.vec RTy.int true cs)::Z7)):=by kernel_rfl
noncomputable def Yw (now:List Sector) (sure:List Sector) (cs:List Int) (ts:List Task) (us:List Task) (busy:List Bool) (last:Int) (done:Bool) (key:Int) (does:List Pick) (cut:List Int) (many:List Int) (k:Nat):RT RC:=.leaf (.exit 4) [(2,.bool false)] (J3 now sure (ZE now sure many (24 - k) k ⟨cs,ts,us,busy,last,done,key,does,cut⟩).cs (ZE now sure many (24 - k) k ⟨cs,ts,us,busy,last,done,key,does,cut⟩).ts (ZE now sure many (24 - k) k ⟨cs,ts,us,busy,last,done,key,does,cut⟩).us (ZE now sure many (24 - k) k ⟨cs,ts,us,busy,last,done,key,does,cut⟩).busy (ZE now sure many (24 - k) k ⟨cs,ts,us,busy,last,done,key,does,cut⟩).last (ZE now sure many (24 - k) k ⟨cs,ts,us,busy,last,done,key,does,cut⟩).done (ZE now sure many (24 - k) k ⟨cs,ts,us,busy,last,done,key,does,cut⟩).key (ZE now sure many (24 - k) k ⟨cs,ts,us,busy,last,done,key,does,cut⟩).does (ZE now sure many (24 - k) k ⟨cs,ts,us,busy,last,done,key,does,cut⟩).cut many k)
def VL (now:List Sector) (sure:List Sector) (cs:List Int) (ts:List Task) (us:List Task) (busy:List Bool) (last:Int) (done:Bool) (key:Int) (does:List Pick) (cut:List Int) (many:List Int) (k:Nat):Prop:=k <= 24 /\ ∃ g,LK now sure ⟨cs,ts,us,busy,last,done,key,does,cut⟩ many k g
noncomputable def Qal:QV RC Qgn where
 k:=4
 canon q:=QeD q.now q.sure q.cs q.ts q.us q.busy q.last q.done q.key q.does q.cut q.many q.k
 objs q:=J3 q.now q.sure q.cs q.ts q.us q.busy q.last q.done q.key q.does q.cut q.many q.k
 fin q:=Yw q.now q.sure q.cs q.ts q.us q.busy q.last q.done q.key q.does q.cut q.many q.k
 Inv q:=VL q.now q.sure q.cs q.ts q.us q.busy q.last q.done q.key q.does q.cut q.many q.k
 μ q:=24 - q.k
theorem QeE (now:List Sector) (sure:List Sector) (cs:List Int) (ts:List Task) (us:List Task) (busy:List Bool) (last:Int) (done:Bool) (key:Int) (does:List Pick) (cut:List Int) (many:List Int) (k:Nat) (hI:VL now sure cs ts us busy last done key does cut many k):Leaf (QlW now sure cs ts us busy last done key does cut many k) (LedR Qal ⟨now,sure,cs,ts,us,busy,last,done,key,does,cut,many,k⟩):=by
 (rw [Qn7];conv=>zeta)
 unfold VL at hI;obtain ⟨h1,g,hK⟩:=hI
 by_cases hlt:k < 24
 · have c1:decide ((k:Int) < 24)=true:=decide_eq_true (by omega)
   have v1:IntKind.i64.wrap ((k:Int)+1)=((k+1:Nat):Int):=by rw [Qq (by omega) (by omega)];simp
   have n1:((k:Int)).toNat=k:=by simp
   have hm:ZE now sure many (24 - k) k ⟨cs,ts,us,busy,last,done,key,does,cut⟩=ZE now sure many (24 - (k+1)) (k+1) (QD now sure k ((many.getD k 0).toNat+1) ⟨cs,ts,us,busy,last,done,key,does,cut⟩):=by
    rw [show 24 - k=(24 - (k+1))+1 by omega];rfl
   refine Yr c1 ?_;rw [n1,v1];refine Yr (decide_eq_true ⟨by omega,by omega⟩) ?_
   refine YG (by simp) ⟨g,_,hK.ln hlt⟩ ?_
   refine QL ⟨now,sure,(QD now sure k ((many.getD k 0).toNat+1) ⟨cs,ts,us,busy,last,done,key,does,cut⟩).cs,(QD now sure k ((many.getD k 0).toNat+1) ⟨cs,ts,us,busy,last,done,key,does,cut⟩).ts,(QD now sure k ((many.getD k 0).toNat+1) ⟨cs,ts,us,busy,last,done,key,does,cut⟩).us,(QD now sure k ((many.getD k 0).toNat+1) ⟨cs,ts,us,busy,last,done,key,does,cut⟩).busy,(QD now sure k ((many.getD k 0).toNat+1) ⟨cs,ts,us,busy,last,done,key,does,cut⟩).last,(QD now sure k ((many.getD k 0).toNat+1) ⟨cs,ts,us,busy,last,done,key,does,cut⟩).done,(QD now sure k ((many.getD k 0).toNat+1) ⟨cs,ts,us,busy,last,done,key,does,cut⟩).key,(QD now sure k ((many.getD k 0).toNat+1) ⟨cs,ts,us,busy,last,done,key,does,cut⟩).does,(QD now sure k ((many.getD k 0).toNat+1) ⟨cs,ts,us,busy,last,done,key,does,cut⟩).cut,many,k+1⟩ ⟨hlt,g,hK.next hlt⟩ (by show 24 - (k+1) < 24 - k;omega) ?_ rfl rfl
   show (Yw now sure (QD now sure k ((many.getD k 0).toNat+1) ⟨cs,ts,us,busy,last,done,key,does,cut⟩).cs (QD now sure k ((many.getD k 0).toNat+1) ⟨cs,ts,us,busy,last,done,key,does,cut⟩).ts (QD now sure k ((many.getD k 0).toNat+1) ⟨cs,ts,us,busy,last,done,key,does,cut⟩).us (QD now sure k ((many.getD k 0).toNat+1) ⟨cs,ts,us,busy,last,done,key,does,cut⟩).busy (QD now sure k ((many.getD k 0).toNat+1) ⟨cs,ts,us,busy,last,done,key,does,cut⟩).last (QD now sure k ((many.getD k 0).toNat+1) ⟨cs,ts,us,busy,last,done,key,does,cut⟩).done (QD now sure k ((many.getD k 0).toNat+1) ⟨cs,ts,us,busy,last,done,key,does,cut⟩).key (QD now sure k ((many.getD k 0).toNat+1) ⟨cs,ts,us,busy,last,done,key,does,cut⟩).does (QD now sure k ((many.getD k 0).toNat+1) ⟨cs,ts,us,busy,last,done,key,does,cut⟩).cut many (k+1)).val=(Yw now sure cs ts us busy last done key does cut many k).val;unfold Yw;rw [hm];rfl
 · have c1:decide ((k:Int) < 24)=false:=decide_eq_false (by omega)
   refine Kg c1 ?_;refine QA (J3 now sure cs ts us busy last done key does cut many k) ?_ rfl;show (Yw now sure cs ts us busy last done key does cut many k).val=_;unfold Yw;rw [show 24 - k=0 by omega]
   rfl
noncomputable def QeF (env:Env RC) (os:List (Obj RC)):Option (Bool × Qgn):=match env,os with
 | [(2,.bool false),(3,.ptr 0 []),(4,.ptr 3 []),(9,.int .i64 x0)],[.var 32 (.acons (.ptr 1 []) (.acons (.int .i64 last) (.acons (.bool done) (.acons (.int .i64 key) (.acons (.arr .pick 4 does) (.acons (.arr .int 24 cut) .anil)))))),.var 51 (.acons (.acons (.vs 2 x1) (.acons (.acons (.sl .sector false now) (.acons (.sl .sector false sure) .anil)) .anil)) (.acons (.arr .task 4 ts) (.acons (.arr .task 4 us) (.acons (.arr .bool 4 busy) .anil)))),.vec .int true cs,.var 30 (.arr .int 24 many)]=>QO (true) (decide (x0=0) && decide (x1=cs.length) && cdec (∃ g,LK now sure ⟨cs,ts,us,busy,last,done,key,does,cut⟩ many 0 g),⟨now,sure,cs,ts,us,busy,last,done,key,does,cut,many,0⟩)
 | _,_=>none
noncomputable def uu_1:=ut_1.addLoop 4 16 (sumV s18 (mvOf [2]) [.slot 3 0,.path 0 [0],.path 1 [0,0],.slot 4 0] [2,3,4,9] (resR Qal QeF))
theorem QlX:Qh Tryz.prog s18 uu_1:=by
 refine QlV.addRoundsV (mv:=(mvOf [2])) Qc (by kernel_rfl) Qal 100 [2,3,4,9] [2] [.slot 3 0,.path 0 [0],.path 1 [0,0],.slot 4 0] [2,3,4,9] QeF (fun q hI=>?_) ?_
 · obtain ⟨now,sure,cs,ts,us,busy,last,done,key,does,cut,many,k⟩:=q;refine ⟨?_,?_,QeE now sure cs ts us busy last done key does cut many k hI⟩
   · simp_all [Qj,Qal,QeD,J3,VL,D.refs,Obj.refs,rEnc]
   · simp_all [Qal,Yw,J3,VL,RT.refsOK,Qj,D.refs,Obj.refs,rEnc]
 · intro env os b q hd_ hb;unfold QeF at hd_
   split at hd_
   · obtain ⟨hs,hd_⟩:=Qg hd_;cases hd_;simp only [Bool.and_eq_true,decide_eq_true_eq] at hb;obtain ⟨⟨rfl,rfl⟩,hb⟩:=hb;exact ⟨⟨Nat.zero_le _,QG.1 hb⟩,rfl,rfl⟩
   · cases hd_
noncomputable def putS (now sure:List Sector) (x:Item) (s:ChS):ChS:={ runE (Qt now sure (s.b1 0 0 x.key x.value 0 0)) (s.b1 0 0 x.key x.value 0 0) with done:=true }
def putM (x:Item) (many:List Int):List Int:=many.set (x.key % 24).toNat (many.getD (x.key % 24).toNat 0+1)
noncomputable def JK (now sure:List Sector):List Item->ChS->ChS
 | [],s=>s
 | x::l,s=>JK now sure l (putS now sure x s)
def QhR:List Item->List Int->List Int
 | [],m=>m
 | x::l,m=>QhR l (putM x m)
structure LQ (now sure:List Sector) (s:ChS) (many:List Int) (i:Nat) (g:CG):Prop where
 d1:Qx now sure=true
 d2:Qr now=true
 d3:Qr sure=true
 P:PA s g
 n:g.n=i
 ml:many.length=24
 mn:∀ j:Nat,j < 24->many.getD j 0=(cntV g.K j 1 g.n:Int)
theorem J4 {K K':Nat->Int} {k:Int} {lo:Nat}:∀ {n:Nat},(∀ p,1 <= p->p <= n->K' p=K p)->cntV K' k lo n=cntV K k lo n
 | 0,_=>rfl
 | n+1,h=>by
  unfold cntV;rw [h (n+1) (by omega) (Nat.le_refl _),J4 fun p a b=>h p a (by omega)]
theorem QlY (K:Nat->Int) (k:Int) (lo:Nat):∀ n,cntV K k lo n <= n
 | 0=>Nat.le_refl _
 | n+1=>by
  have:=QlY K k lo n;unfold cntV
  split <;> omega
theorem LQ.put {now sure:List Sector} {s:ChS} {many:List Int} {i:Nat} {g:CG} (h:LQ now sure s many i g) (hi:i < 100) (x:Item):Qed s /\ (∃ n,Ends now sure n (s.b1 0 0 x.key x.value 0 0)) /\ (∃ g',LQ now sure (putS now sure x s) (putM x many) (i+1) g') /\ 0 <= many.getD (x.key % 24).toNat 0 /\ many.getD (x.key % 24).toNat 0 <= i:=by
 have k0:=Int.emod_nonneg x.key (show (24:Int) ≠ 0 by decide)
 have k1:=Int.emod_lt_of_pos x.key (show (0:Int) < 24 by decide)
 have hn:=h.n;obtain ⟨n,g',e1,p,gn,gk,ok⟩:=h.P.put (by omega) x.key x.value h.d1 h.d2 h.d3
 have hs:=Yf e1;have hm:=h.mn (x.key % 24).toNat (by omega)
 have hc:=QlY g.K (((x.key % 24).toNat:Nat):Int) 1 g.n;refine ⟨ok,⟨_,e1⟩,⟨g',h.d1,h.d2,h.d3,by unfold putS;rw [hs];exact p,by omega,by unfold putM;rw [List.length_set];exact h.ml,fun j hj=>?_⟩,by omega,by omega⟩
 have hK:∀ q,1 <= q->q <= g.n->(g.new (x.key % 24) (x.value % 256)).K q=g.K q:=fun q a b=>if_neg (by omega)
 have hKn:(g.new (x.key % 24) (x.value % 256)).K (g.n+1)=x.key % 24:=if_pos rfl;unfold putM;rw [ZD _ _ (by rw [h.ml];omega),gk,gn]
 by_cases e:j=(x.key % 24).toNat
 · rw [if_pos e,Zp (by omega) (by rw [hKn];omega),J4 hK,<- e,h.mn j hj];omega
 · rw [if_neg e,JZ (by rw [hKn];omega),J4 hK];exact h.mn j hj
open Go.Proofs
structure Qgo where
 lc:Bool
 l:List Item
 i:Nat
 now:List Sector
 sure:List Sector
 cs:List Int
 ts:List Task
 us:List Task
 busy:List Bool
 last:Int
 done:Bool
 key:Int
 does:List Pick
 cut:List Int
 many:List Int
noncomputable def QeG (lc:Bool) (l:List Item) (i:Nat) (now:List Sector) (sure:List Sector) (cs:List Int) (ts:List Task) (us:List Task) (busy:List Bool) (last:Int) (done:Bool) (key:Int) (does:List Pick) (cut:List Int) (many:List Int):Env RC:=[(0,.sl (C:=RC) .item lc l),(2,.bool false),(3,.ptr 0 []),(4,.ptr 3 []),(5,.int .i64 (i:Int))]
def J5 (lc:Bool) (l:List Item) (i:Nat) (now:List Sector) (sure:List Sector) (cs:List Int) (ts:List Task) (us:List Task) (busy:List Bool) (last:Int) (done:Bool) (key:Int) (does:List Pick) (cut:List Int) (many:List Int):List (Obj RC):=[.var 32 (.acons (.ptr 1 []) (.acons (.int .i64 last) (.acons (.bool done) (.acons (.int .i64 key) (.acons (.arr (C:=RC) .pick 4 does) (.acons (.arr (C:=RC) .int 24 cut) .anil)))))),.var 51 (.acons (.acons (.vs 2 (cs.length)) (.acons (.acons (.sl (C:=RC) .sector false now) (.acons (.sl (C:=RC) .sector false sure) .anil)) .anil)) (.acons (.arr (C:=RC) .task 4 ts) (.acons (.arr (C:=RC) .task 4 us) (.acons (.arr (C:=RC) .bool 4 busy) .anil)))),.vec .int true cs,.var 30 (.arr (C:=RC) .int 24 many)]
noncomputable def QlZ (lc:Bool) (l:List Item) (i:Nat) (now:List Sector) (sure:List Sector) (cs:List Int) (ts:List Task) (us:List Task) (busy:List Bool) (last:Int) (done:Bool) (key:Int) (does:List Pick) (cut:List Int) (many:List Int):=rndV s18 uu_1 (mvOf [2]) 4 6 100 4 [0,2,3,4,5] [2] [.slot 3 0,.path 0 [0],.path 1 [0,0],.slot 4 0] (QeG lc l i now sure cs ts us busy last done key does cut many) (J5 lc l i now sure cs ts us busy last done key does cut many)
theorem Qn8 (lc:Bool) (l:List Item) (i:Nat) (now:List Sector) (sure:List Sector) (cs:List Int) (ts:List Task) (us:List Task) (busy:List Bool) (last:Int) (done:Bool) (key:Int) (does:List Pick) (cut:List Int) (many:List Int):QlZ lc l i now sure cs ts us busy last done key does cut many=(let Z0:Int:=(↑i:Int);let Z1:Bool:=decide ((0:Int) <= Z0 /\ Z0 < (↑l.length:Int));let Z2:Nat:=List.length cs;let Z3:ChS:=ChS.mk cs ts us busy last done key does cut;let Z4:Item:=List.getD l Z0.toNat (Item.mk (0:Int) (0:Int) (0:Int));let Z5:Int:=Item.key Z4 % (24:Int);let Z6:Bool:=decide ((0:Int) <= Z5 /\ Z5 < (24:Int));let Z7:ChS:=ChS.b1 (0:Int) (0:Int) (Item.key Z4) (Item.value Z4) (0:Int) (0:Int) Z3;let Z8:Nat:=List.length (ChS.cs Z7);let Z9:ChS:=ChS.mk (ChS.cs Z7) (ChS.ts Z7) (ChS.us Z7) (ChS.busy Z7) (ChS.last Z7) (ChS.done Z7) (ChS.key Z7) (ChS.does Z7) (ChS.cut Z7);let Z10:ChS:=runE (Qt now sure Z9) Z9;let Z11:D RC:=.anil;let Z12:D RC:=D.acons (D.acons (D.sl RTy.sector false now) (.acons (D.sl RTy.sector false sure) Z11)) Z11;bif Qe l.length then bif decide (Z0 < (↑l.length:Int)) then bif Z1 then bif Z1 then bif decide (Z2=Z2) && cdec (Qed Z3) then bif Z1 then bif Z6 then bif Z6 then bif decide (Z8=Z8) && cdec (∃ (n:Nat),Ends now sure n Z9) then some ((X.normal,[(0,D.sl RTy.item lc l),(2,D.bool false),(3,D.ptr 0 []),(4,D.ptr 3 []),(5,D.int .i64 (IntKind.wrap .i64 (Z0+(1:Int))))]),[some (Obj.var 32 (.acons (D.ptr 1 []) (.acons (D.int .i64 (ChS.last Z10)) (.acons (D.bool true) (.acons (D.int .i64 (ChS.key Z10)) (.acons (D.arr RTy.pick (4:Nat) (ChS.does Z10)) (.acons (D.arr RTy.int (24:Nat) (ChS.cut Z10)) Z11))))))),some (Obj.var 51 (.acons (D.acons (D.vs 2 (ChS.cs Z10).length) Z12) (.acons (D.arr RTy.task (4:Nat) (ChS.ts Z10)) (.acons (D.arr RTy.task (4:Nat) (ChS.us Z10)) (.acons (D.arr RTy.bool (4:Nat) (ChS.busy Z10)) Z11))))),some (Obj.vec RTy.int true (ChS.cs Z10)),some (Obj.var 30 (D.arr RTy.int (24:Nat) (List.set many Z5.toNat (IntKind.wrap .i64 (List.getD many Z5.toNat (0:Int)+(1:Int))))))]) else none else none else none else none else none else none else none else some ((X.exit (0:Nat),[(2,D.bool false)]),[some (Obj.var 32 (.acons (D.ptr 1 []) (.acons (D.int .i64 last) (.acons (D.bool done) (.acons (D.int .i64 key) (.acons (D.arr RTy.pick (4:Nat) does) (.acons (D.arr RTy.int (24:Nat) cut) Z11))))))),some (Obj.var 51 (.acons (D.acons (D.vs 2 Z2) Z12) (.acons (D.arr RTy.task (4:Nat) ts) (.acons (D.arr RTy.task (4:Nat) us) (.acons (D.arr RTy.bool (4:Nat) busy) Z11))))),some (Obj.vec RTy.int true cs),some (Obj.var 30 (D.arr RTy.int (24:Nat) many))]) else none):=by kernel_rfl
noncomputable def Yx (lc:Bool) (l:List Item) (i:Nat) (now:List Sector) (sure:List Sector) (cs:List Int) (ts:List Task) (us:List Task) (busy:List Bool) (last:Int) (done:Bool) (key:Int) (does:List Pick) (cut:List Int) (many:List Int):RT RC:=.leaf (.exit 0) [(2,.bool false)] (J5 lc l i now sure (JK now sure (l.drop i) ⟨cs,ts,us,busy,last,done,key,does,cut⟩).cs (JK now sure (l.drop i) ⟨cs,ts,us,busy,last,done,key,does,cut⟩).ts (JK now sure (l.drop i) ⟨cs,ts,us,busy,last,done,key,does,cut⟩).us (JK now sure (l.drop i) ⟨cs,ts,us,busy,last,done,key,does,cut⟩).busy (JK now sure (l.drop i) ⟨cs,ts,us,busy,last,done,key,does,cut⟩).last (JK now sure (l.drop i) ⟨cs,ts,us,busy,last,done,key,does,cut⟩).done (JK now sure (l.drop i) ⟨cs,ts,us,busy,last,done,key,does,cut⟩).key (JK now sure (l.drop i) ⟨cs,ts,us,busy,last,done,key,does,cut⟩).does (JK now sure (l.drop i) ⟨cs,ts,us,busy,last,done,key,does,cut⟩).cut (QhR (l.drop i) many))
def VM (lc:Bool) (l:List Item) (i:Nat) (now:List Sector) (sure:List Sector) (cs:List Int) (ts:List Task) (us:List Task) (busy:List Bool) (last:Int) (done:Bool) (key:Int) (does:List Pick) (cut:List Int) (many:List Int):Prop:=i <= l.length /\ l.length <= 60 /\ ∃ g,LQ now sure ⟨cs,ts,us,busy,last,done,key,does,cut⟩ many i g
noncomputable def Qam:QV RC Qgo where
 k:=4
 canon q:=QeG q.lc q.l q.i q.now q.sure q.cs q.ts q.us q.busy q.last q.done q.key q.does q.cut q.many
 objs q:=J5 q.lc q.l q.i q.now q.sure q.cs q.ts q.us q.busy q.last q.done q.key q.does q.cut q.many
 fin q:=Yx q.lc q.l q.i q.now q.sure q.cs q.ts q.us q.busy q.last q.done q.key q.does q.cut q.many
 Inv q:=VM q.lc q.l q.i q.now q.sure q.cs q.ts q.us q.busy q.last q.done q.key q.does q.cut q.many
 μ q:=q.l.length - q.i
theorem QeH (lc:Bool) (l:List Item) (i:Nat) (now:List Sector) (sure:List Sector) (cs:List Int) (ts:List Task) (us:List Task) (busy:List Bool) (last:Int) (done:Bool) (key:Int) (does:List Pick) (cut:List Int) (many:List Int) (hI:VM lc l i now sure cs ts us busy last done key does cut many):Leaf (QlZ lc l i now sure cs ts us busy last done key does cut many) (LedR Qam ⟨lc,l,i,now,sure,cs,ts,us,busy,last,done,key,does,cut,many⟩):=by
 (rw [Qn8];conv=>zeta)
 unfold VM at hI;obtain ⟨h1,h2,g,hQ⟩:=hI;have hlk:Qe l.length=true:=Qu (by omega)
 by_cases hlt:i < l.length
 · have dI:decide ((0:Int) <= (i:Int) /\ (i:Int) < (l.length:Int))=true:=decide_eq_true (by omega)
   have c1:decide ((i:Int) < (l.length:Int))=true:=decide_eq_true (by omega)
   have v1:IntKind.i64.wrap ((i:Int)+1)=((i+1:Nat):Int):=by rw [Qq (by omega) (by omega)];simp
   have hd:l.drop i=l.getD ((i:Int)).toNat ⟨0,0,0⟩::l.drop (i+1):=by
    rw [List.drop_eq_getElem_cons hlt];simp [hlt]
   rw [hlk,cond_true,c1,cond_true];simp only [dI,v1,cond_true];generalize l.getD ((i:Int)).toNat ⟨0,0,0⟩=x at hd ⊢;obtain ⟨hok,hen,⟨g',hQ'⟩,m0,m1⟩:=hQ.put (by omega) x
   have k0:=Int.emod_nonneg x.key (show (24:Int) ≠ 0 by decide)
   have k1:=Int.emod_lt_of_pos x.key (show (0:Int) < 24 by decide)
   have v2:IntKind.i64.wrap (many.getD (x.key % 24).toNat 0+1)=many.getD (x.key % 24).toNat 0+1:=Qq (by omega) (by omega)
   have q1:JK now sure (l.drop i) ⟨cs,ts,us,busy,last,done,key,does,cut⟩=JK now sure (l.drop (i+1)) (putS now sure x ⟨cs,ts,us,busy,last,done,key,does,cut⟩):=by rw [hd];rfl
   have q2:QhR (l.drop i) many=QhR (l.drop (i+1)) (putM x many):=by rw [hd];rfl
   refine YG (by simp) hok ?_
   refine Yr (decide_eq_true ⟨k0,k1⟩) ?_;refine Yr (decide_eq_true ⟨k0,k1⟩) ?_;refine YG (by simp) hen ?_
   rw [v2];refine QL ⟨lc,l,i+1,now,sure,(putS now sure x ⟨cs,ts,us,busy,last,done,key,does,cut⟩).cs,(putS now sure x ⟨cs,ts,us,busy,last,done,key,does,cut⟩).ts,(putS now sure x ⟨cs,ts,us,busy,last,done,key,does,cut⟩).us,(putS now sure x ⟨cs,ts,us,busy,last,done,key,does,cut⟩).busy,(putS now sure x ⟨cs,ts,us,busy,last,done,key,does,cut⟩).last,(putS now sure x ⟨cs,ts,us,busy,last,done,key,does,cut⟩).done,(putS now sure x ⟨cs,ts,us,busy,last,done,key,does,cut⟩).key,(putS now sure x ⟨cs,ts,us,busy,last,done,key,does,cut⟩).does,(putS now sure x ⟨cs,ts,us,busy,last,done,key,does,cut⟩).cut,putM x many⟩ ⟨hlt,h2,g',hQ'⟩ (by show l.length - (i+1) < l.length - i;omega) ?_ rfl rfl
   show (Yx lc l (i+1) now sure (putS now sure x ⟨cs,ts,us,busy,last,done,key,does,cut⟩).cs (putS now sure x ⟨cs,ts,us,busy,last,done,key,does,cut⟩).ts (putS now sure x ⟨cs,ts,us,busy,last,done,key,does,cut⟩).us (putS now sure x ⟨cs,ts,us,busy,last,done,key,does,cut⟩).busy (putS now sure x ⟨cs,ts,us,busy,last,done,key,does,cut⟩).last (putS now sure x ⟨cs,ts,us,busy,last,done,key,does,cut⟩).done (putS now sure x ⟨cs,ts,us,busy,last,done,key,does,cut⟩).key (putS now sure x ⟨cs,ts,us,busy,last,done,key,does,cut⟩).does (putS now sure x ⟨cs,ts,us,busy,last,done,key,does,cut⟩).cut (putM x many)).val=(Yx lc l i now sure cs ts us busy last done key does cut many).val;unfold Yx;rw [q1,q2];rfl
 · have hi:i=l.length:=by omega
   have c1:decide ((i:Int) < (l.length:Int))=false:=decide_eq_false (by omega)
   rw [hlk,cond_true,c1,cond_false];have hd:l.drop i=[]:=by rw [hi];simp
   refine QA (J5 lc l i now sure cs ts us busy last done key does cut many) ?_ rfl;show (Yx lc l i now sure cs ts us busy last done key does cut many).val=_;unfold Yx;rw [hd];rfl
noncomputable def QeI (env:Env RC) (os:List (Obj RC)):Option (Bool × Qgo):=match env,os with
 | [(0,.sl .item lc l),(2,.bool false),(3,.ptr 0 []),(4,.ptr 3 []),(5,.int .i64 x0)],[.var 32 (.acons (.ptr 1 []) (.acons (.int .i64 last) (.acons (.bool done) (.acons (.int .i64 key) (.acons (.arr .pick 4 does) (.acons (.arr .int 24 cut) .anil)))))),.var 51 (.acons (.acons (.vs 2 x1) (.acons (.acons (.sl .sector false now) (.acons (.sl .sector false sure) .anil)) .anil)) (.acons (.arr .task 4 ts) (.acons (.arr .task 4 us) (.acons (.arr .bool 4 busy) .anil)))),.vec .int true cs,.var 30 (.arr .int 24 many)]=>QO (true) (decide (x0=0) && decide (x1=cs.length) && decide (l.length <= 60) && cdec (∃ g,LQ now sure ⟨cs,ts,us,busy,last,done,key,does,cut⟩ many 0 g),⟨lc,l,0,now,sure,cs,ts,us,busy,last,done,key,does,cut,many⟩)
 | _,_=>none
noncomputable def uv_1:=uu_1.addLoop 4 6 (sumV s18 (mvOf [2]) [.slot 3 0,.path 0 [0],.path 1 [0,0],.slot 4 0] [0,2,3,4,5] (resR Qam QeI))
theorem Ql0:Qh Tryz.prog s18 uv_1:=by
 refine QlX.addRoundsV (mv:=(mvOf [2])) Qc (by kernel_rfl) Qam 100 [0,2,3,4,5] [2] [.slot 3 0,.path 0 [0],.path 1 [0,0],.slot 4 0] [0,2,3,4,5] QeI (fun q hI=>?_) ?_
 · obtain ⟨lc,l,i,now,sure,cs,ts,us,busy,last,done,key,does,cut,many⟩:=q;refine ⟨?_,?_,QeH lc l i now sure cs ts us busy last done key does cut many hI⟩
   · simp_all [Qj,Qam,QeG,J5,VM,D.refs,Obj.refs,rEnc]
   · simp_all [Qam,Yx,J5,VM,RT.refsOK,Qj,D.refs,Obj.refs,rEnc]
 · intro env os b q hd_ hb;unfold QeI at hd_
   split at hd_
   · obtain ⟨hs,hd_⟩:=Qg hd_;cases hd_;simp only [Bool.and_eq_true,decide_eq_true_eq] at hb;obtain ⟨⟨⟨rfl,rfl⟩,hl⟩,hO⟩:=hb;exact ⟨⟨Nat.zero_le _,hl,QG.1 hO⟩,rfl,rfl⟩
   · cases hd_
theorem LQ.all {now sure:List Sector}:∀ (l:List Item) {s:ChS} {many:List Int} {i:Nat} {g:CG},LQ now sure s many i g->i+l.length <= 60 -> ∃ g',LQ now sure (JK now sure l s) (QhR l many) (i+l.length) g'
 | [],s,many,i,g,h,_=>⟨g,h⟩
 | x::l,s,many,i,g,h,hn=>by
  simp only [List.length_cons] at hn;obtain ⟨_,_,⟨g',h'⟩,_⟩:=h.put (by omega) x
  obtain ⟨g2,h2⟩:=LQ.all l h' (by omega)
  rw [show i+(x::l).length=i+1+l.length by simp only [List.length_cons];omega]
  exact ⟨g2,h2⟩
theorem Qr6 (x:Int) (k:Nat) (hk:k < 24):(List.replicate 24 x).getD k 0=x:=by
 rw [List.getD_eq_getElem?_getD,List.getElem?_replicate,if_pos hk];rfl
theorem LQ.lk {now sure:List Sector} {s:ChS} {many:List Int} {i:Nat} {g:CG} (h:LQ now sure s many i g):∃ g',LK now sure s many 0 g':=by
 have hct:∀ k,0 <= k->k < 24->({ g with cut:=List.replicate 24 (g.n:Int) }:CG).ct k=(g.n:Int):=fun k a b=>Qr6 _ _ (by omega)
 have hup:∀ k,g.ct k <= ({ g with cut:=List.replicate 24 (g.n:Int) }:CG).ct k:=fun k=>by
  have hz:=h.P.z k
  have:0 <= ({ g with cut:=List.replicate 24 (g.n:Int) }:CG).ct k:=by
   show 0 <= (List.replicate 24 (g.n:Int)).getD k.toNat 0;rw [List.getD_eq_getElem?_getD,List.getElem?_replicate]
   split
   · show 0 <= (g.n:Int);omega
   · exact Int.le_refl _
  omega
 refine ⟨{ g with cut:=List.replicate 24 (g.n:Int) },h.d1,h.d2,h.d3,⟨h.P.G.C.cutUp hup,h.P.m,h.P.G.L,h.P.G.last,h.P.b,fun k a b=>by rw [hct k a b];exact Int.le_refl _⟩,fun j _ _=>(h.P.G.C.chain h.P.m h.P.z j).cutUp _,h.mn⟩
open Go.Proofs
theorem Qn9:((List.range 24).all fun k=>ZO.getD (21+k) 0 == 0)=true:=by kernel_rfl
theorem Qoa:((List.range 161).all fun p=>p == 0 || ZO.getD (289+3 * p) 0 == -1)=true:=by kernel_rfl
theorem QeJ:ZO.length=771:=by kernel_rfl
theorem Qob:cellsOK ZO=true:=by kernel_rfl
def chS0:ChS:=⟨ZO,List.replicate 4 (Zc RTy.task),List.replicate 4 (Zc RTy.task),List.replicate 4 false,0,false,0,List.replicate 4 (Zc RTy.pick),List.replicate 24 0⟩
def cg0:CG:=⟨fun _=>0,fun _=>0,0,0,List.replicate 24 0⟩
theorem VY (c:Nat):(List.replicate 4 false).getD c false=false:=by
 rw [List.getD_eq_getElem?_getD,List.getElem?_replicate]
 split <;> rfl
theorem Qr7:QB cg0 ZO where
 len:=QeJ
 fits:=Qob
 n100:=by show 0 <= 100;omega
 mn:=Nat.le_refl _
 nm:=by show 0 <= 0+1;omega
 kr p h1 h2:=by have h2:p <= 0:=h2;omega
 vr p h1 h2:=by have h2:p <= 0:=h2;omega
 hd k hk:=by
  have:=List.all_eq_true.1 Qn9 k (by simp;exact hk)
  rw [beq_iff_eq.1 this];have e:prevK cg0.K k (cg0.m+1)=0:=by show prevK _ _ (0+1)=0;simp [prevK]
  rw [e];rfl
 gen p h1 h2:=by have h2:p <= 0:=h2;omega
 val p h1 h2:=by have h2:p <= 0:=h2;omega
 nx p h1 h2:=by have h2:p <= 0:=h2;omega
 nxn h:=by have h:0=0+1:=h;omega
 free p h1 h2:=by
  have h1:0 < p:=h1;have:=List.all_eq_true.1 Qoa p (by simp;omega)
  rw [Bool.or_eq_true] at this;rcases this with h | h
  · have:=beq_iff_eq.1 h;omega
  · exact beq_iff_eq.1 h
theorem Ql1 (k:Nat):(List.replicate 24 (0:Int)).getD k 0=0:=by
 rw [List.getD_eq_getElem?_getD,List.getElem?_replicate]
 split <;> rfl
theorem onI0:OnI ⟨chS0,List.replicate 24 (Zc RTy.l_item),[]⟩ 0 QP QP where
 d1:=by kernel_rfl
 d2:=by kernel_rfl
 d3:=by kernel_rfl
 pl:=List.length_replicate
 on:=Nat.le_refl _
 g:=by
  refine ⟨cg0,⟨Qr7,⟨List.length_replicate,List.length_replicate,List.length_replicate,List.length_replicate,List.length_replicate,QeJ⟩,rfl,fun _=>rfl,fun h=>?_,rfl,fun k hk=>?_,fun c hc hb=>?_,fun c c' hc hc' hn hb=>?_,fun c hc hb=>?_,fun w hw=>?_⟩,fun k hk=>?_⟩
  · have h:1 <= 0:=h;omega
  · have e:cg0.ct k=0:=Ql1 _;rw [e];exact ⟨Int.le_refl _,.inl rfl⟩
  · have hb:(List.replicate 4 false).getD c false=true:=hb;rw [VY] at hb;cases hb
  · have hb:(List.replicate 4 false).getD c false=true:=hb;rw [VY] at hb;cases hb
  · have hb:(List.replicate 4 false).getD c false=true:=hb;rw [VY] at hb;cases hb
  · cases hw
  · show (List.replicate 24 (Zc RTy.l_item)).getD k []=[];rw [List.getD_eq_getElem?_getD,List.getElem?_replicate]
    split <;> rfl
theorem lq0:∃ g,LQ QP QP chS0 (List.replicate 24 0) 0 g:=by
 obtain ⟨g,hg,_⟩:=onI0.g;have hl:(0:Int)=(g.n:Int):=hg.last;have hn:g.n=0:=by omega
 have mn:=hg.C.mn;have hc:List.replicate 24 (0:Int)=g.cut:=hg.cut;refine ⟨g,onI0.d1,onI0.d2,onI0.d3,⟨hg,by omega,fun c _=>VY c,fun k=>?_,fun h=>by omega⟩,hn,List.length_replicate,fun j hj=>?_⟩
 · unfold CG.ct;rw [<- hc,Ql1];exact Int.le_refl _
 · rw [hn,Ql1];rfl
noncomputable def Qb8 (lc:Bool) (l:List Item):=evF s18 uv_1 300 4 [.sl (C:=RC) .item lc l]
theorem Ql2 (lc:Bool) (l:List Item):Qb8 lc l=(let Z0:Nat:=List.length l;let Z1:List Task:=List.replicate (4:Nat) (Zc RTy.task);let Z2:List Int:=List.replicate (24:Nat) (0:Int);let Z3:ChS:=ChS.mk nC Z1 Z1 (List.replicate (4:Nat) false) (0:Int) false (0:Int) (List.replicate (4:Nat) (Zc RTy.pick)) Z2;let Z4:ChS:=JK QP QP (List.drop (0:Nat) l) Z3;let Z5:Nat:=List.length (ChS.cs Z4);let Z6:ChS:=ChS.mk (ChS.cs Z4) (ChS.ts Z4) (ChS.us Z4) (ChS.busy Z4) (ChS.last Z4) (ChS.done Z4) (ChS.key Z4) (ChS.does Z4) (ChS.cut Z4);let Z7:List Int:=QhR (List.drop (0:Nat) l) Z2;let Z8:List Int:=ChS.cs (ZE QP QP Z7 (24:Nat) (0:Nat) Z6);bif Qe Z0 then bif decide ((60:Int) < (↑Z0:Int)) then some (D.bool true) else bif decide ((771:Nat)=List.length nC) && decide (Z0 <= (60:Nat)) && cdec (∃ (g:CG),LQ QP QP Z3 Z2 (0:Nat) g) then bif decide (Z5=Z5) && cdec (∃ (g:CG),LK QP QP Z6 Z7 (0:Nat) g) then bif Nat.beq Z8.length Z8.length then bif cdec (OkRt Z8) then some (D.bool true) else none else none else none else none else none):=by kernel_rfl
theorem Ql3 (lc:Bool) (l:List Item) (h:(Qe l.length)=true):Qb8 lc l=some (.bool true):=by
 (rw [Ql2];conv=>zeta)
 rw [h,cond_true]
 by_cases h6:l.length <= 60
 · have d1:decide ((60:Int) < (l.length:Int))=false:=decide_eq_false (by omega)
   rw [d1,cond_false,Qr3];obtain ⟨g0,hq0⟩:=lq0;obtain ⟨g1,hq1⟩:=LQ.all l hq0 (by omega)
   obtain ⟨g2,hk⟩:=hq1.lk;have hB:=LK.all 24 0 hk (by omega)
   refine Jf (by rw [Bool.and_eq_true,Bool.and_eq_true];exact ⟨⟨decide_eq_true QeJ.symm,decide_eq_true h6⟩,QK ⟨g0,hq0⟩⟩) ?_
   refine Jf (by rw [Bool.and_eq_true];exact ⟨decide_eq_true rfl,QK ⟨g2,hk⟩⟩) ?_
   refine Jf (QcE rfl) ?_;refine Jf (QK ⟨_,_,hB.C.rok⟩) ?_;rfl
 · have d1:decide ((60:Int) < (l.length:Int))=true:=decide_eq_true (by omega)
   rw [d1];rfl
open Go.ChangeShapes Go.WideShapes Go.RowKit
section
variable {C:Cdc}
def good (gA:(t:C.Ty)->C.A t->Prop):D C->Prop
 | .int k n=>k.min <= n /\ n <= k.max
 | .str s=>s.length <= maxLen
 | .acons d ds=>good gA d /\ good gA ds
 | .arr t n l=>l.length=n /\ ∀ x ∈ l,gA t x
 | .sl t _ l=>l.length <= maxLen /\ ∀ x ∈ l,gA t x
 | _=>True
def plainT (T:Tab C):Nat->TypeId->Bool
 | 0,_=>false
 | k+1,t=>match T.ty t with
  | .bool | .int _ | .str=>true
  | .struct _ fs=>fs.all (plainT T k)
  | .arr _ e _=>plainT T k e
  | .sl e _=>plainT T k e
  | _=>false
structure Dec (T:Tab C) (gA:(t:C.Ty)->C.A t->Prop):Prop where
 dec:∀ t d,fit T d (.inl (T.ety t))=true->d.refs=[]->good gA d->(∃ k u,T.ty u=T.ty (T.ety t) /\ plainT T k u=true) -> ∃ x,T.dec t d=some x /\ gA t x
variable {P:Program} {T:Tab C} {gA:(t:C.Ty)->C.A t->Prop}
def X0 (W:World):Cx:=⟨W,fun _=>none,fun _ _=>False⟩
theorem Qra (W:World) (b o:Nat):(X0 W).free b o:=⟨fun h=>h,fun ⟨_,_,h,_⟩=>by simp [X0] at h⟩
theorem Qr8 {X:Cx} (t:C.Ty) (sz:Nat):∀ (n:Nat) (cs:List Value),cs.length=n * sz->(∀ i,i < n -> ∃ x:C.A t,R T X false (T.enc t x) ((cs.drop (i * sz)).take sz) /\ gA t x) ->
 ∃ l:List (C.A t),R T X false (.arr t n l) cs /\ l.length=n /\ ∀ x ∈ l,gA t x
 | 0,cs,hl,_=>by
  obtain rfl:cs=[]:=by simpa using hl
  exact ⟨[],.arr0 _,rfl,by simp⟩
 | n+1,cs,hl,h=>by
  obtain ⟨x,hx,gx⟩:=h 0 (by omega)
  obtain ⟨l,hr,hn,gl⟩:=Qr8 t sz n (cs.drop sz) (by rw [List.length_drop,hl,Nat.succ_mul];omega) fun i hi=>by
   obtain ⟨y,hy,gy⟩:=h (i+1) (by omega)
   refine ⟨y,?_,gy⟩;rw [List.drop_drop];rw [show sz+i * sz=(i+1) * sz by rw [Nat.succ_mul];omega]
   exact hy
  refine ⟨x::l,?_,by simp [hn],by simpa using ⟨gx,gl⟩⟩
  have:=R.arrS hx hr
  simpa using this
theorem sl_R {W:World} (t:C.Ty) (b sz:Nat):∀ (n off:Nat),(∀ i,i < n -> ∃ (x:C.A t) (ci:List Value),R T (X0 W) false (T.enc t x) ci /\ ci.length=sz /\ (∀ j,j < sz->W.cell? ⟨b,off+i * sz+j,none⟩=ci[j]?) /\ gA t x) ->
 ∃ (l:List (C.A t)) (cs:List Value),R T (X0 W) false (.arr t n l) cs /\ l.length=n /\ (X0 W).at b off cs /\ ∀ x ∈ l,gA t x
 | 0,off,_=>⟨[],[],.arr0 _,rfl,fun j v h=>by simp at h,by simp⟩
 | n+1,off,h=>by
  obtain ⟨x,ci,hx,hlen,hc,gx⟩:=h 0 (by omega)
  obtain ⟨l,cs,hr,hn,hat,gl⟩:=sl_R t b sz n (off+sz) fun i hi=>by
   obtain ⟨y,c2,hy,h2,h3,gy⟩:=h (i+1) (by omega)
   refine ⟨y,c2,hy,h2,fun j hj=>?_,gy⟩;have:=h3 j hj
   rwa [show off+(i+1) * sz+j=off+sz+i * sz+j by rw [Nat.succ_mul];omega] at this
  refine ⟨x::l,ci++cs,.arrS hx hr,by simp [hn],fun j v hj=>⟨?_,Qra _ _ _⟩,by simpa using ⟨gx,gl⟩⟩
  by_cases hlt:j < ci.length
  · rw [List.getElem?_append_left hlt] at hj;have:=hc j (by omega)
    simp only [Nat.zero_mul,Nat.add_zero] at this;exact this.trans hj
  · rw [List.getElem?_append_right (by omega)] at hj
    have:=(hat _ _ hj).1
    rwa [show off+sz+(j - ci.length)=off+j by omega] at this
theorem st_R {X:Cx}:∀ (fs:List TypeId) (cs:List Value),(∀ i f,fs[i]? = some f -> ∃ d,R T X false d ((cs.drop (QM T (fs.take i))).take (T.size f)) /\ fit T d (.inl f)=true /\ good gA d /\ d.refs=[]) ->
 ∃ d,R T X false d (cs.take (QM T fs)) /\ fit T d (.inr fs)=true /\ good gA d /\ d.refs=[] /\ d.isRow=true /\ (∀ t a,T.ty t=.struct a fs->fit T d (.inl t)=true)
 | [],cs,_=>⟨.anil,by simpa [QM] using R.anil,rfl,trivial,rfl,rfl,fun t a ht=>by simp [fit,ht]⟩
 | f::fs,cs,h=>by
  obtain ⟨d,hd,fd,gd,rd⟩:=h 0 f rfl
  obtain ⟨ds,hr,fr,gr,rr,_,_⟩:=st_R fs (cs.drop (T.size f)) fun i g hg=>by
   obtain ⟨e,he,h2⟩:=h (i+1) g (by simpa using hg)
   refine ⟨e,?_,h2⟩
   simpa [QM,List.drop_drop] using he
  refine ⟨.acons d ds,?_,by simp [fit,fd,fr],⟨gd,gr⟩,by simp [D.refs,rd,rr],rfl,fun t a ht=>by simp [fit,ht,fd,fr]⟩
  have:=R.acons hd hr
  simpa [QM,List.take_add] using this
theorem Q2 {t:TypeId} {i:TypeInfo} (h:P.info? t=some i):P.cellsOf t=i.size:=by
 simp [Program.cellsOf,h]
theorem Qr9 (K:QU P T) (hd:Dec T gA) {H:Type} {enc:TypeId × Value->H} {W:World}:∀ (k:Nat) (t:TypeId),plainT T k t=true -> ∀ (fuel:Nat) (cs:List Value) (x:DataW H × List MemPlace),DataW.trod enc P W 0 (fun _=>true) true fuel t cs=some x ->
 ∃ d,R T (X0 W) false d cs /\ fit T d (.inl t)=true /\ good gA d /\ d.refs=[]:=by
 intro k
 induction k with
 | zero=>intro t h;simp [plainT] at h
 | succ k ih =>
  intro t hp fuel cs x h;unfold plainT at hp
  split at hp
  · rename_i ht;obtain ⟨b,rfl,_⟩:=DataW.trod_bool (K.uBool t ht) h;exact ⟨.bool b,.bool b,by simp [fit,ht],trivial,rfl⟩
  · rename_i kd ht;obtain ⟨n,rfl,_,hw⟩:=DataW.trod_int (K.uInt t kd ht) h;have hw':kd.min <= n /\ n <= kd.max:=by simpa [Lit.wf] using hw
    exact ⟨.int kd n,.int hw',by simp [fit,ht],hw',rfl⟩
  · rename_i ht;obtain ⟨s,rfl,_,hs⟩:=DataW.trod_string (K.uStr t ht) h;exact ⟨.str s.data.toList,.str s.data.toList,by simp [fit,ht],by simpa [good] using hs,rfl⟩
  · rename_i isA fs ht;cases isA with
    | true =>
     obtain ⟨el,hu,hfs,hpos,inf,hi1,hi2⟩:=K.uRow t fs ht;obtain ⟨xs,m,_,_,hlen,hxs,hel⟩:=DataW.trod_array hu h
     have hget:∀ i f,fs[i]? = some f->f=el /\ i < fs.length:=fun i f hf=>by
      have:=(List.getElem?_eq_some_iff.1 hf).1;rw [hfs,List.getElem?_replicate] at hf;simp at hf;exact ⟨hf.2.symm,this⟩
     have hsum:∀ i,i <= fs.length->QM T (fs.take i)=i * T.size el:=by
      intro i hi;rw [hfs,List.take_replicate,Nat.min_eq_left hi];clear hi
      induction i with
      | zero=>simp [QM]
      | succ i ih=>simp only [List.replicate_succ,QM,ih];rw [Nat.succ_mul];omega
     obtain ⟨d,hr,_,gd,rd,_,hfit⟩:=st_R (T:=T) (X:=X0 W) (gA:=gA) fs cs fun i f hf=>by
      obtain ⟨rfl,hi⟩:=hget i f hf;have:=hel i hi;rw [Q2 hi1,hi2] at this;have hx:xs[i]? = some xs[i]:=by simp [hxs,hi]
      rw [hx] at this;obtain ⟨d,h1,h2,h3,h4⟩:=ih f (List.all_eq_true.1 hp _ (List.mem_of_getElem? hf)) m _ _ this;refine ⟨d,?_,h2,h3,h4⟩;rw [hsum i (by omega)];exact h1
     obtain ⟨inf,hi1,hi2⟩:=K.info t d (hfit t _ ht);rw [Q2 hi1,hi2,K.base.szStruct t _ fs ht] at hlen;rw [<- hlen,List.take_length] at hr;exact ⟨d,hr,hfit t _ ht,gd,rd⟩
    | false =>
     obtain ⟨fields,hu,hfs,hoff,_⟩:=K.uStruct t fs ht;obtain ⟨xs,n,_,_,hlen,hxs,hel⟩:=DataW.trod_struct hu h
     obtain ⟨d,hr,_,gd,rd,_,hfit⟩:=st_R (T:=T) (X:=X0 W) (gA:=gA) fs cs fun i f hf=>by
      rw [<- hfs,List.getElem?_map] at hf;cases hfi:fields.toList[i]? with
      | none=>simp [hfi] at hf
      | some fld =>
       simp only [hfi,Option.map_some,Option.some.injEq] at hf;have hfa:fields[i]? = some fld:=by rw [<- Array.getElem?_toList];exact hfi
       have:=hel i fld hfa
       have hx:∃ y,xs[i]? = some y:=by
        have:i < fields.size:=(Array.getElem?_eq_some_iff.1 hfa).1;exact ⟨xs[i],by simp [hxs,this]⟩
       obtain ⟨y,hy⟩:=hx;rw [hy] at this;subst hf;have hmem:fld.type ∈ fs:=by rw [<- hfs];exact List.mem_map.2 ⟨fld,by exact List.mem_of_getElem? hfi,rfl⟩
       obtain ⟨d,h1,h2,h3,h4⟩:=ih fld.type (List.all_eq_true.1 hp _ hmem) n _ _ this;obtain ⟨inf,hi1,hi2,_⟩:=K.uField t fs fld.type ht hmem;refine ⟨d,?_,h2,h3,h4⟩;rw [hoff i fld hfa,Q2 hi1,hi2] at h1;exact h1
     obtain ⟨inf,hi1,hi2⟩:=K.info t d (hfit t _ ht);rw [Q2 hi1,hi2,K.base.szStruct t _ fs ht] at hlen;rw [<- hlen,List.take_length] at hr;exact ⟨d,hr,hfit t _ ht,gd,rd⟩
  · rename_i n e ct ht;obtain ⟨hu,_⟩:=K.uArr t n e ct ht;obtain ⟨xs,m,_,_,hlen,hxs,hel⟩:=DataW.trod_array hu h;obtain ⟨inf,z,hi1,hi2,_⟩:=K.uElem t e ct (.inl ⟨n,ht⟩);obtain ⟨it,hj1,hj2⟩:=K.info t (.arr ct n []) (by simp [fit,ht])
    obtain ⟨hs1,hs2,hs3⟩:=K.base.szArr t n e ct ht;rw [Q2 hj1,hj2,hs1] at hlen
    obtain ⟨l,hr,hn,gl⟩:=Qr8 (T:=T) (X:=X0 W) (gA:=gA) ct (T.size e) n cs hlen fun i hi=>by
     have:=hel i hi;rw [Q2 hi1,hi2] at this;have hx:xs[i]? = some xs[i]:=by simp [hxs,hi]
     rw [hx] at this;obtain ⟨d,h1,h2,h3,h4⟩:=ih e hp m _ _ this;obtain ⟨x,h5,h6⟩:=hd.dec ct d (by rw [<- Zx hs2];exact h2) h4 h3 ⟨k,e,hs2,hp⟩
     exact ⟨x,K.base.decR _ _ _ _ _ h5 h1,h6⟩
    exact ⟨.arr ct n l,hr,by simp [fit,ht],⟨hn,gl⟩,rfl⟩
  · rename_i e ct ht;have hu:=K.uSl t e ct ht;obtain ⟨inf,z,hi1,hi2,_,_,hpos,_⟩:=K.uElem t e ct (.inr ht);obtain ⟨hs1,hs2,hs3⟩:=K.base.szSl t e ct ht;rcases DataW.trod_slice hu h with ⟨rfl,_⟩ | ⟨a,len,cap,elems,rest,m,_,rfl,_,_,hlc,hcm,hel,he,hrest,_⟩
    · exact ⟨.sl ct false [],.sl0 _ _ _,by simp [fit,ht],by simp [good],rfl⟩
    · by_cases hc0:cap=0
      · subst hc0;obtain rfl:len=0:=by omega
        exact ⟨.sl ct false [],.sl0 _ _ _,by simp [fit,ht],by simp [good],rfl⟩
      · have hspot:a.spot=none:=by
         have key:∀ i y,i=0->(W.cells? 0 (a.add (i * P.cellsOf e)) (P.cellsOf e)).bind (DataW.trod enc P W 0 (fun _=>true) true m e)=some y->a.spot=none:=by
          intro i y hi0 hy;subst hi0;rw [Q2 hi1,hi2] at hy;cases hcs:W.cells? 0 (a.add (0 * T.size e)) (T.size e) with
          | none=>rw [hcs] at hy;cases hy
          | some ci =>
           obtain ⟨_,h2,h3⟩:=World.cells?_some hcs;have h4:=h3 0 hpos;have h5:ci[0]? = some ci[0]:=by simp
           rw [h5] at h4;have:=World.cell?_spot h4
           simpa [Addr.add] using this
         by_cases hl0:0 < len
         · have:=he 0 hl0;have hx:elems[0]? = some elems[0]:=by simp
           exact key 0 _ rfl (this.trans hx)
         · have hr2:=hrest rfl;have:=hr2.2 0 (by omega)
           have h0:0 < rest.length:=by omega
           have hx:rest[0]? = some rest[0]:=by simp
           exact key _ _ (by omega) (this.trans hx)
        obtain ⟨b,off,sp⟩:=a;simp only at hspot;subst hspot
        obtain ⟨l,cs,hr,hn,hat,gl⟩:=sl_R (T:=T) (W:=W) (gA:=gA) ct b (T.size e) len off fun i hi=>by
         have:=he i hi;have hx:elems[i]? = some elems[i]:=by simp [hel,hi]
         rw [hx,Q2 hi1,hi2] at this;cases hcs:W.cells? 0 ((⟨b,off,none⟩:Addr).add (i * T.size e)) (T.size e) with
         | none=>simp [hcs] at this
         | some ci =>
          simp only [hcs,Option.bind_some] at this;obtain ⟨_,h2,h3⟩:=World.cells?_some hcs;obtain ⟨d,k1,k2,k3,k4⟩:=ih e hp m _ _ this;obtain ⟨x,k5,k6⟩:=hd.dec ct d (by rw [<- Zx hs2];exact k2) k4 k3 ⟨k,e,hs2,hp⟩
          refine ⟨x,ci,K.base.decR _ _ _ _ _ k5 k1,h2,fun j hj=>?_,k6⟩;have:=h3 j hj
          rwa [add_plain,add_plain] at this
        subst hn;exact ⟨.sl ct false l,.sl hat hr hlc (by simp),by simp [fit,ht],⟨by omega,gl⟩,rfl⟩
  · cases hp
theorem QhS (K:QU P T) {W:World} {r:Reach} {base:Nat} {t:TypeId} {v:Value} {d:D C} (hv:Value.okWide P W r base t v) (hp:∃ k,plainT T k t=true) (hf:fit T d (.inl t)=true) (hr:R T (X0 W) false d v.cells.toList) (hrf:d.refs=[]):RV T (X0 W) d v:=by
 obtain ⟨k,hp⟩:=hp;cases k with
 | zero=>simp [plainT] at hp
 | succ k =>
  unfold plainT at hp
  split at hp
  · rename_i ht;obtain ⟨b,rfl⟩:=okWide_bool (K.uBool t ht) hv;refine .inr ⟨?_,by simpa [Value.cells] using hr⟩
    cases d <;> simp [fit,ht] at hf <;> rfl
  · rename_i kd ht;obtain ⟨b,rfl⟩:=okWide_int (K.uInt t kd ht) hv;refine .inr ⟨?_,by simpa [Value.cells] using hr⟩
    cases d <;> simp [fit,ht] at hf <;> rfl
  · rename_i ht;obtain ⟨b,rfl⟩:=okWide_string (K.uStr t ht) hv;refine .inr ⟨?_,by simpa [Value.cells] using hr⟩
    cases d <;> simp [fit,ht] at hf <;> rfl
  · rename_i isA fs ht
    have:∃ cs,v=.agg cs:=by
     cases isA with
     | false =>
      obtain ⟨fields,hu,_⟩:=K.uStruct t fs ht;obtain ⟨cs,rfl,_⟩:=okWide_struct hu hv;exact ⟨cs,rfl⟩
     | true =>
      obtain ⟨el,hu,_⟩:=K.uRow t fs ht;simp only [Value.okWide,hu] at hv;obtain ⟨cs,rfl,_⟩:=hv;exact ⟨cs,rfl⟩
    obtain ⟨cs,rfl⟩:=this;refine .inl ⟨?_,cs.toList,by simpa [Value.cells] using hr,rfl⟩
    cases d <;> simp [fit,ht] at hf <;> rfl
  · rename_i n e ct ht;obtain ⟨hu,_⟩:=K.uArr t n e ct ht
    have:∃ cs,v=.agg cs:=by
     simp only [Value.okWide,hu] at hv;obtain ⟨cs,rfl,_⟩:=hv;exact ⟨cs,rfl⟩
    obtain ⟨cs,rfl⟩:=this;refine .inl ⟨?_,cs.toList,by simpa [Value.cells] using hr,rfl⟩
    cases d <;> simp [fit,ht] at hf <;> rfl
  · rename_i e ct ht;obtain ⟨a,len,cap,rfl⟩:=okWide_slice (K.uSl t e ct ht) hv;refine .inr ⟨?_,by simpa [Value.cells] using hr⟩
    cases d <;> simp [fit,ht] at hf <;> rfl
  · cases hp
inductive Fits (T:Tab C) (gA:(t:C.Ty)->C.A t->Prop):List TypeId->List (D C)->Prop
 | nil:Fits T gA [] []
 | cons {t:TypeId} {ts:List TypeId} {d:D C} {ds:List (D C)} (hf:fit T d (.inl t)=true) (hg:good gA d) (hr:d.refs=[]) (h:Fits T gA ts ds):Fits T gA (t::ts) (d::ds)
theorem Fits.refs {ts:List TypeId} {ds:List (D C)} (h:Fits T gA ts ds):∀ a ∈ ds,D.refs a=[]:=by
 induction h with
 | nil=>simp
 | cons _ _ hr _ ih=>simpa using ⟨hr,ih⟩
theorem Qdy (K:QU P T) (hd:Dec T gA) {H:Type} {enc:TypeId × Value->H} {W:World} {r:Reach} {base:Nat}:∀ (ts:List TypeId) (vs:List Value) (ds:List (DataW H)) (ps:List MemPlace),(∀ t ∈ ts,∃ k,plainT T k t=true) ->
 (∀ (j:Nat) t v,ts[j]? = some t->vs[j]? = some v->Value.okWide P W r base t v)->DataW.TrodAll enc P W 0 (fun _=>true) true ts vs ds ps -> ∃ al,Fits T gA ts al /\ RVs T (X0 W) al vs
 | [],vs,ds,ps,_,_,h=>by
  obtain ⟨rfl,rfl,rfl⟩:=trodAll_nil h;exact ⟨[],.nil,.nil⟩
 | t::ts,vs,ds,ps,hp,hv,h=>by
  obtain ⟨v,vs1,d,ds1,p,q,rfl,rfl,rfl,⟨fuel,h1⟩,h2⟩:=trodAll_cons h;obtain ⟨al,f1,r1⟩:=Qdy K hd ts vs1 ds1 q (fun t ht=>hp t (by simp [ht])) (fun j t v a b=>hv (j+1) t v (by simpa using a) (by simpa using b)) h2
  obtain ⟨k,hk⟩:=hp t (by simp)
  obtain ⟨a,k1,k2,k3,k4⟩:=Qr9 K hd k t hk fuel _ _ h1;exact ⟨a::al,.cons k2 k3 k4 f1,.cons (QhS K (hv 0 t v rfl rfl) ⟨k,hk⟩ k2 k1 k4) r1⟩
theorem Qsa (hl:laidOutB P=true) {H:Type} {enc:TypeId × Value->H} {W W':World} {sp:Nat->Bool}:∀ (ts:List TypeId) (vs:List Value) (ds:List (DataW H)) (ps:List MemPlace),(∀ t ∈ ts,P.readableRec t=true /\ t < P.types.size) ->
 DataW.TrodAll enc P W 0 (fun _=>true) true ts vs ds ps->(∀ p ∈ ps,W.sameAt W' p)->(∀ p ∈ ps,sp p.block=true)->DataW.TrodAll enc P W' 0 sp true ts vs ds ps
 | [],vs,ds,ps,_,h,_,_=>by
  obtain ⟨rfl,rfl,rfl⟩:=trodAll_nil h;exact trodAll_mk0
 | t::ts,vs,ds,ps,ht,h,h3,h4=>by
  obtain ⟨v,vs1,d,ds1,p,q,rfl,rfl,rfl,h1,h2⟩:=trodAll_cons h
  exact trodAll_cons_mk (WideElems.Trod_stays hl (ht t (by simp)).1 (ht t (by simp)).2 h1 (fun x hx=>h3 x (by simp [hx])) (fun x hx=>h4 x (by simp [hx])))
   (Qsa hl ts vs1 ds1 q (fun t h=>ht t (by simp [h])) h2 (fun x hx=>h3 x (by simp [hx])) (fun x hx=>h4 x (by simp [hx])))
theorem Qb9 {H:Type} {enc:TypeId × Value->H} {f:Func} {s:ChangeSpec} {apart fresh handsOn again:Bool} {W W':World} {args:Array Value} {v:Value} {ds gs:List (DataW H)} {before pa pv:List MemPlace}
 (hW:DataW.Whole enc P f.params.toList s.vars apart W args.toList ds gs before)
 (hres:∀ (b:Nat) (sp:Nat->Bool) (hd:Bool),DataW.TrodAll enc P W' b sp hd f.resultTypes.toList (v.resultList f.resultTypes.size) (s.fn H (ds++gs)).results [])
 (hargs:∀ sp:Nat->Bool,(∀ p ∈ before,sp p.block=true)->DataW.TrodAll enc P W' 0 sp true f.params.toList args.toList (s.fn H (ds++gs)).args pa)
 (hvars:∀ sp:Nat->Bool,(∀ p ∈ before,sp p.block=true)->DataW.TrodVars enc P W' sp s.vars (s.fn H (ds++gs)).vars pv)
 (hps:before=pa++pv) (hk:W.keptBut W' (· ∈ before)) (hfz:∀ a:Addr,a.block < W.heap.size->W'.frozen? a=W.frozen? a)
 (hok:∀ (j:Nat) (t:TypeId) (r:Value),f.resultTypes[j]? = some t->(v.resultList f.resultTypes.size)[j]? = some r->Value.okWide P W' .any 0 t r) :
 s.post enc P f apart fresh handsOn again W args v W':=by
 have hold:∀ p ∈ before,(fun b=>decide (b < W.heap.size)) p.block=true:=fun p hp=>by simpa using hW.lt p hp
 refine ⟨ds,gs,before,[],pa,pv,hW,hres _ _ _,hargs _ hold,hvars _ hold,World.keptBut_mono (fun p hp=>⟨hp,?_⟩) hk,fun _=>?_⟩
 · rw [hps,List.mem_append] at hp;exact Or.inr hp
 · have hlt:=hW.lt;obtain ⟨_,_,_,_,_,hz,hn⟩:=hW;refine ⟨hok,_,_,([]++pa)++pv,⟨[]++pa,pv,trodAll_append (hargs _ (fun _ _=>rfl)) (hres _ _ _),hvars _ (fun _ _=>rfl),rfl,?_,?_⟩,?_⟩
   · intro b off hp;have hb:MemPlace.cell b off ∈ before:=by rw [hps];simpa using hp
     rw [hfz _ (by simpa [MemPlace.block] using hlt _ hb)]
     exact hz b off hb
   · intro ha;have:=hn ha;rw [hps] at this
     simpa using this
   · intro p hp _;rw [hps]
     simpa using hp
theorem Qdz (K:QU P T) {Φ:Fns C} (F:Qh P T Φ) (hd:Dec T gA) (hl:laidOutB P=true) {f:FuncId} {fn:Func} {s:ChangeSpec} {tb:TypeId} {m:Nat}
 (hres:fn.resultTypes = #[tb]) (hb:P.underlying tb=some .bool) (hvars:s.vars=[])
 (hts:fn.params.toList.all (fun t=>plainT T m t && P.readableRec t && Nat.blt t P.types.size)=true)
 (hspec:∀ (H:Type) (ds:List (DataW H)),ds.length=fn.params.toList.length->s.fn H ds={ results:=[.lit (.bool true)],args:=ds })
 (hev:∀ ds:List (D C),Fits T gA fn.params.toList ds -> ∃ n,evF T Φ n f ds=some (.bool true))
 (H:Type) (enc:TypeId × Value->H) (W:World) (base:Nat) (args:Array Value) (ds gs:List (DataW H)) (before:List MemPlace)
 (hval:∀ (j:Nat) t v,fn.params[j]? = some t->args[j]? = some v->Value.okWide P W .any base t v)
 (hW:DataW.Whole enc P fn.params.toList s.vars false W args.toList ds gs before) (hpre:∀ p ∈ T.pre,∃ t f,W.heap[p.1]? = some (.cells p.2 t f)) :
 Calls P f args W fun e W' => ∃ v,e=.returned v /\ s.post enc P fn false true false false W args v W':=by
 have hts':∀ t ∈ fn.params.toList,plainT T m t=true /\ P.readableRec t=true /\ t < P.types.size:=by
  intro t ht;have:=List.all_eq_true.1 hts t ht;simp only [Bool.and_eq_true] at this;exact ⟨this.1.1,this.1.2,by simpa [Nat.blt_eq] using this.2⟩
 have hW':=hW;obtain ⟨p,q,hA,hV,rfl,hfz,hnd⟩:=hW;rw [hvars] at hV;obtain ⟨rfl,rfl⟩:=trodVars_none hV;obtain ⟨al,hf,hr⟩:=Qdy (gA:=gA) K hd (r:=.any) (base:=base) _ _ _ _ (fun t ht=>⟨m,(hts' t ht).1⟩) (fun j t v a b=>hval j t v (by rw [<- Array.getElem?_toList];exact a) (by rw [<- Array.getElem?_toList];exact b)) hA
 obtain ⟨n,hn⟩:=hev al hf;have hc:=(Qcw K F hn hf.refs W (fun _ _=>False) (fun _ _ h=>h.elim) hpre (vs:=args.toList) hr).2;have ea:(⟨args.toList⟩:Array Value)=args:=by simp
 rw [ea] at hc;refine hc.mono fun e W' hp=>?_;obtain ⟨v,ρ,rfl,rv,a1,a2,a3,a4,a5,a6⟩:=hp;obtain rfl:=rv.bool
 have hlen:ds.length=fn.params.toList.length:=by
  have:∀ (ts:List TypeId) (vs:List Value) (ds:List (DataW H)) (ps:List MemPlace),DataW.TrodAll enc P W 0 (fun _=>true) true ts vs ds ps->ds.length=ts.length:=by
   intro ts
   induction ts with
   | nil=>intro vs ds ps h;obtain ⟨rfl,rfl,rfl⟩:=trodAll_nil h;rfl
   | cons t ts ih =>
    intro vs ds ps h;obtain ⟨v,vs1,d,ds1,p,q,rfl,rfl,rfl,h1,h2⟩:=trodAll_cons h;simp [ih _ _ _ h2]
  exact this _ _ _ _ hA
 have hs:=hspec H ds hlen;have hbel:Below W.heap.size W W':=⟨a3,a4,a5,a1,a2⟩;have hlt:∀ x ∈ p,x.block < W.heap.size:=fun x hx=>by simpa using hW'.lt x (by simpa using hx)
 refine ⟨_,rfl,Qb9 (pa:=p) (pv:=[]) hW' ?_ ?_ ?_ (by simp) (hbel.frame _) a6 ?_⟩
 · intro b sp hd;simp only [List.append_nil];rw [hs,hres];exact trodAll_cons_mk (p:=[]) (p':=[]) (shut_bool hb _) trodAll_mk0
 · intro sp hsp;simp only [List.append_nil] at hsp ⊢;rw [hs];exact Qsa hl _ _ _ _ (fun t ht=>(hts' t ht).2) hA (fun x hx=>hbel.same (hlt x hx)) hsp
 · intro sp hsp;simp only [List.append_nil];rw [hs,hvars];rfl
 · exact ok_one hres rfl (okWide_bool_mk hb _)
theorem QeK (K:QU P T) {Φ:Fns C} (F:Qh P T Φ) (hd:Dec T gA) (hl:laidOutB P=true) {f:FuncId} {fn:Func} {s:ChangeSpec} {tb:TypeId} {m:Nat}
 (hres:fn.resultTypes = #[tb]) (hb:P.underlying tb=some .bool) (hvars:s.vars=[])
 (hts:fn.params.toList.all (fun t=>plainT T m t && P.readableRec t && Nat.blt t P.types.size)=true)
 (hspec:∀ (H:Type) (ds:List (DataW H)),ds.length=fn.params.toList.length->s.fn H ds={ results:=[.lit (.bool true)],args:=ds })
 (hev:∀ ds:List (D C),Fits T gA fn.params.toList ds -> ∃ n,evF T Φ n f ds=some (.bool true))
 (H:Type) (enc:TypeId × Value->H) (W:World) (base:Nat) (args:Array Value) (ds gs:List (DataW H)) (before:List MemPlace)
 (hval:∀ (j:Nat) t v,fn.params[j]? = some t->args[j]? = some v->Value.okWide P W .any base t v)
 (hW:DataW.Whole enc P fn.params.toList s.vars false W args.toList ds gs before) (h0:T.pre=[]:=by rfl) :
 Calls P f args W fun e W' => ∃ v,e=.returned v /\ s.post enc P fn false true false false W args v W' :=
 Qdz K F hd hl hres hb hvars hts hspec hev H enc W base args ds gs before hval hW (by rw [h0];intro p hp;cases hp)
end
def i64 (n:Int):Prop := -9223372036854775808 <= n /\ n <= 9223372036854775807
def inK (k:IntKind) (n:Int):Prop:=k.min <= n /\ n <= k.max
theorem Y0 {n:Int} (h:IntKind.i64.min <= n /\ n <= IntKind.i64.max):i64 n:=by
 simpa [i64,IntKind.min,IntKind.max,IntKind.signed,IntKind.bits] using h
section
variable {C:Cdc} {T:Tab C} {d:D C} {u:TypeId}
theorem ZF {k:IntKind} (hu:T.ty u=.int k) (hf:fit T d (.inl u)=true):∃ n,d=.int k n:=by
 cases d <;> simp [fit,hu] at hf
 subst hf;exact ⟨_,rfl⟩
theorem Qgp (hu:T.ty u=.bool) (hf:fit T d (.inl u)=true):∃ n,d=.bool n:=by
 cases d <;> simp [fit,hu] at hf
 exact ⟨_,rfl⟩
theorem Qrb (hu:T.ty u=.str) (hf:fit T d (.inl u)=true):∃ n,d=.str n:=by
 cases d <;> simp [fit,hu] at hf
 exact ⟨_,rfl⟩
theorem Qgq {e:TypeId} {t:C.Ty} (hu:T.ty u=.sl e t) (hf:fit T d (.inl u)=true) (hr:d.refs=[]):∃ c l,d=.sl t c l:=by
 cases d <;> simp [fit,hu] at hf
 · subst hf;exact ⟨_,_,rfl⟩
 · simp [D.refs] at hr
 · simp [D.refs] at hr
theorem Qrc {e:TypeId} {t:C.Ty} {n:Nat} (hu:T.ty u=.arr n e t) (hf:fit T d (.inl u)=true):∃ l,d=.arr t n l:=by
 cases d <;> simp [fit,hu] at hf
 obtain ⟨h1,h2⟩:=hf;subst h1;subst h2;exact ⟨_,rfl⟩
theorem QdA {a:Bool} {f:TypeId} {fs:List TypeId} (hu:T.ty u=.struct a (f::fs)) (hf:fit T d (.inl u)=true):∃ x y,d=.acons x y /\ fit T x (.inl f)=true /\ fit T y (.inr fs)=true:=by
 cases d <;> simp [fit,hu] at hf
 exact ⟨_,_,rfl,hf.1,hf.2⟩
theorem Zf {f:TypeId} {fs:List TypeId} (hf:fit T d (.inr (f::fs))=true):∃ a b,d=.acons a b /\ fit T a (.inl f)=true /\ fit T b (.inr fs)=true:=by
 cases d <;> simp [fit] at hf
 exact ⟨_,_,rfl,hf.1,hf.2⟩
theorem Qan (hf:fit T d (.inr [])=true):d=.anil:=by
 cases d <;> simp [fit] at hf
 rfl
end
end Go.Ev
