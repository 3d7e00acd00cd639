/-
  A part of the proof of a statement of this seat: the model is run over values by content, proved sound; what the functions come to. No condition beyond the given statements. (text 5)
-/
import Derived.Test.YtkoeniljaccaiaaGreatP3
import Derived.Maps.RangeRun
namespace Go.Ev
set_option linter.unusedVariables false
set_option linter.unusedSimpArgs false
theorem doC4_load {l:List Int} {a b v:Int}:doC4 l 0 a b v=l:=by simp [doC4]
theorem QV {l:List Int} {a b:Int}:doG4 l 0 a b=l.getD a.toNat 0:=by simp [doG4]
theorem QbL {l:List Int} {a b v:Int}:doC4 l 1 a b v=l.set a.toNat v:=by simp [doC4]
theorem QbM {l:List Int} {a b:Int}:doG4 l 1 a b=0:=by simp [doG4]
theorem QgO {l:List Int} {a b v:Int}:doC4 l 2 a b v=if l.getD a.toNat 0=b then l.set a.toNat v else l:=by simp [doC4]
theorem QoF {l:List Int} {a b:Int}:doG4 l 2 a b=if l.getD a.toNat 0=b then 1 else 0:=by simp [doG4]
theorem QaT {l:List Int} {i:Nat} {v:Int} (h:cellsOK l=true) (hv:-1152921504606846976 <= v /\ v <= 1152921504606846976):cellsOK (l.set i v)=true:=by
 unfold cellsOK at *
 simp only [Bool.and_eq_true,decide_eq_true_eq,List.length_set,List.all_eq_true] at *
 refine ⟨h.1,fun x hx=>?_⟩;rcases List.mem_or_eq_of_mem_set hx with hx | rfl
 · exact h.2 x hx
 · unfold Qrd;rw [decide_eq_true hv.1,decide_eq_true hv.2];rfl
theorem QgP:∀ (l:List Int) (n:Int),flo n l <= n
 | [],n=>Int.le_refl n
 | s::l,n=>by
  have:=QgP l (if 0 < s /\ s - 1 < n then s - 1 else n)
  unfold flo
  split at this <;> rename_i h
  · rw [if_pos h];omega
  · rw [if_neg h];omega
theorem QlC:∀ (l:List Int) (n v:Int),v ∈ l->0 < v->flo n l <= v - 1
 | s::l,n,v,hv,h0=>by
  unfold flo;rcases List.mem_cons.1 hv with rfl | hv
  · have:=QgP l (if 0 < v /\ v - 1 < n then v - 1 else n)
    split at this <;> rename_i h
    · rw [if_pos h];omega
    · rw [if_neg h];omega
  · exact QlC l _ v hv h0
structure QbN (p:Int) (cs cs':List Int) (c:Nat):Prop where
 len:cs'.length=771
 ok:cellsOK cs'=true
 fr:frC cs'=frC cs
 mr:mkC cs <= mkC cs' /\ mkC cs' <= frC cs
 sc:∀ i,i ≠ c \/ p=93->scC cs' i=scC cs i
 sb:∀ i,i < 4->0 <= scC cs' i /\ scC cs' i <= frC cs+1
structure OC (cs:List Int):Prop where
 len:cs.length=771
 ok:cellsOK cs=true
 mr:0 <= mkC cs /\ mkC cs <= frC cs
 fr:frC cs <= 1000000
 sb:∀ i,i < 4->0 <= scC cs i /\ scC cs i <= frC cs+1
theorem OC.same {cs:List Int} (h:OC cs) (p:Int) (c:Nat):QbN p cs cs c:=⟨h.len,h.ok,rfl,⟨Int.le_refl _,h.mr.2⟩,fun _ _=>rfl,h.sb⟩
theorem QbN.next {p:Int} {cs cs':List Int} {c:Nat} (h:QbN p cs cs' c) (hc:OC cs):OC cs' :=
 ⟨h.len,h.ok,⟨by have:=hc.mr;have:=h.mr;omega,by rw [h.fr];exact h.mr.2⟩,by rw [h.fr];exact hc.fr,fun i hi=>by rw [h.fr];exact h.sb i hi⟩
theorem JB.step {cs:List Int} {opn:List Bool} {c k:Int} {r got:List Int} (h:JB cs opn c k r got) (hc:OC cs) (c0:0 <= c) (c3:c <= 3) (hi:(goO false [⟨92,k,r⟩] got).is=true) :
 ∃ n r' kd a b v,(∀ own,goO own [⟨92,k,r⟩] got=g4 92 n r' got kd a b v 0) /\ Qfp cs kd a b v /\ QbN 92 cs (doC4 cs kd a b v) c.toNat /\ JB (doC4 cs kd a b v) opn c n r' [doG4 cs kd a b] /\
  ((goO false [⟨92,n,r'⟩] [doG4 cs kd a b]).is=false -> ∃ s,(goO false [⟨92,n,r'⟩] [doG4 cs kd a b])=QaS [s] /\ mkC (doC4 cs kd a b v) <= s /\ scC (doC4 cs kd a b v) c.toNat=s+1 /\ s <= frC cs):=by
 obtain ⟨h1,h2,h3,h⟩:=h;have hl:=hc.len;have hf:=hc.fr;have hm:=hc.mr;have hoL:∀ a:Int,0 <= a->a < 771->Qfp cs 0 a 0 0:=fun a a0 a1=>⟨.inl ⟨rfl,rfl,rfl⟩,a0,by rw [hl];exact a1,by decide,by decide,by decide,by decide⟩
 rcases h with ⟨rfl,rfl⟩ | ⟨x,rfl,x0,x1,rfl | ⟨s0,s1,s2,rfl | rfl⟩⟩
 · refine ⟨1,r,0,0,0,0,fun own=>oB0 own r [],hoL 0 (by decide) (by decide),by rw [doC4_load];exact hc.same _ _,?_,fun q=>by rw [QV,oB1] at q;cases q⟩
   rw [doC4_load,QV];exact ⟨h1,h2,h3,.inr ⟨_,rfl,by show 0 <= frC cs;omega,Int.le_refl _,.inl rfl⟩⟩
 · have ha:lRow 9 (r.getD 0 0) 4=9+c:=by rw [h2,lRow,if_pos ⟨c0,by omega⟩]
   have hn:(9+c).toNat=9+c.toNat:=by omega
   refine ⟨2,r.set 1 x,1,9+c,0,x+1,fun own=>by rw [oB1,ha],⟨.inr (.inl ⟨rfl,rfl⟩),by omega,by omega,by decide,by decide,by omega,by omega⟩,?_,?_,fun q=>by rw [QbM,oB2] at q;cases q⟩
   · rw [QbL,hn]
     have hsc:∀ i,scC (cs.set (9+c.toNat) (x+1)) i=if i=c.toNat then x+1 else scC cs i:=fun i=>by
      unfold scC;rw [Qan _ _ _ _ _ (by omega)]
      by_cases e:i=c.toNat
      · rw [if_pos (by omega),if_pos e]
      · rw [if_neg (by omega),if_neg e]
     have hmk:mkC (cs.set (9+c.toNat) (x+1))=mkC cs:=by unfold mkC;rw [Qq (by omega)]
     have hfr:frC (cs.set (9+c.toNat) (x+1))=frC cs:=by unfold frC;rw [Qq (by omega)]
     refine ⟨by rw [List.length_set];exact hl,QaT hc.ok (by omega),hfr,by rw [hmk];omega,fun i hi=>?_,fun i hi=>?_⟩
     · rw [hsc,if_neg (by omega)]
     · rw [hsc]
       split
       · omega
       · exact hc.sb i hi
   · rw [QbL,QbM,hn];refine ⟨by rw [List.length_set];exact h1,by rw [Qq (by decide)];exact h2,h3,.inr ⟨0,rfl,Int.le_refl _,?_,.inr ⟨?_,?_,?_,.inl rfl⟩⟩⟩
     · unfold frC;rw [Qq (by omega)];have:frC cs=cs.getD 0 0:=rfl;omega
     · rw [QC (by omega)];exact x0
     · rw [QC (by omega)];unfold frC;rw [Qq (by omega)];exact x1
     · unfold scC;rw [QC (by omega),QC (by omega)]
 · refine ⟨3,r,0,3,0,0,fun own=>oB2 own r [x],hoL 3 (by decide) (by decide),by rw [doC4_load];exact hc.same _ _,?_,fun q=>?_⟩
   · rw [doC4_load,QV];exact ⟨h1,h2,h3,.inr ⟨_,rfl,hm.1,hm.2,.inr ⟨s0,s1,s2,.inr rfl⟩⟩⟩
   · rw [QV,oB3] at q ⊢
     split at q
     · cases q
     · rename_i hlt;rw [if_neg hlt,doC4_load];have:mkC cs=cs.getD (Int.toNat 3) 0:=rfl;exact ⟨_,rfl,by omega,s2,s1⟩
 · rw [oB3] at hi
   split at hi
   · rename_i hlt;refine ⟨1,r,0,0,0,0,fun own=>by rw [oB3,if_pos hlt],hoL 0 (by decide) (by decide),by rw [doC4_load];exact hc.same _ _,?_,fun q=>by rw [QV,oB1] at q;cases q⟩
     rw [doC4_load,QV];exact ⟨h1,h2,h3,.inr ⟨_,rfl,by show 0 <= frC cs;omega,Int.le_refl _,.inl rfl⟩⟩
   · cases hi
theorem JM.look {cs:List Int} {opn:List Bool} {start:List Int} {r q:List Int} (h1:r.length=96) (h2:q.length=96) (e:r.getD 0 0=q.getD 0 0) (w0:0 <= r.getD 0 0) (w1:r.getD 0 0 <= mkC cs) (hc:OC cs)
 (ho:∀ i,i < 4->opB opn i=true->scC cs i=stA start i+1 /\ 0 <= stA start i) :
 Qfp cs 0 9 0 0 /\ QbN 93 cs (doC4 cs 0 9 0 0) 0 /\ JM (doC4 cs 0 9 0 0) opn start 4 (r.set 1 0) (q.set 2 0) [doG4 cs 0 9 0] /\ (goO false [⟨93,4,r.set 1 0⟩] [doG4 cs 0 9 0]).is=true:=by
 have hl:=hc.len;have hm:=hc.mr;have hs:=hc.sb 0 (by decide)
 refine ⟨⟨.inl ⟨rfl,rfl,rfl⟩,by decide,by omega,by decide,by decide,by decide,by decide⟩,by rw [doC4_load];exact hc.same _ _,?_,?_⟩
 · rw [doC4_load,QV];have hx:cs.getD (Int.toNat 9) 0=scC cs 0:=rfl;rw [hx];have er:(r.set 1 0).getD 0 0=r.getD 0 0:=Qq (by decide)
   have eq:(q.set 2 0).getD 0 0=q.getD 0 0:=Qq (by decide)
   refine ⟨by rw [List.length_set];exact h1,by rw [List.length_set];exact h2,.inr ⟨_,rfl,hs.1,hs.2,.inr ⟨by rw [er,eq];exact e,by rw [er];exact w0,by rw [er];omega,.inr (.inr ⟨rfl,by rw [er];exact w1,0,by decide,QC (by omega),QC (by omega),fun i hi=>by omega,fun hop=>?_⟩)⟩⟩⟩
   have:=ho 0 (by decide) hop
   exact .inr ⟨by omega,by omega⟩
 · rw [oA4,QC (by omega),if_neg (by decide)];rfl
theorem JM.step {cs:List Int} {opn:List Bool} {start:List Int} {k:Int} {r q got:List Int} (h:JM cs opn start k r q got) (hc:OC cs) (ho:∀ i,i < 4->opB opn i=true->scC cs i=stA start i+1 /\ 0 <= stA start i)
 (hi:(goO false [⟨93,k,r⟩] got).is=true) :
 ∃ n r' q' kd a b v,goO false [⟨93,k,r⟩] got=g4 93 n r' got kd a b v 0 /\ goO true [⟨93,k,q⟩] got=g4 93 n q' got kd a b v 0 /\ Qfp cs kd a b v /\ QbN 93 cs (doC4 cs kd a b v) 0 /\ JM (doC4 cs kd a b v) opn start n r' q' [doG4 cs kd a b] /\
  ((goO false [⟨93,n,r'⟩] [doG4 cs kd a b]).is=false -> ∃ s,(goO false [⟨93,n,r'⟩] [doG4 cs kd a b])=QaS [s] /\ s <= mkC (doC4 cs kd a b v) /\ ∀ i,i < 4->opB opn i=true->s <= stA start i):=by
 obtain ⟨h1,h2,h⟩:=h;have hl:=hc.len;have hf:=hc.fr;have hm:=hc.mr;have hoL:∀ a:Int,0 <= a->a < 771->Qfp cs 0 a 0 0:=fun a a0 a1=>⟨.inl ⟨rfl,rfl,rfl⟩,a0,by rw [hl];exact a1,by decide,by decide,by decide,by decide⟩
 rcases h with ⟨rfl,rfl⟩ | ⟨x,rfl,x0,x1,⟨rfl,x2⟩ | ⟨e,w0,w1,⟨rfl,x2⟩ | ⟨rfl,x2⟩ | ⟨rfl,h4⟩⟩⟩
 · refine ⟨1,r,q,0,0,0,0,oM0 _ _ _,oM0 _ _ _,hoL 0 (by decide) (by decide),by rw [doC4_load];exact hc.same _ _,?_,fun q=>by rw [QV,oM1] at q;cases q⟩
   rw [doC4_load,QV];have hx:cs.getD (Int.toNat 0) 0=frC cs:=rfl;rw [hx];exact ⟨h1,h2,.inr ⟨_,rfl,by omega,by omega,.inl ⟨rfl,Int.le_refl _⟩⟩⟩
 · refine ⟨2,r.set 0 x,q.set 0 x,0,3,0,0,oM1 _ _ _,oM1 _ _ _,hoL 3 (by decide) (by decide),by rw [doC4_load];exact hc.same _ _,?_,fun q=>?_⟩
   · rw [doC4_load,QV];have hx:cs.getD (Int.toNat 3) 0=mkC cs:=rfl;have er:(r.set 0 x).getD 0 0=x:=QC (by omega)
     have eq:(q.set 0 x).getD 0 0=x:=QC (by omega)
     rw [hx];exact ⟨by rw [List.length_set];exact h1,by rw [List.length_set];exact h2,.inr ⟨_,rfl,hm.1,by omega,.inr ⟨by rw [er,eq],by rw [er];exact x0,by rw [er];exact x2,.inl ⟨rfl,Int.le_refl _⟩⟩⟩⟩
   · rw [QV,oA2] at q
     split at q <;> cases q
 · by_cases hlt:x < r.getD 0 0
   · refine ⟨3,r,q.set 1 x,2,3,x,r.getD 0 0,by rw [oA2,if_pos hlt],by rw [oC2,<- e,if_pos hlt],⟨.inr (.inr (.inl rfl)),by decide,by omega,by omega,by omega,by omega,by omega⟩,?_,?_,fun q=>?_⟩
     · rw [QgO]
       split
       · rename_i hb;have hmk:mkC (cs.set (Int.toNat 3) (r.getD 0 0))=r.getD 0 0:=QC (by omega)
         have hfr:frC (cs.set (Int.toNat 3) (r.getD 0 0))=frC cs:=Qq (by decide)
         have hsc:∀ i,scC (cs.set (Int.toNat 3) (r.getD 0 0)) i=scC cs i:=fun i=>Qq (by omega)
         have hb:mkC cs=x:=hb;exact ⟨by rw [List.length_set];exact hl,QaT hc.ok (by omega),hfr,by rw [hmk];omega,fun i _=>hsc i,fun i hi=>by rw [hsc];exact hc.sb i hi⟩
       · exact hc.same _ _
     · rw [QgO,QoF];have eq:(q.set 1 x).getD 0 0=q.getD 0 0:=Qq (by decide)
       split
       · have hmk:mkC (cs.set (Int.toNat 3) (r.getD 0 0))=r.getD 0 0:=QC (by omega)
         have hfr:frC (cs.set (Int.toNat 3) (r.getD 0 0))=frC cs:=Qq (by decide)
         exact ⟨h1,by rw [List.length_set];exact h2,.inr ⟨_,rfl,by decide,by omega,.inr ⟨by rw [eq];exact e,w0,by rw [hfr];exact w1,.inr (.inl ⟨rfl,.inr (by rw [hmk];exact Int.le_refl _)⟩)⟩⟩⟩
       · exact ⟨h1,by rw [List.length_set];exact h2,.inr ⟨_,rfl,by decide,by omega,.inr ⟨by rw [eq];exact e,w0,w1,.inr (.inl ⟨rfl,.inl rfl⟩)⟩⟩⟩
     · rw [oA3] at q
       split at q <;> cases q
   · obtain ⟨a1,a2,a3,a4⟩:=JM.look h1 h2 e w0 (by omega) hc ho
     refine ⟨4,r.set 1 0,q.set 2 0,0,9,0,0,by rw [oA2,if_neg hlt],by rw [oC2,<- e,if_neg hlt],a1,a2,a3,fun q=>by rw [a4] at q;cases q⟩
 · by_cases hx:x=0
   · refine ⟨2,r,q,0,3,0,0,by rw [oA3,if_pos hx],by rw [oC3,if_pos hx],hoL 3 (by decide) (by decide),by rw [doC4_load];exact hc.same _ _,?_,fun q=>?_⟩
     · rw [doC4_load,QV];have hx:cs.getD (Int.toNat 3) 0=mkC cs:=rfl;rw [hx];exact ⟨h1,h2,.inr ⟨_,rfl,hm.1,by omega,.inr ⟨e,w0,w1,.inl ⟨rfl,Int.le_refl _⟩⟩⟩⟩
     · rw [QV,oA2] at q
       split at q <;> cases q
   · obtain ⟨a1,a2,a3,a4⟩:=JM.look h1 h2 e w0 (by omega) hc ho
     exact ⟨4,r.set 1 0,q.set 2 0,0,9,0,0,by rw [oA3,if_neg hx],by rw [oC3,if_neg hx],a1,a2,a3,fun q=>by rw [a4] at q;cases q⟩
 · obtain ⟨w2,j,j3,e1,e2,hj,hx⟩:=h4;rw [oA4] at hi
   split at hi
   · cases hi
   rename_i hne;have hj3:j <= 2:=by omega
   have t1:(r.getD 1 0).toNat=j:=by omega
   have t2:(q.getD 2 0).toNat=j:=by omega
   have hr0:((r.set (2+j) x).set 1 ((j:Int)+1)).getD 0 0=r.getD 0 0:=by rw [Qq (by decide),Qq (by omega)]
   have hq0:((q.set (3+j) x).set 2 ((j:Int)+1)).getD 0 0=q.getD 0 0:=by rw [Qq (by decide),Qq (by omega)]
   have hr1:((r.set (2+j) x).set 1 ((j:Int)+1)).getD 1 0=j+1:=QC (by rw [List.length_set];omega)
   have hq2:((q.set (3+j) x).set 2 ((j:Int)+1)).getD 2 0=j+1:=QC (by rw [List.length_set];omega)
   have hri:∀ i,((r.set (2+j) x).set 1 ((j:Int)+1)).getD (2+i) 0=if i=j then x else r.getD (2+i) 0:=fun i=>by
    rw [Qq (by omega),Qan _ _ _ _ _ (by omega)]
    by_cases e:i=j
    · rw [if_pos (by omega),if_pos e]
    · rw [if_neg (by omega),if_neg e]
   have hqi:∀ i,((q.set (3+j) x).set 2 ((j:Int)+1)).getD (3+i) 0=if i=j then x else q.getD (3+i) 0:=fun i=>by
    rw [Qq (by omega),Qan _ _ _ _ _ (by omega)]
    by_cases e:i=j
    · rw [if_pos (by omega),if_pos e]
    · rw [if_neg (by omega),if_neg e]
   have hsb:=hc.sb (j+1) (by omega)
   have hvx:cs.getD (10+(j:Int)).toNat 0=scC cs (j+1):=by unfold scC;congr 1;omega
   have hsaw:∀ i,i < j+1->Qfr opn start (r.getD 0 0) i (if i=j then x else r.getD (2+i) 0):=fun i hi=>by
    by_cases e:i=j
    · rw [if_pos e,e];exact hx
    · rw [if_neg e];exact (hj i (by omega)).2.2.2
   have hlast:Qfr opn start (r.getD 0 0) (j+1) (scC cs (j+1)):=fun hop=>by
    have:=ho (j+1) (by omega) hop
    exact .inr ⟨by omega,by omega⟩
   refine ⟨4,(r.set (2+j) x).set 1 (j+1),(q.set (3+j) x).set 2 (j+1),0,10+j,0,0,by rw [oA4,if_neg hne,t1,e1],by rw [oC4,if_neg (by omega),t2,e2],hoL _ (by omega) (by omega),by rw [doC4_load];exact hc.same _ _,?_,fun q=>?_⟩
   · rw [doC4_load,QV,hvx];refine ⟨by rw [List.length_set,List.length_set];exact h1,by rw [List.length_set,List.length_set];exact h2,.inr ⟨_,rfl,hsb.1,hsb.2,.inr ⟨by rw [hr0,hq0];exact e,by rw [hr0];exact w0,by rw [hr0];exact w1,.inr (.inr ⟨rfl,by rw [hr0];exact w2,j+1,by omega,by rw [hr1];simp,by rw [hq2];simp,fun i hi=>?_,by rw [hr0];exact hlast⟩)⟩⟩⟩
     rw [hri,hqi,hr0];refine ⟨?_,?_,?_,hsaw i hi⟩
     · by_cases e:i=j
       · rw [if_pos e,if_pos e]
       · rw [if_neg e,if_neg e];exact (hj i (by omega)).1
     · by_cases e:i=j
       · rw [if_pos e];exact x0
       · rw [if_neg e];exact (hj i (by omega)).2.1
     · by_cases e:i=j
       · rw [if_pos e];exact x1
       · rw [if_neg e];exact (hj i (by omega)).2.2.1
   · rw [doC4_load];rw [QV,hvx,oA4,hr1,hr0] at q ⊢
     split at q
     · rename_i h3;rw [if_pos h3];have hjj:j=2:=by omega
       refine ⟨_,rfl,Int.le_trans (QgP _ _) w2,fun i hi hop=>?_⟩;have k2:((r.set (2+j) x).set 1 ((j:Int)+1)).getD 2 0=if (0:Nat)=j then x else r.getD 2 0:=hri 0
       have k3:((r.set (2+j) x).set 1 ((j:Int)+1)).getD 3 0=if (1:Nat)=j then x else r.getD 3 0:=hri 1
       have k4:((r.set (2+j) x).set 1 ((j:Int)+1)).getD 4 0=if (2:Nat)=j then x else r.getD 4 0:=hri 2
       have s:∃ v,v ∈ [((r.set (2+j) x).set 1 ((j:Int)+1)).getD 2 0,((r.set (2+j) x).set 1 ((j:Int)+1)).getD 3 0,((r.set (2+j) x).set 1 ((j:Int)+1)).getD 4 0,scC cs (j+1)] /\ Qfr opn start (r.getD 0 0) i v:=by
        rw [k2,k3,k4];obtain rfl | rfl | rfl | rfl:i=0 \/ i=1 \/ i=2 \/ i=3:=by omega
        · exact ⟨_,by simp,hsaw 0 (by omega)⟩
        · exact ⟨_,by simp,hsaw 1 (by omega)⟩
        · exact ⟨_,by simp,hsaw 2 (by omega)⟩
        · exact ⟨scC cs (j+1),by simp,by have:=hlast;rwa [hjj] at this ⊢⟩
       obtain ⟨v,hv,hs⟩:=s;rcases hs hop with h | ⟨v0,h⟩
       · exact Int.le_trans (QgP _ _) h
       · exact Int.le_trans (QlC _ _ v hv v0) h
     · cases q
section
variable {C:Cdc} {P:Program} {T:Tab C} {Φ:Fns C}
open Pg (Ex)
noncomputable def cdec (P:Prop):Bool := @decide P (Classical.propDecidable P)
theorem Yj {P:Prop}:cdec P=true ↔ P:=by
 unfold cdec;exact @decide_eq_true_iff P (Classical.propDecidable P)
theorem ZC {P:Prop} (h:P):cdec P=true:=Yj.2 h
structure FunR (C:Cdc) (σ:Type) where
 k:Nat
 args:σ->List (D C)
 objs:σ->List (Obj C)
 fin:σ->RT C
 Inv:σ->Prop
def fnO (T:Tab C) (Φ:Fns C) (g n k:Nat) (args:List (D C)) (os:List (Obj C)):Option (D C × List (Option (Obj C))) :=
 (KS T Φ (evC T Φ n) g args).run (0,0) (hpOf 0 os) k [] fun d h _ _=>some (d,Qbf 0 k h)
def LedF {σ:Type} (S:FunR C σ) (s:σ) (r:D C × List (Option (Obj C))):Prop := ∃ os,(S.fin s).val=some ((.ret,[(0,r.1)]),os) /\ r.2=os.map some
def resF {σ:Type} (S:FunR C σ) (d:Env C->List (Obj C)->Option (Bool × σ)) (env:Env C) (os:List (Obj C)):RT C:=match d env os with
 | some (b,q)=>.br b (S.fin q) .fail
 | none=>.fail
def sumF (T:Tab C) (fs:List Fnd) (n:Nat) {σ:Type} (S:FunR C σ) (d:Env C->List (Obj C)->Option (Bool × σ)) (args:List (D C)):Pg C (D C) :=
 bif Nat.beq args.length n then .bind (sumO T fs (List.range n) (resF S d) (eargs 0 args)) fun r=>.ret (eget r.2 0) else .fail
theorem Qn.args (K:QN P T) {X:Cx} {nx:Nat} {lim:Lim} {args:List (D C)} {vs:List Value} (h:RVs T X args vs) (hr:∀ a ∈ args,∀ id ∈ D.refs a,old nx lim id):Qn T X nx lim (eargs 0 args) (⟨vs⟩:Array Value):=by
 intro t;rw [QaH];simp only [Nat.zero_le,if_true,Nat.sub_zero];refine ⟨?_,?_⟩
 · have:=h.get t;have e:(⟨vs⟩:Array Value).getD t undef=vs.getD t undef:=by simp [Array.getD_eq_getD_getElem?]
   rw [e];exact this
 · by_cases ht:t < args.length
   · exact hr _ (by simp [List.getD_eq_getElem?_getD,ht])
   · have:args.getD t .top=.top:=by
      simp only [List.getD_eq_getElem?_getD];rw [List.getElem?_eq_none (by omega)];rfl
     rw [this];simp [D.refs]
theorem RVs.of_get {X:Cx}:∀ (args:List (D C)) (vs:List Value),args.length=vs.length->(∀ i,i < args.length->RV T X (args.getD i .top) (vs.getD i undef))->RVs T X args vs
 | [],[],_,_=>.nil
 | [],_::_,h,_=>by simp at h
 | _::_,[],h,_=>by simp at h
 | d::ds,v::vs,h,hg=>.cons (by simpa using hg 0 (by simp)) (RVs.of_get ds vs (by simpa using h) fun i hi=>by simpa using hg (i+1) (by simpa using hi))
theorem RVs.of_env {X:Cx} {nx:Nat} {lim:Lim} {args:List (D C)} {vs:List Value} (hl:args.length=vs.length) (h:Qn T X nx lim (eargs 0 args) (⟨vs⟩:Array Value)):RVs T X args vs:=by
 refine RVs.of_get args vs hl fun i hi=>?_;have:=(h i).1;rw [QaH] at this
 simpa [Array.getD_eq_getD_getElem?] using this
theorem QdY:∀ (l:List (D C)) (n i:Nat) (h:i < l.length),(n+i,l[i]) ∈ eargs n l
 | [],_,_,h=>by simp at h
 | d::l,n,0,_=>by simp [eargs]
 | d::l,n,i+1,h=>by
  have:=QdY l (n+1) i (by simpa using h)
  simp only [eargs,List.mem_cons];right;rw [show n+(i+1)=n+1+i by omega]
  simpa using this
theorem QlD (K:QN P T) {X X1:Cx} {h':Heap C} {k nx':Nat} (g1:G T X1 h' nx' (lim0 nx')) (s1:Step X k (lim0 nx') X1) (hle:k <= nx') {os:List (Obj C)} {d:D C} {v:Value} (q:Qk k [(0,d)] os)
 (hget:∀ j,j < k->h'.get j=os[j]?) (rd:RO T X1 nx' (lim0 nx') d v):∃ X2,X2.w=X1.w /\ G T X2 (hpOf 0 os) k (lim0 k) /\ Step X k (lim0 k) X2 /\ RO T X2 k (lim0 k) d v:=by
 obtain ⟨q1,q2,q3⟩:=q
 obtain ⟨X2,w2,g2,s2,hρ⟩:=G.drop K.base g1 (h':=hpOf 0 os) (fun id=>by
  rw [Qr]
  by_cases hid:id < k
  · exact .inl (hget id hid).symm
  · exact .inr (List.getElem?_eq_none (by omega)))
 have hnone:∀ id,¬ id < k->X2.ρ id=none:=fun id hid=>by
  cases hq:X2.ρ id with
  | none=>rfl
  | some l =>
   have:=g2.dom id l hq;rw [Qr,List.getElem?_eq_none (by omega)] at this
   cases this
 have s3:=s1.trans s2 hle;refine ⟨X2,w2,g2.relim2 (YR q1 q3) (Nat.le_refl _) (Nat.zero_le _) (fun _ h=>h),⟨s3.O,s3.os,s3.tape,s3.output,s3.size,fun id ho=>?_,s3.mine,s3.cell,s3.block,s3.frz⟩,?_⟩
 · by_cases hid:id < k
   · exact s3.ρ id ⟨.inl hid,fun h=>h⟩
   · rw [hnone id hid];cases X.ρ id <;> simp [Qe]
 · have hrt:∀ r ∈ d.refs,r < k:=q2 (0,d) (by simp)
   exact ⟨rd.1.mono T K.base.encOK s2.keeps fun r hh=>s2.ρ r ⟨.inl (by have:=hrt r hh;omega),fun h=>h⟩,fun r hh=>⟨.inl (hrt r hh),fun h=>h⟩⟩
theorem QoG (K:QN P T) (F:Qh P T Φ) {g:Nat} {fs:List Fnd} {m n:Nat} {σ:Type} {S:FunR C σ}
 (hr:∀ q,S.Inv q->Qk S.k (eargs 0 (S.args q)) (S.objs q) /\ (S.fin q).refsOK S.k /\ (S.args q).length=m /\ Leaf (fnO T Φ g n S.k (S.args q) (S.objs q)) (LedF S q))
 (d:Env C->List (Obj C)->Option (Bool × σ)) (hd:∀ env os b q,d env os=some (b,q)->b=true->S.Inv q /\ eargs 0 (S.args q)=env /\ S.objs q=os):QjN P T g (sumF T fs m S d):=by
 intro args vs X h nx lim e dd h' nx' tr gg hargs hrefs hlim hx;unfold sumF at hx;cases hm:Nat.beq args.length m with
 | false=>rw [hm] at hx;exact (Ex.fail hx).elim
 | true =>
 rw [hm] at hx;simp only [cond_true] at hx;have hm:=Nat.eq_of_beq_eq_true hm;obtain ⟨⟨x,env'⟩,h9,n9,t8,t9,hx0,hret,_⟩:=Ex.bind hx;obtain ⟨hdd,e1h,e1n,_⟩:=Ex.ret hret;subst e1h;subst e1n;have he:=Qn.args K hargs hrefs;unfold sumO at hx0;obtain ⟨X1,h1,nx1,env1,ids,tr1,w1,g1,s1,hn1,e1,hx1⟩:=Qcn K hlim fs X h nx _ _ [] gg he hx0;cases hnd:VD ids with
 | false=>rw [hnd] at hx1;exact (Ex.fail hx1).elim
 | true =>
 rw [hnd] at hx1;simp only [cond_true] at hx1;have hnodup:=ZM hnd;obtain ⟨os,tr2,hlen,hos,hx2⟩:=JU ids _ _ hx1;cases hin:inB ids ((List.range m).flatMap fun t=>(eget env1 t).refs) && inB ids (os.flatMap Obj.refs) with
 | false=>rw [hin] at hx2;exact (Ex.fail hx2).elim
 | true =>
 rw [hin] at hx2;simp only [cond_true] at hx2;simp only [Bool.and_eq_true] at hin;have hin1:=ZQ hin.1;have hin2:=ZQ hin.2;obtain ⟨xx,ee,os',hq,hx3⟩:=RT.pg_ok _ _ hx2;unfold resF at hq
 split at hq
 · rename_i b q hdq;cases b with
   | false=>simp [RT.val] at hq
   | true =>
   simp only [RT.val,cond_true] at hq;obtain ⟨hI,hcan,hobjs⟩:=hd _ _ _ _ hdq rfl;obtain ⟨hr1,hr2,hlenA,r,hr3,hr4⟩:=hr q hI;obtain ⟨h2,tr3,hl2,hw1,hw2,hx4⟩:=JV ids _ h1 _ hnodup hx3;obtain ⟨hxx,eh,en,_⟩:=Ex.ret hx4;obtain ⟨rfl,rfl⟩:=Prod.mk.inj hxx;subst eh;subst en
   let f:Nat->Nat:=fun j=>ids.getD j 0
   have hfj:∀ j,j < ids.length->ids[j]? = some (f j):=fun j hj=>by simp [f,hj]
   have hk0:ids.length=S.k:=by rw [<- hr1.1,hobjs];simp [hlen]
   have hff:∀ r,r ∈ ids->f (idx ids r)=r:=fun r hr=>by
    have:=Vc ids r hr;simp only [f,List.getD_eq_getElem?_getD,this,Option.getD_some]
   have hlenO:(S.objs q).length=ids.length:=by rw [hr1.1,hk0]
   have part:Part h1 (S.objs q) f:=by
    refine ⟨fun j o ho=>?_,fun i j hi hj hij=>?_,fun o ho r hr=>by rw [hr1.1];exact hr1.2.2 o ho r hr⟩
    · rw [hobjs,List.getElem?_map] at ho;cases hoj:os[j]? with
      | none=>simp [hoj] at ho
      | some o0 =>
       simp only [hoj,Option.map_some,Option.some.injEq] at ho;have hj:j < ids.length:=by rw [<- hlen];exact (List.getElem?_eq_some_iff.1 hoj).1
       rw [hos j (f j) o0 (hfj j hj) hoj,<- ho,Obj.ren_ren];intro id hid;exact hff id (hin2 id (List.mem_flatMap.2 ⟨o0,List.mem_of_getElem? hoj,hid⟩))
    · rw [hlenO] at hi hj;have:=(List.getElem?_inj hi hnodup (j:=j)).1 (by rw [hfj i hi,hfj j hj];simp only [f] at hij ⊢;rw [hij])
      exact this
   have g2:=Part.ctx K.base g1 part (S.objs q).length
   have e2:Qn T (X1.part (S.objs q).length f) (S.objs q).length (lim0 (S.objs q).length) (eargs 0 (S.args q)) (⟨vs⟩:Array Value):=by
    refine Qn.part K.base e1 part.inj (fun p hp=>?_) (fun p hp r hr=>by rw [hr1.1];exact hr1.2.1 p hp r hr)
    rw [hcan] at hp;simp only [List.mem_map] at hp;obtain ⟨t,ht,rfl⟩:=hp;simp only;rw [D.ren_ren];intro id hid;exact hff id (hin1 id (List.mem_flatMap.2 ⟨t,ht,hid⟩))
   rw [hr1.1] at g2 e2;obtain ⟨d0,hh,nn,tt,hex,hsome⟩:=Pg.run_some hr3;simp only [Option.some.injEq] at hsome;subst hsome;obtain ⟨os2,hv2,hg2⟩:=hr4;rw [hq] at hv2;simp only [Option.some.injEq,Prod.mk.injEq] at hv2;obtain ⟨⟨rfl,rfl⟩,rfl⟩:=hv2;have hgets:=Zy S.k 0 hh _ hg2;simp only [Nat.zero_add] at hgets;obtain ⟨x5,env5,os5,hv5,hok5⟩:=RT.refsOK_val hr2;rw [hq] at hv5;simp only [Option.some.injEq,Prod.mk.injEq] at hv5;obtain ⟨⟨rfl,rfl⟩,rfl⟩:=hv5;have hle:S.k <= nn:=hex.le;have g0:G T (X1.part S.k f) (hpOf 0 (S.objs q)) S.k (lim0 nn):=g2.relim2 (YR hr1.1 hr1.2.2) (Nat.le_refl _) (Nat.zero_le _) (fun _ h=>h);have hvs:RVs T (X1.part S.k f) (S.args q) vs:=RVs.of_env (by rw [hlenA,<- hm];exact RVs.length T hargs) e2
   have hrefs0:∀ a ∈ S.args q,∀ id ∈ D.refs a,old S.k (lim0 nn) id:=fun a ha id hid=>⟨.inl (by
    obtain ⟨i,hi,hia⟩:=List.getElem_of_mem ha;refine hr1.2.1 (0+i,a) ?_ id hid;rw [<- hia];exact QdY _ _ _ hi),fun h=>h⟩
   obtain ⟨c1,c2⟩:=Qf2 K F n g (S.args q) vs (X1.part S.k f) (hpOf 0 (S.objs q)) S.k (lim0 nn) (0,0) d0 hh nn tt g0 hvs hrefs0 (Nat.le_refl _) hex;have hw:(X1.part S.k f).w=X.w:=w1;rw [hw] at c1 c2;refine ⟨c1,c2.mono fun en w9 hp=>?_⟩;obtain ⟨v,X2,rfl,hX2,g3,s3,ro3⟩:=hp;obtain ⟨X3,w3,g4,s4,ro4⟩:=QlD K g3 s3 hle hok5 hgets ro3;have hlen':os'.length=(S.objs q).length:=by rw [hok5.1,hr1.1]
   have hrefs':∀ o ∈ os',∀ r ∈ Obj.refs o,r < (S.objs q).length:=fun o ho r hr=>by rw [hr1.1];exact hok5.2.2 o ho r hr
   obtain ⟨X4,w4,g5,s5,hρ,hB2⟩:=Part.back K.base g1 part hlen' hrefs' (X1:=X3) (lim1:=lim0 S.k) (h':=h') (by rw [hr1.1];exact g4) (by rw [hr1.1];exact s4) (fun j o hj=>by
    have hlt:j < ids.length:=by rw [<- hlenO,<- hlen'];exact (List.getElem?_eq_some_iff.1 hj).1
    exact hw1 j (f j) _ (hfj j hlt) (by rw [List.getElem?_map,hj];rfl)) (fun id hid=>by
    refine hw2 id fun hm=>?_;obtain ⟨j,hj,hjj⟩:=List.getElem_of_mem hm;refine hid j (by rw [hlenO];exact hj) ?_
    simp [f,hj,hjj])
   have hold:∀ j,j < S.k->old nx' lim (f j):=fun j hj=>by
    have hj':j < (S.objs q).length:=by rw [hr1.1];exact hj
    exact (g1.nums _ _ (part.at' j (S.objs q)[j] (by simp [hj']))).1
   have e4:Qn T X3 S.k (lim0 S.k) [(0,d0)] (#[v]:Array Value):=fun t=>by
    rw [Qu]
    by_cases ht:t=0
    · subst ht;simpa using ro4
    · simp only [ht,if_false,eget];exact RO.mk (RV.top _ _ _) rfl
   have e5:=Qn.back (nx:=nx') (lim:=lim) (f:=f) K.base e4 (fun p hp r hr=>hok5.2.1 p hp r hr) (fun j hj=>hρ j (by rw [hr1.1];exact hj)) ⟨hB2⟩ hold
   have ro5:=e5 0;refine ⟨v,X4,rfl,by rw [w4,w3,hX2],g5,s1.trans s5 hn1,?_⟩
   rw [hdd];exact ro5
 · simp [RT.val] at hq
theorem Qh.addFun (K:QN P T) (F:Qh P T Φ) {g:Nat} {σ:Type} (S:FunR C σ) (n m:Nat) (fs:List Fnd) (d:Env C->List (Obj C)->Option (Bool × σ))
 (hr:∀ q,S.Inv q->Qk S.k (eargs 0 (S.args q)) (S.objs q) /\ (S.fin q).refsOK S.k /\ (S.args q).length=m /\ Leaf (fnO T Φ g n S.k (S.args q) (S.objs q)) (LedF S q))
 (hd:∀ env os b q,d env os=some (b,q)->b=true->S.Inv q /\ eargs 0 (S.args q)=env /\ S.objs q=os):Qh P T (Φ.addObj g (sumF T fs m S d)):=F.addObj (QoG K F hr d hd)
theorem QsG {σ:Type} {S:FunR C σ} {s:σ} {d:D C} {os:List (Option (Obj C))} (os':List (Obj C)) (h1:(S.fin s).val=some ((.ret,[(0,d)]),os')) (h2:os=os'.map some):Leaf (some (d,os)) (LedF S s) :=
 JS.2 ⟨os',h1,h2⟩
end
structure NA where
 f:Frame
 a:QjE
 fl:Bool
structure GoM where
 st:List Frame
 got:List Int
 gf:Bool
 a:QjE
 af:Bool
 is:Bool
def QO (h f:Int) (nd:Bool):Int:=if h < 0 then -1 else bif nd then lField 291 (h % 256) f 160 3 else lField 99 (h % 256) f 16 12
def wh (x:Int):Int:=if x < 0 then 0 else x
open Go.Proofs
set_option maxRecDepth 100000
def QpL (w:Int):Option (Bool × D RC):=some (true,.int .i64 (plc w))
def QlE:List (D RC)->Option (Bool × D RC)
 | [.int .i64 w]=>QpL w
 | _=>none
noncomputable def QpM (w:Int):=evF s28 Qrc 20 174 [.int .i64 w]
theorem Qrg (w:Int):QpM w=(let Z0:DO_:=some (D.int .i64 0);bif decide (w < (0:Int)) then Z0 else bif decide ((1099510841343:Int) < w) then Z0 else some (D.int .i64 (bits .i64 (fun (x:Nat) (u v:BitVec x)=>u &&& v) (Int.fdiv w (1048576:Int)) (1099511627775:Int)))):=by kernel_rfl
theorem Qrh (w:Int) (h:(true)=true):QpM w=some (.int .i64 (plc w)):=by
 (rw [Qrg];conv=>zeta)
 unfold plc;refine ZN (fun h0=>?_) fun h0=>ZN (fun h1=>?_) fun h1=>?_ <;> simp only [decide_eq_true_eq,decide_eq_false_iff_not] at *
 · rw [Yb (by omega)];rfl
 · rw [Yb (by omega)];rfl
 · rw [VT (by omega),QpI (by omega),QsD (by omega)]
noncomputable def ug_1:=Qrc.addSpec 174 QlE
theorem QlF:Qh Tryz.prog s28 ug_1:=Qix.addEv Qc fun args d h=>by
 unfold QlE at h
 split at h
 · unfold QpL at h;have h1:=congrArg Prod.fst (Option.some.inj h);obtain rfl:_=d:=congrArg Prod.snd (Option.some.inj h);exact ⟨by simp [D.refs],20,Qrh _ h1⟩
 · cases h
def QlG (p:Int) (d:Int):Option (Bool × D RC):=some (true,.tup (.acons (.int .i64 (wordN p d)) (.acons (.int .i64 (QdU p d)) .anil)))
def QgQ:List (D RC)->Option (Bool × D RC)
 | [.int .i64 p,.int .i64 d]=>QlG p d
 | _=>none
noncomputable def QlH (p:Int) (d:Int):=evF s28 ug_1 20 123 [.int .i64 p,.int .i64 d]
theorem QoH (p:Int) (d:Int):QlH p d=(let Z0:Bool:=decide (p < (0:Int));let Z1:D RC:=D.int .i64 0;let Z2:DO_:=some (D.tup (D.acons Z1 (D.acons (D.int .i64 2) .anil)));let Z3:Bool:=decide ((1048575:Int) < p);let Z4:DO_:=some (D.tup (D.acons (D.int .i64 (bits .i64 (fun (x:Nat) (u v:BitVec x)=>u ||| v) (IntKind.wrap .i64 (p * (1048576:Int))) d)) (.acons Z1 .anil)));let Z5:DO_:=bif d != (0:Int) then Z2 else bif p != (0:Int) then Z2 else Z4;bif decide ((256:Int) <= d) then bif Z0 then Z2 else bif Z3 then Z2 else bif !decide (d <= (262143:Int)) then Z5 else Z4 else bif Z0 then Z2 else bif Z3 then Z2 else Z5):=by kernel_rfl
theorem QoI (p:Int) (d:Int) (h:(true)=true):QlH p d=some (.tup (.acons (.int .i64 (wordN p d)) (.acons (.int .i64 (QdU p d)) .anil))):=by
 (rw [QoH];conv=>zeta)
 have ww:0 <= p->p <= 1048575->IntKind.i64.wrap (p * 1048576)=p * 1048576:=fun h1 h2=>wrap_id (by omega) (by omega)
 repeat' (refine ZN (fun hc=>?_) fun hc=>?_)
 all_goals
  simp only [decide_eq_true_eq,decide_eq_false_iff_not,beq_iff_eq,bne_iff_ne,ne_eq,Bool.not_eq_true',Bool.not_eq_false',bne_eq_false_iff_eq,beq_eq_false_iff_ne] at *
  first
  | exact congrArg some (QdX (by unfold Jq;omega))
  | (rw [ww (by omega) (by omega),or20 (by omega) (by omega)];exact congrArg some (QdW (by unfold Jq;omega)))
noncomputable def ug_2:=ug_1.addSpec 123 QgQ
theorem QlI:Qh Tryz.prog s28 ug_2:=QlF.addEv Qc fun args d h=>by
 unfold QgQ at h
 split at h
 · unfold QlG at h;have h1:=congrArg Prod.fst (Option.some.inj h);obtain rfl:_=d:=congrArg Prod.snd (Option.some.inj h);exact ⟨by simp [D.refs],20,QoI _ _ h1⟩
 · cases h
def QpN (w:Int):Option (Bool × D RC):=some (true,.int .i64 (plc w))
def QlJ:List (D RC)->Option (Bool × D RC)
 | [.int .i64 w]=>QpN w
 | _=>none
noncomputable def QpO (w:Int):=evF s28 ug_2 20 80 [.int .i64 w]
theorem Qri (w:Int):QpO w=(let Z0:DO_:=some (D.int .i64 0);bif decide (w < (0:Int)) then Z0 else bif decide ((1099510841343:Int) < w) then Z0 else some (D.int .i64 (Int.fdiv w (1048576:Int)))):=by kernel_rfl
theorem Qrj (w:Int) (h:(true)=true):QpO w=some (.int .i64 (plc w)):=by
 (rw [Qri];conv=>zeta)
 unfold plc;refine ZN (fun h0=>?_) fun h0=>ZN (fun h1=>?_) fun h1=>?_ <;> simp only [decide_eq_true_eq,decide_eq_false_iff_not] at *
 · rw [Yb (by omega)];rfl
 · rw [Yb (by omega)];rfl
 · rw [VT (by omega),QpI (by omega)]
noncomputable def ug_3:=ug_2.addSpec 80 QlJ
theorem QlK:Qh Tryz.prog s28 ug_3:=QlI.addEv Qc fun args d h=>by
 unfold QlJ at h
 split at h
 · unfold QpN at h;have h1:=congrArg Prod.fst (Option.some.inj h);obtain rfl:_=d:=congrArg Prod.snd (Option.some.inj h);exact ⟨by simp [D.refs],20,Qrj _ h1⟩
 · cases h
def QlL (w:Int):Option (Bool × D RC):=some (true,.int .i64 (bare w))
def QgR:List (D RC)->Option (Bool × D RC)
 | [.int .i64 w]=>QlL w
 | _=>none
noncomputable def QlM (w:Int):=evF s28 ug_3 20 79 [.int .i64 w]
theorem QoJ (w:Int):QlM w=(let Z0:DO_:=some (D.int .i64 0);bif decide (w < (0:Int)) then Z0 else bif decide ((1099510841343:Int) < w) then Z0 else some (D.int .i64 (bits .i64 (fun (x:Nat) (u v:BitVec x)=>u &&& v) w (1048575:Int)))):=by kernel_rfl
theorem QoK (w:Int) (h:(true)=true):QlM w=some (.int .i64 (bare w)):=by
 (rw [QoJ];conv=>zeta)
 unfold bare;refine ZN (fun h0=>?_) fun h0=>ZN (fun h1=>?_) fun h1=>?_ <;> simp only [decide_eq_true_eq,decide_eq_false_iff_not] at *
 · rw [Yb (by omega)];rfl
 · rw [Yb (by omega)];rfl
 · rw [VT (by omega),Qr5]
noncomputable def ug_4:=ug_3.addSpec 79 QgR
theorem QlN:Qh Tryz.prog s28 ug_4:=QlK.addEv Qc fun args d h=>by
 unfold QgR at h
 split at h
 · unfold QlL at h;have h1:=congrArg Prod.fst (Option.some.inj h);obtain rfl:_=d:=congrArg Prod.snd (Option.some.inj h);exact ⟨by simp [D.refs],20,QoK _ h1⟩
 · cases h
def QlO (p:Int) (d:Int):Option (Bool × D RC):=some (true,.tup (.acons (.int .i64 (wordN p d)) (.acons (.int .i64 (QdU p d)) .anil)))
def QgS:List (D RC)->Option (Bool × D RC)
 | [.int .i64 p,.int .i64 d]=>QlO p d
 | _=>none
noncomputable def QlP (p:Int) (d:Int):=evF s28 ug_4 20 66 [.int .i64 p,.int .i64 d]
theorem QoL (p:Int) (d:Int):QlP p d=(let Z0:D RC:=D.int .i64 0;let Z1:DO_:=some (D.tup (D.acons Z0 (D.acons (D.int .i64 2) .anil)));let Z2:DO_:=some (D.tup (D.acons (D.int .i64 (IntKind.wrap .i64 (IntKind.wrap .i64 (p * (1048576:Int))+d))) (.acons Z0 .anil)));let Z3:DO_:=bif d == (0:Int) then bif p != (0:Int) then Z1 else Z2 else Z2;bif decide (p < (0:Int)) then Z1 else bif decide ((1048575:Int) < p) then Z1 else bif d != (0:Int) then bif decide ((256:Int) <= d) then bif !decide (d <= (262143:Int)) then Z1 else Z3 else Z1 else Z3):=by kernel_rfl
theorem QoM (p:Int) (d:Int) (h:(true)=true):QlP p d=some (.tup (.acons (.int .i64 (wordN p d)) (.acons (.int .i64 (QdU p d)) .anil))):=by
 (rw [QoL];conv=>zeta)
 have ww:0 <= p->p <= 1048575->IntKind.i64.wrap (p * 1048576)=p * 1048576:=fun h1 h2=>wrap_id (by omega) (by omega)
 repeat' (refine ZN (fun hc=>?_) fun hc=>?_)
 all_goals
  simp only [decide_eq_true_eq,decide_eq_false_iff_not,beq_iff_eq,bne_iff_ne,ne_eq,Bool.not_eq_true',Bool.not_eq_false',bne_eq_false_iff_eq,beq_eq_false_iff_ne] at *
  first
  | exact congrArg some (QdX (by unfold Jq;omega))
  | (rw [ww (by omega) (by omega),wrap_id (by omega) (by omega)];exact congrArg some (QdW (by unfold Jq;omega)))
noncomputable def ug_5:=ug_4.addSpec 66 QgS
theorem QlQ:Qh Tryz.prog s28 ug_5:=QlN.addEv Qc fun args d h=>by
 unfold QgS at h
 split at h
 · unfold QlO at h;have h1:=congrArg Prod.fst (Option.some.inj h);obtain rfl:_=d:=congrArg Prod.snd (Option.some.inj h);exact ⟨by simp [D.refs],20,QoM _ _ h1⟩
 · cases h
def QlR (w:Int):Option (Bool × D RC):=some (true,.int .i64 (bare w))
def QgT:List (D RC)->Option (Bool × D RC)
 | [.int .i64 w]=>QlR w
 | _=>none
noncomputable def QlS (w:Int):=evF s28 ug_5 20 173 [.int .i64 w]
theorem QoN (w:Int):QlS w=(let Z0:DO_:=some (D.int .i64 0);bif decide (w < (0:Int)) then Z0 else bif decide ((1099510841343:Int) < w) then Z0 else some (D.int .i64 (bits .i64 (fun (x:Nat) (u v:BitVec x)=>u &&& v) (Int.fdiv w (1:Int)) (1048575:Int)))):=by kernel_rfl
theorem QoO (w:Int) (h:(true)=true):QlS w=some (.int .i64 (bare w)):=by
 (rw [QoN];conv=>zeta)
 unfold bare;refine ZN (fun h0=>?_) fun h0=>ZN (fun h1=>?_) fun h1=>?_ <;> simp only [decide_eq_true_eq,decide_eq_false_iff_not] at *
 · rw [Yb (by omega)];rfl
 · rw [Yb (by omega)];rfl
 · rw [VT (by omega),Int.fdiv_one,Qr5]
noncomputable def ug_6:=ug_5.addSpec 173 QgT
theorem QlT:Qh Tryz.prog s28 ug_6:=QlQ.addEv Qc fun args d h=>by
 unfold QgT at h
 split at h
 · unfold QlR at h;have h1:=congrArg Prod.fst (Option.some.inj h);obtain rfl:_=d:=congrArg Prod.snd (Option.some.inj h);exact ⟨by simp [D.refs],20,QoO _ h1⟩
 · cases h
theorem and8 (n:Int):bits .i64 (fun _ u v=>u &&& v) n 255=n % 256:=by
 unfold bits;rw [BitVec.toNat_and,Yp,Yp];have e:((255:Int) % 18446744073709551616).toNat=2 ^ 8 - 1:=by decide
 rw [e,Nat.and_two_pow_sub_one_eq_mod,wrap_id (by omega) (by omega)]
 omega
def QdZ (a:Int) (f:Int) (nd:Bool):Option (Bool × D RC):=some (true,.int .i64 (QO a f nd))
def QbO:List (D RC)->Option (Bool × D RC)
 | [.int .i64 a,.int .i64 f,.bool nd]=>QdZ a f nd
 | _=>none
noncomputable def Qd0 (a:Int) (f:Int) (nd:Bool):=evF s28 ug_6 20 172 [.int .i64 a,.int .i64 f,.bool nd]
theorem Qiy (a:Int) (f:Int) (nd:Bool):Qd0 a f nd=(let Z0:Int:=bits .i64 (fun (x:Nat) (u v:BitVec x)=>u &&& v) a (255:Int);bif decide (a < (0:Int)) then some (D.int .i64 (-1:Int)) else bif nd then some (D.int .i64 (lField (291:Int) Z0 f (160:Int) (3:Int))) else some (D.int .i64 (lField (99:Int) Z0 f (16:Int) (12:Int)))):=by kernel_rfl
theorem Qiz (a:Int) (f:Int) (nd:Bool) (h:(true)=true):Qd0 a f nd=some (.int .i64 (QO a f nd)):=by
 (rw [Qiy];conv=>zeta)
 unfold QO;rw [and8];refine ZN (fun h0=>?_) fun h0=>?_ <;> simp only [decide_eq_true_eq,decide_eq_false_iff_not] at h0
 · rw [if_pos h0]
 · rw [if_neg h0];cases nd <;> rfl
noncomputable def ug_7:=ug_6.addSpec 172 QbO
theorem QlU:Qh Tryz.prog s28 ug_7:=QlT.addEv Qc fun args d h=>by
 unfold QbO at h
 split at h
 · unfold QdZ at h;have h1:=congrArg Prod.fst (Option.some.inj h);obtain rfl:_=d:=congrArg Prod.snd (Option.some.inj h);exact ⟨by simp [D.refs],20,Qiz _ _ _ h1⟩
 · cases h
def Qd1 (a:Int) (f:Int) (nd:Bool):Option (Bool × D RC):=some (true,.int .i64 (QO a f nd))
def QbP:List (D RC)->Option (Bool × D RC)
 | [.int .i64 a,.int .i64 f,.bool nd]=>Qd1 a f nd
 | _=>none
noncomputable def Qd2 (a:Int) (f:Int) (nd:Bool):=evF s28 ug_7 20 140 [.int .i64 a,.int .i64 f,.bool nd]
theorem QiA (a:Int) (f:Int) (nd:Bool):Qd2 a f nd=(let Z0:Int:=Int.tmod a (256:Int);bif decide (a < (0:Int)) then some (D.int .i64 (-1:Int)) else bif nd then some (D.int .i64 (lField (291:Int) Z0 f (160:Int) (3:Int))) else some (D.int .i64 (lField (99:Int) Z0 f (16:Int) (12:Int)))):=by kernel_rfl
theorem QiB (a:Int) (f:Int) (nd:Bool) (h:(true)=true):Qd2 a f nd=some (.int .i64 (QO a f nd)):=by
 (rw [QiA];conv=>zeta)
 unfold QO;refine ZN (fun h0=>?_) fun h0=>?_ <;> simp only [decide_eq_true_eq,decide_eq_false_iff_not] at h0
 · rw [if_pos h0]
 · rw [if_neg h0,Qfk (by omega)]
   cases nd <;> rfl
noncomputable def ug_8:=ug_7.addSpec 140 QbP
theorem QlV:Qh Tryz.prog s28 ug_8:=QlU.addEv Qc fun args d h=>by
 unfold QbP at h
 split at h
 · unfold Qd1 at h;have h1:=congrArg Prod.fst (Option.some.inj h);obtain rfl:_=d:=congrArg Prod.snd (Option.some.inj h);exact ⟨by simp [D.refs],20,QiB _ _ _ h1⟩
 · cases h
open Go.Proofs
theorem QsH {n:Int} (k:Nat) (h:0 <= n):(n.fdiv (2 ^ k) == 0)=decide (n < 2 ^ k):=by
 have hp:(0:Int) < 2 ^ k:=Int.pow_pos (by decide)
 rw [Int.fdiv_eq_ediv_of_nonneg _ (Int.le_of_lt hp)]
 by_cases q:n < 2 ^ k
 · rw [decide_eq_true q,Int.ediv_eq_zero_of_lt h q];rfl
 · rw [decide_eq_false q]
   have:n / 2 ^ k ≠ 0:=fun e=>q (by
    have h1:=Int.ediv_mul_add_emod n (2 ^ k);have h2:=Int.emod_lt_of_pos n hp;rw [e] at h1;omega)
   simpa using this
theorem Ke {o p j k v:Int} (h:¬ (0 <= o /\ o < 4194304 /\ 1 <= p /\ p <= 1048575 /\ 0 <= j /\ j <= 3 /\ 0 <= k /\ k <= 7 /\ 0 <= v /\ v <= 255)):Q8 ⟨o,p,j,k,v⟩=false:=decide_eq_false h
theorem Kf {o p j k v:Int} (h:0 <= o /\ o < 4194304 /\ 1 <= p /\ p <= 1048575 /\ 0 <= j /\ j <= 3 /\ 0 <= k /\ k <= 7 /\ 0 <= v /\ v <= 255):Q8 ⟨o,p,j,k,v⟩=true:=decide_eq_true h
def QlW (n:Int) (a:Int) (b:Int):Option (Bool × D RC):=some (decide (0 <= a /\ 0 <= b /\ b <= 63),.bool (decide (a <= n /\ n < 2 ^ b.toNat)))
def QgU:List (D RC)->Option (Bool × D RC)
 | [.int .i64 n,.int .i64 a,.int .i64 b]=>QlW n a b
 | _=>none
noncomputable def QlX (n:Int) (a:Int) (b:Int):=evF s28 ug_8 20 186 [.int .i64 n,.int .i64 a,.int .i64 b]
theorem QoP (n:Int) (a:Int) (b:Int):QlX n a b=(bif decide (a <= n) then bif decide (b < (0:Int)) then none else some (D.bool (Int.fdiv n ((2:Int) ^ min b.toNat (64:Nat)) == (0:Int))) else some (D.bool false)):=by kernel_rfl
theorem QoQ (n:Int) (a:Int) (b:Int) (h:(decide (0 <= a /\ 0 <= b /\ b <= 63))=true):QlX n a b=some (.bool (decide (a <= n /\ n < 2 ^ b.toNat))):=by
 rw [QoP];obtain ⟨h1,h2,h3⟩:=of_decide_eq_true h;have hm:min b.toNat 64=b.toNat:=by omega
 rw [decide_eq_false (show ¬ b < 0 by omega),hm]
 simp only [cond_false];refine Qx (fun q=>?_) fun q=>?_
 · have q:=of_decide_eq_true q;rw [QsH _ (by omega)]
   by_cases q2:n < 2 ^ b.toNat
   · rw [decide_eq_true q2,decide_eq_true (show a <= n /\ n < 2 ^ b.toNat from ⟨q,q2⟩)]
   · rw [decide_eq_false q2,decide_eq_false (fun e=>q2 e.2)]
 · have q:=of_decide_eq_false q;rw [decide_eq_false (fun e=>q e.1)]
noncomputable def uh_1:=ug_8.addSpec 186 QgU
theorem QlY:Qh Tryz.prog s28 uh_1:=QlV.addEv Qc fun args d h=>by
 unfold QgU at h
 split at h
 · unfold QlW at h;have h1:=congrArg Prod.fst (Option.some.inj h);obtain rfl:_=d:=congrArg Prod.snd (Option.some.inj h);exact ⟨by simp [D.refs],20,QoQ _ _ _ h1⟩
 · cases h
def QlZ (o:Int) (p:Int) (j:Int) (k:Int) (v:Int):Option (Bool × D RC):=some (true,.bool (Q8 ⟨o,p,j,k,v⟩))
def QgV:List (D RC)->Option (Bool × D RC)
 | [.acons (.int .i64 o) (.acons (.int .i64 p) (.acons (.int .i64 j) (.acons (.int .i64 k) (.acons (.int .i64 v) .anil))))]=>QlZ o p j k v
 | _=>none
noncomputable def Ql0 (o:Int) (p:Int) (j:Int) (k:Int) (v:Int):=evF s28 uh_1 40 129 [.acons (.int .i64 o) (.acons (.int .i64 p) (.acons (.int .i64 j) (.acons (.int .i64 k) (.acons (.int .i64 v) .anil))))]
theorem QoR (o:Int) (p:Int) (j:Int) (k:Int) (v:Int):Ql0 o p j k v=(let Z0:DO_:=some (D.bool false);bif decide ((0:Int) <= o) then bif decide (o < (4194304:Int)) then bif decide ((1:Int) <= p) then bif decide (p <= (1048575:Int)) then bif decide ((0:Int) <= j) then bif decide (j < (4:Int)) then bif decide ((0:Int) <= k) then bif decide (k < (8:Int)) then bif decide ((0:Int) <= v) then some (D.bool (decide (v <= (255:Int)))) else Z0 else Z0 else Z0 else Z0 else Z0 else Z0 else Z0 else Z0 else Z0):=by kernel_rfl
theorem QoS (o:Int) (p:Int) (j:Int) (k:Int) (v:Int) (h:(true)=true):Ql0 o p j k v=some (.bool (Q8 ⟨o,p,j,k,v⟩)):=by
 (rw [QoR];conv=>zeta)
 have no:(¬ (0 <= o /\ o < 4194304 /\ 1 <= p /\ p <= 1048575 /\ 0 <= j /\ j <= 3 /\ 0 <= k /\ k <= 7 /\ 0 <= v /\ v <= 255))->some (D.bool (C:=RC) false)=some (.bool (Q8 ⟨o,p,j,k,v⟩)):=fun e=>by rw [Ke e]
 iterate 9
  refine Qx (fun _=>?_) fun e=>no (by simp only [decide_eq_false_iff_not] at e;omega)
 simp only [decide_eq_true_eq] at *
 by_cases q:v <= 255
 · rw [decide_eq_true q,Kf (by omega)]
 · rw [decide_eq_false q];exact no (by omega)
noncomputable def uh_2:=uh_1.addSpec 129 QgV
theorem Ql1:Qh Tryz.prog s28 uh_2:=QlY.addEv Qc fun args d h=>by
 unfold QgV at h
 split at h
 · unfold QlZ at h;have h1:=congrArg Prod.fst (Option.some.inj h);obtain rfl:_=d:=congrArg Prod.snd (Option.some.inj h);exact ⟨by simp [D.refs],40,QoS _ _ _ _ _ h1⟩
 · cases h
def QgW (o:Int) (p:Int) (j:Int) (k:Int) (v:Int):Option (Bool × D RC):=some (true,.tup (.acons (.int .i64 (wordO ⟨o,p,j,k,v⟩)) (.acons (.int .i64 (bif Q8 ⟨o,p,j,k,v⟩ then 0 else 2)) .anil)))
def Qd3:List (D RC)->Option (Bool × D RC)
 | [.acons (.int .i64 o) (.acons (.int .i64 p) (.acons (.int .i64 j) (.acons (.int .i64 k) (.acons (.int .i64 v) .anil))))]=>QgW o p j k v
 | _=>none
noncomputable def QgX (o:Int) (p:Int) (j:Int) (k:Int) (v:Int):=evF s28 uh_2 60 117 [.acons (.int .i64 o) (.acons (.int .i64 p) (.acons (.int .i64 j) (.acons (.int .i64 k) (.acons (.int .i64 v) .anil))))]
theorem Ql2 (o:Int) (p:Int) (j:Int) (k:Int) (v:Int):QgX o p j k v=(let Z0:D RC:=D.int .i64 0;let Z1:DO_:=some (D.tup (D.acons Z0 (D.acons (D.int .i64 2) .anil)));bif decide ((0:Int) <= o /\ o < (4194304:Int)) then bif decide ((1:Int) <= p /\ p < (1048576:Int)) then bif decide ((0:Int) <= j /\ j < (4:Int)) then bif decide ((0:Int) <= k /\ k < (8:Int)) then bif !decide ((0:Int) <= v /\ v < (256:Int)) then Z1 else some (D.tup (D.acons (D.int .i64 (bits .i64 (fun (x:Nat) (u v:BitVec x)=>u ||| v) (bits .i64 (fun (x:Nat) (u v:BitVec x)=>u ||| v) (bits .i64 (fun (x:Nat) (u v:BitVec x)=>u ||| v) (bits .i64 (fun (x:Nat) (u v:BitVec x)=>u ||| v) (IntKind.wrap .i64 (IntKind.wrap .i64 (o+(1:Int)) * (8589934592:Int))) (IntKind.wrap .i64 (p * (8192:Int)))) (IntKind.wrap .i64 (j * (2048:Int)))) (IntKind.wrap .i64 (k * (256:Int)))) v)) (.acons Z0 .anil))) else Z1 else Z1 else Z1 else Z1):=by kernel_rfl
theorem Ql3 (o:Int) (p:Int) (j:Int) (k:Int) (v:Int) (h:(true)=true):QgX o p j k v=some (.tup (.acons (.int .i64 (wordO ⟨o,p,j,k,v⟩)) (.acons (.int .i64 (bif Q8 ⟨o,p,j,k,v⟩ then 0 else 2)) .anil))):=by
 (rw [Ql2];conv=>zeta)
 have no:(¬ (0 <= o /\ o < 4194304 /\ 1 <= p /\ p <= 1048575 /\ 0 <= j /\ j <= 3 /\ 0 <= k /\ k <= 7 /\ 0 <= v /\ v <= 255))->some (D.tup (C:=RC) (.acons (.int .i64 0) (.acons (.int .i64 2) .anil)))=some (.tup (.acons (.int .i64 (wordO ⟨o,p,j,k,v⟩)) (.acons (.int .i64 (bif Q8 ⟨o,p,j,k,v⟩ then 0 else 2)) .anil))):=fun e=>by simp only [wordO,Ke e];rfl
 iterate 4
  refine Qx (fun _=>?_) fun e=>no (by simp only [decide_eq_false_iff_not] at e;omega)
 refine Qx (fun e=>no (by simp only [Bool.not_eq_true',decide_eq_false_iff_not] at e;omega)) fun e=>?_
 simp only [Bool.not_eq_false',decide_eq_true_eq] at *
 have hm:Q8 ⟨o,p,j,k,v⟩=true:=Kf (by omega)
 have w1:IntKind.i64.wrap (o+1)=o+1:=wrap_id (by omega) (by omega)
 have w2:IntKind.i64.wrap ((o+1) * 8589934592)=(o+1) * 8589934592:=wrap_id (by omega) (by omega)
 have w3:IntKind.i64.wrap (p * 8192)=p * 8192:=wrap_id (by omega) (by omega)
 have w4:IntKind.i64.wrap (j * 2048)=j * 2048:=wrap_id (by omega) (by omega)
 have w5:IntKind.i64.wrap (k * 256)=k * 256:=wrap_id (by omega) (by omega)
 simp only [wordO,hm,w1,w2,w3,w4,w5,cond_true,QoE hm]
noncomputable def uh_3:=uh_2.addSpec 117 Qd3
theorem Ql4:Qh Tryz.prog s28 uh_3:=Ql1.addEv Qc fun args d h=>by
 unfold Qd3 at h
 split at h
 · unfold QgW at h;have h1:=congrArg Prod.fst (Option.some.inj h);obtain rfl:_=d:=congrArg Prod.snd (Option.some.inj h);exact ⟨by simp [D.refs],60,Ql3 _ _ _ _ _ h1⟩
 · cases h
def QgY (o:Int) (p:Int) (j:Int) (k:Int) (v:Int):Option (Bool × D RC):=some (true,.tup (.acons (.int .i64 (wordO ⟨o,p,j,k,v⟩)) (.acons (.int .i64 (bif Q8 ⟨o,p,j,k,v⟩ then 0 else 2)) .anil)))
def Qd4:List (D RC)->Option (Bool × D RC)
 | [.acons (.int .i64 o) (.acons (.int .i64 p) (.acons (.int .i64 j) (.acons (.int .i64 k) (.acons (.int .i64 v) .anil))))]=>QgY o p j k v
 | _=>none
noncomputable def QgZ (o:Int) (p:Int) (j:Int) (k:Int) (v:Int):=evF s28 uh_3 60 68 [.acons (.int .i64 o) (.acons (.int .i64 p) (.acons (.int .i64 j) (.acons (.int .i64 k) (.acons (.int .i64 v) .anil))))]
theorem Ql5 (o:Int) (p:Int) (j:Int) (k:Int) (v:Int):QgZ o p j k v=(let Z0:D RC:=D.int .i64 0;bif !Q8 (Line.mk o p j k v) then some (D.tup (D.acons Z0 (D.acons (D.int .i64 2) .anil))) else some (D.tup (D.acons (D.int .i64 (IntKind.wrap .i64 (IntKind.wrap .i64 (IntKind.wrap .i64 (IntKind.wrap .i64 (IntKind.wrap .i64 (IntKind.wrap .i64 (IntKind.wrap .i64 (o+(1:Int)) * (1048576:Int))+p) * (8192:Int))+IntKind.wrap .i64 (j * (2048:Int)))+IntKind.wrap .i64 (k * (256:Int)))+v))) (.acons Z0 .anil)))):=by kernel_rfl
theorem Ql6 (o:Int) (p:Int) (j:Int) (k:Int) (v:Int) (h:(true)=true):QgZ o p j k v=some (.tup (.acons (.int .i64 (wordO ⟨o,p,j,k,v⟩)) (.acons (.int .i64 (bif Q8 ⟨o,p,j,k,v⟩ then 0 else 2)) .anil))):=by
 (rw [Ql5];conv=>zeta)
 by_cases q:0 <= o /\ o < 4194304 /\ 1 <= p /\ p <= 1048575 /\ 0 <= j /\ j <= 3 /\ 0 <= k /\ k <= 7 /\ 0 <= v /\ v <= 255
 · have hm:=Kf q;have w1:IntKind.i64.wrap (o+1)=o+1:=wrap_id (by omega) (by omega)
   have w2:IntKind.i64.wrap ((o+1) * 1048576)=(o+1) * 1048576:=wrap_id (by omega) (by omega)
   have w3:IntKind.i64.wrap ((o+1) * 1048576+p)=(o+1) * 1048576+p:=wrap_id (by omega) (by omega)
   have w4:IntKind.i64.wrap (((o+1) * 1048576+p) * 8192)=((o+1) * 1048576+p) * 8192:=wrap_id (by omega) (by omega)
   have w5:IntKind.i64.wrap (j * 2048)=j * 2048:=wrap_id (by omega) (by omega)
   have w6:IntKind.i64.wrap (((o+1) * 1048576+p) * 8192+j * 2048)=((o+1) * 1048576+p) * 8192+j * 2048:=wrap_id (by omega) (by omega)
   have w7:IntKind.i64.wrap (k * 256)=k * 256:=wrap_id (by omega) (by omega)
   have w8:IntKind.i64.wrap (((o+1) * 1048576+p) * 8192+j * 2048+k * 256)=((o+1) * 1048576+p) * 8192+j * 2048+k * 256:=wrap_id (by omega) (by omega)
   have w9:IntKind.i64.wrap (((o+1) * 1048576+p) * 8192+j * 2048+k * 256+v)=QlA ⟨o,p,j,k,v⟩:=by rw [wrap_id (by omega) (by omega)];unfold QlA;simp only;omega
   simp only [wordO,hm,w1,w2,w3,w4,w5,w6,w7,w8,w9,cond_true,Bool.not_true,cond_false]
 · have hm:=Ke q;simp only [wordO,hm,Bool.not_false,cond_true,cond_false]
noncomputable def uh_4:=uh_3.addSpec 68 Qd4
theorem Ql7:Qh Tryz.prog s28 uh_4:=Ql4.addEv Qc fun args d h=>by
 unfold Qd4 at h
 split at h
 · unfold QgY at h;have h1:=congrArg Prod.fst (Option.some.inj h);obtain rfl:_=d:=congrArg Prod.snd (Option.some.inj h);exact ⟨by simp [D.refs],60,Ql6 _ _ _ _ _ h1⟩
 · cases h
theorem Qg0 {w:Int} (h0:0 <= w) (h1:w < 9223372036854775808) :
 IntKind.i64.wrap (w.fdiv 8589934592 - 1)=(KJ w).offset /\ bits .i64 (fun _ u v=>u &&& v) (w.fdiv 8192) 1048575=(KJ w).place /\ bits .i64 (fun _ u v=>u &&& v) (w.fdiv 2048) 3=(KJ w).j /\
 bits .i64 (fun _ u v=>u &&& v) (w.fdiv 256) 7=(KJ w).key /\ bits .i64 (fun _ u v=>u &&& v) w 255=(KJ w).value:=by
 have f1:w.fdiv 8589934592=w / 8589934592:=Int.fdiv_eq_ediv_of_nonneg _ (by decide)
 have f2:w.fdiv 8192=w / 8192:=Int.fdiv_eq_ediv_of_nonneg _ (by decide)
 have f3:w.fdiv 2048=w / 2048:=Int.fdiv_eq_ediv_of_nonneg _ (by decide)
 have f4:w.fdiv 256=w / 256:=Int.fdiv_eq_ediv_of_nonneg _ (by decide)
 rw [f1,f2,f3,f4];refine ⟨wrap_id (by omega) (by omega),?_,?_,?_,?_⟩
 · exact ZS _ 1048575 20 (by decide) (by omega) (by omega) (by decide)
 · exact ZS _ 3 2 (by decide) (by omega) (by omega) (by decide)
 · exact ZS _ 7 3 (by decide) (by omega) (by omega) (by decide)
 · exact ZS _ 255 8 (by decide) (by omega) (by omega) (by decide)
theorem Qd5 {w:Int} (h:w < 0):YO w=none:=if_neg (fun e=>by omega)
theorem Qd6 {w:Int} (h:0 <= w) (hm:Q8 (KJ w)=true):YO w=some (KJ w):=if_pos ⟨h,hm⟩
theorem Qg1 {w:Int} (hm:Q8 (KJ w)=false):YO w=none:=if_neg (fun e=>by rw [hm] at e;cases e.2)
def Qg2 (w:Int):Option (Bool × D RC):=some (decide (w < 9223372036854775808),.tup (.acons (.acons (.int .i64 (readO w).offset) (.acons (.int .i64 (readO w).place) (.acons (.int .i64 (readO w).j) (.acons (.int .i64 (readO w).key) (.acons (.int .i64 (readO w).value) .anil))))) (.acons (.bool (YO w).isSome) .anil)))
def Qd7:List (D RC)->Option (Bool × D RC)
 | [.int .i64 w]=>Qg2 w
 | _=>none
noncomputable def Qg3 (w:Int):=evF s28 uh_4 60 131 [.int .i64 w]
theorem Ql8 (w:Int):Qg3 w=(let Z0:D RC:=D.int .i64 0;let Z1:DO_:=some (D.tup (D.acons (D.acons Z0 (D.acons Z0 (D.acons Z0 (D.acons Z0 (D.acons Z0 .anil))))) (.acons (D.bool false) .anil)));let Z2:Int:=IntKind.wrap .i64 (Int.fdiv w (8589934592:Int) - (1:Int));let Z3:Int:=bits .i64 (fun (x:Nat) (u v:BitVec x)=>u &&& v) (Int.fdiv w (8192:Int)) (1048575:Int);let Z4:Int:=bits .i64 (fun (x:Nat) (u v:BitVec x)=>u &&& v) (Int.fdiv w (2048:Int)) (3:Int);let Z5:Int:=bits .i64 (fun (x:Nat) (u v:BitVec x)=>u &&& v) (Int.fdiv w (256:Int)) (7:Int);let Z6:Int:=bits .i64 (fun (x:Nat) (u v:BitVec x)=>u &&& v) w (255:Int);bif decide (w < (0:Int)) then Z1 else bif decide ((0:Int) <= Z2 /\ Z2 < (4194304:Int)) then bif decide ((1:Int) <= Z3 /\ Z3 < (1048576:Int)) then bif decide ((0:Int) <= Z4 /\ Z4 < (4:Int)) then bif decide ((0:Int) <= Z5 /\ Z5 < (8:Int)) then bif !decide ((0:Int) <= Z6 /\ Z6 < (256:Int)) then Z1 else some (D.tup (D.acons (D.acons (D.int .i64 Z2) (.acons (D.int .i64 Z3) (.acons (D.int .i64 Z4) (.acons (D.int .i64 Z5) (.acons (D.int .i64 Z6) .anil))))) (.acons (D.bool true) .anil))) else Z1 else Z1 else Z1 else Z1):=by kernel_rfl
theorem Ql9 (w:Int) (h:(decide (w < 9223372036854775808))=true):Qg3 w=some (.tup (.acons (.acons (.int .i64 (readO w).offset) (.acons (.int .i64 (readO w).place) (.acons (.int .i64 (readO w).j) (.acons (.int .i64 (readO w).key) (.acons (.int .i64 (readO w).value) .anil))))) (.acons (.bool (YO w).isSome) .anil))):=by
 (rw [Ql8];conv=>zeta)
 have h1:=of_decide_eq_true h;have no:YO w=none->some (D.tup (C:=RC) (.acons (.acons (.int .i64 0) (.acons (.int .i64 0) (.acons (.int .i64 0) (.acons (.int .i64 0) (.acons (.int .i64 0) .anil))))) (.acons (.bool false) .anil)))=some (.tup (.acons (.acons (.int .i64 (readO w).offset) (.acons (.int .i64 (readO w).place) (.acons (.int .i64 (readO w).j) (.acons (.int .i64 (readO w).key) (.acons (.int .i64 (readO w).value) .anil))))) (.acons (.bool (YO w).isSome) .anil))):=fun e=>by simp only [readO,e];rfl
 refine Qx (fun q=>no (Qd5 (of_decide_eq_true q))) fun q=>?_;have q:=of_decide_eq_false q;obtain ⟨a1,a2,a3,a4,a5⟩:=Qg0 (by omega) h1
 rw [a1,a2,a3,a4,a5];generalize hl:KJ w=l;have no2:Q8 l=false->YO w=none:=fun e=>Qg1 (by rw [hl];exact e)
 obtain ⟨o,p,j,k,v⟩:=l;have no3:¬ (0 <= o /\ o < 4194304 /\ 1 <= p /\ p <= 1048575 /\ 0 <= j /\ j <= 3 /\ 0 <= k /\ k <= 7 /\ 0 <= v /\ v <= 255)->YO w=none:=fun e=>no2 (Ke e);simp only
 iterate 4
  refine Qx (fun _=>?_) fun e=>no (no3 (by simp only [decide_eq_false_iff_not] at e;omega))
 refine Qx (fun e=>no (no3 (by simp only [Bool.not_eq_true',decide_eq_false_iff_not] at e;omega))) fun e=>?_
 simp only [Bool.not_eq_false',decide_eq_true_eq] at *
 have hm:Q8 (KJ w)=true:=by rw [hl];exact Kf (by omega)
 simp only [readO,Qd6 (by omega) hm,Option.getD_some,hl]
 rfl
noncomputable def uh_5:=uh_4.addSpec 131 Qd7
theorem Qma:Qh Tryz.prog s28 uh_5:=Ql7.addEv Qc fun args d h=>by
 unfold Qd7 at h
 split at h
 · unfold Qg2 at h;have h1:=congrArg Prod.fst (Option.some.inj h);obtain rfl:_=d:=congrArg Prod.snd (Option.some.inj h);exact ⟨by simp [D.refs],60,Ql9 _ h1⟩
 · cases h
def Qg4 (w:Int):Option (Bool × D RC):=some (decide (w < 9223372036854775808),.tup (.acons (.acons (.int .i64 (readO w).offset) (.acons (.int .i64 (readO w).place) (.acons (.int .i64 (readO w).j) (.acons (.int .i64 (readO w).key) (.acons (.int .i64 (readO w).value) .anil))))) (.acons (.bool (YO w).isSome) .anil)))
def Qd8:List (D RC)->Option (Bool × D RC)
 | [.int .i64 w]=>Qg4 w
 | _=>none
noncomputable def Qg5 (w:Int):=evF s28 uh_5 60 135 [.int .i64 w]
theorem Qmb (w:Int):Qg5 w=(let Z0:D RC:=D.int .i64 0;let Z1:DO_:=some (D.tup (D.acons (D.acons Z0 (D.acons Z0 (D.acons Z0 (D.acons Z0 (D.acons Z0 .anil))))) (.acons (D.bool false) .anil)));let Z2:Int:=IntKind.wrap .i64 (Int.fdiv w (8589934592:Int) - (1:Int));let Z3:Int:=bits .i64 (fun (x:Nat) (u v:BitVec x)=>u &&& v) (Int.fdiv w (8192:Int)) (1048575:Int);let Z4:Int:=bits .i64 (fun (x:Nat) (u v:BitVec x)=>u &&& v) (Int.fdiv w (2048:Int)) (3:Int);let Z5:Int:=bits .i64 (fun (x:Nat) (u v:BitVec x)=>u &&& v) (Int.fdiv w (256:Int)) (7:Int);let Z6:Int:=bits .i64 (fun (x:Nat) (u v:BitVec x)=>u &&& v) w (255:Int);bif decide (w < (0:Int)) then Z1 else bif !Q8 (Line.mk Z2 Z3 Z4 Z5 Z6) then Z1 else some (D.tup (D.acons (D.acons (D.int .i64 Z2) (.acons (D.int .i64 Z3) (.acons (D.int .i64 Z4) (.acons (D.int .i64 Z5) (.acons (D.int .i64 Z6) .anil))))) (.acons (D.bool true) .anil)))):=by kernel_rfl
theorem Qmc (w:Int) (h:(decide (w < 9223372036854775808))=true):Qg5 w=some (.tup (.acons (.acons (.int .i64 (readO w).offset) (.acons (.int .i64 (readO w).place) (.acons (.int .i64 (readO w).j) (.acons (.int .i64 (readO w).key) (.acons (.int .i64 (readO w).value) .anil))))) (.acons (.bool (YO w).isSome) .anil))):=by
 (rw [Qmb];conv=>zeta)
 have h1:=of_decide_eq_true h;have no:YO w=none->some (D.tup (C:=RC) (.acons (.acons (.int .i64 0) (.acons (.int .i64 0) (.acons (.int .i64 0) (.acons (.int .i64 0) (.acons (.int .i64 0) .anil))))) (.acons (.bool false) .anil)))=some (.tup (.acons (.acons (.int .i64 (readO w).offset) (.acons (.int .i64 (readO w).place) (.acons (.int .i64 (readO w).j) (.acons (.int .i64 (readO w).key) (.acons (.int .i64 (readO w).value) .anil))))) (.acons (.bool (YO w).isSome) .anil))):=fun e=>by simp only [readO,e];rfl
 refine Qx (fun q=>no (Qd5 (of_decide_eq_true q))) fun q=>?_;have q:=of_decide_eq_false q;obtain ⟨a1,a2,a3,a4,a5⟩:=Qg0 (by omega) h1
 rw [a1,a2,a3,a4,a5];cases hm:Q8 (KJ w)
 · exact Qb rfl (no (Qg1 hm))
 refine Zh rfl ?_;simp only [readO,Qd6 (by omega) hm]
 rfl
noncomputable def uh_6:=uh_5.addSpec 135 Qd8
theorem Qmd:Qh Tryz.prog s28 uh_6:=Qma.addEv Qc fun args d h=>by
 unfold Qd8 at h
 split at h
 · unfold Qg4 at h;have h1:=congrArg Prod.fst (Option.some.inj h);obtain rfl:_=d:=congrArg Prod.snd (Option.some.inj h);exact ⟨by simp [D.refs],60,Qmc _ h1⟩
 · cases h
end Go.Ev

namespace Go.Ev
theorem QoT (x:Line):Line.mk x.offset x.place x.j x.key x.value=x:=rfl
set_option linter.unusedVariables false
set_option linter.unusedSimpArgs false
structure Rd where
 c:Bool
 b:List UInt8
 bad:Bool
structure Rdr (σ:Type) where
 get:Nat->σ->Int × σ
 bad:σ->Bool
 rem:σ->List UInt8
structure QsI {σ:Type} (R:Rdr σ):Prop where
 ok:∀ w s,1 <= w->R.bad s=false->w <= (R.rem s).length->(R.get w s).1=(QrY ((R.rem s).take w):Int) /\ R.rem (R.get w s).2=(R.rem s).drop w /\ R.bad (R.get w s).2=false
 no:∀ w s,R.bad s=false->(R.rem s).length < w->R.bad (R.get w s).2=true
 stay:∀ w s,R.bad s=true->R.bad (R.get w s).2=true
section
variable {σ:Type} (R:Rdr σ)
variable {R} (K:QsI R)
include K
end
structure Rn where
 pos:Nat
 short:Bool
structure QS (σ:Type) where
 r:σ
 l0:List Line
 l1:List Line
 l2:List Line
 c0:Int
 c1:Int
 c2:Int
section
variable {σ:Type} (R:Rdr σ) (stop:Bool) (mark:σ->σ)
end
end Go.Ev

namespace Go.Ev
def st0:St:=⟨0,[],[],[],[],0,0,0⟩
def putM (m:List (Int × Int)) (k v:Int):List (Int × Int):=mput (fun a b=>decide (a=b)) k v m
def Zt (q:Int) (m:List (Int × Int)) (l:List Line):List (Int × Int):=l.foldl (fun m x=>putM (putM m (lStream q x.offset) (wordO x)) (lRow 45 q 3) (IntKind.i64.wrap (x.offset+1))) m
def ZG (c k n:Int):Int:=n % c * k+n / c
def VU (l:List Item):Bool:=l.all fun x=>decide (0 <= x.key /\ x.key <= 23 /\ 0 <= x.value /\ x.value <= 255)
def Qd9 (m:List (Int × Int)) (s:Int) (x:Item):List (Int × Int):=putM (putM (putM (putM m (lField 291 s 0 160 3) 3) (lField 291 s 1 160 3) 0) (lField 291 s 2 160 3) (IntKind.i64.wrap (IntKind.i64.wrap (x.key * 256)+x.value))) (lRow 21 x.key 24) (wordN x.place (256+s))
def QI (c k:Int):Nat->List Item->List (Int × Int)->List (Int × Int)
 | _,[],m=>m
 | n,x::l,m=>QI c k (n+1) l (Qd9 m (ZG c k n) x)
theorem Qme:((List.range 160).all fun s=>bits .i64 (fun _ u v=>u ||| v) 256 (s:Int) == 256+(s:Int))=true:=by kernel_rfl
theorem QsJ {s:Int} (h0:0 <= s) (h1:s < 160):bits .i64 (fun _ u v=>u ||| v) 256 s=256+s:=by
 have:=List.all_eq_true.1 Qme s.toNat (by simp;omega)
 rw [Int.toNat_of_nonneg h0] at this
 simpa using this
theorem Zo {c w d k:Int} (h:Zv c w d k=true):1 <= c /\ c <= 4 /\ 2 <= w /\ w <= 8 /\ 1 <= d /\ d <= 4 /\ 4 <= k /\ k <= 40:=by
 simp only [Zv,Bool.and_eq_true,Qf,decide_eq_true_eq] at h;omega
theorem Qmf {c kk k j:Int} (h0:0 <= j) (h1:j < c):ZG c kk (k * c+j)=j * kk+k:=by
 unfold ZG;have e1:(k * c+j) % c=j:=by rw [Int.add_comm,Int.add_mul_emod_self_right,Int.emod_eq_of_lt h0 h1]
 have e2:(k * c+j) / c=k:=by rw [Int.add_comm,Int.add_mul_ediv_right _ _ (by omega),Int.ediv_eq_zero_of_lt h0 h1];omega
 rw [e1,e2]
theorem QpP {c w d kk j:Int} (h:Zv c w d kk=true) (h0:0 <= j) (h1:j < c):(lOwn c w d kk j true).1=j * kk:=by
 unfold lOwn;rw [if_pos ⟨h,h0,h1⟩];rfl
theorem Vi (c k:Int):∀ (a b:List Item) (n:Nat) (m:List (Int × Int)),QI c k n (a++b) m=QI c k (n+a.length) b (QI c k n a m)
 | [],b,n,m=>rfl
 | x::a,b,n,m=>by
  simp only [List.cons_append,QI,List.length_cons];rw [Vi c k a b,show n+1+a.length=n+(a.length+1) by omega]
theorem Qfs {c k:Int} {l:List Item} {n e:Nat} {m:List (Int × Int)} (h:n+e <= l.length):QI c k (n+e) (l.drop (n+e)) (QI c k n ((l.drop n).take e) m)=QI c k n (l.drop n) m:=by
 have h1:l.drop n=(l.drop n).take e++l.drop (n+e):=by rw [<- List.drop_drop];exact (List.take_append_drop e _).symm
 have h2:((l.drop n).take e).length=e:=by simp;omega
 conv=>rhs;rw [h1,Vi,h2]
theorem Qft {c k:Int} {l:List Item} {n e t:Nat} {m:List (Int × Int)} (h:n+e <= l.length):QI c k (n+e) ((l.drop (n+e)).take t) (QI c k n ((l.drop n).take e) m)=QI c k n ((l.drop n).take (e+t)) m:=by
 have h1:(l.drop n).take (e+t)=(l.drop n).take e++(l.drop (n+e)).take t:=by rw [List.take_add,List.drop_drop]
 have h2:((l.drop n).take e).length=e:=by simp;omega
 rw [h1,Vi,h2]
def Qv (c:List Int) (m:List (Int × Int)):List Int:=m.foldl (fun c p=>c.set p.1.toNat p.2) c
def Q9 (n:Nat):List (Int × Int)->Bool
 | []=>true
 | (k,_)::l=>decide (0 <= k /\ k < n) && (l.all fun p=>decide (p.1 ≠ k)) && Q9 n l
theorem Qea {n:Nat} {k v:Int}:∀ {l1 l2:List (Int × Int)},Q9 n (l1++(k,v)::l2)=true->(0 <= k /\ k < n) /\ Q9 n (l1++l2)=true /\ (∀ p ∈ l1,p.1 ≠ k /\ 0 <= p.1)
 | [],l2,h=>by
  simp only [List.nil_append,Q9,Bool.and_eq_true,decide_eq_true_eq] at h;exact ⟨h.1.1,h.2,by simp⟩
 | (a,b)::l1,l2,h=>by
  simp only [List.cons_append,Q9,Bool.and_eq_true,decide_eq_true_eq,List.all_eq_true,List.mem_append,List.mem_cons] at h;obtain ⟨⟨h1,h2⟩,h3⟩:=h;obtain ⟨q1,q2,q3⟩:=Qea h3;refine ⟨q1,?_,fun p hp=>?_⟩
  · simp only [List.cons_append,Q9,Bool.and_eq_true,decide_eq_true_eq,List.all_eq_true,List.mem_append];exact ⟨⟨h1,fun p hp=>h2 p (hp.imp id .inr)⟩,q2⟩
  · rcases List.mem_cons.1 hp with rfl | hp
    · exact ⟨fun e=>h2 (k,v) (.inr (.inl rfl)) e.symm,h1.1⟩
    · exact q3 p hp
theorem Yx:∀ (m:List (Int × Int)) (c:List Int),(Qv c m).length=c.length
 | [],c=>rfl
 | p::m,c=>by
  have:=Yx m (c.set p.1.toNat p.2);simp only [Qv,List.foldl_cons] at this ⊢;rw [this,List.length_set]
theorem Jh {k v:Int} (h0:0 <= k):∀ (l:List (Int × Int)) (c:List Int),(∀ p ∈ l,p.1 ≠ k /\ 0 <= p.1)->Qv (c.set k.toNat v) l=(Qv c l).set k.toNat v
 | [],c,_=>rfl
 | p::l,c,h=>by
  have hp:=h p List.mem_cons_self;have:=Jh (v:=v) h0 l (c.set p.1.toNat p.2) (fun q hq=>h q (List.mem_cons_of_mem _ hq));simp only [Qv,List.foldl_cons] at this ⊢;rw [<- this,List.set_comm _ _ (by omega)]
theorem Qmg {k v:Int} {l1 l2:List (Int × Int)} (h0:0 <= k) (h:∀ p ∈ l1,p.1 ≠ k /\ 0 <= p.1) (c:List Int):Qv (c.set k.toNat v) (l1++l2)=Qv c (l1++(k,v)::l2):=by
 have e:=Jh (v:=v) h0 l1 c h;simp only [Qv,List.foldl_append,List.foldl_cons] at e ⊢;rw [e]
open Go.Proofs
set_option maxRecDepth 100000
set_option linter.unusedVariables false
set_option linter.unusedSimpArgs false
def nst:Nat->List Int
 | 0=>(List.replicate 771 0).set 1 1
 | i+1=>(nst i).set (292+3 * i) (-1)
theorem Qfu:∀ i,(nst i).length=771
 | 0=>by unfold nst;rw [List.length_set,List.length_replicate]
 | i+1=>by unfold nst;rw [List.length_set];exact Qfu i
theorem Qmh:nst 160=Jg:=by kernel_rfl
theorem Qsb:∃ l,l=Jg:=⟨Jg,rfl⟩
noncomputable def nC:List Int:=Classical.choose Qsb
theorem QoU:nC=Jg:=Classical.choose_spec Qsb
theorem Qmi {i:Nat} (h:i < 160):lField 291 (i:Int) 1 160 3=292+3 * i:=by
 unfold lField;rw [if_pos (by omega)];omega
structure Qg6 where
 i:Nat
 l:List Int
noncomputable def Qfv (i:Nat) (l:List Int):Env RC:=[(1,.vs 0 771),(2,.int .i64 (i:Int))]
def KK (i:Nat) (l:List Int):List (Obj RC):=[.vec .int true l]
noncomputable def Qmj (i:Nat) (l:List Int):=rndO s28 uh_6 63 4 60 1 [1,2] [] [.slot 1 0] (Qfv i l) (KK i l)
theorem QoV (i:Nat) (l:List Int):Qmj i l=(let Z0:Int:=(↑i:Int);let Z1:Bool:=Nat.beq (771:Nat) l.length;let Z2:Int:=lField (291:Int) Z0 (1:Int) (160:Int) (3:Int);bif decide (Z0 < (160:Int)) then bif Z1 && decide ((0:Int) <= Z2 /\ Z2 < (↑l.length:Int)) then bif Z1 then some ((X.normal,[(1,D.vs 0 (771:Nat)),(2,D.int .i64 (IntKind.wrap .i64 (Z0+(1:Int))))]),[some (Obj.vec RTy.int true (List.set l Z2.toNat (-1:Int)))]) else none else none else some ((X.exit (0:Nat),[]),[some (Obj.vec RTy.int true l)])):=by kernel_rfl
noncomputable def Qeb (i:Nat) (l:List Int):RT RC:=.leaf (.exit 0) [] (KK i nC)
def VV (i:Nat) (l:List Int):Prop:=i <= 160 /\ l=nst i
noncomputable def JH:QF RC Qg6 where
 k:=1
 canon q:=Qfv q.i q.l
 objs q:=KK q.i q.l
 fin q:=Qeb q.i q.l
 Inv q:=VV q.i q.l
 μ q:=160 - q.i
theorem Qfw (i:Nat) (l:List Int) (hI:VV i l):Leaf (Qmj i l) (LedR JH ⟨i,l⟩):=by
 (rw [QoV];conv=>zeta)
 unfold VV at hI;obtain ⟨h1,rfl⟩:=hI;have hl:=Qfu i
 by_cases hlt:i < 160
 · have v1:IntKind.i64.wrap ((i:Int)+1)=((i+1:Nat):Int):=by rw [wrap_id (by omega) (by omega)];simp
   have v4:=Qmi hlt;have v5:(292+3 * (i:Int)).toNat=292+3 * i:=by omega
   have d1:decide ((i:Int) < 160)=true:=decide_eq_true (by omega)
   have d4:decide (0 <= 292+3 * (i:Int) /\ 292+3 * (i:Int) < ((nst i).length:Int))=true:=decide_eq_true ⟨by omega,by omega⟩
   have d5:Nat.beq 771 (nst i).length=true:=Vd hl.symm;simp only [v1,v4,v5,d1,d4,d5,Bool.and_self,cond_true];exact Qt (S:=JH) (s:=⟨i,nst i⟩) ⟨i+1,nst (i+1)⟩ ⟨hlt,rfl⟩ (by simp only [JH];omega) rfl rfl rfl
 · have e:i=160:=by omega
   have d1:decide ((i:Int) < 160)=false:=decide_eq_false (by omega)
   rw [d1];simp only [cond_false];exact Qi (KK i nC) rfl (by rw [e,Qmh,<- QoU];rfl)
noncomputable def Qfx (env:Env RC) (os:List (Obj RC)):Option (Bool × Qg6):=match env,os with
 | [(1,.vs 0 771),(2,.int .i64 x0)],[.vec .int true l]=>Qz (true) (decide (x0=0) && decide (l=nst 0),⟨0,l⟩)
 | _,_=>none
noncomputable def ui_1:=uh_6.addLoop 63 4 (sumR s28 [.slot 1 0] [1,2] JH Qfx)
theorem Qmk:Qh Tryz.prog s28 ui_1:=by
 refine Qmd.addRoundsR Qc (by kernel_rfl) JH 60 [1,2] [] [.slot 1 0] [1,2] Qfx (fun q hI=>?_) ?_
 · obtain ⟨i,l⟩:=q;refine ⟨?_,?_,Qfw i l hI⟩
   · simp_all [Qk,JH,Qfv,KK,VV,D.refs,Obj.refs,rEnc]
   · simp_all [JH,Qeb,KK,VV,RT.refsOK,Qk,D.refs,Obj.refs,rEnc]
 · intro env os b q hd_ hb;unfold Qfx at hd_
   split at hd_
   · obtain ⟨hs,hd_⟩:=Qg hd_;cases hd_;simp only [Bool.and_eq_true,decide_eq_true_eq] at hb;obtain ⟨e0,e1⟩:=hb;subst e0;exact ⟨⟨Nat.zero_le _,e1⟩,rfl,rfl⟩
   · cases hd_
structure Qg7 where
 i:Nat
 l:List Int
noncomputable def Qfy (i:Nat) (l:List Int):Env RC:=[(1,.vs 0 771),(6,.int .i64 (i:Int))]
def KL (i:Nat) (l:List Int):List (Obj RC):=[.vec .int true l]
noncomputable def Qml (i:Nat) (l:List Int):=rndO s28 ui_1 60 4 60 1 [1,6] [] [.slot 1 0] (Qfy i l) (KL i l)
theorem QoW (i:Nat) (l:List Int):Qml i l=(let Z0:Int:=(↑i:Int);let Z1:Bool:=Nat.beq (771:Nat) l.length;let Z2:Int:=lField (291:Int) Z0 (1:Int) (160:Int) (3:Int);bif decide (Z0 < (160:Int)) then bif Z1 && decide ((0:Int) <= Z2 /\ Z2 < (↑l.length:Int)) then bif Z1 then some ((X.normal,[(1,D.vs 0 (771:Nat)),(6,D.int .i64 (IntKind.wrap .i64 (Z0+(1:Int))))]),[some (Obj.vec RTy.int true (List.set l Z2.toNat (-1:Int)))]) else none else none else some ((X.exit (0:Nat),[]),[some (Obj.vec RTy.int true l)])):=by kernel_rfl
noncomputable def Qec (i:Nat) (l:List Int):RT RC:=.leaf (.exit 0) [] (KL i nC)
def VW (i:Nat) (l:List Int):Prop:=i <= 160 /\ l=nst i
noncomputable def JI:QF RC Qg7 where
 k:=1
 canon q:=Qfy q.i q.l
 objs q:=KL q.i q.l
 fin q:=Qec q.i q.l
 Inv q:=VW q.i q.l
 μ q:=160 - q.i
theorem Qfz (i:Nat) (l:List Int) (hI:VW i l):Leaf (Qml i l) (LedR JI ⟨i,l⟩):=by
 (rw [QoW];conv=>zeta)
 unfold VW at hI;obtain ⟨h1,rfl⟩:=hI;have hl:=Qfu i
 by_cases hlt:i < 160
 · have v1:IntKind.i64.wrap ((i:Int)+1)=((i+1:Nat):Int):=by rw [wrap_id (by omega) (by omega)];simp
   have v4:=Qmi hlt;have v5:(292+3 * (i:Int)).toNat=292+3 * i:=by omega
   have d1:decide ((i:Int) < 160)=true:=decide_eq_true (by omega)
   have d4:decide (0 <= 292+3 * (i:Int) /\ 292+3 * (i:Int) < ((nst i).length:Int))=true:=decide_eq_true ⟨by omega,by omega⟩
   have d5:Nat.beq 771 (nst i).length=true:=Vd hl.symm;simp only [v1,v4,v5,d1,d4,d5,Bool.and_self,cond_true];exact Qt (S:=JI) (s:=⟨i,nst i⟩) ⟨i+1,nst (i+1)⟩ ⟨hlt,rfl⟩ (by simp only [JI];omega) rfl rfl rfl
 · have e:i=160:=by omega
   have d1:decide ((i:Int) < 160)=false:=decide_eq_false (by omega)
   rw [d1];simp only [cond_false];exact Qi (KL i nC) rfl (by rw [e,Qmh,<- QoU];rfl)
noncomputable def QfA (env:Env RC) (os:List (Obj RC)):Option (Bool × Qg7):=match env,os with
 | [(1,.vs 0 771),(6,.int .i64 x0)],[.vec .int true l]=>Qz (true) (decide (x0=0) && decide (l=nst 0),⟨0,l⟩)
 | _,_=>none
noncomputable def ui_2:=ui_1.addLoop 60 4 (sumR s28 [.slot 1 0] [1,6] JI QfA)
theorem Qmm:Qh Tryz.prog s28 ui_2:=by
 refine Qmk.addRoundsR Qc (by kernel_rfl) JI 60 [1,6] [] [.slot 1 0] [1,6] QfA (fun q hI=>?_) ?_
 · obtain ⟨i,l⟩:=q;refine ⟨?_,?_,Qfz i l hI⟩
   · simp_all [Qk,JI,Qfy,KL,VW,D.refs,Obj.refs,rEnc]
   · simp_all [JI,Qec,KL,VW,RT.refsOK,Qk,D.refs,Obj.refs,rEnc]
 · intro env os b q hd_ hb;unfold QfA at hd_
   split at hd_
   · obtain ⟨hs,hd_⟩:=Qg hd_;cases hd_;simp only [Bool.and_eq_true,decide_eq_true_eq] at hb;obtain ⟨e0,e1⟩:=hb;subst e0;exact ⟨⟨Nat.zero_le _,e1⟩,rfl,rfl⟩
   · cases hd_
structure Qmn where
 q:Int
 c:Bool
 l:List Line
 m:List (Int × Int)
 i:Nat
noncomputable def Qmo (q:Int) (c:Bool) (l:List Line) (m:List (Int × Int)) (i:Nat):Env RC:=[(0,.int .i64 q),(7,.mp 0),(15,.sl (C:=RC) .line c l),(16,.int .i64 (l.length)),(17,.int .i64 (i:Int))]
def QaU (q:Int) (c:Bool) (l:List Line) (m:List (Int × Int)) (i:Nat):List (Obj RC):=[.map .int .int m]
noncomputable def QpQ (q:Int) (c:Bool) (l:List Line) (m:List (Int × Int)) (i:Nat):=rndO s28 ui_2 58 3 40 1 [0,7,15,16,17] [] [.slot 7 0] (Qmo q c l m i) (QaU q c l m i)
theorem Qrk (q:Int) (c:Bool) (l:List Line) (m:List (Int × Int)) (i:Nat):QpQ q c l m i=(let Z0:Int:=(↑i:Int);let Z1:Int:=(↑l.length:Int);let Z2:Line:=List.getD l Z0.toNat (Line.mk (0:Int) (0:Int) (0:Int) (0:Int) (0:Int));let Z3:Int:=Line.offset Z2;bif decide (Z0 < Z1) then bif decide ((0:Int) <= Z0 /\ Z0 < Z1) then some ((X.normal,[(0,D.int .i64 q),(7,D.mp (0:Nat)),(15,D.sl RTy.line c l),(16,D.int .i64 Z1),(17,D.int .i64 (IntKind.wrap .i64 (Z0+(1:Int))))]),[some (Obj.map RTy.int RTy.int (mput (Yd s28 RTy.int) (lRow (45:Int) q (3:Int)) (IntKind.wrap .i64 (Z3+(1:Int))) (mput (Yd s28 RTy.int) (lStream q Z3) (wordO (Line.mk Z3 (Line.place Z2) (Line.j Z2) (Line.key Z2) (Line.value Z2))) m)))]) else none else some ((X.exit (0:Nat),[]),[some (Obj.map RTy.int RTy.int m)])):=by kernel_rfl
noncomputable def Qao (q:Int) (c:Bool) (l:List Line) (m:List (Int × Int)) (i:Nat):RT RC:=.leaf (.exit 0) [] (QaU q c l (Zt q m (l.drop i)) i)
def Ji (q:Int) (c:Bool) (l:List Line) (m:List (Int × Int)) (i:Nat):Prop:=i <= l.length /\ l.length <= 1000
noncomputable def Kg:QF RC Qmn where
 k:=1
 canon q:=Qmo q.q q.c q.l q.m q.i
 objs q:=QaU q.q q.c q.l q.m q.i
 fin q:=Qao q.q q.c q.l q.m q.i
 Inv q:=Ji q.q q.c q.l q.m q.i
 μ q:=q.l.length - q.i
theorem QiC (q:Int) (c:Bool) (l:List Line) (m:List (Int × Int)) (i:Nat) (hI:Ji q c l m i):Leaf (QpQ q c l m i) (LedR Kg ⟨q,c,l,m,i⟩):=by
 (rw [Qrk];conv=>zeta)
 unfold Ji at hI;obtain ⟨h1,h2⟩:=hI
 by_cases hlt:i < l.length
 · have w_succ:IntKind.i64.wrap ((i:Int)+1)=((i+1:Nat):Int):=by rw [wrap_id (by omega) (by omega)];simp
   have d_lt:decide ((i:Int) < l.length)=true:=by simp;omega
   have d_in:decide (0 <= (i:Int) /\ (i:Int) < l.length)=true:=by simp;omega
   have t_nat:((i:Int)).toNat=i:=by simp
   simp only [w_succ,d_lt,d_in,t_nat,cond_true];have hd:l.drop i=l.getD i ⟨0,0,0,0,0⟩::l.drop (i+1):=by rw [List.drop_eq_getElem_cons hlt];simp [hlt]
   generalize l.getD i ⟨0,0,0,0,0⟩=x at *
   refine Qt (S:=Kg) ⟨q,c,l,putM (putM m (lStream q x.offset) (wordO x)) (lRow 45 q 3) (IntKind.i64.wrap (x.offset+1)),i+1⟩ (show Ji q c l (putM (putM m (lStream q x.offset) (wordO x)) (lRow 45 q 3) (IntKind.i64.wrap (x.offset+1))) (i+1) from ⟨by omega,h2⟩) (by simp only [Kg];omega) ?_ rfl rfl
   simp only [Kg,Qao,QaU,hd,Zt,List.foldl_cons]
 · have d1:decide ((i:Int) < l.length)=false:=by simp;omega
   rw [d1];simp only [cond_false];have e:l.drop i=[]:=List.drop_eq_nil_of_le (by omega)
   refine Qi (QaU q c l m i) ?_ rfl;simp only [Kg,Qao,e,Zt,List.foldl_nil,RT.val]
noncomputable def Qmp (env:Env RC) (os:List (Obj RC)):Option (Bool × Qmn):=match env,os with
 | [(0,.int .i64 q),(7,.mp 0),(15,.sl .line c l),(16,.int .i64 x0),(17,.int .i64 x1)],[.map .int .int m]=>Qz (true) (decide (x0=l.length) && decide (x1=0) && decide (l.length <= 1000),⟨q,c,l,m,0⟩)
 | _,_=>none
noncomputable def ui_3:=ui_2.addLoop 58 3 (sumR s28 [.slot 7 0] [0,7,15,16,17] Kg Qmp)
theorem Qmq:Qh Tryz.prog s28 ui_3:=by
 refine Qmm.addRoundsR Qc (by kernel_rfl) Kg 40 [0,7,15,16,17] [] [.slot 7 0] [0,7,15,16,17] Qmp (fun q hI=>?_) ?_
 · obtain ⟨q,c,l,m,i⟩:=q;refine ⟨?_,?_,QiC q c l m i hI⟩
   · simp_all [Qk,Kg,Qmo,QaU,Ji,D.refs,Obj.refs,rEnc]
   · simp_all [Kg,Qao,QaU,Ji,RT.refsOK,Qk,D.refs,Obj.refs,rEnc]
 · intro env os b q hd_ hb;unfold Qmp at hd_
   split at hd_
   · obtain ⟨hs,hd_⟩:=Qg hd_;cases hd_;simp only [Bool.and_eq_true,decide_eq_true_eq] at hb;obtain ⟨⟨rfl,rfl⟩,h1⟩:=hb;exact ⟨⟨Nat.zero_le _,h1⟩,rfl,rfl⟩
   · cases hd_
open Go.Proofs
def rfC:Code->Option (Code × Code)
 | .rangeFunc _ _ a b=>some (a,b)
 | .seq a b=>(match rfC a with | some x=>some x | none=>rfC b)
 | .cond _ a b=>(match rfC a with | some x=>some x | none=>rfC b)
 | .block _ b=>rfC b
 | .loop b=>rfC b
 | .scope b=>rfC b
 | _=>none
noncomputable def rfF (f:Nat):Code × Code:=match p0.fn f with
 | some fn=>(match fn.body with
  | some b=>(match rfC b with | some x=>x | none=>(.skip,.skip))
  | none=>(.skip,.skip))
 | none=>(.skip,.skip)
noncomputable def itmA:Code:=(rfF 61).1
noncomputable def itmB:Code:=(rfF 61).2
def homO (c w d kk:Int) (ci:Bool) (l:List Item) (m:List (Int × Int)) (n:Int) (dn:Bool):List (Obj RC):=[.var 3 (.int .i64 n),.var 29 (.sl (C:=RC) .item ci l),.var 100 (.mp 3),.map .int .int m,.ctl (.lp false dn 0),.var 26 (.acons (.int .i64 c) (.acons (.int .i64 w) (.acons (.int .i64 d) (.acons (.int .i64 kk) .anil))))]
structure Qmr where
 c:Int
 w:Int
 d:Int
 kk:Int
 ci:Bool
 l:List Item
 m:List (Int × Int)
 n:Int
 k:Int
 j:Nat
noncomputable def Qms (c:Int) (w:Int) (d:Int) (kk:Int) (ci:Bool) (l:List Item) (m:List (Int × Int)) (n:Int) (k:Int) (j:Nat):Env RC:=[(0,.yl 60 [6,5,3] [16] (itmA) (itmB) (.acons (.ptr 0 []) (.acons (.ptr 2 []) (.acons (.ptr 1 []) .anil))) 4),(1,.ptr 5 []),(3,.int .i64 k),(13,.int .i64 (c:Int)),(14,.int .i64 (j:Int))]
def Qg8 (c:Int) (w:Int) (d:Int) (kk:Int) (ci:Bool) (l:List Item) (m:List (Int × Int)) (n:Int) (k:Int) (j:Nat):List (Obj RC):=[.var 3 (.int .i64 n),.var 29 (.sl (C:=RC) .item ci l),.var 100 (.mp 3),.map .int .int m,.ctl (.lp false false 0),.var 26 (.acons (.int .i64 c) (.acons (.int .i64 w) (.acons (.int .i64 d) (.acons (.int .i64 kk) .anil))))]
noncomputable def QpR (c:Int) (w:Int) (d:Int) (kk:Int) (ci:Bool) (l:List Item) (m:List (Int × Int)) (n:Int) (k:Int) (j:Nat):=rndO s28 ui_3 169 4 120 6 [0,1,3,13,14] [] [.slot 0 0,.slot 0 2,.slot 0 1,.path 2 [],.slot 0 3,.slot 1 0] (Qms c w d kk ci l m n k j) (Qg8 c w d kk ci l m n k j)
theorem Qrl (c:Int) (w:Int) (d:Int) (kk:Int) (ci:Bool) (l:List Item) (m:List (Int × Int)) (n:Int) (k:Int) (j:Nat):QpR c w d kk ci l m n k j=(let Z0:Int:=(↑j:Int);let Z1:Int:=(↑l.length:Int);let Z2:Option (Obj RC):=some (Obj.var 3 (D.int .i64 n));let Z3:Option (Obj RC):=some (Obj.var 29 (D.sl RTy.item ci l));let Z4:Option (Obj RC):=some (Obj.var 100 (D.mp (3:Nat)));let Z5:Option (Obj RC):=some (Obj.map RTy.int RTy.int m);let Z6:List (Option (Obj RC)):=[some (Obj.var 26 (.acons (D.int .i64 c) (.acons (D.int .i64 w) (.acons (D.int .i64 d) (.acons (D.int .i64 kk) .anil)))))];let Z7:Int:=IntKind.wrap .i64 (Prod.fst (lOwn c w d kk Z0 true)+k);let Z8:X × Env RC:=(X.normal,[(0,D.yl (60:Nat) [(6:Nat),(5:Nat),(3:Nat)] [(16:Nat)] itmA itmB (D.acons (D.ptr 0 []) (.acons (D.ptr 2 []) (.acons (D.ptr 1 []) .anil))) (4:Nat)),(1,D.ptr 5 []),(3,D.int .i64 k),(13,D.int .i64 c),(14,D.int .i64 (IntKind.wrap .i64 (Z0+(1:Int))))]);let Z9:Option (Obj RC):=some (Obj.var 3 (D.int .i64 (IntKind.wrap .i64 (n+1))));let Z10:Item:=List.getD l n.toNat (Item.mk (0:Int) (0:Int) (0:Int));let Z11:Int:=lRow (21:Int) (Item.key Z10) (24:Int);let Z12:List (Int × Int):=mput (Yd s28 RTy.int) (lField (291:Int) Z7 (2:Int) (160:Int) (3:Int)) (IntKind.wrap .i64 (IntKind.wrap .i64 (Item.key Z10 * (256:Int))+Item.value Z10)) (mput (Yd s28 RTy.int) (lField (291:Int) Z7 (1:Int) (160:Int) (3:Int)) (0:Int) (mput (Yd s28 RTy.int) (lField (291:Int) Z7 (0:Int) (160:Int) (3:Int)) (3:Int) m));let Z13:List (Option (Obj RC)):=some (Obj.ctl (Ctl.lp false false (0:Nat)))::Z6;let Z14:RO_:=some (Z8,Z9::Z3::Z4::some (Obj.map RTy.int RTy.int (mput (Yd s28 RTy.int) Z11 (wordN (Item.place Z10) (0:Int)) Z12))::Z13);bif decide (Z0 < c) then bif Qd l.length then bif n == Z1 then some ((X.ret,[]),Z2::Z3::Z4::Z5::some (Obj.ctl (Ctl.lp false true (0:Nat)))::Z6) else bif decide ((0:Int) <= n /\ n < Z1) then bif decide (Z7 < (0:Int)) then Z14 else bif decide ((256:Int) <= Z7) then Z14 else some (Z8,Z9::Z3::Z4::some (Obj.map RTy.int RTy.int (mput (Yd s28 RTy.int) Z11 (wordN (Item.place Z10) (bits .i64 (fun (x:Nat) (u v:BitVec x)=>u ||| v) (256:Int) Z7)) Z12))::Z13) else none else none else some ((X.exit (2:Nat),[]),Z2::Z3::Z4::Z5::Z13)):=by kernel_rfl
noncomputable def Kh (c:Int) (w:Int) (d:Int) (kk:Int) (ci:Bool) (l:List Item) (m:List (Int × Int)) (n:Int) (k:Int) (j:Nat):RT RC:=.br (decide ((l.length:Int) - n < c - j)) (.leaf .ret [] (homO c w d kk ci l (QI c kk n.toNat (l.drop n.toNat) m) l.length true)) (.leaf (.exit 2) [] (homO c w d kk ci l (QI c kk n.toNat ((l.drop n.toNat).take (c - j).toNat) m) (n+(c - j)) false))
def Ki (c:Int) (w:Int) (d:Int) (kk:Int) (ci:Bool) (l:List Item) (m:List (Int × Int)) (n:Int) (k:Int) (j:Nat):Prop:=Zv c w d kk=true /\ 0 <= k /\ k < kk /\ (j:Int) <= c /\ n=k * c+j /\ n <= l.length /\ l.length <= 1000 /\ VU l=true
noncomputable def Jr:QF RC Qmr where
 k:=6
 canon q:=Qms q.c q.w q.d q.kk q.ci q.l q.m q.n q.k q.j
 objs q:=Qg8 q.c q.w q.d q.kk q.ci q.l q.m q.n q.k q.j
 fin q:=Kh q.c q.w q.d q.kk q.ci q.l q.m q.n q.k q.j
 Inv q:=Ki q.c q.w q.d q.kk q.ci q.l q.m q.n q.k q.j
 μ q:=(q.c - q.j).toNat
theorem QiD (c:Int) (w:Int) (d:Int) (kk:Int) (ci:Bool) (l:List Item) (m:List (Int × Int)) (n:Int) (k:Int) (j:Nat) (hI:Ki c w d kk ci l m n k j):Leaf (QpR c w d kk ci l m n k j) (LedR Jr ⟨c,w,d,kk,ci,l,m,n,k,j⟩):=by
 (rw [Qrl];conv=>zeta)
 unfold Ki at hI;obtain ⟨ok,k0,k1,j1,hn,n1,l1,ib⟩:=hI;obtain ⟨c1,c4,_,_,_,_,q4,q40⟩:=Zo ok;have lk:Qd l.length=true:=Ql (by omega)
 have kc0:0 <= k * c:=Int.mul_nonneg k0 (by omega)
 by_cases hj:(j:Int) < c
 · rw [decide_eq_true hj];simp only [lk,cond_true]
   by_cases he:n=l.length
   · have hb:(n == (l.length:Int))=true:=by simpa using he
     have e0:l.drop n.toNat=[]:=List.drop_eq_nil_of_le (by omega)
     rw [hb];simp only [cond_true];refine QG (homO c w d kk ci l m n true) ?_ rfl;have d1:decide ((l.length:Int) - n < c - j)=true:=by simp;omega
     simp only [Jr,Kh,RT.val,d1,cond_true,e0,QI];rw [<- he]
   · have hb:(n == (l.length:Int))=false:=by simpa using he
     have d2:decide (0 <= n /\ n < (l.length:Int))=true:=by simp;omega
     have own:=QpP ok (Int.natCast_nonneg j) hj;have p0:0 <= (j:Int) * kk:=Int.mul_nonneg (by omega) (by omega)
     have p1:(j:Int) * kk <= 3 * 40:=Int.mul_le_mul (by omega) (by omega) (by omega) (by omega)
     have w1:IntKind.i64.wrap ((j:Int) * kk+k)=(j:Int) * kk+k:=wrap_id (by omega) (by omega)
     have w2:IntKind.i64.wrap (n+1)=n+1:=wrap_id (by omega) (by omega)
     have w3:IntKind.i64.wrap ((j:Int)+1)=((j+1:Nat):Int):=by rw [wrap_id (by omega) (by omega)];simp
     have d3:decide ((j:Int) * kk+k < 0)=false:=by simp;omega
     have d4:decide (256 <= (j:Int) * kk+k)=false:=by simp;omega
     have o1:=QsJ (s:=(j:Int) * kk+k) (by omega) (by omega)
     have hd:l.drop n.toNat=l.getD n.toNat ⟨0,0,0⟩::l.drop (n.toNat+1):=by rw [List.drop_eq_getElem_cons (by omega)];simp [show n.toNat < l.length by omega]
     simp only [hb,d2,own,w1,w2,w3,d3,d4,o1,cond_true,cond_false];generalize l.getD n.toNat ⟨0,0,0⟩=x at *;have hh:ZG c kk (n.toNat:Int)=(j:Int) * kk+k:=by rw [Int.toNat_of_nonneg (by omega),hn];exact Qmf (Int.natCast_nonneg j) hj
     refine Qt (S:=Jr) ⟨c,w,d,kk,ci,l,Qd9 m ((j:Int) * kk+k) x,n+1,k,j+1⟩ (show Ki c w d kk ci l (Qd9 m ((j:Int) * kk+k) x) (n+1) k (j+1) from ⟨ok,k0,k1,by omega,by omega,by omega,l1,ib⟩) (by simp only [Jr];omega) ?_ rfl rfl
     have n1:(n+1).toNat=n.toNat+1:=by omega
     have n2:(c - (j:Int)).toNat=(c - ((j+1:Nat):Int)).toNat+1:=by omega
     have n3:n+1+(c - ((j+1:Nat):Int))=n+(c - j):=by omega
     have n4:decide ((l.length:Int) - (n+1) < c - ((j+1:Nat):Int))=decide ((l.length:Int) - n < c - j):=decide_eq_decide.2 (by omega)
     simp only [Jr,Kh,hd,n1,n2,n3,n4,List.take_succ_cons,QI,hh]
 · have d0:decide ((j:Int) < c)=false:=by simpa using hj
   rw [d0];simp only [cond_false];have e1:c - (j:Int)=0:=by omega
   have d1:decide ((l.length:Int) - n < 0)=false:=by simp;omega
   refine Qi (homO c w d kk ci l m n false) ?_ rfl;simp only [Jr,Kh,RT.val,e1,d1,cond_false,Int.toNat_zero,List.take_zero,QI,Int.add_zero]
noncomputable def Qmt (env:Env RC) (os:List (Obj RC)):Option (Bool × Qmr):=match env,os with
 | [(0,.yl 60 [6,5,3] [16] x0 x1 (.acons (.ptr 0 []) (.acons (.ptr 2 []) (.acons (.ptr 1 []) .anil))) 4),(1,.ptr 5 []),(3,.int .i64 k),(13,.int .i64 x2),(14,.int .i64 x3)],[.var 3 (.int .i64 n),.var 29 (.sl .item ci l),.var 100 (.mp 3),.map .int .int m,.ctl (.lp false false 0),.var 26 (.acons (.int .i64 c) (.acons (.int .i64 w) (.acons (.int .i64 d) (.acons (.int .i64 kk) .anil))))]=>Qz (true) (cdec (x0=itmA) && cdec (x1=itmB) && decide (x2=c) && decide (x3=0) && Zv c w d kk && decide (0 <= k /\ k < kk /\ n=k * c /\ n <= l.length /\ l.length <= 1000) && VU l,⟨c,w,d,kk,ci,l,m,n,k,0⟩)
 | _,_=>none
noncomputable def uj_1:=ui_3.addLoop 169 4 (sumR s28 [.slot 0 0,.slot 0 2,.slot 0 1,.path 2 [],.slot 0 3,.slot 1 0] [0,1,3,13,14] Jr Qmt)
theorem Qmu:Qh Tryz.prog s28 uj_1:=by
 refine Qmq.addRoundsR Qc (by kernel_rfl) Jr 120 [0,1,3,13,14] [] [.slot 0 0,.slot 0 2,.slot 0 1,.path 2 [],.slot 0 3,.slot 1 0] [0,1,3,13,14] Qmt (fun q hI=>?_) ?_
 · obtain ⟨c,w,d,kk,ci,l,m,n,k,j⟩:=q;refine ⟨?_,?_,QiD c w d kk ci l m n k j hI⟩
   · simp_all [Qk,Jr,Qms,Qg8,Ki,D.refs,Obj.refs,rEnc]
   · simp [Jr,Kh,Qg8,homO,RT.refsOK,Qk,D.refs,Obj.refs]
 · intro env os b q hd_ hb;unfold Qmt at hd_
   split at hd_
   · obtain ⟨hs,hd_⟩:=Qg hd_;cases hd_;simp only [Bool.and_eq_true,decide_eq_true_eq] at hb;obtain ⟨⟨⟨⟨⟨⟨e0,e1⟩,e2⟩,e3⟩,ok⟩,h1,h2,h3,h4,h5⟩,ib⟩:=hb;have e0:=Yj.1 e0;have e1:=Yj.1 e1;subst e0;subst e1;subst e2;subst e3;obtain ⟨c1,_⟩:=Zo ok;exact ⟨⟨ok,h1,h2,Int.le_trans (show ((0:Nat):Int) <= 1 by decide) c1,by rw [h3];simp,h4,h5,ib⟩,rfl,rfl⟩
   · cases hd_
structure Qg9 where
 c:Int
 w:Int
 d:Int
 kk:Int
 ci:Bool
 l:List Item
 m:List (Int × Int)
 n:Int
 k:Nat
noncomputable def QfB (c:Int) (w:Int) (d:Int) (kk:Int) (ci:Bool) (l:List Item) (m:List (Int × Int)) (n:Int) (k:Nat):Env RC:=[(0,.yl 60 [6,5,3] [16] (itmA) (itmB) (.acons (.ptr 0 []) (.acons (.ptr 2 []) (.acons (.ptr 1 []) .anil))) 4),(1,.ptr 5 []),(8,.int .i64 (kk:Int)),(9,.int .i64 (k:Int))]
def Qcz (c:Int) (w:Int) (d:Int) (kk:Int) (ci:Bool) (l:List Item) (m:List (Int × Int)) (n:Int) (k:Nat):List (Obj RC):=[.var 3 (.int .i64 n),.var 29 (.sl (C:=RC) .item ci l),.var 100 (.mp 3),.map .int .int m,.ctl (.lp false false 0),.var 26 (.acons (.int .i64 c) (.acons (.int .i64 w) (.acons (.int .i64 d) (.acons (.int .i64 kk) .anil))))]
noncomputable def Qmv (c:Int) (w:Int) (d:Int) (kk:Int) (ci:Bool) (l:List Item) (m:List (Int × Int)) (n:Int) (k:Nat):=rndO s28 uj_1 169 1 120 6 [0,1,8,9] [] [.slot 0 0,.slot 0 2,.slot 0 1,.path 2 [],.slot 0 3,.slot 1 0] (QfB c w d kk ci l m n k) (Qcz c w d kk ci l m n k)
theorem QoX (c:Int) (w:Int) (d:Int) (kk:Int) (ci:Bool) (l:List Item) (m:List (Int × Int)) (n:Int) (k:Nat):Qmv c w d kk ci l m n k=(let Z0:Int:=(↑k:Int);let Z1:Int:=(↑l.length:Int);let Z2:Int:=c - (0:Int);let Z3:Option (Obj RC):=some (Obj.var 29 (D.sl RTy.item ci l));let Z4:Option (Obj RC):=some (Obj.var 100 (D.mp (3:Nat)));let Z5:Nat:=Int.toNat n;let Z6:List (Option (Obj RC)):=[some (Obj.var 26 (.acons (D.int .i64 c) (.acons (D.int .i64 w) (.acons (D.int .i64 d) (.acons (D.int .i64 kk) .anil)))))];let Z7:List (Option (Obj RC)):=some (Obj.ctl (Ctl.lp false false (0:Nat)))::Z6;bif decide (Z0 < kk) then bif cdec (itmA=itmA) && cdec (itmB=itmB) && decide (c=c) && true && Zv c w d kk && decide ((0:Int) <= Z0 /\ Z0 < kk /\ n=Z0 * c /\ n <= Z1 /\ List.length l <= (1000:Nat)) && VU l then bif decide (Z1 - n < Z2) then some ((X.ret,[]),some (Obj.var 3 (D.int .i64 Z1))::Z3::Z4::some (Obj.map RTy.int RTy.int (QI c kk Z5 (List.drop Z5 l) m))::some (Obj.ctl (Ctl.lp false true (0:Nat)))::Z6) else some ((X.normal,[(0,D.yl (60:Nat) [(6:Nat),(5:Nat),(3:Nat)] [(16:Nat)] itmA itmB (D.acons (D.ptr 0 []) (.acons (D.ptr 2 []) (.acons (D.ptr 1 []) .anil))) (4:Nat)),(1,D.ptr 5 []),(8,D.int .i64 kk),(9,D.int .i64 (IntKind.wrap .i64 (Z0+(1:Int))))]),some (Obj.var 3 (D.int .i64 (n+Z2)))::Z3::Z4::some (Obj.map RTy.int RTy.int (QI c kk Z5 (List.take Z2.toNat (List.drop Z5 l)) m))::Z7) else none else some ((X.exit (0:Nat),[]),some (Obj.var 3 (D.int .i64 n))::Z3::Z4::some (Obj.map RTy.int RTy.int m)::Z7)):=by kernel_rfl
noncomputable def VX (c:Int) (w:Int) (d:Int) (kk:Int) (ci:Bool) (l:List Item) (m:List (Int × Int)) (n:Int) (k:Nat):RT RC:=.br (decide ((l.length:Int) < kk * c)) (.leaf .ret [] (homO c w d kk ci l (QI c kk n.toNat (l.drop n.toNat) m) l.length true)) (.leaf (.exit 0) [] (homO c w d kk ci l (QI c kk n.toNat ((l.drop n.toNat).take (kk * c - n).toNat) m) (kk * c) false))
def VY (c:Int) (w:Int) (d:Int) (kk:Int) (ci:Bool) (l:List Item) (m:List (Int × Int)) (n:Int) (k:Nat):Prop:=Zv c w d kk=true /\ (k:Int) <= kk /\ n=k * c /\ n <= l.length /\ l.length <= 1000 /\ VU l=true
noncomputable def YP:QF RC Qg9 where
 k:=6
 canon q:=QfB q.c q.w q.d q.kk q.ci q.l q.m q.n q.k
 objs q:=Qcz q.c q.w q.d q.kk q.ci q.l q.m q.n q.k
 fin q:=VX q.c q.w q.d q.kk q.ci q.l q.m q.n q.k
 Inv q:=VY q.c q.w q.d q.kk q.ci q.l q.m q.n q.k
 μ q:=(q.kk - q.k).toNat
theorem QfC (c:Int) (w:Int) (d:Int) (kk:Int) (ci:Bool) (l:List Item) (m:List (Int × Int)) (n:Int) (k:Nat) (hI:VY c w d kk ci l m n k):Leaf (Qmv c w d kk ci l m n k) (LedR YP ⟨c,w,d,kk,ci,l,m,n,k⟩):=by
 (rw [QoX];conv=>zeta)
 unfold VY at hI;obtain ⟨ok,k1,hn,n1,l1,ib⟩:=hI;obtain ⟨c1,c4,_,_,_,_,q4,q40⟩:=Zo ok;have kc0:0 <= (k:Int) * c:=Int.mul_nonneg (by omega) (by omega)
 by_cases hk:(k:Int) < kk
 · have p1:((k:Int)+1) * c <= kk * c:=Int.mul_le_mul_of_nonneg_right (by omega) (by omega)
   have p2:=Int.add_mul (k:Int) 1 c;have q1:cdec (itmA=itmA)=true:=ZC rfl;have q2:cdec (itmB=itmB)=true:=ZC rfl;have q3:decide (0 <= (k:Int) /\ (k:Int) < kk /\ n=(k:Int) * c /\ n <= (l.length:Int) /\ l.length <= 1000)=true:=decide_eq_true ⟨by omega,hk,hn,n1,l1⟩
   have q5:decide (c=c)=true:=by simp
   have w3:IntKind.i64.wrap ((k:Int)+1)=((k+1:Nat):Int):=by rw [wrap_id (by omega) (by omega)];simp
   rw [decide_eq_true hk];simp only [q3,ok,ib,w3,ZC trivial,decide_true,Bool.and_self,cond_true,Int.sub_zero]
   by_cases hr:(l.length:Int) - n < c
   · rw [decide_eq_true hr];simp only [cond_true];have d1:decide ((l.length:Int) < kk * c)=true:=by simp;omega
     refine QG (homO c w d kk ci l (QI c kk n.toNat (l.drop n.toNat) m) l.length true) ?_ rfl;simp only [YP,VX,RT.val,d1,cond_true]
   · rw [decide_eq_false hr];simp only [cond_false];have e1:(n+c).toNat=n.toNat+c.toNat:=by omega
     have e2:(kk * c - n).toNat=c.toNat+(kk * c - (n+c)).toNat:=by omega
     have e3:((k+1:Nat):Int) * c=(k:Int) * c+c:=by rw [show ((k+1:Nat):Int)=(k:Int)+1 by simp,p2];omega
     refine Qt (S:=YP) (s:=⟨c,w,d,kk,ci,l,m,n,k⟩) ⟨c,w,d,kk,ci,l,QI c kk n.toNat ((l.drop n.toNat).take c.toNat) m,n+c,k+1⟩ (show VY c w d kk ci l (QI c kk n.toNat ((l.drop n.toNat).take c.toNat) m) (n+c) (k+1) from ⟨ok,by omega,by rw [e3];omega,by omega,l1,ib⟩) (by simp only [YP];omega) ?_ rfl rfl
     simp only [YP,VX,e1,e2,Qfs (show n.toNat+c.toNat <= l.length by omega),Qft (show n.toNat+c.toNat <= l.length by omega)]
 · have hkk:(k:Int)=kk:=by omega
   have d0:decide ((k:Int) < kk)=false:=by simpa using hk
   rw [d0];simp only [cond_false];have e0:kk * c=n:=by rw [hn,hkk]
   have d1:decide ((l.length:Int) < n)=false:=by simp;omega
   refine Qi (homO c w d kk ci l m n false) ?_ rfl;simp only [YP,VX,RT.val,e0,d1,cond_false,Int.sub_self,Int.toNat_zero,List.take_zero,QI]
noncomputable def QfD (env:Env RC) (os:List (Obj RC)):Option (Bool × Qg9):=match env,os with
 | [(0,.yl 60 [6,5,3] [16] x0 x1 (.acons (.ptr 0 []) (.acons (.ptr 2 []) (.acons (.ptr 1 []) .anil))) 4),(1,.ptr 5 []),(8,.int .i64 x2),(9,.int .i64 x3)],[.var 3 (.int .i64 n),.var 29 (.sl .item ci l),.var 100 (.mp 3),.map .int .int m,.ctl (.lp false false 0),.var 26 (.acons (.int .i64 c) (.acons (.int .i64 w) (.acons (.int .i64 d) (.acons (.int .i64 kk) .anil))))]=>Qz (true) (cdec (x0=itmA) && cdec (x1=itmB) && decide (x2=kk) && decide (x3=0) && Zv c w d kk && decide (n=0 /\ l.length <= 1000) && VU l,⟨c,w,d,kk,ci,l,m,n,0⟩)
 | _,_=>none
noncomputable def uj_2:=uj_1.addLoop 169 1 (sumR s28 [.slot 0 0,.slot 0 2,.slot 0 1,.path 2 [],.slot 0 3,.slot 1 0] [0,1,8,9] YP QfD)
theorem Qmw:Qh Tryz.prog s28 uj_2:=by
 refine Qmu.addRoundsR Qc (by kernel_rfl) YP 120 [0,1,8,9] [] [.slot 0 0,.slot 0 2,.slot 0 1,.path 2 [],.slot 0 3,.slot 1 0] [0,1,8,9] QfD (fun q hI=>?_) ?_
 · obtain ⟨c,w,d,kk,ci,l,m,n,k⟩:=q;refine ⟨?_,?_,QfC c w d kk ci l m n k hI⟩
   · simp_all [Qk,YP,QfB,Qcz,VY,D.refs,Obj.refs,rEnc]
   · simp [YP,VX,Qcz,homO,RT.refsOK,Qk,D.refs,Obj.refs]
 · intro env os b q hd_ hb;unfold QfD at hd_
   split at hd_
   · obtain ⟨hs,hd_⟩:=Qg hd_;cases hd_;simp only [Bool.and_eq_true,decide_eq_true_eq] at hb;obtain ⟨⟨⟨⟨⟨⟨e0,e1⟩,e2⟩,e3⟩,ok⟩,h1,h2⟩,ib⟩:=hb;have e0:=Yj.1 e0;have e1:=Yj.1 e1;subst e0;subst e1;subst e2;subst e3;subst h1;obtain ⟨_,_,_,_,_,_,q4,_⟩:=Zo ok;exact ⟨⟨ok,Int.le_trans (show ((0:Nat):Int) <= 4 by decide) q4,by simp,Int.natCast_nonneg _,h2,ib⟩,rfl,rfl⟩
   · cases hd_
section
variable {C:Cdc} {P:Program} {T:Tab C} {Φ:Fns C}
open Pg (Ex)
end
section
variable {C:Cdc} {P:Program} {T:Tab C} {Φ:Fns C}
open Pg (Ex)
end
section
variable {C:Cdc} {P:Program} {T:Tab C} {Φ:Fns C}
open Pg (Ex)
def D.slk:D C->D C
 | .acons d ds=>.acons d.slk ds.slk
 | .tup d=>.tup d.slk
 | .sl t _ l=>.sl t false l
 | d=>d
theorem D.slk_refs:∀ d:D C,d.slk.refs=d.refs
 | .acons d ds=>by simp [D.slk,D.refs,D.slk_refs d,D.slk_refs ds]
 | .tup d=>by simp [D.slk,D.refs,D.slk_refs d]
 | .sl _ _ _=>rfl
 | .bool _ | .int _ _ | .str _ | .anil | .arr _ _ _ | .nils | .vs _ _ | .ptr _ _ | .vptr _ _ _ | .cptr _ | .nilp | .fn _ _ | .nilfn | .nilm | .bm _ _ | .yl _ _ _ _ _ _ _ | .dsl _ _ _ | .itp _ | .mp _ | .asl _ _ _ _ _ | .top=>rfl
theorem D.slk_noYl:∀ d:D C,d.slk.noYl=d.noYl
 | .acons d ds=>by simp only [D.slk,D.noYl,D.slk_noYl d,D.slk_noYl ds]
 | .tup d=>by simp only [D.slk,D.noYl,D.slk_noYl d]
 | .sl _ _ _=>rfl
 | .bool _ | .int _ _ | .str _ | .anil | .arr _ _ _ | .nils | .vs _ _ | .ptr _ _ | .vptr _ _ _ | .cptr _ | .nilp | .fn _ _ | .nilfn | .nilm | .bm _ _ | .yl _ _ _ _ _ _ _ | .dsl _ _ _ | .itp _ | .mp _ | .asl _ _ _ _ _ | .top=>rfl
theorem D.slk_row:∀ d:D C,d.slk.isRow=d.isRow
 | .acons _ _ | .tup _ | .sl _ _ _=>rfl
 | .bool _ | .int _ _ | .str _ | .anil | .arr _ _ _ | .nils | .vs _ _ | .ptr _ _ | .vptr _ _ _ | .cptr _ | .nilp | .fn _ _ | .nilfn | .nilm | .bm _ _ | .yl _ _ _ _ _ _ _ | .dsl _ _ _ | .itp _ | .mp _ | .asl _ _ _ _ _ | .top=>rfl
theorem R.slk {X:Cx} {m:Bool} {d:D C} {vs:List Value} (h:R T X m d vs):R T X m d.slk vs:=by
 induction h with
 | acons _ _ i1 i2=>exact .acons i1 i2
 | tup _ ih=>exact .tup ih
 | sl0 t c a=>exact .sl0 t false a
 | sl ha h hc _ _=>exact .sl ha h hc (fun h=>by cases h)
 | vrow _ hr _ i1 i2=>exact .vrow i1 (by rw [D.slk_row];exact hr) i2
 | vone _ hr _ i1 i2=>exact .vone i1 (by rw [D.slk_row];exact hr) i2
 | bool b=>exact .bool b
 | int h=>exact .int h
 | str s=>exact .str s
 | anil=>exact .anil
 | arr0 t=>exact .arr0 t
 | arrS h1 h2 _ _=>exact .arrS h1 h2
 | nils=>exact .nils
 | vs h=>exact .vs h
 | ptr h=>exact .ptr h
 | vptr h=>exact .vptr h
 | cptr h1 h2 _=>exact .cptr h1 h2
 | nilp=>exact .nilp
 | fn h _=>exact .fn h
 | nilfn=>exact .nilfn
 | nilm=>exact .nilm
 | bm h1 h2 _=>exact .bm h1 h2
 | yl h1 h2 h3 _=>exact .yl h1 h2 h3
 | dsl h1 h2 h3 h4 h5 _=>exact .dsl h1 h2 h3 h4 h5
 | itp h=>exact .itp h
 | mp h=>exact .mp h
 | asl h1 h2 h3=>exact .asl h1 h2 h3
 | top v=>exact .top v
 | vnil=>exact .vnil
theorem RV.slk {X:Cx} {d:D C} {v:Value} (h:RV T X d v):RV T X d.slk v:=by
 rcases h with ⟨h1,cs,h2,h3⟩ | ⟨h1,h2⟩
 · exact .inl ⟨by rw [D.slk_row];exact h1,cs,h2.slk,h3⟩
 · exact .inr ⟨by rw [D.slk_row];exact h1,h2.slk⟩
def evFW (T:Tab C) (Φ:Fns C) (n:Nat) (f:FuncId) (args:List (D C)):Option (D C):=(KS T Φ (evC T Φ n) f args).run (0,0) [] 0 [] fun d _ _ _=>bif d.refs.isEmpty && d.noYl then some d.slk else none
theorem Qmx {n:Nat} {f:FuncId} {args:List (D C)} {d:D C} (h:evFW T Φ n f args=some d):∃ d0,evF T Φ n f args=some d0 /\ d0.slk=d:=by
 unfold evFW at h;obtain ⟨a,h1,n1,t1,hx,hk⟩:=Pg.run_some h;cases hc:(a.refs.isEmpty && a.noYl) with
 | false=>rw [hc] at hk;cases hk
 | true =>
  rw [hc] at hk;refine ⟨a,?_,Option.some.inj hk⟩;unfold evF;rw [Pg.run_of_ex1 hx];simp only [hc,cond_true]
theorem Vz.slk {g:FuncId} {args:List (D C)} {d:D C} (h:Vz P T g args d):Vz P T g args d.slk:=by
 intro w O vs h1 h2 h3;obtain ⟨q1,q2⟩:=h w O vs h1 h2 h3;refine ⟨q1,q2.mono fun en w' hp=>?_⟩;obtain ⟨v,ρ,e,r,⟨d1,d2⟩,rest⟩:=hp;exact ⟨v,ρ,e,r.slk,⟨by rw [D.slk_refs];exact d1,by rw [D.slk_noYl];exact d2⟩,rest⟩
theorem Qh.addEvW (K:QN P T) (F:Qh P T Φ) {g:FuncId} {s:List (D C)->Option (Bool × D C)} (hs:∀ args d,s args=some (true,d)->(∀ a ∈ args,D.refs a=[]) /\ ∃ n,evFW T Φ n g args=some d):Qh P T (Φ.addSpec g s) :=
 F.addSpec fun args d h=>by
  obtain ⟨h1,n,h2⟩:=hs args d h;obtain ⟨d0,h3,rfl⟩:=Qmx h2;exact ⟨h1,(Qf3 K F h3 h1).slk⟩
end
section
variable {C:Cdc} {P:Program} {T:Tab C} {Φ:Fns C}
open Pg (Ex)
open Go.ChangeMaps (setBlock)
theorem Zq.split {X:Cx} {ck cv:C.Ty} {e:MapEntry}:∀ {F1 F2:List MapEntry} {l:List (C.A ck × C.A cv)},Zq T X ck cv l (F1++e::F2) ->
 ∃ l1 x l2,l=l1++x::l2 /\ R T X false (T.enc ck x.1) [e.key] /\ RV T X (T.enc cv x.2) e.val /\ Zq T X ck cv (l1++l2) (F1++F2)
 | [],F2,l,h=>by
  cases h with
  | cons hk hv h=>exact ⟨[],_,_,rfl,hk,hv,h⟩
 | f::F1,F2,l,h=>by
  cases h with
  | cons hk hv h =>
   obtain ⟨l1,x,l2,rfl,q1,q2,q3⟩:=Zq.split h;exact ⟨_::l1,x,l2,rfl,q1,q2,.cons hk hv q3⟩
theorem QfE {es:List MapEntry} {seen:Array Nat} {e:MapEntry} {F1 F2:List MapEntry} (hn:(es.map (·.born)).Nodup) (h:(es.filter fun x => !seen.contains x.born)=F1++e::F2) :
 (es.filter fun x => !(seen.push e.born).contains x.born)=F1++F2:=by
 have e1:(es.filter fun x => !(seen.push e.born).contains x.born)=(es.filter fun x => !seen.contains x.born).filter fun x => !(x.born == e.born):=by
  rw [List.filter_filter]
  congr 1
  funext x
  rw [contains_push];cases seen.contains x.born <;> simp
 have hn2:((F1++e::F2).map (·.born)).Nodup:=by
  rw [<- h];exact hn.sublist (List.Sublist.map _ List.filter_sublist)
 rw [e1,h];rw [List.map_append,List.nodup_append,List.map_cons,List.nodup_cons] at hn2;obtain ⟨_,⟨h2,_⟩,h3⟩:=hn2;have keep:∀ F:List MapEntry,(∀ x ∈ F,x.born ≠ e.born)->F.filter (fun x => !(x.born == e.born))=F:=fun F hF=>List.filter_eq_self.2 fun x hx=>by simp [hF x hx]
 rw [List.filter_append,List.filter_cons_of_neg (by simp)]
 rw [keep F1 fun x hx=>h3 _ (List.mem_map.2 ⟨x,hx,rfl⟩) _ (by simp),keep F2 fun x hx e2=>h2 (List.mem_map.2 ⟨x,hx,e2⟩)]
theorem next_it (K:QN P T) {X:Cx} {h:Heap C} {nx id:Nat} {lim:Lim} (g:G T X h nx lim) {ck cv:C.Ty} {l:List (C.A ck × C.A cv)} {vi:Value} (ho:h.get id=some (.ctl (.it ck cv l))) (hr:R T X false (.itp id) [vi]) (ty:TypeId) :
 (l=[] /\ (Instr.next vi false ty).run P X.w=.ok (.tuple #[.bool false]) X.w) \/
 ∃ l1 x l2 key val X',l=l1++x::l2 /\ (Instr.next vi false ty).run P X.w=.ok (.tuple #[.bool true,key,val]) X'.w /\ G T X' (h.put id (.ctl (.it ck cv (l1++l2)))) nx lim /\ Step X nx lim X' /\
  (Instr.entry vi).run P X'.w=.ok (.tuple #[key,val]) X'.w /\ R T X' false (T.enc ck x.1) [key] /\ RV T X' (T.enc cv x.2) val:=by
 obtain ⟨s,e1,e2⟩:=g.ctl id _ ho;cases hr with
 | @itp _ r hit =>
  obtain ⟨bm,rfl⟩:=hit s e1;obtain ⟨hne,es,since,seen,clock,hb,hrr,hE,hborn,hsc,hnd⟩:=e2;rcases run_next_at (P:=P) X.w ty r bm since clock seen es clock hrr hb hborn hsc with ⟨h0,hrun⟩ | ⟨e,he,w1,hal,hrun⟩
  · refine .inl ⟨?_,hrun⟩
    have hz:(es.toList.filter fun e => !seen.contains e.born)=[]:=by
     have:(leftOf es seen).toList=[]:=by
      have:=Array.eq_empty_of_size_eq_zero h0;rw [this]
     rw [<- this];simp [leftOf]
    rw [hz] at hE;cases hE;rfl
  · have he':e ∈ es.toList.filter fun e => !seen.contains e.born:=by simpa [leftOf] using he
    have hem:e ∈ es.toList:=(mem_left he).1;obtain ⟨F1,F2,hF⟩:=List.append_of_mem he';rw [hF] at hE;obtain ⟨l1,x,l2,rfl,q1,q2,q3⟩:=hE.split;have hfil:=QfE hnd hF
    have hw1:w1.heap=X.w.heap /\ w1.os=X.w.os /\ w1.tape=X.w.tape /\ w1.output=X.w.output:=by
     rcases hal with rfl | rfl <;> exact ⟨rfl,rfl,rfl,rfl⟩
    obtain ⟨g1,s1⟩:=G.world K.base g w1 hw1.1 hw1.2.1 hw1.2.2.1 hw1.2.2.2;have hr1:(⟨w1,X.ρ,X.O⟩:Cx).w.heap[r]? = some (.mapIter (some bm) since seen clock):=by rw [show (⟨w1,X.ρ,X.O⟩:Cx).w=w1 from rfl,hw1.1];exact hrr
    have hrlt:r < w1.heap.size:=(Array.getElem?_eq_some_iff.1 hr1).1
    have hother:∀ (w2:World),w2=setBlock w1 r (.mapIter (some bm) since (seen.push e.born) clock)->w2.heap[bm]? = some (.map es clock) /\ w2.heap[r]? = some (.mapIter (some bm) since (seen.push e.born) clock):=by
     rintro w2 rfl
     constructor
     · show (w1.heap.setIfInBounds r _)[bm]? = _;rw [Array.getElem?_setIfInBounds_ne (Ne.symm hne),hw1.1];exact hb
     · show (w1.heap.setIfInBounds r _)[r]? = _;simp [hrlt]
    obtain ⟨X',w',_,g',s'⟩:=G.setIt K.base (c2:=.it ck cv (l1++l2)) (ob:=.mapIter (some bm) since (seen.push e.born) clock) g1 ho e1 hr1 (fun _ _ _ h=>by cases h) (fun _ _ _ h=>by cases h) (fun X' hw hs=>by
     obtain ⟨o1,o2⟩:=hother X'.w hw;refine ⟨hne,es,since,_,clock,o1,o2,?_,hborn,hsc,hnd⟩;rw [hfil];exact q3.step K.base (s1.trans hs (Nat.le_refl _)))
    have st:=s1.trans s' (Nat.le_refl _);obtain ⟨o1,o2⟩:=hother X'.w w';refine .inr ⟨l1,x,l2,e.key,e.val,X',rfl,by rw [hrun,w'];rfl,g',st,run_entry_at X'.w r bm since seen es clock e o2 o1 hem hnd,q1.step K.base st (by simp [K.base.encRefs]),q2.mono T K.base.encOK st.keeps fun i hi=>by simp [K.base.encRefs] at hi⟩
structure Qed where
 it:Nat
 tn:Nat
 tc:Nat
 ex:Nat
 te:Nat
 tk:Nat
 tv:Nat
 o2:Array Oper
 more:List Oper
 rest:Code
def QcA (b:Code):Option Qed :=
 match b with
 | .seq (.region _ o1 false) (.seq (.cond (.tmp tc) .skip (.exit ex)) (.block _ (.seq (.region _ o2 false) rest)))=>(match o1.toList,o2.toList with
  | [n,x],e::k::v::more=>(match n.op,n.dst,n.guard,x.op,x.dst,x.guard with
   | .next (.tmp it) false,some tn,none,.extract (.tmp tn') 0,some tc',none=>(match e.op,e.dst,e.guard,k.op,k.dst,k.guard with
    | .entry (.tmp it'),some te,none,.extract (.tmp te') 0,some tk,none=>(match v.op,v.dst,v.guard with
     | .extract (.tmp te2) 1,some tv,none =>
      bif (Nat.beq tn tn' && Nat.beq tc tc' && Nat.beq it it' && Nat.beq te te' && Nat.beq te te2) && (!Nat.beq it tn && !Nat.beq it tc && !Nat.beq te tk && !Nat.beq tn tc && !Nat.beq tk tv) then some ⟨it,tn,tc,ex,te,tk,tv,o2,more,rest⟩ else none
     | _,_,_=>none)
    | _,_,_,_,_,_=>none)
   | _,_,_,_,_,_=>none)
  | _,_=>none)
 | _=>none
structure QiE (C:Cdc) (ck cv:C.Ty) (σ:Type) where
 k:Nat
 it:Nat
 canon:σ->Env C
 objs:σ->List (C.A ck × C.A cv)->List (Obj C)
 fin:σ->List (C.A ck × C.A cv)->Env C
 fobjs:σ->List (C.A ck × C.A cv)->List (Obj C)
 Inv:σ->List (C.A ck × C.A cv)->Prop
def QpS (T:Tab C) (Φ:Fns C) (g:FuncId) (m:Qed) {ck cv:C.Ty} {σ:Type} (S:QiE C ck cv σ):Prop :=
 ∀ s l,S.Inv s l->Qk S.k (S.canon s) (S.objs s l) /\ Qk S.k (S.fin s l) (S.fobjs s l) /\ (S.objs s l)[S.it]? = some (.ctl (.it ck cv l)) /\ eget (S.canon s) m.it=.itp S.it /\ (∀ l',S.objs s l'=(S.objs s l).set S.it (.ctl (.it ck cv l'))) /\
  (l=[]->(∀ p ∈ S.fin s l,eget (S.canon s) p.1=p.2 /\ p.1 ≠ m.tn /\ p.1 ≠ m.tc) /\ S.fobjs s l=S.objs s l) /\
  ∀ l1 x l2,l=l1++x::l2 -> ∃ n env' h' nx' tr s',Ex (0,0) (.bind (JK T (Qbb T Φ (evC T Φ n)) m.o2 m.more ((m.tv,T.enc cv x.2)::(m.tk,T.enc ck x.1)::(m.te,.top)::(m.tc,.bool true)::(m.tn,.top)::S.canon s)) fun env=>evC T Φ n g m.rest env) (hpOf 0 (S.objs s (l1++l2))) S.k (.normal,env') h' nx' tr /\
   S.Inv s' (l1++l2) /\ S.fin s' (l1++l2)=S.fin s l /\ S.fobjs s' (l1++l2)=S.fobjs s l /\ Sub env' (S.canon s') /\ ∀ j,j < S.k->h'.get j=(S.objs s' (l1++l2))[j]?
theorem QiF {b:Code} {m:Qed} (h:QcA b=some m):∃ r1 o1 bl r2 n x e k v,b=.seq (.region r1 o1 false) (.seq (.cond (.tmp m.tc) .skip (.exit m.ex)) (.block bl (.seq (.region r2 m.o2 false) m.rest))) /\ o1.toList=[n,x] /\ m.o2.toList=e::k::v::m.more /\
 n.op=.next (.tmp m.it) false /\ n.dst=some m.tn /\ n.guard=none /\ x.op=.extract (.tmp m.tn) 0 /\ x.dst=some m.tc /\ x.guard=none /\ e.op=.entry (.tmp m.it) /\ e.dst=some m.te /\ e.guard=none /\ k.op=.extract (.tmp m.te) 0 /\ k.dst=some m.tk /\ k.guard=none /\
 v.op=.extract (.tmp m.te) 1 /\ v.dst=some m.tv /\ v.guard=none /\ m.it ≠ m.tn /\ m.it ≠ m.tc /\ m.te ≠ m.tk /\ m.tn ≠ m.tc /\ m.tk ≠ m.tv:=by
 unfold QcA at h
 split at h
 · rename_i r1 o1 tc ex bl r2 o2 rest
   split at h
   · rename_i n x e k v more h1 h2
     split at h
     · rename_i it tn tn' tc' q1 q2 q3 q4 q5 q6
       split at h
       · rename_i it' te te' tk p1 p2 p3 p4 p5 p6
         split at h
         · rename_i te2 tv w1 w2 w3
           have key:∀ (c:Bool) (y:Qed),(bif c then some y else none)=some m->c=true /\ y=m:=by
            intro c y hh;cases c
            · cases hh
            · exact ⟨rfl,Option.some.inj hh⟩
           obtain ⟨hc,rfl⟩:=key _ _ h;simp only [Bool.and_eq_true,Nat.beq_eq,Bool.not_eq_true'] at hc;obtain ⟨⟨⟨⟨⟨rfl,rfl⟩,rfl⟩,rfl⟩,rfl⟩,⟨⟨⟨c1,c2⟩,c3⟩,c4⟩,c5⟩:=hc;exact ⟨r1,o1,bl,r2,n,x,e,k,v,rfl,h1,h2,q1,q2,q3,q4,q5,q6,p1,p2,p3,p4,p5,p6,w1,w2,w3,Nat.ne_of_beq_eq_false c1,Nat.ne_of_beq_eq_false c2,Nat.ne_of_beq_eq_false c3,Nat.ne_of_beq_eq_false c4,Nat.ne_of_beq_eq_false c5⟩
         · cases h
       · cases h
     · cases h
   · cases h
 · cases h
theorem Qee {a:Act} {d t:Nat} {v:Value} (h:t ≠ d):(a.put (some d) v).tmps.getD t undef=a.tmps.getD t undef:=by
 simp [Act.put,Array.getD_eq_getD_getElem?,Array.getElem?_setIfInBounds_ne (Ne.symm h)]
theorem Qha {a:Act} {d:Nat} {v:Value} (h:d < a.tmps.size):(a.put (some d) v).eval (.tmp d)=v:=by
 simp [Act.eval,Act.put,h]
theorem QiG (K:QN P T) (F:Qh P T Φ) {g:FuncId} {fn:Func} {body b:Code} {m:Qed} {ck cv:C.Ty} {σ:Type} {S:QiE C ck cv σ} (hm:QcA b=some m) (hck:∀ x,(T.enc ck x).isRow=false) (hr:QpS T Φ g m S) (hf:Φ.fn g=some fn) (hb:fn.body=some body) (hcb:ZE fn.ntmps b=true)
 (hl:∀ b' ∈ QJ b,b' ∈ QJ body) {B:Nat->Bool} (hB:QaF B b) {Q:Exit->Act->World->Prop}:∀ (N:Nat) (s:σ) (l:List (C.A ck × C.A cv)) (X:Cx) (a:Act),l.length <= N->S.Inv s l->G T X (hpOf 0 (S.objs s l)) S.k (lim0 S.k)->Qn T X S.k (lim0 S.k) (S.canon s) a.tmps->fn.ntmps <= a.tmps.size ->
  (∀ a' X',G T X' (hpOf 0 (S.fobjs s l)) S.k (lim0 S.k)->Step X S.k (lim0 S.k) X'->Qn T X' S.k (lim0 S.k) (S.fin s l) a'.tmps->a'.tmps.size=a.tmps.size->ZJ X X' a'.defers a.defers->Kp B a.tmps a'.tmps->Q (.exit m.ex) a' X'.w)->Code.rounds P b Q (N+1) a X.w:=by
 obtain ⟨r1,o1,bl,r2,n,x,e,k,v,rfl,ho1,ho2,n1,n2,n3,x1,x2,x3,e1,e2',e3,k1,k2,k3,v1,v2,v3,c1,c2,c3,c4,c5⟩:=QiF hm;simp only [ZE,Bool.and_eq_true] at hcb;obtain ⟨⟨hb1,_⟩,_,⟨hb2,_⟩,hb3⟩:=hcb;have hs1:∀ o ∈ o1.toList,∀ t,o.dst=some t->t < fn.ntmps:=QaE hb1;have hs2:∀ o ∈ m.o2.toList,∀ t,o.dst=some t->t < fn.ntmps:=QaE hb2;have hB1:∀ o ∈ o1.toList,∀ t,o.dst=some t->B t=false:=fun o ho t ht=>hB t (by simp only [asgL,List.mem_append,List.mem_filterMap];exact .inl ⟨o,ho,ht⟩)
 have hB2:∀ o ∈ m.o2.toList,∀ t,o.dst=some t->B t=false:=fun o ho t ht=>hB t (by simp only [asgL,List.mem_append,List.mem_filterMap];exact .inr (.inr (.inl ⟨o,ho,ht⟩)))
 have hB3:QaF B m.rest:=fun t ht=>hB t (by simp only [asgL,List.mem_append];exact .inr (.inr (.inr ht)))
 have m1:n ∈ o1.toList:=by rw [ho1];simp
 have m2:x ∈ o1.toList:=by rw [ho1];simp
 have m3:e ∈ m.o2.toList:=by rw [ho2];simp
 have m4:k ∈ m.o2.toList:=by rw [ho2];simp
 have m5:v ∈ m.o2.toList:=by rw [ho2];simp
 have hsz1:o1.size=2:=by rw [<- Array.length_toList,ho1];rfl
 have i0:o1[0]? = some n:=by rw [<- Array.getElem?_toList,ho1];rfl
 have i1:o1[1]? = some x:=by rw [<- Array.getElem?_toList,ho1];rfl
 have j0:m.o2[0]? = some e:=by rw [<- Array.getElem?_toList,ho2];rfl
 have j1:m.o2[1]? = some k:=by rw [<- Array.getElem?_toList,ho2];rfl
 have j2:m.o2[2]? = some v:=by rw [<- Array.getElem?_toList,ho2];rfl
 have hw:∀ (ops:Array Oper) (o:Oper) (u:Array Value),o.guard=none->Region.wanted o (yielded ops u)=true:=fun ops o u hg=>by simp [Region.wanted,hg]
 intro N
 induction N using Nat.strongRecOn with
 | _ N ih =>
 intro s l X a hN hI hg he hsz hk;obtain ⟨hr1,hr2,hit,hei,hset,hend,hstep⟩:=hr s l hI;rw [rounds_succ];refine (wpIn_wide (n:=0)).1 (wpIn_seq (wpIn_region ?_));rw [List.range_eq_range',hsz1,List.range'_succ,wpOpsIn_cons];unfold wpOpIn;simp only [i0,hw o1 n _ n3,if_true]
 have hvi:R T X false (.itp S.it:D C) [a.eval (.tmp m.it)]:=by
  have:=(he m.it).1;rw [hei] at this;exact this.one rfl
 have hoi:(hpOf 0 (S.objs s l)).get S.it=some (.ctl (.it ck cv l)):=by rw [Qr];exact hit
 have b1:m.tn < a.tmps.size:=Nat.lt_of_lt_of_le (hs1 n m1 _ n2) hsz;have b2:m.tc < a.tmps.size:=Nat.lt_of_lt_of_le (hs1 x m2 _ x2) hsz
 have go:∀ (val:Value) (ok:Bool) (w':World),(Instr.next (a.eval (.tmp m.it)) false n.type).run P X.w=.ok val w'->(Instr.extract val 0:Sem Value)=pure (.bool ok) ->
  (∀ a2:Act,a2=(a.put (some m.tn) val).put (some m.tc) (.bool ok)->(Code.seq (.cond (.tmp m.tc) .skip (.exit m.ex)) (.block bl (.seq (.region r2 m.o2 false) m.rest))).wpIn Fence.wide 0 P (Exit.then (Code.rounds P (.seq (.region r1 o1 false) (.seq (.cond (.tmp m.tc) .skip (.exit m.ex)) (.block bl (.seq (.region r2 m.o2 false) m.rest)))) Q N) Q) a2 w') ->
  n.wpIn Fence.wide 0 P a X.w (wpOpsIn Fence.wide 0 P o1 (Exit.then ((Code.seq (.cond (.tmp m.tc) .skip (.exit m.ex)) (.block bl (.seq (.region r2 m.o2 false) m.rest))).wpIn Fence.wide 0 P (Exit.then (Code.rounds P (.seq (.region r1 o1 false) (.seq (.cond (.tmp m.tc) .skip (.exit m.ex)) (.block bl (.seq (.region r2 m.o2 false) m.rest)))) Q N) Q)) (Exit.then (Code.rounds P (.seq (.region r1 o1 false) (.seq (.cond (.tmp m.tc) .skip (.exit m.ex)) (.block bl (.seq (.region r2 m.o2 false) m.rest)))) Q N) Q)) (List.range' 1 1)) (Exit.then ((Code.seq (.cond (.tmp m.tc) .skip (.exit m.ex)) (.block bl (.seq (.region r2 m.o2 false) m.rest))).wpIn Fence.wide 0 P (Exit.then (Code.rounds P (.seq (.region r1 o1 false) (.seq (.cond (.tmp m.tc) .skip (.exit m.ex)) (.block bl (.seq (.region r2 m.o2 false) m.rest)))) Q N) Q)) (Exit.then (Code.rounds P (.seq (.region r1 o1 false) (.seq (.cond (.tmp m.tc) .skip (.exit m.ex)) (.block bl (.seq (.region r2 m.o2 false) m.rest)))) Q N) Q)):=by
  intro val ok w' hrun hext hgo;refine Q0 (ro:=none) (fun c hc=>by rw [n1] at hc;cases hc) (JP (v:=val) (w':=w') (by obtain ⟨dst,op,ty,pos,after,guard⟩:=n;simp only at n1;subst n1;simp only [execOp,Sem.run_bind,hrun,Result.andThen_ok,Sem.run_pure]) ?_)
  rw [n2];rw [List.range'_succ,wpOpsIn_cons];unfold wpOpIn;simp only [i1,hw o1 x _ x3,if_true];refine Q0 (ro:=none) (fun c hc=>by rw [x1] at hc;cases hc) (JP (v:=.bool ok) (w':=w') (by obtain ⟨dst,op,ty,pos,after,guard⟩:=x;simp only at x1;subst x1;simp only [execOp,Qha b1,hext,Sem.run_bind,Sem.run_pure,Result.andThen_ok]) ?_)
  rw [x2];exact hgo _ rfl
 have hkp2:∀ val ok,Kp B a.tmps ((a.put (some m.tn) val).put (some m.tc) (.bool ok)).tmps:=fun val ok=>(Vr a _ _ (fun t ht=>by cases ht;exact hB1 n m1 _ n2)).trans (Vr _ _ _ (fun t ht=>by cases ht;exact hB1 x m2 _ x2))
 have hsz2:∀ val ok,((a.put (some m.tn) val).put (some m.tc) (.bool ok)).tmps.size=a.tmps.size:=fun val ok=>by rw [(Qs _ _ _).1,(Qs _ _ _).1]
 have hdf2:∀ val ok,((a.put (some m.tn) val).put (some m.tc) (.bool ok)).defers=a.defers:=fun val ok=>by rw [(Qs _ _ _).2,(Qs _ _ _).2]
 have ev2:∀ val ok,((a.put (some m.tn) val).put (some m.tc) (.bool ok)).eval (.tmp m.tc)=.bool ok:=fun val ok=>Qha (by rw [(Qs _ _ _).1];exact b2)
 rcases next_it K hg hoi hvi n.type with ⟨rfl,hrun⟩ | ⟨l1,y,l2,key,val,X1,rfl,hrun,g1,s1,hent,hRk,hRv⟩
 · refine go _ false X.w hrun rfl fun a2 ha2=>?_;refine wpIn_seq (wpIn_cond_false (by rw [ha2];exact ev2 _ _) (wpIn_exit ?_))
   obtain ⟨f1,f2⟩:=hend rfl;rw [f2] at hk;refine hk a2 X hg (.refl _ _ _) (fun t=>?_) (by rw [ha2,hsz2]) (.of_eq (by rw [ha2,hdf2])) (by rw [ha2];exact hkp2 _ _)
   rcases eget_mem (S.fin s []) t with h | h
   · rw [h];exact RO.mk (RV.top _ _ _) rfl
   · obtain ⟨q1,q2,q3⟩:=f1 _ h;simp only at q1 q2 q3;have:a2.tmps.getD t undef=a.tmps.getD t undef:=by rw [ha2,Qee q3,Qee q2]
     rw [this,<- q1];exact he t
 · cases N with
   | zero=>simp at hN
   | succ N =>
   obtain ⟨fuel,env',h',nx',tr,s',hx,hI',hfin,hfo,hsub,hget⟩:=hstep l1 y l2 rfl;obtain ⟨hr1',hr2',_⟩:=hr s' (l1++l2) hI';have hle:S.k <= nx':=hx.le;obtain ⟨env1,h1,nx1,t1,t2,q1,q2,_⟩:=Ex.bind hx;have hle1:=Ex.le q1;have hle2:=Ex.le q2
   have hrl:Qk S.k (S.canon s) (S.objs s (l1++l2)):=by
    refine ⟨by rw [hset];simpa using hr1.1,hr1.2.1,fun o ho=>?_⟩
    rw [hset] at ho;rcases List.mem_or_eq_of_mem_set ho with h | h
    · exact hr1.2.2 o h
    · subst h;intro r hr';simp [Obj.refs] at hr'
   have hlt:S.it < (S.objs s (l1++y::l2)).length:=(List.getElem?_eq_some_iff.1 hit).1
   have g1':G T X1 (hpOf 0 (S.objs s (l1++l2))) S.k (lim0 S.k):=g1.congr fun id=>by
    rw [Qj (by rw [hoi];rfl),Qr,Qr,hset (l1++l2)]
    by_cases hid:id=S.it
    · subst hid;simp [hlt]
    · rw [List.getElem?_set_ne (Ne.symm hid)];simp [hid]
   have g0:G T X1 (hpOf 0 (S.objs s (l1++l2))) S.k (lim0 nx'):=g1'.relim2 (YR hrl.1 hrl.2.2) (Nat.le_refl _) (Nat.zero_le _) (fun _ h=>h)
   have e0:Qn T X1 S.k (lim0 nx') (S.canon s) a.tmps:=fun t=>⟨((he t).step K.base s1 (Nat.le_refl _)).1,fun r hh=>⟨.inl (by
    rcases eget_mem (S.canon s) t with h | h
    · rw [h] at hh;simp [D.refs] at hh
    · exact hr1.2.1 _ h r hh),fun h=>h⟩⟩
   refine go _ true X1.w hrun rfl fun a2 ha2=>?_;refine wpIn_seq (wpIn_cond_true (by rw [ha2];exact ev2 _ _) (wpIn_skip ?_))
   refine wpIn_block (wpIn_seq (wpIn_region ?_));have hsz3:m.o2.size=m.more.length+1+1+1:=by rw [<- Array.length_toList,ho2];rfl
   have hs2a:a2.tmps.size=a.tmps.size:=by rw [ha2,hsz2]
   have e2:Qn T X1 S.k (lim0 nx') ((m.tc,.bool true)::(m.tn,.top)::S.canon s) a2.tmps:=by
    have h1:Qn T X1 S.k (lim0 nx') (Ev.put (S.canon s) (some m.tn) .top) (a.put (some m.tn) (.tuple #[.bool true,key,val])).tmps:=e0.put (RO.mk (RV.top _ _ _) rfl) (fun t ht=>by cases ht;exact b1)
    rw [ha2];exact h1.put (dst:=some m.tc) (RO.mk (.mk rfl (.bool true)) rfl) (fun t ht=>by cases ht;rw [(Qs _ _ _).1];exact b2)
   have hevit:a2.eval (.tmp m.it)=a.eval (.tmp m.it):=by
    show a2.tmps.getD m.it undef=a.tmps.getD m.it undef;rw [ha2,Qee c2,Qee c1]
   have d1:m.te < a2.tmps.size:=by rw [hs2a];exact Nat.lt_of_lt_of_le (hs2 e m3 _ e2') hsz
   have d2:m.tk < a2.tmps.size:=by rw [hs2a];exact Nat.lt_of_lt_of_le (hs2 k m4 _ k2) hsz
   have d3:m.tv < a2.tmps.size:=by rw [hs2a];exact Nat.lt_of_lt_of_le (hs2 v m5 _ v2) hsz
   rw [List.range_eq_range',hsz3,List.range'_succ,wpOpsIn_cons];unfold wpOpIn;simp only [j0,hw m.o2 e _ e3,if_true];refine Q0 (ro:=none) (fun c hc=>by rw [e1] at hc;cases hc) (JP (v:=.tuple #[key,val]) (w':=X1.w) (by obtain ⟨dst,op,ty,pos,after,guard⟩:=e;simp only at e1;subst e1;simp only [execOp,hevit,Sem.run_bind,hent,Result.andThen_ok,Sem.run_pure]) ?_)
   rw [e2',List.range'_succ,wpOpsIn_cons];unfold wpOpIn;simp only [Nat.zero_add,j1,hw m.o2 k _ k3,if_true];refine Q0 (ro:=none) (fun c hc=>by rw [k1] at hc;cases hc) (JP (v:=key) (w':=X1.w) (by obtain ⟨dst,op,ty,pos,after,guard⟩:=k;simp only at k1;subst k1;simp [execOp,Qha d1,Instr.extract]) ?_)
   rw [k2,List.range'_succ,wpOpsIn_cons];unfold wpOpIn;simp only [j2,hw m.o2 v _ v3,if_true]
   have evte:((a2.put (some m.te) (.tuple #[key,val])).put (some m.tk) key).eval (.tmp m.te)=.tuple #[key,val]:=by
    show ((a2.put (some m.te) (.tuple #[key,val])).put (some m.tk) key).tmps.getD m.te undef=_;rw [Qee c3];exact Qha d1
   refine Q0 (ro:=none) (fun c hc=>by rw [v1] at hc;cases hc) (JP (v:=val) (w':=X1.w) (by obtain ⟨dst,op,ty,pos,after,guard⟩:=v;simp only at v1;subst v1;simp [execOp,evte,Instr.extract]) ?_)
   rw [v2]
   have e5:Qn T X1 S.k (lim0 nx') ((m.tv,T.enc cv y.2)::(m.tk,T.enc ck y.1)::(m.te,.top)::(m.tc,.bool true)::(m.tn,.top)::S.canon s) (((a2.put (some m.te) (.tuple #[key,val])).put (some m.tk) key).put (some m.tv) val).tmps:=by
    have h1:Qn T X1 S.k (lim0 nx') (Ev.put _ (some m.te) .top) (a2.put (some m.te) (.tuple #[key,val])).tmps:=e2.put (RO.mk (RV.top _ _ _) rfl) (fun t ht=>by cases ht;exact d1)
    have h2:=h1.put (dst:=some m.tk) (d:=T.enc ck y.1) (v:=key) (RO.mk (.inr ⟨hck _,hRk⟩) (K.base.encRefs _ _)) (fun t ht=>by cases ht;rw [(Qs _ _ _).1];exact d2)
    exact h2.put (dst:=some m.tv) (d:=T.enc cv y.2) (v:=val) (RO.mk hRv (K.base.encRefs _ _)) (fun t ht=>by cases ht;rw [(Qs _ _ _).1,(Qs _ _ _).1];exact d3)
   have hsz5:(((a2.put (some m.te) (.tuple #[key,val])).put (some m.tk) key).put (some m.tv) val).tmps.size=a.tmps.size:=by rw [(Qs _ _ _).1,(Qs _ _ _).1,(Qs _ _ _).1,hs2a]
   have hdf5:(((a2.put (some m.te) (.tuple #[key,val])).put (some m.tk) key).put (some m.tv) val).defers=a.defers:=by rw [(Qs _ _ _).2,(Qs _ _ _).2,(Qs _ _ _).2,ha2,hdf2]
   have hkp5:Kp B a.tmps (((a2.put (some m.te) (.tuple #[key,val])).put (some m.tk) key).put (some m.tv) val).tmps:=by
    refine (by rw [ha2];exact hkp2 _ _:Kp B a.tmps a2.tmps).trans ?_
    exact ((Vr a2 _ _ (fun t ht=>by cases ht;exact hB2 e m3 _ e2')).trans (Vr _ _ _ (fun t ht=>by cases ht;exact hB2 k m4 _ k2))).trans (Vr _ _ _ (fun t ht=>by cases ht;exact hB2 v m5 _ v2))
   generalize ((a2.put (some m.te) (.tuple #[key,val])).put (some m.tk) key).put (some m.tv) val=a5 at e5 hsz5 hdf5 hkp5 ⊢;have hcall:=Qqx K F fuel;refine QfX (ro:=none) (m:=0) K hcall hB2 m.more 3 (by rw [ho2];rfl) g0 e5 (by show nx1 <= nx';exact hle2) (fun o ho t ht=>by rw [hsz5];exact Nat.lt_of_lt_of_le (hs2 o ho t ht) hsz) q1 fun a6 X6 g6 s6 e6 hs6 hd6 kp6=>?_
   refine (Qck K F fuel).1 none 0 g fn.ntmps m.rest (.inr ⟨rfl,fn,body,hf,rfl,hb,fun b' hb'=>hl b' (by simp [QJ,hb'])⟩) hb3 B hB3 X6 h1 nx1 (lim0 nx') (0,0) env1 .normal env' h' nx' t2 a6 _ g6 e6 (Nat.le_refl _) (by rw [hs6,hsz5];exact hsz) q2 ?_
   intro a7 X7 g7 s7 e7 hs7 hd7 kp7;have s67:=s6.trans s7 hle1
   -- the objects that are kept
   obtain ⟨X2,w2,g2,s2,hρ⟩:=G.drop K.base g7 (h':=hpOf 0 (S.objs s' (l1++l2))) (fun id=>by
    rw [Qr]
    by_cases hid:id < S.k
    · exact .inl (hget id hid).symm
    · exact .inr (List.getElem?_eq_none (by rw [hr1'.1];omega)))
   have hnone:∀ id,¬ id < S.k->X2.ρ id=none:=fun id hid=>by
    cases hq:X2.ρ id with
    | none=>rfl
    | some o =>
     have:=g2.dom id o hq;rw [Qr,List.getElem?_eq_none (by rw [hr1'.1];omega)] at this
     cases this
   have s3:=s67.trans s2 hle;have g3:G T X2 (hpOf 0 (S.objs s' (l1++l2))) S.k (lim0 S.k):=g2.relim2 (YR hr1'.1 hr1'.2.2) (Nat.le_refl _) (Nat.zero_le _) (fun _ h=>h)
   have s4:Step X1 S.k (lim0 S.k) X2:=⟨s3.O,s3.os,s3.tape,s3.output,s3.size,fun id ho=>by
    by_cases hid:id < S.k
    · exact s3.ρ id ⟨.inl hid,fun h=>h⟩
    · rw [hnone id hid];cases X1.ρ id <;> simp [Qe],s3.mine,s3.cell,s3.block,s3.frz⟩
   have e8:Qn T X2 S.k (lim0 S.k) (S.canon s') a7.tmps:=fun t=>by
    rcases eget_mem (S.canon s') t with h | h
    · rw [h];exact RO.mk (RV.top _ _ _) rfl
    · have hrt:∀ r ∈ (eget (S.canon s') t).refs,r < S.k:=hr1'.2.1 _ h;have h2:=hsub _ h;simp only at h2;have h3:=(e7 t).1;rw [h2] at h3;exact ⟨h3.mono T K.base.encOK s2.keeps fun r hh=>s2.ρ r ⟨.inl (by have:=hrt r hh;omega),fun h=>h⟩,fun r hh=>⟨.inl (hrt r hh),fun h=>h⟩⟩
   show Code.rounds P _ Q (N+1) a7 X7.w;rw [<- w2];have hst:=s1.trans s4 (Nat.le_refl _)
   have hmk:ZJ X X2 a7.defers a.defers:=by
    have h1:ZJ X6 X7 a7.defers a6.defers:=hd7;rw [hd6,hdf5] at h1;obtain ⟨rs,e1,n1,hrs⟩:=h1.sub w2 s2.mine;exact ⟨rs,e1,n1,fun r hr=>⟨Nat.le_trans (Nat.le_trans s1.size s6.size) (hrs r hr).1,(hrs r hr).2⟩⟩
   refine ih N (by omega) s' (l1++l2) X2 a7 (by simp at hN ⊢;omega) hI' g3 e8 (by rw [hs7,hs6,hsz5];exact hsz) fun a9 X9 g9 s9 e9 hs9 hd9 kp9=>?_
   rw [hfin] at e9;rw [hfo] at g9;exact hk a9 X9 g9 (hst.trans s9 (Nat.le_refl _)) e9 (by rw [hs9,hs7,hs6,hsz5]) (hmk.trans hst s9 hd9) (((hkp5.trans kp6).trans kp7).trans kp9)
theorem QoY (K:QN P T) (F:Qh P T Φ) {g key:Nat} {fs:List Fnd} {slots:List Nat} {res:Env C->List (Obj C)->RT C} {ck cv:C.Ty} {σ:Type} {S:QiE C ck cv σ} {m:Qed} (hck:∀ x,(T.enc ck x).isRow=false)
 (hr:QpS T Φ g m S) (hm:∀ fn body b,Φ.fn g=some fn->fn.body=some body->b ∈ QJ body->Qp b=key->QcA b=some m)
 (hres:∀ env0 os x env' os',(res env0 os).val=some ((x,env'),os') -> ∃ q l,S.Inv q l /\ (∀ p ∈ S.canon q,p ∈ env0) /\ os=S.objs q l /\ x=.exit m.ex /\ S.fin q l=env' /\ S.fobjs q l=os'):Qcl P T Φ g key (sumO T fs slots res):=by
 intro fn body b hf hb hbl hkey B hB X h nx lim e env x env' h' nx' tr a Q gg he hlim hsz hx hk;obtain ⟨f1,f2,f3⟩:=F.fn g fn hf;obtain ⟨c1,c2⟩:=Za body (f3 body hb) b hbl;have hmb:=hm fn body b hf hb hbl hkey;obtain ⟨X1,h1,nx1,env1,ids,tr1,w1,g1,s1,hn1,e1,hx1⟩:=Qcn K hlim fs X h nx tr env [] gg he hx;cases hnd:VD ids with
 | false=>rw [hnd] at hx1;exact (Ex.fail hx1).elim
 | true =>
 rw [hnd] at hx1;simp only [cond_true] at hx1;have hnodup:=ZM hnd;obtain ⟨os,tr2,hlen,hos,hx2⟩:=JU ids _ _ hx1;cases hin:inB ids (slots.flatMap fun t=>(eget env1 t).refs) && inB ids (os.flatMap Obj.refs) with
 | false=>rw [hin] at hx2;exact (Ex.fail hx2).elim
 | true =>
 rw [hin] at hx2;simp only [cond_true] at hx2;simp only [Bool.and_eq_true] at hin;have hin1:=ZQ hin.1;have hin2:=ZQ hin.2;obtain ⟨xx,ee,os',hq,hx3⟩:=RT.pg_ok _ _ hx2
 · · obtain ⟨q,l,hI,hsub,hobjs,rfl,hfin,hfo⟩:=hres _ _ _ _ _ hq;obtain ⟨hr1,hr2,_⟩:=hr q l hI;obtain ⟨h2,tr3,hl2,hw1,hw2,hx4⟩:=JV ids _ h1 _ hnodup hx3;obtain ⟨hxx,eh,en,_⟩:=Ex.ret hx4;obtain ⟨rfl,rfl⟩:=Prod.mk.inj hxx;subst eh;subst en
     let f:Nat->Nat:=fun j=>ids.getD j 0
     have hfj:∀ j,j < ids.length->ids[j]? = some (f j):=fun j hj=>by simp [f,hj]
     have hk0:ids.length=S.k:=by rw [<- hr1.1,<- hobjs];simp [hlen]
     have hff:∀ r,r ∈ ids->f (idx ids r)=r:=fun r hr=>by
      have:=Vc ids r hr;simp only [f,List.getD_eq_getElem?_getD,this,Option.getD_some]
     have hlenO:(S.objs q l).length=ids.length:=by rw [hr1.1,hk0]
     have part:Part h1 (S.objs q l) f:=by
      refine ⟨fun j o ho=>?_,fun i j hi hj hij=>?_,fun o ho r hr=>by rw [hr1.1];exact hr1.2.2 o ho r hr⟩
      · rw [<- hobjs,List.getElem?_map] at ho;cases hoj:os[j]? with
        | none=>simp [hoj] at ho
        | some o0 =>
         simp only [hoj,Option.map_some,Option.some.injEq] at ho;have hj:j < ids.length:=by rw [<- hlen];exact (List.getElem?_eq_some_iff.1 hoj).1
         rw [hos j (f j) o0 (hfj j hj) hoj,<- ho,Obj.ren_ren];intro id hid;exact hff id (hin2 id (List.mem_flatMap.2 ⟨o0,List.mem_of_getElem? hoj,hid⟩))
      · rw [hlenO] at hi hj;have:=(List.getElem?_inj hi hnodup (j:=j)).1 (by rw [hfj i hi,hfj j hj];simp only [f] at hij ⊢;rw [hij])
        exact this
     have g2:=Part.ctx K.base g1 part (S.objs q l).length
     have e2:Qn T (X1.part (S.objs q l).length f) (S.objs q l).length (lim0 (S.objs q l).length) (S.canon q) a.tmps:=by
      refine Qn.part K.base e1 part.inj (fun p hp=>?_) (fun p hp r hr=>by rw [hr1.1];exact hr1.2.1 p hp r hr)
      have:=hsub p hp;simp only [List.mem_map] at this;obtain ⟨t,ht,rfl⟩:=this;simp only;rw [D.ren_ren];intro id hid;exact hff id (hin1 id (List.mem_flatMap.2 ⟨t,ht,hid⟩))
     rw [hr1.1] at g2 e2;rw [<- w1];show (Code.loop b).wp P Q a (X1.part S.k f).w;refine wp_loop_rounds (l.length+1) (QiG K F hmb hck hr hf hb c1 c2 hB l.length q l (X1.part S.k f) a (Nat.le_refl _) hI g2 e2 hsz fun a' X' g' s' e' hs' hd' kp'=>?_);rw [hfo] at g';rw [hfin] at e';have hlen':os'.length=(S.objs q l).length:=by rw [<- hfo,hr2.1,hr1.1]
     have hrefs':∀ o ∈ os',∀ r ∈ Obj.refs o,r < (S.objs q l).length:=fun o ho r hr=>by rw [hr1.1];exact hr2.2.2 o (by rw [hfo];exact ho) r hr
     obtain ⟨X2,w2,g3,s3,hρ,hB2⟩:=Part.back K.base g1 part hlen' hrefs' (X1:=X') (lim1:=lim0 S.k) (h':=h') (by rw [hr1.1];exact g') (by rw [hr1.1];exact s') (fun j o hj=>by
      have hlt:j < ids.length:=by rw [<- hlenO,<- hlen'];exact (List.getElem?_eq_some_iff.1 hj).1
      exact hw1 j (f j) _ (hfj j hlt) (by rw [List.getElem?_map,hj];rfl)) (fun id hid=>by
      refine hw2 id fun hm=>?_;obtain ⟨j,hj,hjj⟩:=List.getElem_of_mem hm;refine hid j (by rw [hlenO];exact hj) ?_
      simp [f,hj,hjj])
     have hold:∀ j,j < S.k->old nx' lim (f j):=fun j hj=>by
      have hj':j < (S.objs q l).length:=by rw [hr1.1];exact hj
      exact (g1.nums _ _ (part.at' j (S.objs q l)[j] (by simp [hj']))).1
     have e3:=Qn.back (nx:=nx') (lim:=lim) (f:=f) K.base e' (fun p hp r hr=>hr2.2.1 p (by rw [hfin];exact hp) r hr) (fun j hj=>hρ j (by rw [hr1.1];exact hj)) ⟨hB2⟩ hold
     have:=hk a' X2 g3 (s1.trans s3 hn1) e3 hs' (hd'.of_g g3 (by show X.w.heap.size <= X1.w.heap.size;rw [w1];exact Nat.le_refl _) w2) kp'
     rw [w2] at this;exact this
noncomputable def rndM (T:Tab C) (Φ:Fns C) (g:FuncId) (m:Qed) (n k:Nat) (kc:List Nat) {ck cv:C.Ty} (x:C.A ck × C.A cv) (env:Env C) (os:List (Obj C)):Option (Env C × List (Option (Obj C))) :=
 (Pg.bind (JK T (Qbb T Φ (evC T Φ n)) m.o2 m.more ((m.tv,T.enc cv x.2)::(m.tk,T.enc ck x.1)::(m.te,.top)::(m.tc,.bool true)::(m.tn,.top)::env)) fun env=>evC T Φ n g m.rest env).run (0,0) (hpOf 0 os) k [] fun r h' _ _=>match r.1 with
  | .normal=>some (kc.map fun t=>(t,eget r.2 t),Qbf 0 k h')
  | _=>none
def QcB (b:Code):Qed:=match QcA b with
 | some m=>m
 | none=>⟨0,0,0,0,0,0,0,#[],[],.skip⟩
theorem QoZ {b:Code} (h:(QcA b).isSome=true):QcA b=some (QcB b):=by
 unfold QcB;cases hm:QcA b with
 | none=>rw [hm] at h;cases h
 | some m=>rfl
def Qrm {ck cv:C.Ty} {σ:Type} (S:QiE C ck cv σ) (ex:Nat) (d:Env C->List (Obj C)->Option (Bool × (σ × List (C.A ck × C.A cv)))) (env:Env C) (os:List (Obj C)):RT C:=match d env os with
 | some (b,q)=>.br b (.leaf (.exit ex) (S.fin q.1 q.2) (S.fobjs q.1 q.2)) .fail
 | none=>.fail
theorem Qh.addRoundsM (K:QN P T) (F:Qh P T Φ) {g key:Nat} (hkeys:Qcm (Vb Φ g)=true) (hsome:(QcA (VA Φ g key)).isSome=true) {ck cv:C.Ty} (hck:∀ x,(T.enc ck x).isRow=false) {σ:Type} (S:QiE C ck cv σ) (n ex:Nat) (hex:(QcB (VA Φ g key)).ex=ex)
 (kc:List Nat) (fs:List Fnd) (slots:List Nat) (d:Env C->List (Obj C)->Option (Bool × (σ × List (C.A ck × C.A cv))))
 (hr:∀ s l,S.Inv s l->Qk S.k (S.canon s) (S.objs s l) /\ Qk S.k (S.fin s l) (S.fobjs s l) /\ (S.objs s l)[S.it]? = some (.ctl (.it ck cv l)) /\ eget (S.canon s) (QcB (VA Φ g key)).it=.itp S.it /\ (∀ l',S.objs s l'=(S.objs s l).set S.it (.ctl (.it ck cv l'))) /\
  (l=[]->(∀ p ∈ S.fin s l,eget (S.canon s) p.1=p.2 /\ p.1 ≠ (QcB (VA Φ g key)).tn /\ p.1 ≠ (QcB (VA Φ g key)).tc) /\ S.fobjs s l=S.objs s l) /\
  ∀ l1 x l2,l=l1++x::l2 -> ∃ s',rndM T Φ g (QcB (VA Φ g key)) n S.k kc x (S.canon s) (S.objs s (l1++l2))=some (S.canon s',(S.objs s' (l1++l2)).map some) /\ S.Inv s' (l1++l2) /\ S.fin s' (l1++l2)=S.fin s l /\ S.fobjs s' (l1++l2)=S.fobjs s l)
 (hd:∀ env os b q,d env os=some (b,q)->b=true->S.Inv q.1 q.2 /\ S.canon q.1=env /\ S.objs q.1 q.2=os):Qh P T (Φ.addLoop g key (sumO T fs slots (Qrm S ex d))):=by
 refine F.addLoop (QoY K F (S:=S) (m:=QcB (VA Φ g key)) hck (fun s l hI=>?_) (fun fn body b hf hb hbl hkey=>?_) ?_)
 · obtain ⟨h1,h2,h3,h4,h5,h6,h7⟩:=hr s l hI;refine ⟨h1,h2,h3,h4,h5,h6,fun l1 x l2 hl=>?_⟩;obtain ⟨s',q1,q2,q3,q4⟩:=h7 l1 x l2 hl;obtain ⟨q2a,_⟩:=hr s' _ q2;unfold rndM at q1;obtain ⟨⟨xx,env'⟩,h',nx',tr,q5,q6⟩:=Pg.run_some q1;cases xx with
   | exit i=>cases q6
   | ret=>cases q6
   | normal =>
    simp only [Option.some.injEq,Prod.mk.injEq] at q6;obtain ⟨q6,q7⟩:=q6;have hg:=Zy S.k 0 h' _ q7;simp only [Nat.zero_add] at hg;refine ⟨n,env',h',nx',tr,s',q5,q2,q3,q4,fun p hp=>?_,hg⟩;rw [<- q6] at hp;obtain ⟨t,_,rfl⟩:=List.mem_map.1 hp;rfl
 · rw [<- QaK hkeys hf hb hbl hkey];exact QoZ hsome
 · intro env0 os x env' os' h;unfold Qrm at h
   split at h
   · rename_i b q hq;cases b with
     | false=>simp [RT.val] at h
     | true =>
      obtain ⟨h1,h2,h3⟩:=hd _ _ _ _ hq rfl;simp only [RT.val,cond_true,Option.some.injEq,Prod.mk.injEq] at h;obtain ⟨⟨rfl,rfl⟩,rfl⟩:=h;exact ⟨q.1,q.2,h1,fun p hp=>by rw [<- h2];exact hp,h3.symm,by rw [hex],rfl,rfl⟩
   · simp [RT.val] at h
end
section
variable {C:Cdc} {P:Program} {T:Tab C} {Φ:Fns C}
open Pg (Ex)
def KM {α:Type} (T:Tab C):List Fnd->Env C->List Nat->(Env C->List Nat->Pg C α)->Pg C α
 | [],env,ids,k=>k env ids
 | .slot t i::r,env,ids,k=>match eget env t with
  | .sl ty true []=>.nw (.vec ty true []) fun id=>KM T r ((t,.vs id 0)::env) (ids++[id]) k
  | .sl ty true (x::l)=>.nw (.vec ty false (x::l)) fun id=>KM T r ((t,.vs id (x::l).length)::env) (ids++[id]) k
  | d=>match d.refs[i]? with
   | some id=>KM T r env (ids++[id]) k
   | none=>.fail
 | .lst t::r,env,ids,k=>match eget env t with
  | .sl ty true l=>.br l.isEmpty (.nw (.vec ty true l) fun id=>KM T r ((t,.vs id l.length)::env) (ids++[id]) k) (.nw (.vec ty false l) fun id=>KM T r ((t,.vs id l.length)::env) (ids++[id]) k)
  | _=>.fail
 | .path j p::r,env,ids,k=>match ids[j]? with
  | none=>.fail
  | some idj=>.rd idj fun
   | .var u d=>match getPath T d p with
    | some (.sl ty true [])=>match tyAt T u p with
     | some t'=>bif ZL T u p && fit T (.vs 0 0:D C) (.inl t') then .nw (.vec ty true []) fun id=>match Ev.setPath T d p (.vs id 0) with
      | some d'=>.wr idj (.var u d') (KM T r env (ids++[id]) k)
      | none=>.fail
      else .fail
     | none=>.fail
    | some (.sl ty true (x::l))=>match tyAt T u p with
     | some t'=>bif ZL T u p && fit T (.vs 0 0:D C) (.inl t') then .nw (.vec ty false (x::l)) fun id=>match Ev.setPath T d p (.vs id (x::l).length) with
      | some d'=>.wr idj (.var u d') (KM T r env (ids++[id]) k)
      | none=>.fail
      else .fail
     | none=>.fail
    | some x=>match x.refs with
     | id::_=>KM T r env (ids++[id]) k
     | []=>.fail
    | none=>.fail
   | _=>.fail
theorem Qo0 (K:QN P T) {α:Type} {e:Pg.Lv} {a:α} {h':Heap C} {nx':Nat} {lim:Lim} (hlim:nx' <= lim.top) {k:Env C->List Nat->Pg C α} {tmps:Array Value}:∀ (l:List Fnd) (X:Cx) (h:Heap C) (nx:Nat) (tr:Tr) (env:Env C) (ids:List Nat),
 G T X h nx lim->Qn T X nx lim env tmps->Ex e (KM T l env ids k) h nx a h' nx' tr ->
 ∃ X1 h1 nx1 env1 ids1 tr1,X1.w=X.w /\ G T X1 h1 nx1 lim /\ Step X nx lim X1 /\ nx <= nx1 /\ Qn T X1 nx1 lim env1 tmps /\ Ex e (k env1 ids1) h1 nx1 a h' nx' tr1:=by
 intro l
 induction l with
 | nil=>intro X h nx tr env ids g he hx;exact ⟨X,h,nx,env,ids,tr,rfl,g,.refl _ _ _,Nat.le_refl _,he,hx⟩
 | cons f l ih =>
  intro X h nx tr env ids g he hx;cases f with
  | slot t i =>
   simp only [KM] at hx
   split at hx
   · rename_i ty hq;obtain ⟨t',hx,_⟩:=Ex.nw hx;have hle:=hx.le;obtain ⟨X1,w1,g1,s1,e1⟩:=Yn K g he (by omega) hq
     obtain ⟨X2,h2,n2,env2,ids2,tr2,w2,g2,s2,hn2,e2,hx2⟩:=ih X1 _ _ _ _ _ g1 e1 hx;exact ⟨X2,h2,n2,env2,ids2,tr2,by rw [w2,w1],g2,s1.trans s2 (by omega),by omega,e2,hx2⟩
   · rename_i ty x l0 hq;obtain ⟨t',hx,_⟩:=Ex.nw hx;have hle:=hx.le;obtain ⟨X1,w1,g1,s1,e1⟩:=Yn K g he (by omega) hq
     obtain ⟨X2,h2,n2,env2,ids2,tr2,w2,g2,s2,hn2,e2,hx2⟩:=ih X1 _ _ _ _ _ g1 e1 hx;exact ⟨X2,h2,n2,env2,ids2,tr2,by rw [w2,w1],g2,s1.trans s2 (by omega),by omega,e2,hx2⟩
   · split at hx
     · exact ih X h nx tr env _ g he hx
     · exact (Ex.fail hx).elim
  | lst t =>
   simp only [KM] at hx
   split at hx
   · rename_i ty l0 hq;rcases Ex.br hx with ⟨hb,hx⟩ | ⟨hb,hx⟩
     all_goals
      obtain ⟨t',hx,_⟩:=Ex.nw hx;have hle:=hx.le;obtain ⟨X1,w1,g1,s1,e1⟩:=Yn K g he (by omega) hq
      rw [hb] at g1;obtain ⟨X2,h2,n2,env2,ids2,tr2,w2,g2,s2,hn2,e2,hx2⟩:=ih X1 _ _ _ _ _ g1 e1 hx;exact ⟨X2,h2,n2,env2,ids2,tr2,by rw [w2,w1],g2,s1.trans s2 (by omega),by omega,e2,hx2⟩
   · exact (Ex.fail hx).elim
  | path j p =>
   simp only [KM] at hx
   split at hx
   · exact (Ex.fail hx).elim
   · rename_i idj hj;obtain ⟨o,t',ho,hx,_⟩:=Ex.rd hx;cases o with
     | vec _ _ _=>exact (Ex.fail hx).elim
     | map _ _ _=>exact (Ex.fail hx).elim
     | ctl _=>exact (Ex.fail hx).elim
     | var u d =>
      simp only at hx
      split at hx
      · rename_i ty hq
        split at hx
        · rename_i t' ht;cases hb:ZL T u p && fit T (.vs 0 0:D C) (.inl t') with
          | false=>rw [hb] at hx;exact (Ex.fail hx).elim
          | true =>
           rw [hb] at hx;simp only [cond_true] at hx;simp only [Bool.and_eq_true] at hb;obtain ⟨t1,hx,_⟩:=Ex.nw hx
           split at hx
           · rename_i d' hs;obtain ⟨o',t2,ho',hx,_⟩:=Ex.wr hx;have hle:=hx.le;obtain ⟨X1,w1,g1,s1,e1⟩:=Je K g he (by omega) ho hb.1 hq hs ht (by simpa [fit] using hb.2)
             obtain ⟨X2,h2,n2,env2,ids2,tr2,w2,g2,s2,hn2,e2,hx2⟩:=ih X1 _ _ _ _ _ g1 e1 hx;exact ⟨X2,h2,n2,env2,ids2,tr2,by rw [w2,w1],g2,s1.trans s2 (by omega),by omega,e2,hx2⟩
           · exact (Ex.fail hx).elim
        · exact (Ex.fail hx).elim
      · rename_i ty x l0 hq
        split at hx
        · rename_i t' ht;cases hb:ZL T u p && fit T (.vs 0 0:D C) (.inl t') with
          | false=>rw [hb] at hx;exact (Ex.fail hx).elim
          | true =>
           rw [hb] at hx;simp only [cond_true] at hx;simp only [Bool.and_eq_true] at hb;obtain ⟨t1,hx,_⟩:=Ex.nw hx
           split at hx
           · rename_i d' hs;obtain ⟨o',t2,ho',hx,_⟩:=Ex.wr hx;have hle:=hx.le;obtain ⟨X1,w1,g1,s1,e1⟩:=Je K g he (by omega) ho hb.1 hq hs ht (by simpa [fit] using hb.2)
             obtain ⟨X2,h2,n2,env2,ids2,tr2,w2,g2,s2,hn2,e2,hx2⟩:=ih X1 _ _ _ _ _ g1 e1 hx;exact ⟨X2,h2,n2,env2,ids2,tr2,by rw [w2,w1],g2,s1.trans s2 (by omega),by omega,e2,hx2⟩
           · exact (Ex.fail hx).elim
        · exact (Ex.fail hx).elim
      · split at hx
        · exact ih X h nx _ env _ g he hx
        · exact (Ex.fail hx).elim
      · exact (Ex.fail hx).elim
def RT.pgK (kp:Nat) (ids:List Nat):RT C->Pg C (Ev.X × Env C)
 | .fail=>.fail
 | .leaf x env os=>QhY (ids.take kp) ((os.map (Obj.ren fun j=>ids.getD j 0)).take kp) (.ret (x,renE (fun j=>ids.getD j 0) env))
 | .br b l r=>.br b (l.pgK kp ids) (r.pgK kp ids)
theorem RT.pgK_ok {e:Pg.Lv} {a:Ev.X × Env C} {h h':Heap C} {nx nx' kp:Nat} {ids:List Nat}:∀ (t:RT C) (tr:Tr),Ex e (t.pgK kp ids) h nx a h' nx' tr -> ∃ x env os,t.val=some ((x,env),os) /\ Ex e (QhY (ids.take kp) ((os.map (Obj.ren fun j=>ids.getD j 0)).take kp) (.ret (x,renE (fun j=>ids.getD j 0) env))) h nx a h' nx' tr
 | .fail,tr,hx=>(Ex.fail hx).elim
 | .leaf x env os,tr,hx=>⟨x,env,os,rfl,hx⟩
 | .br b l r,tr,hx=>by
  rcases Ex.br hx with ⟨rfl,hx⟩ | ⟨rfl,hx⟩
  · exact RT.pgK_ok l tr hx
  · exact RT.pgK_ok r tr hx
def sumK (T:Tab C) (fs:List Fnd) (slots:List Nat) (kp:Nat) (res:Env C->List (Obj C)->RT C) (env:Env C):Pg C (Ev.X × Env C) :=
 KM T fs env [] fun env ids=>bif VD ids then Qog ids fun os =>
  bif inB ids (slots.flatMap fun t=>(eget env t).refs) && inB ids (os.flatMap Obj.refs) then
   (res (slots.map fun t=>(t,(eget env t).ren (idx ids))) (os.map (Obj.ren (idx ids)))).pgK kp ids
  else .fail
 else .fail
theorem Qmy (K:QN P T) (F:Qh P T Φ) {g key:Nat} {fs:List Fnd} {slots:List Nat} {res:Env C->List (Obj C)->RT C} {σ:Type} {S:Qdi C σ} {kp:Nat} (hkeep:∀ q,S.Inv q->(S.fobjs q).drop kp=(S.objs q).drop kp)
 (hr:∀ fn body b,Φ.fn g=some fn->fn.body=some body->b ∈ QJ body->Qp b=key->QjP T Φ g b S)
 (hres:∀ env0 os x env' os',(res env0 os).val=some ((x,env'),os') -> ∃ q,S.Inv q /\ (∀ p ∈ S.canon q,p ∈ env0) /\ os=S.objs q /\ S.fin q=(x,env') /\ S.fobjs q=os'):Qcl P T Φ g key (sumK T fs slots kp res):=by
 intro fn body b hf hb hbl hkey B hB X h nx lim e env x env' h' nx' tr a Q gg he hlim hsz hx hk;obtain ⟨f1,f2,f3⟩:=F.fn g fn hf;obtain ⟨c1,c2⟩:=Za body (f3 body hb) b hbl;have hround:=hr fn body b hf hb hbl hkey;obtain ⟨X1,h1,nx1,env1,ids,tr1,w1,g1,s1,hn1,e1,hx1⟩:=Qo0 K hlim fs X h nx tr env [] gg he hx;cases hnd:VD ids with
 | false=>rw [hnd] at hx1;exact (Ex.fail hx1).elim
 | true =>
 rw [hnd] at hx1;simp only [cond_true] at hx1;have hnodup:=ZM hnd;obtain ⟨os,tr2,hlen,hos,hx2⟩:=JU ids _ _ hx1;cases hin:inB ids (slots.flatMap fun t=>(eget env1 t).refs) && inB ids (os.flatMap Obj.refs) with
 | false=>rw [hin] at hx2;exact (Ex.fail hx2).elim
 | true =>
 rw [hin] at hx2;simp only [cond_true] at hx2;simp only [Bool.and_eq_true] at hin;have hin1:=ZQ hin.1;have hin2:=ZQ hin.2;obtain ⟨xx,ee,os',hq,hx3⟩:=RT.pgK_ok _ _ hx2
 · · obtain ⟨q,hI,hsub,hobjs,hfin,hfo⟩:=hres _ _ _ _ _ hq;obtain ⟨hr1,hr2,_⟩:=hround q hI;obtain ⟨h2,tr3,hl2,hv1,hv2,hx4⟩:=JV (ids.take kp) _ h1 _ ((List.take_sublist kp ids).nodup hnodup) hx3;have hw2:∀ id,id ∉ ids->h2.get id=h1.get id:=fun id hid=>hv2 id fun hm=>hid (List.mem_of_mem_take hm)
     have hw1:∀ (j id:Nat) (o:Obj C),ids[j]? = some id->(os'.map (Obj.ren fun j=>ids.getD j 0))[j]? = some o->h2.get id=some o:=by
      intro j id o hj ho
      by_cases hjk:j < kp
      · exact hv1 j id o (by rw [List.getElem?_take,if_pos hjk];exact hj) (by rw [List.getElem?_take,if_pos hjk];exact ho)
      · have hlt:j < ids.length:=(List.getElem?_eq_some_iff.1 hj).1
        rw [hv2 id fun hm=>by
         obtain ⟨i,hi,hii⟩:=List.getElem_of_mem hm;have hi':i < kp:=by simp only [List.length_take] at hi;omega
         have h1:ids[i]? = some id:=by rw [<- hii,List.getElem_take];exact List.getElem?_eq_getElem _
         have:=(List.getElem?_inj hlt hnodup (j:=i)).1 (by rw [hj,h1])
         omega]
        have hd:=hkeep q hI;rw [hfo,<- hobjs] at hd
        have hq:os'[j]? = (os.map (Obj.ren (idx ids)))[j]? := by
         have h1:=congrArg (fun l=>l[j - kp]?) hd;simp only [List.getElem?_drop] at h1;rw [show kp+(j - kp)=j by omega] at h1
         exact h1
        rw [List.getElem?_map,hq,List.getElem?_map] at ho;cases hoj:os[j]? with
        | none=>simp [hoj] at ho
        | some o0 =>
         simp only [hoj,Option.map_some,Option.some.injEq] at ho;rw [hos j id o0 hj hoj,<- ho,Obj.ren_ren];intro r hr;have hm:=hin2 r (List.mem_flatMap.2 ⟨o0,List.mem_of_getElem? hoj,hr⟩);have:=Vc ids r hm;simp only [List.getD_eq_getElem?_getD,this,Option.getD_some]
     obtain ⟨hxx,eh,en,_⟩:=Ex.ret hx4;obtain ⟨rfl,rfl⟩:=Prod.mk.inj hxx;subst eh;subst en
     let f:Nat->Nat:=fun j=>ids.getD j 0
     have hfj:∀ j,j < ids.length->ids[j]? = some (f j):=fun j hj=>by simp [f,hj]
     have hk0:ids.length=S.k:=by rw [<- hr1.1,<- hobjs];simp [hlen]
     have hff:∀ r,r ∈ ids->f (idx ids r)=r:=fun r hr=>by
      have:=Vc ids r hr;simp only [f,List.getD_eq_getElem?_getD,this,Option.getD_some]
     have hlenO:(S.objs q).length=ids.length:=by rw [hr1.1,hk0]
     have part:Part h1 (S.objs q) f:=by
      refine ⟨fun j o ho=>?_,fun i j hi hj hij=>?_,fun o ho r hr=>by rw [hr1.1];exact hr1.2.2 o ho r hr⟩
      · rw [<- hobjs,List.getElem?_map] at ho;cases hoj:os[j]? with
        | none=>simp [hoj] at ho
        | some o0 =>
         simp only [hoj,Option.map_some,Option.some.injEq] at ho;have hj:j < ids.length:=by rw [<- hlen];exact (List.getElem?_eq_some_iff.1 hoj).1
         rw [hos j (f j) o0 (hfj j hj) hoj,<- ho,Obj.ren_ren];intro id hid;exact hff id (hin2 id (List.mem_flatMap.2 ⟨o0,List.mem_of_getElem? hoj,hid⟩))
      · rw [hlenO] at hi hj;have:=(List.getElem?_inj hi hnodup (j:=j)).1 (by rw [hfj i hi,hfj j hj];simp only [f] at hij ⊢;rw [hij])
        exact this
     have g2:=Part.ctx K.base g1 part (S.objs q).length
     have e2:Qn T (X1.part (S.objs q).length f) (S.objs q).length (lim0 (S.objs q).length) (S.canon q) a.tmps:=by
      refine Qn.part K.base e1 part.inj (fun p hp=>?_) (fun p hp r hr=>by rw [hr1.1];exact hr1.2.1 p hp r hr)
      have:=hsub p hp;simp only [List.mem_map] at this;obtain ⟨t,ht,rfl⟩:=this;simp only;rw [D.ren_ren];intro id hid;exact hff id (hin1 id (List.mem_flatMap.2 ⟨t,ht,hid⟩))
     rw [hr1.1] at g2 e2;rw [<- w1];show (Code.loop b).wp P Q a (X1.part S.k f).w;refine wp_loop_rounds (S.μ q+1) (Qbt K F hround hf hb c1 c2 hB (S.μ q+1) q (X1.part S.k f) a hI (by omega) g2 e2 hsz fun a' X' g' s' e' hs' hd' kp'=>?_)
     rw [hfo] at g';rw [hfin] at e';have hlen':os'.length=(S.objs q).length:=by rw [<- hfo,hr2.1,hr1.1]
     have hrefs':∀ o ∈ os',∀ r ∈ Obj.refs o,r < (S.objs q).length:=fun o ho r hr=>by rw [hr1.1];exact hr2.2.2 o (by rw [hfo];exact ho) r hr
     obtain ⟨X2,w2,g3,s3,hρ,hB2⟩:=Part.back K.base g1 part hlen' hrefs' (X1:=X') (lim1:=lim0 S.k) (h':=h') (by rw [hr1.1];exact g') (by rw [hr1.1];exact s') (fun j o hj=>by
      have hlt:j < ids.length:=by rw [<- hlenO,<- hlen'];exact (List.getElem?_eq_some_iff.1 hj).1
      exact hw1 j (f j) _ (hfj j hlt) (by rw [List.getElem?_map,hj];rfl)) (fun id hid=>by
      refine hw2 id fun hm=>?_;obtain ⟨j,hj,hjj⟩:=List.getElem_of_mem hm;refine hid j (by rw [hlenO];exact hj) ?_
      simp [f,hj,hjj])
     have hold:∀ j,j < S.k->old nx' lim (f j):=fun j hj=>by
      have hj':j < (S.objs q).length:=by rw [hr1.1];exact hj
      exact (g1.nums _ _ (part.at' j (S.objs q)[j] (by simp [hj']))).1
     have e3:=Qn.back (nx:=nx') (lim:=lim) (f:=f) K.base e' (fun p hp r hr=>hr2.2.1 p (by rw [hfin];exact hp) r hr) (fun j hj=>hρ j (by rw [hr1.1];exact hj)) ⟨hB2⟩ hold
     have:=hk a' X2 g3 (s1.trans s3 hn1) e3 hs' (hd'.of_g g3 (by show X.w.heap.size <= X1.w.heap.size;rw [w1];exact Nat.le_refl _) w2) kp'
     rw [w2] at this;rw [hfin];exact this
theorem Qh.addRoundsOK (K:QN P T) (F:Qh P T Φ) {g key:Nat} (hkeys:Qcm (Vb Φ g)=true) {σ:Type} (S:Qdi C σ) (kp:Nat) (hkeep:∀ q,S.Inv q->(S.fobjs q).drop kp=(S.objs q).drop kp) (n:Nat) (kc kf:List Nat) (fs0:List Fnd) (fs:List Fnd) (slots:List Nat) (res:Env C->List (Obj C)->RT C)
 (hr:∀ q,S.Inv q->Qk S.k (S.canon q) (S.objs q) /\ Qk S.k (S.fin q).2 (S.fobjs q) /\ Leaf (rndO T Φ g key n S.k kc kf fs0 (S.canon q) (S.objs q)) (LedO S q))
 (hres:∀ env0 os x env' os',(res env0 os).val=some ((x,env'),os') -> ∃ q,S.Inv q /\ (∀ p ∈ S.canon q,p ∈ env0) /\ os=S.objs q /\ S.fin q=(x,env') /\ S.fobjs q=os'):Qh P T (Φ.addLoop g key (sumK T fs slots kp res)):=by
 refine F.addLoop (Qmy K F hkeep (S:=S) (fun fn body b hf hb hm hkey q hI=>?_) hres);obtain ⟨h1,h2,r,h3,h4⟩:=hr q hI;rw [rndO,QaK hkeys hf hb hm hkey] at h3;obtain ⟨⟨x,env'⟩,h',nx',tr,h5,h6⟩:=Pg.run_some h3;refine ⟨h1,h2,n,x,env',h',nx',tr,h5,?_⟩;cases x with
 | normal =>
  simp only at h6;rcases settle_some h6 h1.1 with hs | ⟨env0,os',hs,f,f1,⟨f2,f3,f4⟩,f5⟩
  · subst hs;rcases h4 with ⟨h4,s',a1,a2,a3,a3b,a4,a5⟩ | ⟨h4,h7,h8⟩
    · have hg:=Zy S.k 0 h' _ a5;simp only [Nat.zero_add] at hg;exact .inl ⟨rfl,s',a1,a2,a3,a3b,by rw [<- a4];exact VB _ _,hg⟩
    · exact (h4 rfl).elim
  · subst hs;rcases h4 with ⟨h4,s',a1,a2,a3,a3b,a4,a5⟩ | ⟨h4,h7,h8⟩
    · simp only at a4 a5;have a5:os'=S.objs s':=List.map_inj_right (fun _ _ h=>Option.some.inj h) |>.1 a5;subst a4;subst a5;obtain ⟨b1,_⟩:=hr s' a1;exact .inr (.inl ⟨rfl,s',f,a1,a2,a3,a3b,f1,⟨f3,f4,by rw [b1.1];exact b1.2.2⟩,f5⟩)
    · exact (h4 rfl).elim
 | exit id =>
  simp only [Option.some.injEq] at h6;subst h6;rcases h4 with ⟨h4,_⟩ | ⟨h4,h7,h8⟩
  · cases h4
  · have hg:=Zy S.k 0 h' _ h8;simp only [Nat.zero_add] at hg;exact .inr (.inr ⟨by simp,by rw [<- h7],by rw [<- h7];exact VB _ _,hg⟩)
 | ret =>
  simp only [Option.some.injEq] at h6;subst h6;rcases h4 with ⟨h4,_⟩ | ⟨h4,h7,h8⟩
  · cases h4
  · have hg:=Zy S.k 0 h' _ h8;simp only [Nat.zero_add] at hg;exact .inr (.inr ⟨by simp,by rw [<- h7],by rw [<- h7];exact VB _ _,hg⟩)
def RT.keeps (kp:Nat) (os0:List (Obj C)):RT C->Prop
 | .fail=>True
 | .leaf _ _ os=>os.drop kp=os0.drop kp
 | .br _ l r=>l.keeps kp os0 /\ r.keeps kp os0
theorem RT.keeps_val {kp:Nat} {os0:List (Obj C)}:∀ {t:RT C},t.keeps kp os0 -> ∀ {x env os},t.val=some ((x,env),os)->os.drop kp=os0.drop kp
 | .fail,_,_,_,_,h=>by cases h
 | .leaf x env os,h,_,_,_,e=>by cases e;exact h
 | .br b l r,h,_,_,_,e=>by
  cases b with
  | true=>exact RT.keeps_val (t:=l) h.1 e
  | false=>exact RT.keeps_val (t:=r) h.2 e
def Qrn (T:Tab C) (fs:List Fnd) (slots:List Nat) (kp:Nat) {σ:Type} (S:QF C σ) (d:Env C->List (Obj C)->Option (Bool × σ)):Env C->Pg C (Ev.X × Env C):=sumK T fs slots kp (resR S d)
theorem Qh.addRoundsRK (K:QN P T) (F:Qh P T Φ) {g key:Nat} (hkeys:Qcm (Vb Φ g)=true) {σ:Type} (S:QF C σ) (kp:Nat) (hkeep:∀ q,S.Inv q->(S.fin q).keeps kp (S.objs q)) (n:Nat) (kc kf:List Nat) (fs:List Fnd) (slots:List Nat) (d:Env C->List (Obj C)->Option (Bool × σ))
 (hr:∀ q,S.Inv q->Qk S.k (S.canon q) (S.objs q) /\ (S.fin q).refsOK S.k /\ Leaf (rndO T Φ g key n S.k kc kf fs (S.canon q) (S.objs q)) (LedR S q))
 (hd:∀ env os b q,d env os=some (b,q)->b=true->S.Inv q /\ S.canon q=env /\ S.objs q=os):Qh P T (Φ.addLoop g key (Qrn T fs slots kp S d)):=by
 refine F.addRoundsOK K hkeys S.toO kp (fun q hI=>?_) n kc kf fs fs slots (resR S d) (fun q hI=>?_) ?_
 · obtain ⟨h1,h2,_⟩:=hr q hI;obtain ⟨x,env,os,hv,hok⟩:=RT.refsOK_val h2;simp only [QF.toO,hv];exact RT.keeps_val (hkeep q hI) hv
 · obtain ⟨h1,h2,r,h3,h4⟩:=hr q hI;obtain ⟨x,env,os,hv,hok⟩:=RT.refsOK_val h2;refine ⟨h1,by simp only [QF.toO,hv];exact hok,r,h3,?_⟩
   rcases h4 with ⟨a1,s',a2,a3,a4,a5,a6⟩ | ⟨a1,os',a2,a3⟩
   · exact .inl ⟨a1,s',a2,a3,by simp only [QF.toO,a4],by simp only [QF.toO,a4],a5,a6⟩
   · exact .inr ⟨a1,by simp only [QF.toO,a2],by simp only [QF.toO,a2];exact a3⟩
 · intro env0 os x env' os' h;unfold resR at h
   split at h
   · rename_i b q hq;cases b with
     | false=>simp [RT.val] at h
     | true =>
      obtain ⟨h1,h2,h3⟩:=hd _ _ _ _ hq rfl;simp only [RT.val,cond_true] at h;exact ⟨q,h1,fun p hp=>by rw [<- h2];exact hp,h3.symm,by simp only [QF.toO,h],by simp only [QF.toO,h]⟩
   · simp [RT.val] at h
end
open Go.Proofs
noncomputable def Qef:QiE RC .int .int (List Int) where
 k:=2
 it:=1
 canon s:=[(0,.vs 0 s.length),(16,.itp 1)]
 objs s l:=[.vec (C:=RC) .int true s,.ctl (.it .int .int l)]
 fin _ _:=[]
 fobjs s l:=[.vec (C:=RC) .int true (Qv s l),.ctl (.it .int .int [])]
 Inv s l:=s.length=771 /\ Q9 771 l=true
noncomputable def Qmz (env:Env RC) (os:List (Obj RC)):Option (Bool × (List Int × List (Int × Int))):=match env,os with
 | [(0,.vs 0 x0),(16,.itp 1)],[.vec .int true s,.ctl (.it .int .int l)]=>some (decide (x0=s.length) && decide (s.length=771) && Q9 771 l,(s,l))
 | _,_=>none
noncomputable def QpT (s:List Int) (l:List (Int × Int)) (x:Int × Int):=rndM s28 uj_2 59 (QcB (VA uj_2 59 5)) 40 2 [0,16] (ck:=RTy.int) (cv:=RTy.int) x (Qef.canon s) (Qef.objs s l)
theorem Qro (s:List Int) (l:List (Int × Int)) (x:Int × Int):QpT s l x=(let Z0:Nat:=List.length s;let Z1:Int:=Prod.fst x;bif Nat.beq Z0 Z0 && decide ((0:Int) <= Z1 /\ Z1 < (↑Z0:Int)) then bif Nat.beq Z0 Z0 then some ([(0,D.vs 0 Z0),(16,D.itp (1:Nat))],[some (Obj.vec RTy.int true (List.set s Z1.toNat x.2)),some (Obj.ctl (Ctl.it RTy.int RTy.int l))]) else none else none):=by kernel_rfl
noncomputable def uk_1:=uj_2.addLoop 59 5 (sumO s28 [.slot 0 0,.slot 16 0] [0,16] (Qrm Qef 2 Qmz))
theorem QmA:Qh Tryz.prog s28 uk_1:=by
 refine Qmw.addRoundsM Qc (by kernel_rfl) (by kernel_rfl) (fun x=>rfl) Qef 40 2 (by kernel_rfl) [0,16] [.slot 0 0,.slot 16 0] [0,16] Qmz (fun s l hI=>?_) ?_
 · obtain ⟨h1,h2⟩:=hI;have h1:List.length (α:=Int) s=771:=h1;refine ⟨?_,?_,rfl,by kernel_rfl,fun l'=>rfl,fun hl=>⟨fun p hp=>(by cases hp),(by subst hl;rfl)⟩,fun l1 x l2 hl=>?_⟩
   · simp [Qk,Qef,D.refs,Obj.refs]
   · simp [Qk,Qef,D.refs,Obj.refs]
   · obtain ⟨k,v⟩:=x;subst hl;obtain ⟨⟨k0,k1⟩,k2,k3⟩:=Qea h2;refine ⟨s.set k.toNat v,?_,⟨by rw [List.length_set];exact h1,k2⟩,rfl,?_⟩
     · show QpT s (l1++l2) (k,v)=_
       (rw [Qro];conv=>zeta)
       have b1:Nat.beq s.length s.length=true:=Vd rfl;have b2:decide (0 <= k /\ k < (s.length:Int))=true:=decide_eq_true ⟨k0,by rw [h1];exact k1⟩
       simp only [b1,b2,Bool.and_self,cond_true,Qef,List.length_set,List.map_cons,List.map_nil]
     · simp only [Qef,Qmg k0 k3]
 · intro env os b q h hb;unfold Qmz at h
   split at h
   · cases h;simp only [Bool.and_eq_true,decide_eq_true_eq] at hb;obtain ⟨⟨e1,e2⟩,e3⟩:=hb;subst e1;exact ⟨⟨e2,e3⟩,rfl,rfl⟩
   · cases h
def QfF (p:Int):List (Int × Int):=putM (putM (putM (putM [] 0 p) 3 p) 4 p) 1 (IntKind.i64.wrap (p+1))
def VZ (n0:List Int) (c kk:Int) (s:St):List Int:=Qv (Qv (Qv (Qv (Qv n0 (Zt 0 (putM [] 48 s.c0) s.l0)) (Zt 1 (putM [] 49 s.c1) s.l1)) (Zt 2 (putM [] 50 s.c2) s.l2)) (QfF s.place)) (QI c kk 0 s.items [])
def QX (now sure:List Qa) (c w d kk:Int) (s:St):Int:=bif Vs now sure && Zv c w d kk && Q5 s then (bif decide (c * kk < s.items.length) then 120 else 0) else 2
theorem putM_fst {k v:Int}:∀ {m:List (Int × Int)} {p:Int × Int},p ∈ putM m k v->p.1=k \/ ∃ q ∈ m,q.1=p.1
 | [],p,h=>by
  simp [putM,mput] at h;subst h;exact .inl rfl
 | (a,b)::m,p,h=>by
  unfold putM mput at h
  by_cases hk:k=a
  · rw [decide_eq_true hk] at h;simp only [cond_true,List.mem_cons] at h;rcases h with rfl | h
    · exact .inl rfl
    · exact .inr ⟨p,List.mem_cons_of_mem _ h,rfl⟩
  · rw [decide_eq_false hk] at h;simp only [cond_false,List.mem_cons] at h;rcases h with rfl | h
    · exact .inr ⟨_,List.mem_cons_self,rfl⟩
    · rcases putM_fst h with h | ⟨q,hq,e⟩
      · exact .inl h
      · exact .inr ⟨q,List.mem_cons_of_mem _ hq,e⟩
theorem QD {n:Nat} {k v:Int} (h0:0 <= k) (h1:k < n):∀ {m:List (Int × Int)},Q9 n m=true->Q9 n (putM m k v)=true
 | [],_=>by simp [putM,mput,Q9];omega
 | (a,b)::m,h=>by
  simp only [Q9,Bool.and_eq_true,decide_eq_true_eq,List.all_eq_true] at h;obtain ⟨⟨a1,a2⟩,a3⟩:=h;unfold putM mput
  by_cases hk:k=a
  · rw [decide_eq_true hk];simp only [cond_true,Q9,Bool.and_eq_true,decide_eq_true_eq,List.all_eq_true];exact ⟨⟨⟨h0,h1⟩,fun p hp=>by rw [hk];exact a2 p hp⟩,a3⟩
  · rw [decide_eq_false hk];simp only [cond_false,Q9,Bool.and_eq_true,decide_eq_true_eq,List.all_eq_true];refine ⟨⟨a1,fun p hp=>?_⟩,QD h0 h1 a3⟩;rcases putM_fst hp with e | ⟨q,hq,e⟩
    · rw [e];exact hk
    · rw [<- e];exact a2 q hq
theorem Vj {q:Int} (q0:0 <= q) (q1:q <= 2):∀ {l:List Line} {m:List (Int × Int)},Q9 771 m=true->(∀ x ∈ l,0 <= x.offset)->Q9 771 (Zt q m l)=true
 | [],m,h,_=>h
 | x::l,m,h,hx=>by
  have h0:=hx x List.mem_cons_self;have e1:lStream q x.offset=51+16 * q+x.offset % 16:=by unfold lStream;rw [if_pos ⟨q0,q1,h0⟩]
  have e2:lRow 45 q 3=45+q:=by unfold lRow;rw [if_pos (by omega)]
  simp only [Zt,List.foldl_cons];exact Vj q0 q1 (QD (by rw [e2];omega) (by rw [e2];omega) (QD (by rw [e1];omega) (by rw [e1];omega) h)) fun y hy=>hx y (List.mem_cons_of_mem _ hy)
theorem QbQ {m:List (Int × Int)} {s:Int} {x:Item} (h:Q9 771 m=true) (s0:0 <= s) (s1:s < 160) (k0:0 <= x.key) (k1:x.key <= 23):Q9 771 (Qd9 m s x)=true:=by
 have e:∀ f:Int,0 <= f->f <= 2->lField 291 s f 160 3=291+s * 3+f:=fun f f0 f1=>by unfold lField;rw [if_pos (by omega)]
 have e2:lRow 21 x.key 24=21+x.key:=by unfold lRow;rw [if_pos (by omega)]
 unfold Qd9;rw [e 0 (by omega) (by omega),e 1 (by omega) (by omega),e 2 (by omega) (by omega),e2]
 exact QD (by omega) (by omega) (QD (by omega) (by omega) (QD (by omega) (by omega) (QD (by omega) (by omega) h)))
theorem Jj {c kk:Int} {n:Nat} (c1:1 <= c) (c4:c <= 4) (q4:4 <= kk) (q40:kk <= 40) (h:(n:Int) < c * kk):0 <= ZG c kk n /\ ZG c kk n < 160:=by
 unfold ZG;have m0:=Int.emod_nonneg (n:Int) (show c ≠ 0 by omega)
 have m1:=Int.emod_lt_of_pos (n:Int) (show 0 < c by omega)
 have d0:0 <= (n:Int) / c:=Int.ediv_nonneg (by omega) (by omega)
 have d1:(n:Int) / c < kk:=Int.ediv_lt_of_lt_mul (by omega) (by rw [Int.mul_comm];exact h)
 have p0:0 <= (n:Int) % c * kk:=Int.mul_nonneg m0 (by omega)
 have p1:(n:Int) % c * kk <= 3 * kk:=Int.mul_le_mul_of_nonneg_right (by omega) (by omega)
 omega
theorem QaV {c kk:Int} (c1:1 <= c) (c4:c <= 4) (q4:4 <= kk) (q40:kk <= 40):∀ {l:List Item} {n:Nat} {m:List (Int × Int)},Q9 771 m=true->(∀ x ∈ l,0 <= x.key /\ x.key <= 23)->(n:Int)+l.length <= c * kk->Q9 771 (QI c kk n l m)=true
 | [],n,m,h,_,_=>h
 | x::l,n,m,h,hx,hn=>by
  have h0:=hx x List.mem_cons_self;simp only [List.length_cons] at hn;obtain ⟨s0,s1⟩:=Jj (n:=n) c1 c4 q4 q40 (by omega)
  unfold QI;exact QaV c1 c4 q4 q40 (QbQ h s0 s1 h0.1 h0.2) (fun y hy=>hx y (List.mem_cons_of_mem _ hy)) (by omega)
theorem QiH (p:Int):Q9 771 (QfF p)=true:=by
 unfold QfF;exact QD (by decide) (by decide) (QD (by decide) (by decide) (QD (by decide) (by decide) (QD (by decide) (by decide) rfl)))
theorem stands_lines {p c:Int} {l:List Line} (h:Zz p c l=true):∀ x ∈ l,0 <= x.offset /\ x.offset <= 4194303 /\ Q8 x=true \/ 1048575 < p:=by
 intro x hx;unfold Zz at h;simp only [Bool.and_eq_true] at h;have:=List.all_eq_true.1 (Yo h.2) x hx;unfold ZY at this;simp only [Bool.and_eq_true,QA] at this;obtain ⟨⟨⟨⟨⟨a1,a2⟩,b1,b2⟩,d1,d2⟩,e1,e2⟩,f1,f2⟩:=this
 by_cases hp:p <= 1048575
 · refine .inl ⟨a1,a2,?_⟩;simp only [Q8,decide_eq_true_eq];omega
 · exact .inr (by omega)
theorem QbR {s:St} (h:Q5 s=true):(0 <= s.place /\ s.place <= 1048575) /\ s.items.length <= 24 /\ (∀ x ∈ s.items,0 <= x.key /\ x.key <= 23 /\ 1 <= x.place /\ x.place <= s.place /\ 0 <= x.value /\ x.value <= 255) /\
 (s.l0.length <= 16 /\ ∀ x ∈ s.l0,0 <= x.offset /\ x.offset <= 4194303 /\ Q8 x=true) /\ (s.l1.length <= 16 /\ ∀ x ∈ s.l1,0 <= x.offset /\ x.offset <= 4194303 /\ Q8 x=true) /\ (s.l2.length <= 16 /\ ∀ x ∈ s.l2,0 <= x.offset /\ x.offset <= 4194303 /\ Q8 x=true):=by
 obtain ⟨p,it,l0,l1,l2,c0,c1,c2⟩:=s;obtain ⟨hp,hn,_,⟨_,h0,_⟩,⟨_,h1,_⟩,⟨_,h2,_⟩⟩:=Qdl h;unfold Q5 at h;simp only [Bool.and_eq_true] at h;obtain ⟨⟨⟨⟨_,hi⟩,k0⟩,k1⟩,k2⟩:=h
 have fin:∀ {l:List Line} {c:Int},Zz p c l=true -> ∀ x ∈ l,0 <= x.offset /\ x.offset <= 4194303 /\ Q8 x=true:=fun hk x hx=>by
  rcases stands_lines hk x hx with h | h
  · exact h
  · omega
 refine ⟨hp,hn,fun x hx=>?_,⟨h0,fin k0⟩,⟨h1,fin k1⟩,⟨h2,fin k2⟩⟩;have:=List.all_eq_true.1 (Yo hi) x hx;unfold ZX at this;simp only [Bool.and_eq_true,QA] at this;show _ /\ _ /\ _ /\ x.place <= p /\ _;omega
open Go.Proofs
theorem andT {a b:Bool} (h:a=true) (k:b=true):(a && b)=true:=by rw [h,k];rfl
theorem QmB:nC.length=771:=by rw [QoU];rfl
noncomputable def Qhb (cn:Bool) (now:List Qa) (cs:Bool) (sure:List Qa) (c:Int) (w:Int) (d:Int) (kk:Int) (sp:Int) (ci:Bool) (it:List Item) (f0:Bool) (l0:List Line) (f1:Bool) (l1:List Line) (f2:Bool) (l2:List Line) (c0:Int) (c1:Int) (c2:Int):Option (Bool × D RC):=some (QH now && QH sure && decide (it.length <= 9223372036854775807 /\ l0.length <= 9223372036854775807 /\ l1.length <= 9223372036854775807 /\ l2.length <= 9223372036854775807),.tup (.acons (.acons (.sl (C:=RC) .int false (bif QX now sure c w d kk ⟨sp,it,l0,l1,l2,c0,c1,c2⟩ == 0 then VZ nC c kk ⟨sp,it,l0,l1,l2,c0,c1,c2⟩ else [])) (.acons (.acons (.sl (C:=RC) .sector false (bif QX now sure c w d kk ⟨sp,it,l0,l1,l2,c0,c1,c2⟩ == 0 then now else [])) (.acons (.sl (C:=RC) .sector false (bif QX now sure c w d kk ⟨sp,it,l0,l1,l2,c0,c1,c2⟩ == 0 then sure else [])) .anil)) .anil)) (.acons (.int .i64 (QX now sure c w d kk ⟨sp,it,l0,l1,l2,c0,c1,c2⟩)) .anil)))
noncomputable def Qeg:List (D RC)->Option (Bool × D RC)
 | [.acons (.sl .sector cn now) (.acons (.sl .sector cs sure) .anil),.acons (.int .i64 c) (.acons (.int .i64 w) (.acons (.int .i64 d) (.acons (.int .i64 kk) .anil))),.acons (.int .i64 sp) (.acons (.sl .item ci it) (.acons (.acons (.sl .line f0 l0) (.acons (.sl .line f1 l1) (.acons (.sl .line f2 l2) .anil))) (.acons (.arr .int 3 [c0,c1,c2]) .anil)))]=>Qhb cn now cs sure c w d kk sp ci it f0 l0 f1 l1 f2 l2 c0 c1 c2
 | _=>none
noncomputable def Qhc (cn:Bool) (now:List Qa) (cs:Bool) (sure:List Qa) (c:Int) (w:Int) (d:Int) (kk:Int) (sp:Int) (ci:Bool) (it:List Item) (f0:Bool) (l0:List Line) (f1:Bool) (l1:List Line) (f2:Bool) (l2:List Line) (c0:Int) (c1:Int) (c2:Int):=evFW s28 uk_1 200 24 [.acons (.sl (C:=RC) .sector cn now) (.acons (.sl (C:=RC) .sector cs sure) .anil),.acons (.int .i64 c) (.acons (.int .i64 w) (.acons (.int .i64 d) (.acons (.int .i64 kk) .anil))),.acons (.int .i64 sp) (.acons (.sl (C:=RC) .item ci it) (.acons (.acons (.sl (C:=RC) .line f0 l0) (.acons (.sl (C:=RC) .line f1 l1) (.acons (.sl (C:=RC) .line f2 l2) .anil))) (.acons (.arr (C:=RC) .int 3 [c0,c1,c2]) .anil)))]
theorem QmC (cn:Bool) (now:List Qa) (cs:Bool) (sure:List Qa) (c:Int) (w:Int) (d:Int) (kk:Int) (sp:Int) (ci:Bool) (it:List Item) (f0:Bool) (l0:List Line) (f1:Bool) (l1:List Line) (f2:Bool) (l2:List Line) (c0:Int) (c1:Int) (c2:Int):Qhc cn now cs sure c w d kk sp ci it f0 l0 f1 l1 f2 l2 c0 c1 c2=(let Z0:D RC:=D.sl RTy.sector false [];let Z1:D RC:=.anil;let Z2:D RC:=D.acons (D.sl RTy.int false []) (.acons (D.acons Z0 (D.acons Z0 Z1)) Z1);let Z3:DO_:=some (D.tup (D.acons Z2 (D.acons (D.int .i64 2) Z1)));let Z4:Nat:=List.length it;let Z5:Nat:=List.length l0;let Z6:Nat:=List.length l1;let Z7:Nat:=List.length l2;let Z8:List Edge:=[];let Z9:Array Edge:=List.toArray Z8;let Z10:Option (Nat × Bool):=none;let Z11:Op:=Op.load (3:Nat) (Operand.tmp (6:Nat));let Z12:Op:=Op.load (29:Nat) (Operand.tmp (3:Nat));let Z13:Edge:=Edge.mk (1:Nat) Ground.data;let Z14:Array Edge:=List.toArray (Z13::Z8);let Z15:Edge:=Edge.mk (0:Nat) Ground.data;let Z16:Edge:=Edge.mk (2:Nat) Ground.data;let Z17:Array Edge:=List.toArray (Z16::Z8);let Z18:Operand:=Operand.tmp (8:Nat);let Z19:Edge:=Edge.mk (4:Nat) Ground.data;let Z20:Edge:=Edge.mk (3:Nat) Ground.data;let Z21:Edge:=Edge.mk (0:Nat) Ground.phase;let Z22:Edge:=Edge.mk (1:Nat) Ground.phase;let Z23:Edge:=Edge.mk (2:Nat) Ground.phase;let Z24:Edge:=Edge.mk (3:Nat) Ground.phase;let Z25:Edge:=Edge.mk (4:Nat) Ground.phase;let Z26:List Edge:=Z21::Z22::Z23::Z24::Z25::Z8;let Z27:Operand:=Operand.const (Value.int .i64 (1:Int));let Z28:Array Edge:=List.toArray (Z15::Z8);let Z29:Op:=Op.move (Operand.tmp (7:Nat));let Z30:Array Nat := #[(3:Nat),(3:Nat)];let Z31:Ground:=Ground.gcOnly Departure.lateStores;let Z32:Ground:=Ground.textOnly Departure.lateStores;let Z33:Edge:=Edge.mk (5:Nat) Ground.phase;let Z34:Edge:=Edge.mk (5:Nat) Ground.data;let Z35:Edge:=Edge.mk (3:Nat) Ground.chain;let Z36:Edge:=Edge.mk (6:Nat) Ground.data;let Z37:Edge:=Edge.mk (6:Nat) Ground.phase;let Z38:Edge:=Edge.mk (7:Nat) Ground.phase;let Z39:Op:=Op.load (100:Nat) (Operand.tmp (5:Nat));let Z40:Callee:=Callee.value (Operand.func (120:Nat));let Z41:Operand:=Operand.const (Value.int .i64 (0:Int));let Z42:Edge:=Edge.mk (2:Nat) Ground.chain;let Z43:Array Edge:=List.toArray (Z15::Z16::Z42::Z21::Z22::Z23::Z8);let Z44:Op:=Op.fieldAddr (56:Nat) Z18 (0:Nat);let Z45:List (Int × Int):=Zt (0:Int) (mput (Yd s28 RTy.int) (48:Int) c0 []) (List.drop (0:Nat) l0);let Z46:Bool:=decide ((771:Nat)=List.length nC) && decide (List.length nC=(771:Nat)) && Q9 (771:Nat) Z45;let Z47:Nat:=List.length (Qv nC Z45);let Z48:List (Int × Int):=Zt (1:Int) (mput (Yd s28 RTy.int) (49:Int) c1 []) (List.drop (0:Nat) l1);let Z49:Bool:=decide ((771:Nat)=Z47) && decide (Z47=(771:Nat)) && Q9 (771:Nat) Z48;let Z50:Nat:=List.length (Qv (Qv nC Z45) Z48);let Z51:List (Int × Int):=Zt (2:Int) (mput (Yd s28 RTy.int) (50:Int) c2 []) (List.drop (0:Nat) l2);let Z52:Bool:=decide ((771:Nat)=Z50) && decide (Z50=(771:Nat)) && Q9 (771:Nat) Z51;let Z53:List Int:=Qv (Qv (Qv nC Z45) Z48) Z51;let Z54:List (Int × Int):=mput (Yd s28 RTy.int) (1:Int) (IntKind.wrap .i64 (sp+(1:Int))) (mput (Yd s28 RTy.int) (4:Int) sp (mput (Yd s28 RTy.int) (3:Int) sp (mput (Yd s28 RTy.int) (0:Int) sp [])));let Z55:Bool:=decide ((771:Nat)=List.length Z53) && decide (List.length Z53=(771:Nat)) && Q9 (771:Nat) Z54;let Z56:Nat:=List.length (Qv Z53 Z54);let Z57:Bool:=decide ((771:Nat)=Z56) && decide (Z56=(771:Nat));let Z58:List (Int × Int):=QI c kk (0:Nat) (List.drop (0:Nat) it) [];let Z59:D RC:=D.acons (D.acons (D.sl RTy.sector false now) (.acons (D.sl RTy.sector false sure) Z1)) Z1;let Z60:D RC:=D.acons (D.int .i64 0) Z1;let Z61:DO_:=none;let Z62:List (Int × Int):=QI c kk (0:Nat) (List.take (kk * c - (0:Int)).toNat (List.drop (0:Nat) it)) [];bif QH now && QH sure then bif (bif Vs now sure then (0:Int) else (2:Int)) != (0:Int) then Z3 else bif (bif Zv c w d kk then (0:Int) else (2:Int)) != (0:Int) then Z3 else bif decide (Z4 <= (9223372036854775807:Nat) /\ Z5 <= (9223372036854775807:Nat) /\ Z6 <= (9223372036854775807:Nat) /\ Z7 <= (9223372036854775807:Nat)) then bif !Q5 (St.mk sp it l0 l1 l2 c0 c1 c2) then Z3 else bif Qd Z4 then bif decide (IntKind.wrap .i64 (c * kk) < (↑Z4:Int)) then some (D.tup (D.acons Z2 (D.acons (D.int .i64 120) Z1))) else bif Qd Z5 then bif decide ((↑Z5:Int)=(↑Z5:Int)) && true && decide (Z5 <= (1000:Nat)) then bif Qd Z6 then bif decide ((↑Z6:Int)=(↑Z6:Int)) && true && decide (Z6 <= (1000:Nat)) then bif Qd Z7 then bif decide ((↑Z7:Int)=(↑Z7:Int)) && true && decide (Z7 <= (1000:Nat)) then bif cdec (itmA=itmA) && cdec (itmB=itmB) && decide (kk=kk) && true && Zv c w d kk && decide ((0:Int)=(0:Int) /\ Z4 <= (1000:Nat)) && VU it then bif decide ((↑Z4:Int) < kk * c) then bif Z46 then bif Z49 then bif Z52 then bif Z55 then bif Z57 && Q9 (771:Nat) Z58 then bif Nat.beq (771:Nat) (Qv (Qv Z53 Z54) Z58).length then some (D.tup (D.acons (D.acons (D.sl RTy.int false (Qv (Qv Z53 Z54) Z58)) Z59) Z60)) else Z61 else Z61 else Z61 else Z61 else Z61 else Z61 else bif Z46 then bif Z49 then bif Z52 then bif Z55 then bif Z57 && Q9 (771:Nat) Z62 then bif Nat.beq (771:Nat) (Qv (Qv Z53 Z54) Z62).length then some (D.tup (D.acons (D.acons (D.sl RTy.int false (Qv (Qv Z53 Z54) Z62)) Z59) Z60)) else Z61 else Z61 else Z61 else Z61 else Z61 else Z61 else Z61 else Z61 else Z61 else Z61 else Z61 else Z61 else Z61 else Z61 else Z61 else Z61):=by kernel_rfl
theorem QmD (cn:Bool) (now:List Qa) (cs:Bool) (sure:List Qa) (c:Int) (w:Int) (d:Int) (kk:Int) (sp:Int) (ci:Bool) (it:List Item) (f0:Bool) (l0:List Line) (f1:Bool) (l1:List Line) (f2:Bool) (l2:List Line) (c0:Int) (c1:Int) (c2:Int) (h:(QH now && QH sure && decide (it.length <= 9223372036854775807 /\ l0.length <= 9223372036854775807 /\ l1.length <= 9223372036854775807 /\ l2.length <= 9223372036854775807))=true):Qhc cn now cs sure c w d kk sp ci it f0 l0 f1 l1 f2 l2 c0 c1 c2=some (.tup (.acons (.acons (.sl (C:=RC) .int false (bif QX now sure c w d kk ⟨sp,it,l0,l1,l2,c0,c1,c2⟩ == 0 then VZ nC c kk ⟨sp,it,l0,l1,l2,c0,c1,c2⟩ else [])) (.acons (.acons (.sl (C:=RC) .sector false (bif QX now sure c w d kk ⟨sp,it,l0,l1,l2,c0,c1,c2⟩ == 0 then now else [])) (.acons (.sl (C:=RC) .sector false (bif QX now sure c w d kk ⟨sp,it,l0,l1,l2,c0,c1,c2⟩ == 0 then sure else [])) .anil)) .anil)) (.acons (.int .i64 (QX now sure c w d kk ⟨sp,it,l0,l1,l2,c0,c1,c2⟩)) .anil))):=by
 (rw [QmC];conv=>zeta)
 rw [Bool.and_eq_true] at h;obtain ⟨hg,hl⟩:=h
 have err:∀ e:Int,QX now sure c w d kk ⟨sp,it,l0,l1,l2,c0,c1,c2⟩=e->e ≠ 0->some (D.tup (C:=RC) (.acons (.acons (.sl (C:=RC) .int false []) (.acons (.acons (.sl (C:=RC) .sector false []) (.acons (.sl (C:=RC) .sector false []) .anil)) .anil)) (.acons (.int .i64 e) .anil)))=some (.tup (.acons (.acons (.sl (C:=RC) .int false (bif QX now sure c w d kk ⟨sp,it,l0,l1,l2,c0,c1,c2⟩ == 0 then VZ nC c kk ⟨sp,it,l0,l1,l2,c0,c1,c2⟩ else [])) (.acons (.acons (.sl (C:=RC) .sector false (bif QX now sure c w d kk ⟨sp,it,l0,l1,l2,c0,c1,c2⟩ == 0 then now else [])) (.acons (.sl (C:=RC) .sector false (bif QX now sure c w d kk ⟨sp,it,l0,l1,l2,c0,c1,c2⟩ == 0 then sure else [])) .anil)) .anil)) (.acons (.int .i64 (QX now sure c w d kk ⟨sp,it,l0,l1,l2,c0,c1,c2⟩)) .anil))):=fun e h1 h2=>by
  have h3:(e == 0)=false:=by simpa using h2
  rw [h1];simp only [h3,cond_false]
 refine Qb hg ?_;cases hd:Vs now sure
 · exact Qb rfl (err 2 (by simp only [QX,hd,Bool.false_and,cond_false]) (by decide))
 refine Zh rfl ?_;cases hs:Zv c w d kk
 · exact Qb rfl (err 2 (by simp only [QX,hs,Bool.and_false,Bool.false_and,cond_false]) (by decide))
 refine Zh rfl (Qb hl ?_);cases ht:Q5 ⟨sp,it,l0,l1,l2,c0,c1,c2⟩
 · exact Qb rfl (err 2 (by simp only [QX,ht,Bool.and_false,cond_false]) (by decide))
 refine Zh rfl ?_;obtain ⟨b1,c4,_,_,_,_,q4,q40⟩:=Zo hs;obtain ⟨hp,hn,hi,⟨n0,h0⟩,⟨n1,h1⟩,⟨n2,h2⟩⟩:=QbR ht
 dsimp only at hp hn hi n0 h0 n1 h1 n2 h2
 have p0:0 <= c * kk:=Int.mul_nonneg (by omega) (by omega)
 have p1:c * kk <= 4 * 40:=Int.mul_le_mul (by omega) (by omega) (by omega) (by omega)
 have pc:kk * c=c * kk:=Int.mul_comm _ _;have w1:IntKind.i64.wrap (c * kk)=c * kk:=wrap_id (by omega) (by omega)
 refine Qb (Ql (by omega)) ?_
 simp only [w1,pc,List.drop_zero,Int.sub_zero]
 by_cases hr:c * kk < it.length
 · exact Qb (by simpa using hr) (err 120 (by simp only [QX,hd,hs,ht,Bool.and_self,cond_true,decide_eq_true hr]) (by decide))
 refine Zh (by simpa using hr) ?_
 have hE:QX now sure c w d kk ⟨sp,it,l0,l1,l2,c0,c1,c2⟩=0:=by simp only [QX,hd,hs,ht,Bool.and_self,cond_true,decide_eq_false hr,cond_false]
 have hib:VU it=true:=List.all_eq_true.2 fun x hx=>by have:=hi x hx;simp;omega
 have K0:Q9 771 (Zt 0 (putM [] 48 c0) l0)=true:=Vj (by decide) (by decide) (QD (by decide) (by decide) rfl) fun x hx=>(h0 x hx).1
 have K1:Q9 771 (Zt 1 (putM [] 49 c1) l1)=true:=Vj (by decide) (by decide) (QD (by decide) (by decide) rfl) fun x hx=>(h1 x hx).1
 have K2:Q9 771 (Zt 2 (putM [] 50 c2) l2)=true:=Vj (by decide) (by decide) (QD (by decide) (by decide) rfl) fun x hx=>(h2 x hx).1
 have KB:=QiH sp;have KI:Q9 771 (QI c kk 0 it [])=true:=QaV b1 c4 q4 q40 rfl (fun x hx=>⟨(hi x hx).1,(hi x hx).2.1⟩) (by simp;omega)
 rw [hE];refine Qb (Ql (by omega)) (Qb (by simp;omega) (Qb (Ql (by omega)) (Qb (by simp;omega) (Qb (Ql (by omega)) (Qb (by simp;omega) (Qb (andT (andT (andT (andT (andT (andT (ZC (by first | exact trivial | kernel_rfl)) (ZC (by first | exact trivial | kernel_rfl))) (by simp)) rfl) rfl) (by simp;omega)) hib) ?_))))))
 have L0:(771:Nat)=nC.length:=QmB.symm;have L1:∀ m,(771:Nat)=(Qv nC m).length:=fun m=>by rw [Yx];exact L0
 have L2:∀ m n,(771:Nat)=(Qv (Qv nC m) n).length:=fun m n=>by rw [Yx];exact L1 m
 have L3:∀ m n o,(771:Nat)=(Qv (Qv (Qv nC m) n) o).length:=fun m n o=>by rw [Yx];exact L2 m n
 have L4:∀ m n o p,(771:Nat)=(Qv (Qv (Qv (Qv nC m) n) o) p).length:=fun m n o p=>by rw [Yx];exact L3 m n o
 have L5:∀ m n o p q,(771:Nat)=(Qv (Qv (Qv (Qv (Qv nC m) n) o) p) q).length:=fun m n o p q=>by rw [Yx];exact L4 m n o p
 have two:∀ {n:Nat},771=n->(decide (771=n) && decide (n=771))=true:=fun e=>by subst e;rfl
 refine Qx (fun hq=>?_) fun hq=>?_
 · exact Qb (andT (two L0) K0) (Qb (andT (two (L1 _)) K1) (Qb (andT (two (L2 _ _)) K2) (Qb (andT (two (L3 _ _ _)) KB) (Qb (andT (two (L4 _ _ _ _)) KI) (Qb (Vd (L5 _ _ _ _ _)) rfl)))))
 · rw [show it.take (c * kk).toNat=it from List.take_of_length_le (by simp at hq;omega)]
   exact Qb (andT (two L0) K0) (Qb (andT (two (L1 _)) K1) (Qb (andT (two (L2 _ _)) K2) (Qb (andT (two (L3 _ _ _)) KB) (Qb (andT (two (L4 _ _ _ _)) KI) (Qb (Vd (L5 _ _ _ _ _)) rfl)))))
noncomputable def ul_1:=uk_1.addSpec 24 Qeg
theorem QmE:Qh Tryz.prog s28 ul_1:=QmA.addEvW Qc fun args d h=>by
 unfold Qeg at h
 split at h
 · unfold Qhb at h;have h1:=congrArg Prod.fst (Option.some.inj h);obtain rfl:_=d:=congrArg Prod.snd (Option.some.inj h);exact ⟨by simp [D.refs],200,QmD _ _ _ _ _ _ _ _ _ _ _ _ _ _ _ _ _ _ _ _ h1⟩
 · cases h
def QfG (cs:List Int) (s:Int) (x:Item):List Int:=(((cs.set (lField 291 s 0 160 3).toNat 3).set (lField 291 s 1 160 3).toNat 0).set (lField 291 s 2 160 3).toNat (IntKind.i64.wrap (IntKind.i64.wrap (x.key * 256)+x.value))).set (lRow 21 x.key 24).toNat (wordN x.place (256+s))
def Js (c k:Int):Nat->List Item->List Int->List Int
 | _,[],cs=>cs
 | n,x::l,cs=>Js c k (n+1) l (QfG cs (ZG c k n) x)
theorem QaW (cs:List Int) (s:Int) (x:Item):(QfG cs s x).length=cs.length:=by simp [QfG]
theorem QbS (c k:Int):∀ (l:List Item) (n:Nat) (cs:List Int),(Js c k n l cs).length=cs.length
 | [],_,_=>rfl
 | x::l,n,cs=>by unfold Js;rw [QbS c k l,QaW]
def Yc (q:Int) (l:List Line) (cs:List Int):List Int:=l.foldl (fun cs x=>(cs.set (lStream q x.offset).toNat (wordO x)).set (lRow 45 q 3).toNat (IntKind.i64.wrap (x.offset+1))) cs
theorem QbT (q:Int):∀ (l:List Line) (cs:List Int),(Yc q l cs).length=cs.length
 | [],_=>rfl
 | x::l,cs=>by
  have:=QbT q l ((cs.set (lStream q x.offset).toNat (wordO x)).set (lRow 45 q 3).toNat (IntKind.i64.wrap (x.offset+1)));simp only [Yc,List.foldl_cons] at this ⊢;rw [this];simp
def V0 (c n:Nat):List Int:=(List.range c).map fun j=>(((n+c - 1 - j) / c:Nat):Int)
theorem V1 (c n:Nat):(V0 c n).length=c:=by simp [V0]
theorem Qo1 {c n:Nat} (h1:1 <= c) (h4:c <= 4):(V0 c n).getD (n % c) 0=((n / c:Nat):Int):=by
 have hc:c=1 \/ c=2 \/ c=3 \/ c=4:=by omega
 have hm:=Nat.mod_lt n (show 0 < c by omega)
 simp only [V0,List.getD_eq_getElem?_getD,List.getElem?_map,List.getElem?_range hm,Option.map_some,Option.getD_some];rcases hc with rfl | rfl | rfl | rfl <;> omega
theorem QiI {c n:Nat} (h1:1 <= c) (h4:c <= 4):(V0 c n).set (n % c) (((n / c:Nat):Int)+1)=V0 c (n+1):=by
 have hc:c=1 \/ c=2 \/ c=3 \/ c=4:=by omega
 apply List.ext_getElem?;intro j;rw [List.getElem?_set];simp only [V1]
 by_cases hj:j < c
 · simp only [V0,List.getElem?_map,List.getElem?_range hj,Option.map_some]
   by_cases e:n % c=j
   · rw [if_pos e,if_pos (by omega)]
     congr 1
     rcases hc with rfl | rfl | rfl | rfl <;> omega
   · rw [if_neg e]
     congr 1
     rcases hc with rfl | rfl | rfl | rfl <;> omega
 · have e0:n % c < c:=Nat.mod_lt n (by omega)
   rw [if_neg (by omega),List.getElem?_eq_none (by rw [V1];omega),List.getElem?_eq_none (by rw [V1];omega)]
theorem QiJ {c:Nat} (h1:1 <= c) (h4:c <= 4):List.replicate c 0=V0 c 0:=by
 have hc:c=1 \/ c=2 \/ c=3 \/ c=4:=by omega
 rcases hc with rfl | rfl | rfl | rfl <;> decide
theorem Yy {n:Nat} {k v:Int} (h0:0 <= k):∀ {m:List (Int × Int)} {cs:List Int},Q9 n m=true->Qv cs (putM m k v)=(Qv cs m).set k.toNat v
 | [],cs,_=>rfl
 | (a,b)::m,cs,h=>by
  simp only [Q9,Bool.and_eq_true,decide_eq_true_eq,List.all_eq_true] at h;obtain ⟨⟨⟨a0,a1⟩,a2⟩,a3⟩:=h
  have nn:∀ {l:List (Int × Int)},Q9 n l=true -> ∀ p ∈ l,0 <= p.1:=by
   intro l
   induction l with
   | nil=>intro _ p hp;cases hp
   | cons y l ih =>
    intro hk p hp;obtain ⟨y1,y2⟩:=y;simp only [Q9,Bool.and_eq_true,decide_eq_true_eq] at hk;rcases List.mem_cons.1 hp with rfl | hp
    · exact hk.1.1.1
    · exact ih hk.2 p hp
  unfold putM mput
  by_cases hk:k=a
  · rw [decide_eq_true hk];subst hk;simp only [cond_true];have e1:Qv cs ((k,v)::m)=Qv (cs.set k.toNat v) m:=rfl;have e2:Qv cs ((k,b)::m)=Qv (cs.set k.toNat b) m:=rfl;rw [e1,e2,<- Jh h0 m (cs.set k.toNat b) (fun p hp=>⟨a2 p hp,nn a3 p hp⟩),List.set_set]
  · rw [decide_eq_false hk];simp only [cond_false];exact Yy (m:=m) (cs:=cs.set a.toNat b) h0 a3
theorem QiK {m:List (Int × Int)} {s:Int} {x:Item} {cs:List Int} (h:Q9 771 m=true) (s0:0 <= s) (s1:s < 160) (k0:0 <= x.key) (k1:x.key <= 23):Qv cs (Qd9 m s x)=QfG (Qv cs m) s x:=by
 have e:∀ f:Int,0 <= f->f <= 2->0 <= lField 291 s f 160 3 /\ lField 291 s f 160 3 < 771:=fun f f0 f1=>by unfold lField;rw [if_pos (by omega)];omega
 have e2:0 <= lRow 21 x.key 24 /\ lRow 21 x.key 24 < 771:=by unfold lRow;rw [if_pos (by omega)];omega
 have f0:=e 0 (by omega) (by omega)
 have f1:=e 1 (by omega) (by omega)
 have f2:=e 2 (by omega) (by omega)
 have g0:=QD (v:=(3:Int)) f0.1 f0.2 h;have g1:=QD (v:=(0:Int)) f1.1 f1.2 g0;have g2:=QD (v:=IntKind.i64.wrap (IntKind.i64.wrap (x.key * 256)+x.value)) f2.1 f2.2 g1;unfold Qd9 QfG;rw [Yy e2.1 g2,Yy f2.1 g1,Yy f1.1 g0,Yy f0.1 h]
theorem QaX {c kk:Int} {cs:List Int} (c1:1 <= c) (c4:c <= 4) (q4:4 <= kk) (q40:kk <= 40):∀ {l:List Item} {n:Nat} {m:List (Int × Int)},Q9 771 m=true->(∀ x ∈ l,0 <= x.key /\ x.key <= 23)->(n:Int)+l.length <= c * kk->Qv cs (QI c kk n l m)=Js c kk n l (Qv cs m)
 | [],n,m,_,_,_=>rfl
 | x::l,n,m,h,hx,hn=>by
  have h0:=hx x List.mem_cons_self;simp only [List.length_cons] at hn;obtain ⟨s0,s1⟩:=Jj (n:=n) c1 c4 q4 q40 (by omega)
  unfold QI Js;rw [QaX c1 c4 q4 q40 (QbQ h s0 s1 h0.1 h0.2) (fun y hy=>hx y (List.mem_cons_of_mem _ hy)) (by omega),QiK h s0 s1 h0.1 h0.2]
theorem QaY {q:Int} {cs:List Int} (q0:0 <= q) (q1:q <= 2):∀ {l:List Line} {m:List (Int × Int)},Q9 771 m=true->(∀ x ∈ l,0 <= x.offset)->Qv cs (Zt q m l)=Yc q l (Qv cs m)
 | [],m,_,_=>rfl
 | x::l,m,h,hx=>by
  have h0:=hx x List.mem_cons_self;have e1:lStream q x.offset=51+16 * q+x.offset % 16:=by unfold lStream;rw [if_pos ⟨q0,q1,h0⟩]
  have e2:lRow 45 q 3=45+q:=by unfold lRow;rw [if_pos (by omega)]
  have g0:=QD (k:=lStream q x.offset) (v:=wordO x) (by rw [e1];omega) (by rw [e1];omega) h
  have g1:=QD (k:=lRow 45 q 3) (v:=IntKind.i64.wrap (x.offset+1)) (by rw [e2];omega) (by rw [e2];omega) g0
  have ih:=QaY (cs:=cs) q0 q1 (l:=l) g1 (fun y hy=>hx y (List.mem_cons_of_mem _ hy));simp only [Zt,Yc,List.foldl_cons] at ih ⊢;rw [ih,Yy (by rw [e2];omega) g0,Yy (by rw [e1];omega) h]
theorem linesC_set {q:Int} {k:Nat} {v:Int} (q0:0 <= q) (q1:q <= 2) (hk:48 <= k) (hk2:k <= 50):∀ {l:List Line} {cs:List Int},(∀ x ∈ l,0 <= x.offset)->Yc q l (cs.set k v)=(Yc q l cs).set k v
 | [],cs,_=>rfl
 | x::l,cs,hx=>by
  have h0:=hx x List.mem_cons_self;have e1:lStream q x.offset=51+16 * q+x.offset % 16:=by unfold lStream;rw [if_pos ⟨q0,q1,h0⟩]
  have e2:lRow 45 q 3=45+q:=by unfold lRow;rw [if_pos (by omega)]
  have ih:=linesC_set (k:=k) (v:=v) q0 q1 hk hk2 (l:=l) (cs:=(cs.set (lStream q x.offset).toNat (wordO x)).set (lRow 45 q 3).toNat (IntKind.i64.wrap (x.offset+1))) (fun y hy=>hx y (List.mem_cons_of_mem _ hy));simp only [Yc,List.foldl_cons] at ih ⊢;rw [<- ih,List.set_comm (i:=k) (j:=(lStream q x.offset).toNat) v (wordO x) (by rw [e1];omega),List.set_comm (i:=k) (j:=(lRow 45 q 3).toNat) v _ (by rw [e2];omega)]
theorem KN:∀ {m1 m2:List (Int × Int)} {cs:List Int},(∀ p ∈ m1,∀ r ∈ m2,p.1 ≠ r.1 /\ 0 <= p.1 /\ 0 <= r.1)->Qv (Qv cs m1) m2=Qv (Qv cs m2) m1
 | m1,[],cs,_=>rfl
 | m1,(k,v)::m2,cs,h=>by
  by_cases h1:m1=[]
  · subst h1;rfl
  · have hk0:0 <= k:=by
     cases m1 with
     | nil=>exact absurd rfl h1
     | cons p m=>exact (h p List.mem_cons_self (k,v) List.mem_cons_self).2.2
    have e1:∀ c:List Int,Qv c ((k,v)::m2)=Qv (c.set k.toNat v) m2:=fun _=>rfl;rw [e1,e1,<- Jh hk0 m1 cs (fun p hp=>⟨(h p hp _ List.mem_cons_self).1,(h p hp _ List.mem_cons_self).2.1⟩)];exact KN fun p hp r hr=>h p hp r (List.mem_cons_of_mem _ hr)
theorem ZD {P:Int->Prop} {m:List (Int × Int)} {k v:Int} (hm:∀ p ∈ m,P p.1) (hk:P k):∀ p ∈ putM m k v,P p.1:=by
 intro p hp;rcases putM_fst hp with e | ⟨q,hq,e⟩
 · rw [e];exact hk
 · rw [<- e];exact hm q hq
def inL (k:Int):Prop:=45 <= k /\ k <= 98
def inI (k:Int):Prop:=(21 <= k /\ k <= 44) \/ 291 <= k
def inB5 (k:Int):Prop:=0 <= k /\ k < 5
theorem Qhd {q:Int} (q0:0 <= q) (q1:q <= 2):∀ {l:List Line} {m:List (Int × Int)},(∀ p ∈ m,inL p.1)->(∀ x ∈ l,0 <= x.offset) -> ∀ p ∈ Zt q m l,inL p.1
 | [],m,h,_=>h
 | x::l,m,h,hx=>by
  have h0:=hx x List.mem_cons_self;have e1:lStream q x.offset=51+16 * q+x.offset % 16:=by unfold lStream;rw [if_pos ⟨q0,q1,h0⟩]
  have e2:lRow 45 q 3=45+q:=by unfold lRow;rw [if_pos (by omega)]
  have ih:=Qhd q0 q1 (l:=l) (ZD (ZD h (show inL (lStream q x.offset) by unfold inL;rw [e1];omega)) (show inL (lRow 45 q 3) by unfold inL;rw [e2];omega)) (fun y hy=>hx y (List.mem_cons_of_mem _ hy)) (m:=putM (putM m (lStream q x.offset) (wordO x)) (lRow 45 q 3) (IntKind.i64.wrap (x.offset+1)))
  simp only [Zt,List.foldl_cons] at ih ⊢;exact ih
theorem Qhe {c kk:Int} (c1:1 <= c) (c4:c <= 4) (q4:4 <= kk) (q40:kk <= 40):∀ {l:List Item} {n:Nat} {m:List (Int × Int)},(∀ p ∈ m,inI p.1)->(∀ x ∈ l,0 <= x.key /\ x.key <= 23)->(n:Int)+l.length <= c * kk -> ∀ p ∈ QI c kk n l m,inI p.1
 | [],n,m,h,_,_=>h
 | x::l,n,m,h,hx,hn=>by
  have h0:=hx x List.mem_cons_self;simp only [List.length_cons] at hn;obtain ⟨s0,s1⟩:=Jj (n:=n) c1 c4 q4 q40 (by omega)
  have e:∀ f:Int,0 <= f->f <= 2->inI (lField 291 (ZG c kk n) f 160 3):=fun f f0 f1=>by unfold lField inI;rw [if_pos (by omega)];omega
  have e2:inI (lRow 21 x.key 24):=by unfold lRow inI;rw [if_pos (by omega)];omega
  unfold QI;refine Qhe c1 c4 q4 q40 ?_ (fun y hy=>hx y (List.mem_cons_of_mem _ hy)) (by omega)
  unfold Qd9;exact ZD (ZD (ZD (ZD h (e 0 (by omega) (by omega))) (e 1 (by omega) (by omega))) (e 2 (by omega) (by omega))) e2
def Qsc (n0:List Int) (c kk:Int) (s:St):List Int :=
 (Yc 2 s.l2 ((Yc 1 s.l1 ((Yc 0 s.l0 (Js c kk 0 s.items ((((n0.set 0 s.place).set 3 s.place).set 4 s.place).set 1 (IntKind.i64.wrap (s.place+1))))).set 48 s.c0)).set 49 s.c1)).set 50 s.c2
theorem Qrp {n0:List Int} {c kk:Int} {s:St} (c1:1 <= c) (c4:c <= 4) (q4:4 <= kk) (q40:kk <= 40) (hi:∀ x ∈ s.items,0 <= x.key /\ x.key <= 23) (hn:(s.items.length:Int) <= c * kk)
 (h0:∀ x ∈ s.l0,0 <= x.offset) (h1:∀ x ∈ s.l1,0 <= x.offset) (h2:∀ x ∈ s.l2,0 <= x.offset):Qsc n0 c kk s=VZ n0 c kk s:=by
 have line:∀ (q k:Int) (v:Int) (l:List Line) (cs:List Int),0 <= q->q <= 2->k=48+q->(∀ x ∈ l,0 <= x.offset)->Qv cs (Zt q (putM [] k v) l)=(Yc q l cs).set k.toNat v:=fun q k v l cs q0 q1 hk hl=>by
  rw [QaY q0 q1 (QD (by omega) (by omega) rfl) hl,show Qv cs (putM [] k v)=cs.set k.toNat v from rfl,linesC_set q0 q1 (by omega) (by omega) hl]
 have L:∀ (q k:Int) (v:Int) (l:List Line),0 <= q->q <= 2->k=48+q->(∀ x ∈ l,0 <= x.offset) -> ∀ p ∈ Zt q (putM [] k v) l,inL p.1:=fun q k v l q0 q1 hk hl =>
  Qhd q0 q1 (ZD (fun p hp=>by cases hp) (by unfold inL;omega)) hl
 have I:∀ p ∈ QI c kk 0 s.items [],inI p.1:=Qhe c1 c4 q4 q40 (fun p hp=>by cases hp) hi (by simpa using hn)
 have B:∀ p ∈ QfF s.place,inB5 p.1:=by
  unfold QfF;exact ZD (ZD (ZD (ZD (fun p hp=>by cases hp) (by unfold inB5;omega)) (by unfold inB5;omega)) (by unfold inB5;omega)) (by unfold inB5;omega)
 have sLB:∀ {m:List (Int × Int)} {cs:List Int},(∀ p ∈ m,inL p.1)->Qv (Qv cs m) (QfF s.place)=Qv (Qv cs (QfF s.place)) m:=fun hm=>KN fun p hp r hr=>by
  have a:=hm p hp;have b:=B r hr;unfold inL at a;unfold inB5 at b;omega
 have sLI:∀ {m:List (Int × Int)} {cs:List Int},(∀ p ∈ m,inL p.1)->Qv (Qv cs m) (QI c kk 0 s.items [])=Qv (Qv cs (QI c kk 0 s.items [])) m:=fun hm=>KN fun p hp r hr=>by
  have a:=hm p hp;have b:=I r hr;unfold inL at a;unfold inI at b;omega
 have L0:=L 0 48 s.c0 s.l0 (by omega) (by omega) (by omega) h0
 have L1:=L 1 49 s.c1 s.l1 (by omega) (by omega) (by omega) h1
 have L2:=L 2 50 s.c2 s.l2 (by omega) (by omega) (by omega) h2
 unfold VZ
 rw [sLB L2,sLB L1,sLB L0,sLI L2,sLI L1,sLI L0,line 2 50 _ _ _ (by omega) (by omega) (by omega) h2,line 1 49 _ _ _ (by omega) (by omega) (by omega) h1,line 0 48 _ _ _ (by omega) (by omega) (by omega) h0,
  QaX c1 c4 q4 q40 rfl hi (by simpa using hn)]
 rfl
open Go.Proofs
structure QmF where
 c:Int
 w:Int
 d:Int
 kk:Int
 u:List Int
 who:Int
noncomputable def QmG (c:Int) (w:Int) (d:Int) (kk:Int) (u:List Int) (who:Int):Env RC:=[(4,.ptr 1 []),(9,.vs 0 (u.length)),(10,.int .i64 who)]
def QaZ (c:Int) (w:Int) (d:Int) (kk:Int) (u:List Int) (who:Int):List (Obj RC):=[.vec .int true u,.var 26 (.acons (.int .i64 c) (.acons (.int .i64 w) (.acons (.int .i64 d) (.acons (.int .i64 kk) .anil))))]
noncomputable def QpU (c:Int) (w:Int) (d:Int) (kk:Int) (u:List Int) (who:Int):=rndO s28 ul_1 25 15 40 2 [4,9,10] [10] [.slot 9 0,.slot 4 0] (QmG c w d kk u who) (QaZ c w d kk u who)
theorem Qrq (c:Int) (w:Int) (d:Int) (kk:Int) (u:List Int) (who:Int):QpU c w d kk u who=(let Z0:Nat:=List.length u;let Z1:List (Option (Obj RC)):=[some (Obj.vec RTy.int true u),some (Obj.var 26 (.acons (D.int .i64 c) (.acons (D.int .i64 w) (.acons (D.int .i64 d) (.acons (D.int .i64 kk) .anil)))))];bif Nat.beq Z0 Z0 && decide ((0:Int) <= who /\ who < (↑Z0:Int)) then bif Nat.beq Z0 Z0 then bif decide (kk <= List.getD u who.toNat (0:Int)) then bif c == (0:Int) then none else some ((X.normal,[(4,D.ptr 1 []),(9,D.vs 0 Z0),(10,D.int .i64 (Int.tmod (IntKind.wrap .i64 (who+(1:Int))) c))]),Z1) else some ((X.exit (2:Nat),[(10,D.int .i64 who)]),Z1) else none else none):=by kernel_rfl
noncomputable def QcC (c:Int) (w:Int) (d:Int) (kk:Int) (u:List Int) (who:Int):RT RC:=.leaf (.exit 2) [(10,.int .i64 who)] (QaZ c w d kk u who)
def Kj (c:Int) (w:Int) (d:Int) (kk:Int) (u:List Int) (who:Int):Prop:=0 <= who /\ who < u.length /\ u.getD who.toNat 0 < kk
noncomputable def QbU:QF RC QmF where
 k:=2
 canon q:=QmG q.c q.w q.d q.kk q.u q.who
 objs q:=QaZ q.c q.w q.d q.kk q.u q.who
 fin q:=QcC q.c q.w q.d q.kk q.u q.who
 Inv q:=Kj q.c q.w q.d q.kk q.u q.who
 μ q:=0
theorem QiL (c:Int) (w:Int) (d:Int) (kk:Int) (u:List Int) (who:Int) (hI:Kj c w d kk u who):Leaf (QpU c w d kk u who) (LedR QbU ⟨c,w,d,kk,u,who⟩):=by
 (rw [Qrq];conv=>zeta)
 unfold Kj at hI;obtain ⟨h0,h1,h2⟩:=hI;have d1:decide (0 <= who /\ who < (u.length:Int))=true:=decide_eq_true ⟨h0,h1⟩;have d2:decide (kk <= u.getD who.toNat 0)=false:=by simp only [decide_eq_false_iff_not];omega
 have nb:Nat.beq u.length u.length=true:=Vd rfl;simp only [d1,d2,nb,Bool.and_self,cond_true,cond_false];exact Qi (QaZ c w d kk u who) rfl rfl
noncomputable def QmH (env:Env RC) (os:List (Obj RC)):Option (Bool × QmF):=match env,os with
 | [(4,.ptr 1 []),(9,.vs 0 x0),(10,.int .i64 who)],[.vec .int true u,.var 26 (.acons (.int .i64 c) (.acons (.int .i64 w) (.acons (.int .i64 d) (.acons (.int .i64 kk) .anil))))]=>Qz (true) (decide (x0=u.length) && decide (0 <= who /\ who < u.length /\ u.getD who.toNat 0 < kk),⟨c,w,d,kk,u,who⟩)
 | _,_=>none
noncomputable def um_1:=ul_1.addLoop 25 15 (Qrn s28 [.slot 9 0,.slot 4 0] [4,9,10] 0 QbU QmH)
theorem QmI:Qh Tryz.prog s28 um_1:=by
 refine QmE.addRoundsRK Qc (by kernel_rfl) QbU 0 (fun q _=>by simp [RT.keeps,QbU,QcC,QaZ]) 40 [4,9,10] [10] [.slot 9 0,.slot 4 0] [4,9,10] QmH (fun q hI=>?_) ?_
 · obtain ⟨c,w,d,kk,u,who⟩:=q;refine ⟨?_,?_,QiL c w d kk u who hI⟩
   · simp_all [Qk,QbU,QmG,QaZ,Kj,D.refs,Obj.refs,rEnc]
   · simp_all [QbU,QcC,QaZ,Kj,RT.refsOK,Qk,D.refs,Obj.refs,rEnc]
 · intro env os b q hd_ hb;unfold QmH at hd_
   split at hd_
   · obtain ⟨hs,hd_⟩:=Qg hd_;cases hd_;simp only [Bool.and_eq_true,decide_eq_true_eq] at hb;obtain ⟨rfl,h1⟩:=hb;exact ⟨h1,rfl,rfl⟩
   · cases hd_
structure QmJ where
 c:Int
 w:Int
 d:Int
 kk:Int
 cs:List Int
 u:List Int
 sp:Int
 ci:Bool
 it:List Item
 f0:Bool
 l0:List Line
 f1:Bool
 l1:List Line
 f2:Bool
 l2:List Line
 c0:Int
 c1:Int
 c2:Int
 who:Int
 i:Nat
noncomputable def Qhf (c:Int) (w:Int) (d:Int) (kk:Int) (cs:List Int) (u:List Int) (sp:Int) (ci:Bool) (it:List Item) (f0:Bool) (l0:List Line) (f1:Bool) (l1:List Line) (f2:Bool) (l2:List Line) (c0:Int) (c1:Int) (c2:Int) (who:Int) (i:Nat):Env RC:=[(4,.ptr 2 []),(5,.ptr 3 []),(8,.vs 0 (cs.length)),(9,.vs 1 (u.length)),(10,.int .i64 who),(11,.int .i64 (i:Int))]
def K7 (c:Int) (w:Int) (d:Int) (kk:Int) (cs:List Int) (u:List Int) (sp:Int) (ci:Bool) (it:List Item) (f0:Bool) (l0:List Line) (f1:Bool) (l1:List Line) (f2:Bool) (l2:List Line) (c0:Int) (c1:Int) (c2:Int) (who:Int) (i:Nat):List (Obj RC):=[.vec .int true cs,.vec .int true u,.var 26 (.acons (.int .i64 c) (.acons (.int .i64 w) (.acons (.int .i64 d) (.acons (.int .i64 kk) .anil)))),.var 34 (.acons (.int .i64 sp) (.acons (.sl (C:=RC) .item ci it) (.acons (.acons (.sl (C:=RC) .line f0 l0) (.acons (.sl (C:=RC) .line f1 l1) (.acons (.sl (C:=RC) .line f2 l2) .anil))) (.acons (.arr (C:=RC) .int 3 [c0,c1,c2]) .anil))))]
noncomputable def QpV (c:Int) (w:Int) (d:Int) (kk:Int) (cs:List Int) (u:List Int) (sp:Int) (ci:Bool) (it:List Item) (f0:Bool) (l0:List Line) (f1:Bool) (l1:List Line) (f2:Bool) (l2:List Line) (c0:Int) (c1:Int) (c2:Int) (who:Int) (i:Nat):=rndO s28 um_1 25 13 60 4 [4,5,8,9,10,11] [] [.slot 8 0,.slot 9 0,.slot 4 0,.slot 5 0] (Qhf c w d kk cs u sp ci it f0 l0 f1 l1 f2 l2 c0 c1 c2 who i) (K7 c w d kk cs u sp ci it f0 l0 f1 l1 f2 l2 c0 c1 c2 who i)
theorem Qrr (c:Int) (w:Int) (d:Int) (kk:Int) (cs:List Int) (u:List Int) (sp:Int) (ci:Bool) (it:List Item) (f0:Bool) (l0:List Line) (f1:Bool) (l1:List Line) (f2:Bool) (l2:List Line) (c0:Int) (c1:Int) (c2:Int) (who:Int) (i:Nat):QpV c w d kk cs u sp ci it f0 l0 f1 l1 f2 l2 c0 c1 c2 who i=(let Z0:Int:=(↑i:Int);let Z1:Nat:=List.length u;let Z2:Int:=List.getD u who.toNat (0:Int);let Z3:Bool:=Nat.beq Z1 Z1;let Z4:Bool:=Z3 && decide ((0:Int) <= who /\ who < (↑Z1:Int));let Z5:RO_:=none;let Z6:Nat:=List.length cs;let Z7:Int:=IntKind.wrap .i64 (Prod.fst (lOwn c w d kk who true)+Z2);let Z8:Int:=lField (291:Int) Z7 (0:Int) (160:Int) (3:Int);let Z9:List Int:=List.set cs Z8.toNat (3:Int);let Z10:Bool:=Nat.beq Z6 Z9.length;let Z11:Int:=lField (291:Int) Z7 (1:Int) (160:Int) (3:Int);let Z12:Bool:=decide ((0:Int) <= Z0 /\ Z0 < (↑it.length:Int));let Z13:List Int:=List.set Z9 Z11.toNat (0:Int);let Z14:Bool:=Nat.beq Z6 Z13.length;let Z15:Int:=lField (291:Int) Z7 (2:Int) (160:Int) (3:Int);let Z16:Item:=List.getD it Z0.toNat (Item.mk (0:Int) (0:Int) (0:Int));let Z17:List Int:=List.set Z13 Z15.toNat (IntKind.wrap .i64 (IntKind.wrap .i64 (Item.key Z16 * (256:Int))+Item.value Z16));let Z18:Bool:=Nat.beq Z6 Z17.length;let Z19:Int:=lRow (21:Int) (Item.key Z16) (24:Int);let Z20:List (Option (Obj RC)):=[some (Obj.var 26 (.acons (D.int .i64 c) (.acons (D.int .i64 w) (.acons (D.int .i64 d) (.acons (D.int .i64 kk) .anil))))),some (Obj.var 34 (.acons (D.int .i64 sp) (.acons (D.sl RTy.item ci it) (.acons (D.acons (D.sl RTy.line f0 l0) (.acons (D.sl RTy.line f1 l1) (.acons (D.sl RTy.line f2 l2) .anil))) (.acons (D.arr RTy.int (3:Nat) [c0,c1,c2]) .anil)))))];bif Qd it.length then bif decide (Z0 < (↑it.length:Int)) then bif decide (Z1=Z1) && decide ((0:Int) <= who /\ who < (↑Z1:Int) /\ Z2 < kk) then bif Z4 then bif Z3 then bif Z4 then bif Z3 then bif Z4 then bif Z3 then bif c == (0:Int) then Z5 else bif Nat.beq Z6 Z6 && decide ((0:Int) <= Z8 /\ Z8 < (↑Z6:Int)) then bif Nat.beq Z6 Z6 then bif Z10 && decide ((0:Int) <= Z11 /\ Z11 < (↑Z9.length:Int)) then bif Z10 then bif Z12 then bif Z12 then bif Z14 && decide ((0:Int) <= Z15 /\ Z15 < (↑Z13.length:Int)) then bif Z14 then bif Z12 then bif Z12 then bif Z18 && decide ((0:Int) <= Z19 /\ Z19 < (↑Z17.length:Int)) then bif Z18 then some ((X.normal,[(4,D.ptr 2 []),(5,D.ptr 3 []),(8,D.vs 0 Z6),(9,D.vs 1 Z1),(10,D.int .i64 (Int.tmod (IntKind.wrap .i64 (who+(1:Int))) c)),(11,D.int .i64 (IntKind.wrap .i64 (Z0+(1:Int))))]),some (Obj.vec RTy.int true (List.set Z17 Z19.toNat (wordN (Item.place Z16) (IntKind.wrap .i64 ((256:Int)+Z7)))))::some (Obj.vec RTy.int true (List.set u who.toNat (IntKind.wrap .i64 (Z2+(1:Int)))))::Z20) else Z5 else Z5 else Z5 else Z5 else Z5 else Z5 else Z5 else Z5 else Z5 else Z5 else Z5 else Z5 else Z5 else Z5 else Z5 else Z5 else Z5 else Z5 else Z5 else some ((X.exit (0:Nat),[]),some (Obj.vec RTy.int true cs)::some (Obj.vec RTy.int true u)::Z20) else Z5):=by kernel_rfl
noncomputable def Kk (c:Int) (w:Int) (d:Int) (kk:Int) (cs:List Int) (u:List Int) (sp:Int) (ci:Bool) (it:List Item) (f0:Bool) (l0:List Line) (f1:Bool) (l1:List Line) (f2:Bool) (l2:List Line) (c0:Int) (c1:Int) (c2:Int) (who:Int) (i:Nat):RT RC:=.leaf (.exit 0) [] (K7 c w d kk (Js c kk i (it.drop i) cs) (V0 c.toNat it.length) sp ci it f0 l0 f1 l1 f2 l2 c0 c1 c2 who i)
def Jk (c:Int) (w:Int) (d:Int) (kk:Int) (cs:List Int) (u:List Int) (sp:Int) (ci:Bool) (it:List Item) (f0:Bool) (l0:List Line) (f1:Bool) (l1:List Line) (f2:Bool) (l2:List Line) (c0:Int) (c1:Int) (c2:Int) (who:Int) (i:Nat):Prop:=Zv c w d kk=true /\ cs.length=771 /\ u=V0 c.toNat i /\ who=(i:Int) % c /\ i <= it.length /\ (it.length:Int) <= c * kk /\ VU it=true
noncomputable def V2:QF RC QmJ where
 k:=4
 canon q:=Qhf q.c q.w q.d q.kk q.cs q.u q.sp q.ci q.it q.f0 q.l0 q.f1 q.l1 q.f2 q.l2 q.c0 q.c1 q.c2 q.who q.i
 objs q:=K7 q.c q.w q.d q.kk q.cs q.u q.sp q.ci q.it q.f0 q.l0 q.f1 q.l1 q.f2 q.l2 q.c0 q.c1 q.c2 q.who q.i
 fin q:=Kk q.c q.w q.d q.kk q.cs q.u q.sp q.ci q.it q.f0 q.l0 q.f1 q.l1 q.f2 q.l2 q.c0 q.c1 q.c2 q.who q.i
 Inv q:=Jk q.c q.w q.d q.kk q.cs q.u q.sp q.ci q.it q.f0 q.l0 q.f1 q.l1 q.f2 q.l2 q.c0 q.c1 q.c2 q.who q.i
 μ q:=q.it.length - q.i
theorem QiM (c:Int) (w:Int) (d:Int) (kk:Int) (cs:List Int) (u:List Int) (sp:Int) (ci:Bool) (it:List Item) (f0:Bool) (l0:List Line) (f1:Bool) (l1:List Line) (f2:Bool) (l2:List Line) (c0:Int) (c1:Int) (c2:Int) (who:Int) (i:Nat) (hI:Jk c w d kk cs u sp ci it f0 l0 f1 l1 f2 l2 c0 c1 c2 who i):Leaf (QpV c w d kk cs u sp ci it f0 l0 f1 l1 f2 l2 c0 c1 c2 who i) (LedR V2 ⟨c,w,d,kk,cs,u,sp,ci,it,f0,l0,f1,l1,f2,l2,c0,c1,c2,who,i⟩):=by
 (rw [Qrr];conv=>zeta)
 unfold Jk at hI;obtain ⟨ok,hcs,hu,hw,hi,hn,hib⟩:=hI;obtain ⟨b1,b4,_,_,_,_,q4,q40⟩:=Zo ok
 have lk:Qd it.length=true:=Ql (by
  have p1:c * kk <= 4 * 40:=Int.mul_le_mul (by omega) (by omega) (by omega) (by omega)
  omega)
 by_cases hlt:i < it.length
 · have p1:c * kk <= 4 * 40:=Int.mul_le_mul (by omega) (by omega) (by omega) (by omega)
   have w_succ:IntKind.i64.wrap ((i:Int)+1)=((i+1:Nat):Int):=by rw [wrap_id (by omega) (by omega)];simp
   have d_lt:decide ((i:Int) < it.length)=true:=by simp;omega
   have d_in:decide (0 <= (i:Int) /\ (i:Int) < it.length)=true:=by simp;omega
   have t_nat:((i:Int)).toNat=i:=by simp
   simp only [w_succ,d_lt,d_in,t_nat,cond_true];have hd:it.drop i=it.getD i ⟨0,0,0⟩::it.drop (i+1):=by rw [List.drop_eq_getElem_cons hlt];simp [hlt]
   have hx:0 <= (it.getD i ⟨0,0,0⟩).key /\ (it.getD i ⟨0,0,0⟩).key <= 23:=by
    have:=List.all_eq_true.1 hib it[i] (List.getElem_mem hlt);simp only [decide_eq_true_eq] at this;simp only [List.getD_eq_getElem?_getD,List.getElem?_eq_getElem hlt,Option.getD_some];omega
   generalize it.getD i ⟨0,0,0⟩=x at *
   have hcn:((c.toNat:Nat):Int)=c:=by omega
   have hm:((i % c.toNat:Nat):Int)=(i:Int) % c:=by rw [Int.natCast_emod,hcn]
   have hv:((i / c.toNat:Nat):Int)=(i:Int) / c:=by rw [Int.natCast_ediv,hcn]
   have w0:0 <= who:=by rw [hw];exact Int.emod_nonneg _ (by omega)
   have w1:who < c:=by rw [hw];exact Int.emod_lt_of_pos _ (by omega)
   have wt:who.toNat=i % c.toNat:=by omega
   have ul:u.length=c.toNat:=by rw [hu,V1]
   have ua:u.getD who.toNat 0=(i:Int) / c:=by rw [hu,wt,Qo1 (by omega) (by omega),hv]
   have us:u.set who.toNat ((i:Int) / c+1)=V0 c.toNat (i+1):=by rw [hu,wt,<- hv,QiI (by omega) (by omega)]
   have dk:(i:Int) / c < kk:=Int.ediv_lt_of_lt_mul (by omega) (by rw [Int.mul_comm];omega)
   have d0:0 <= (i:Int) / c:=Int.ediv_nonneg (by omega) (by omega)
   obtain ⟨s0,s1⟩:=Jj (n:=i) b1 b4 q4 q40 (by omega)
   have hS:who * kk+(i:Int) / c=ZG c kk i:=by rw [hw];rfl
   have own:=QpP ok w0 w1;have wS:IntKind.i64.wrap (ZG c kk i)=ZG c kk i:=wrap_id (by omega) (by omega)
   have w256:IntKind.i64.wrap (256+ZG c kk i)=256+ZG c kk i:=wrap_id (by omega) (by omega)
   have wu:IntKind.i64.wrap ((i:Int) / c+1)=(i:Int) / c+1:=wrap_id (by omega) (by omega)
   have ww:IntKind.i64.wrap (who+1)=who+1:=wrap_id (by omega) (by omega)
   have wm:(who+1).tmod c=((i+1:Nat):Int) % c:=by
    rw [Int.tmod_eq_emod_of_nonneg (by omega),hw,Int.emod_add_emod];simp
   have cz:(c == 0)=false:=by simp;omega
   have e1:decide (0 <= who /\ who < (u.length:Int) /\ (i:Int) / c < kk)=true:=decide_eq_true ⟨w0,by omega,dk⟩
   have e2:decide (0 <= who /\ who < (u.length:Int))=true:=decide_eq_true ⟨w0,by omega⟩
   have fl:∀ f:Int,0 <= f->f <= 2->decide (0 <= lField 291 (ZG c kk i) f 160 3 /\ lField 291 (ZG c kk i) f 160 3 < (cs.length:Int))=true:=fun f f0 f1=>by
    unfold lField;rw [if_pos (by omega),hcs]
    exact decide_eq_true ⟨by omega,by omega⟩
   have rw1:decide (0 <= lRow 21 x.key 24 /\ lRow 21 x.key 24 < (cs.length:Int))=true:=by
    unfold lRow;rw [if_pos (by omega),hcs]
    exact decide_eq_true ⟨by omega,by omega⟩
   have nb:Nat.beq u.length u.length=true:=Vd rfl;have nc:Nat.beq cs.length cs.length=true:=Vd rfl;simp only [ua,own,hS,wS,w256,wu,ww,wm,cz,e1,e2,us,fl 0 (by omega) (by omega),fl 1 (by omega) (by omega),fl 2 (by omega) (by omega),rw1,nb,nc,lk,List.length_set,decide_true,Bool.and_self,cond_true,cond_false]
   have hul:u.length=(V0 c.toNat (i+1)).length:=by rw [ul,V1]
   refine Qt (S:=V2) (s:=⟨c,w,d,kk,cs,u,sp,ci,it,f0,l0,f1,l1,f2,l2,c0,c1,c2,who,i⟩) ⟨c,w,d,kk,QfG cs (ZG c kk i) x,V0 c.toNat (i+1),sp,ci,it,f0,l0,f1,l1,f2,l2,c0,c1,c2,((i+1:Nat):Int) % c,i+1⟩ (show Jk c w d kk (QfG cs (ZG c kk i) x) (V0 c.toNat (i+1)) sp ci it f0 l0 f1 l1 f2 l2 c0 c1 c2 (((i+1:Nat):Int) % c) (i+1) from ⟨ok,by rw [QaW];exact hcs,rfl,rfl,by omega,hn,hib⟩) (by simp only [V2];omega) ?_ ?_ rfl
   · simp only [V2,Kk,K7,hd,Js]
   · simp only [V2,Qhf,QaW,hul]
 · have d1:decide ((i:Int) < it.length)=false:=by simp;omega
   have hil:i=it.length:=by omega
   have e:it.drop i=[]:=List.drop_eq_nil_of_le (by omega)
   rw [lk,d1];simp only [cond_true,cond_false];refine Qi (K7 c w d kk cs u sp ci it f0 l0 f1 l1 f2 l2 c0 c1 c2 who i) ?_ rfl;simp only [V2,Kk,e,Js,RT.val];rw [hu,<- hil]
noncomputable def QmK (env:Env RC) (os:List (Obj RC)):Option (Bool × QmJ):=match env,os with
 | [(4,.ptr 2 []),(5,.ptr 3 []),(8,.vs 0 x0),(9,.vs 1 x1),(10,.int .i64 who),(11,.int .i64 x2)],[.vec .int true cs,.vec .int true u,.var 26 (.acons (.int .i64 c) (.acons (.int .i64 w) (.acons (.int .i64 d) (.acons (.int .i64 kk) .anil)))),.var 34 (.acons (.int .i64 sp) (.acons (.sl .item ci it) (.acons (.acons (.sl .line f0 l0) (.acons (.sl .line f1 l1) (.acons (.sl .line f2 l2) .anil))) (.acons (.arr .int 3 [c0,c1,c2]) .anil))))]=>Qz (true) (decide (x0=cs.length) && decide (x1=u.length) && decide (x2=0) && Zv c w d kk && decide (cs.length=771 /\ u=V0 c.toNat 0 /\ who=0 /\ (it.length:Int) <= c * kk) && VU it,⟨c,w,d,kk,cs,u,sp,ci,it,f0,l0,f1,l1,f2,l2,c0,c1,c2,who,0⟩)
 | _,_=>none
noncomputable def um_2:=um_1.addLoop 25 13 (Qrn s28 [.slot 8 0,.slot 9 0,.slot 4 0,.slot 5 0] [4,5,8,9,10,11] 2 V2 QmK)
theorem QmL:Qh Tryz.prog s28 um_2:=by
 refine QmI.addRoundsRK Qc (by kernel_rfl) V2 2 (fun q _=>by simp [RT.keeps,V2,Kk,K7]) 60 [4,5,8,9,10,11] [] [.slot 8 0,.slot 9 0,.slot 4 0,.slot 5 0] [4,5,8,9,10,11] QmK (fun q hI=>?_) ?_
 · obtain ⟨c,w,d,kk,cs,u,sp,ci,it,f0,l0,f1,l1,f2,l2,c0,c1,c2,who,i⟩:=q;refine ⟨?_,?_,QiM c w d kk cs u sp ci it f0 l0 f1 l1 f2 l2 c0 c1 c2 who i hI⟩
   · simp_all [Qk,V2,Qhf,K7,Jk,D.refs,Obj.refs,rEnc]
   · simp_all [V2,Kk,K7,Jk,RT.refsOK,Qk,D.refs,Obj.refs,rEnc]
 · intro env os b q hd_ hb;unfold QmK at hd_
   split at hd_
   · obtain ⟨hs,hd_⟩:=Qg hd_;cases hd_;simp only [Bool.and_eq_true,decide_eq_true_eq] at hb;obtain ⟨⟨⟨⟨⟨rfl,rfl⟩,rfl⟩,ok⟩,h1,h2,h3,h4⟩,hib⟩:=hb;exact ⟨⟨ok,h1,h2,by rw [h3];simp,Nat.zero_le _,h4,hib⟩,rfl,rfl⟩
   · cases hd_
structure QmM where
 cs:List Int
 q:Int
 f:Bool
 l:List Line
 i:Nat
noncomputable def Qhg (cs:List Int) (q:Int) (f:Bool) (l:List Line) (i:Nat):Env RC:=[(8,.vs 0 (cs.length)),(17,.int .i64 q),(18,.sl (C:=RC) .line f l),(19,.int .i64 (i:Int))]
def Qa0 (cs:List Int) (q:Int) (f:Bool) (l:List Line) (i:Nat):List (Obj RC):=[.vec .int true cs]
noncomputable def QpW (cs:List Int) (q:Int) (f:Bool) (l:List Line) (i:Nat):=rndO s28 um_2 25 31 40 1 [8,17,18,19] [] [.slot 8 0] (Qhg cs q f l i) (Qa0 cs q f l i)
theorem Qrs (cs:List Int) (q:Int) (f:Bool) (l:List Line) (i:Nat):QpW cs q f l i=(let Z0:Int:=(↑i:Int);let Z1:Bool:=decide ((0:Int) <= Z0 /\ Z0 < (↑l.length:Int));let Z2:Nat:=List.length cs;let Z3:Line:=List.getD l Z0.toNat (Line.mk (0:Int) (0:Int) (0:Int) (0:Int) (0:Int));let Z4:Int:=Line.offset Z3;let Z5:Int:=lStream q Z4;let Z6:List Int:=List.set cs Z5.toNat (wordO (Line.mk Z4 (Line.place Z3) (Line.j Z3) (Line.key Z3) (Line.value Z3)));let Z7:Bool:=Nat.beq Z2 Z6.length;let Z8:Int:=lRow (45:Int) q (3:Int);bif Qd l.length then bif decide (Z0 < (↑l.length:Int)) then bif Z1 then bif Z1 then bif Nat.beq Z2 Z2 && decide ((0:Int) <= Z5 /\ Z5 < (↑Z2:Int)) then bif Nat.beq Z2 Z2 then bif Z1 then bif Z7 && decide ((0:Int) <= Z8 /\ Z8 < (↑Z6.length:Int)) then bif Z7 then some ((X.normal,[(8,D.vs 0 Z2),(17,D.int .i64 q),(18,D.sl RTy.line f l),(19,D.int .i64 (IntKind.wrap .i64 (Z0+(1:Int))))]),[some (Obj.vec RTy.int true (List.set Z6 Z8.toNat (IntKind.wrap .i64 (Z4+(1:Int)))))]) else none else none else none else none else none else none else none else some ((X.exit (6:Nat),[]),[some (Obj.vec RTy.int true cs)]) else none):=by kernel_rfl
noncomputable def Qap (cs:List Int) (q:Int) (f:Bool) (l:List Line) (i:Nat):RT RC:=.leaf (.exit 6) [] (Qa0 (Yc q (l.drop i) cs) q f l i)
def Jl (cs:List Int) (q:Int) (f:Bool) (l:List Line) (i:Nat):Prop:=cs.length=771 /\ 0 <= q /\ q <= 2 /\ i <= l.length /\ l.length <= 1000 /\ l.all Q8=true
noncomputable def Jt:QF RC QmM where
 k:=1
 canon q:=Qhg q.cs q.q q.f q.l q.i
 objs q:=Qa0 q.cs q.q q.f q.l q.i
 fin q:=Qap q.cs q.q q.f q.l q.i
 Inv q:=Jl q.cs q.q q.f q.l q.i
 μ q:=q.l.length - q.i
theorem QiN (cs:List Int) (q:Int) (f:Bool) (l:List Line) (i:Nat) (hI:Jl cs q f l i):Leaf (QpW cs q f l i) (LedR Jt ⟨cs,q,f,l,i⟩):=by
 (rw [Qrs];conv=>zeta)
 unfold Jl at hI;obtain ⟨hcs,q0,q2,h1,h2,hm⟩:=hI;have lk:Qd l.length=true:=Ql (by omega)
 by_cases hlt:i < l.length
 · have w_succ:IntKind.i64.wrap ((i:Int)+1)=((i+1:Nat):Int):=by rw [wrap_id (by omega) (by omega)];simp
   have d_lt:decide ((i:Int) < l.length)=true:=by simp;omega
   have d_in:decide (0 <= (i:Int) /\ (i:Int) < l.length)=true:=by simp;omega
   have t_nat:((i:Int)).toNat=i:=by simp
   simp only [w_succ,d_lt,d_in,t_nat,cond_true];have hd:l.drop i=l.getD i ⟨0,0,0,0,0⟩::l.drop (i+1):=by rw [List.drop_eq_getElem_cons hlt];simp [hlt]
   have hx:Q8 (l.getD i ⟨0,0,0,0,0⟩)=true:=by
    have:=List.all_eq_true.1 hm l[i] (List.getElem_mem hlt)
    simpa [hlt] using this
   generalize l.getD i ⟨0,0,0,0,0⟩=x at *
   simp only [Q8,decide_eq_true_eq] at hx;have e1:lStream q x.offset=51+16 * q+x.offset % 16:=by unfold lStream;rw [if_pos (by omega)]
   have e2:lRow 45 q 3=45+q:=by unfold lRow;rw [if_pos (by omega)]
   have d2:decide (0 <= lStream q x.offset /\ lStream q x.offset < (cs.length:Int))=true:=by rw [e1,hcs];exact decide_eq_true ⟨by omega,by omega⟩
   have d3:decide (0 <= lRow 45 q 3 /\ lRow 45 q 3 < (cs.length:Int))=true:=by rw [e2,hcs];exact decide_eq_true ⟨by omega,by omega⟩
   have nc:Nat.beq cs.length cs.length=true:=Vd rfl;simp only [QoT,lk,d2,d3,nc,List.length_set,Bool.and_self,cond_true];refine Qt (S:=Jt) (s:=⟨cs,q,f,l,i⟩) ⟨(cs.set (lStream q x.offset).toNat (wordO x)).set (lRow 45 q 3).toNat (IntKind.i64.wrap (x.offset+1)),q,f,l,i+1⟩ (show Jl ((cs.set (lStream q x.offset).toNat (wordO x)).set (lRow 45 q 3).toNat (IntKind.i64.wrap (x.offset+1))) q f l (i+1) from ⟨by simpa using hcs,q0,q2,by omega,h2,hm⟩) (by simp only [Jt];omega) ?_ ?_ rfl
   · simp only [Jt,Qap,Qa0,hd,Yc,List.foldl_cons]
   · simp only [Jt,Qhg,List.length_set]
 · have d1:decide ((i:Int) < l.length)=false:=by simp;omega
   have e:l.drop i=[]:=List.drop_eq_nil_of_le (by omega)
   rw [lk,d1];simp only [cond_true,cond_false];refine Qi (Qa0 cs q f l i) ?_ rfl;simp only [Jt,Qap,e,Yc,List.foldl_nil,RT.val]
noncomputable def QmN (env:Env RC) (os:List (Obj RC)):Option (Bool × QmM):=match env,os with
 | [(8,.vs 0 x0),(17,.int .i64 q),(18,.sl .line f l),(19,.int .i64 x1)],[.vec .int true cs]=>Qz (true) (decide (x0=cs.length) && decide (x1=0) && decide (cs.length=771 /\ 0 <= q /\ q <= 2 /\ l.length <= 1000) && l.all Q8,⟨cs,q,f,l,0⟩)
 | _,_=>none
noncomputable def um_3:=um_2.addLoop 25 31 (sumR s28 [.slot 8 0] [8,17,18,19] Jt QmN)
theorem QmO:Qh Tryz.prog s28 um_3:=by
 refine QmL.addRoundsR Qc (by kernel_rfl) Jt 40 [8,17,18,19] [] [.slot 8 0] [8,17,18,19] QmN (fun q hI=>?_) ?_
 · obtain ⟨cs,q,f,l,i⟩:=q;refine ⟨?_,?_,QiN cs q f l i hI⟩
   · simp_all [Qk,Jt,Qhg,Qa0,Jl,D.refs,Obj.refs,rEnc]
   · simp_all [Jt,Qap,Qa0,Jl,RT.refsOK,Qk,D.refs,Obj.refs,rEnc]
 · intro env os b q hd_ hb;unfold QmN at hd_
   split at hd_
   · obtain ⟨hs,hd_⟩:=Qg hd_;cases hd_;simp only [Bool.and_eq_true,decide_eq_true_eq] at hb;obtain ⟨⟨⟨rfl,rfl⟩,h1,h2,h3,h4⟩,h5⟩:=hb;exact ⟨⟨h1,h2,h3,Nat.zero_le _,h4,h5⟩,rfl,rfl⟩
   · cases hd_
noncomputable def Qhh (cn:Bool) (now:List Qa) (cs:Bool) (sure:List Qa) (c:Int) (w:Int) (d:Int) (kk:Int) (sp:Int) (ci:Bool) (it:List Item) (f0:Bool) (l0:List Line) (f1:Bool) (l1:List Line) (f2:Bool) (l2:List Line) (c0:Int) (c1:Int) (c2:Int):Option (Bool × D RC):=some (QH now && QH sure && decide (it.length <= 9223372036854775807 /\ l0.length <= 9223372036854775807 /\ l1.length <= 9223372036854775807 /\ l2.length <= 9223372036854775807),.tup (.acons (.acons (.sl (C:=RC) .int false (bif QX now sure c w d kk ⟨sp,it,l0,l1,l2,c0,c1,c2⟩ == 0 then VZ nC c kk ⟨sp,it,l0,l1,l2,c0,c1,c2⟩ else [])) (.acons (.acons (.sl (C:=RC) .sector false (bif QX now sure c w d kk ⟨sp,it,l0,l1,l2,c0,c1,c2⟩ == 0 then now else [])) (.acons (.sl (C:=RC) .sector false (bif QX now sure c w d kk ⟨sp,it,l0,l1,l2,c0,c1,c2⟩ == 0 then sure else [])) .anil)) .anil)) (.acons (.int .i64 (QX now sure c w d kk ⟨sp,it,l0,l1,l2,c0,c1,c2⟩)) .anil)))
noncomputable def Qeh:List (D RC)->Option (Bool × D RC)
 | [.acons (.sl .sector cn now) (.acons (.sl .sector cs sure) .anil),.acons (.int .i64 c) (.acons (.int .i64 w) (.acons (.int .i64 d) (.acons (.int .i64 kk) .anil))),.acons (.int .i64 sp) (.acons (.sl .item ci it) (.acons (.acons (.sl .line f0 l0) (.acons (.sl .line f1 l1) (.acons (.sl .line f2 l2) .anil))) (.acons (.arr .int 3 [c0,c1,c2]) .anil)))]=>Qhh cn now cs sure c w d kk sp ci it f0 l0 f1 l1 f2 l2 c0 c1 c2
 | _=>none
noncomputable def Qhi (cn:Bool) (now:List Qa) (cs:Bool) (sure:List Qa) (c:Int) (w:Int) (d:Int) (kk:Int) (sp:Int) (ci:Bool) (it:List Item) (f0:Bool) (l0:List Line) (f1:Bool) (l1:List Line) (f2:Bool) (l2:List Line) (c0:Int) (c1:Int) (c2:Int):=evFW s28 um_3 300 25 [.acons (.sl (C:=RC) .sector cn now) (.acons (.sl (C:=RC) .sector cs sure) .anil),.acons (.int .i64 c) (.acons (.int .i64 w) (.acons (.int .i64 d) (.acons (.int .i64 kk) .anil))),.acons (.int .i64 sp) (.acons (.sl (C:=RC) .item ci it) (.acons (.acons (.sl (C:=RC) .line f0 l0) (.acons (.sl (C:=RC) .line f1 l1) (.acons (.sl (C:=RC) .line f2 l2) .anil))) (.acons (.arr (C:=RC) .int 3 [c0,c1,c2]) .anil)))]
theorem QmP (cn:Bool) (now:List Qa) (cs:Bool) (sure:List Qa) (c:Int) (w:Int) (d:Int) (kk:Int) (sp:Int) (ci:Bool) (it:List Item) (f0:Bool) (l0:List Line) (f1:Bool) (l1:List Line) (f2:Bool) (l2:List Line) (c0:Int) (c1:Int) (c2:Int):Qhi cn now cs sure c w d kk sp ci it f0 l0 f1 l1 f2 l2 c0 c1 c2=(let Z0:D RC:=D.sl RTy.sector false [];let Z1:D RC:=.anil;let Z2:D RC:=D.acons (D.sl RTy.int false []) (.acons (D.acons Z0 (D.acons Z0 Z1)) Z1);let Z3:DO_:=some (D.tup (D.acons Z2 (D.acons (D.int .i64 2) Z1)));let Z4:Nat:=List.length it;let Z5:Bool:=Nat.beq (771:Nat) nC.length;let Z6:Nat:=List.length (List.set nC (0:Nat) sp);let Z7:Bool:=Nat.beq (771:Nat) Z6;let Z8:List Int:=List.set (List.set nC (0:Nat) sp) (3:Nat) sp;let Z9:Bool:=Nat.beq (771:Nat) Z8.length;let Z10:Nat:=List.length (List.set Z8 (4:Nat) sp);let Z11:Nat:=Int.toNat c;let Z12:List Int:=List.set (List.set Z8 (4:Nat) sp) (1:Nat) (IntKind.wrap .i64 (sp+(1:Int)));let Z13:List Int:=List.replicate Z11 (0:Int);let Z14:List Int:=Js c kk (0:Nat) (List.drop (0:Nat) it) Z12;let Z15:List Int:=Yc (0:Int) (List.drop (0:Nat) l0) Z14;let Z16:Bool:=Nat.beq (771:Nat) Z15.length;let Z17:Nat:=List.length (List.set Z15 (48:Nat) c0);let Z18:List Int:=Yc (1:Int) (List.drop (0:Nat) l1) (List.set Z15 (48:Nat) c0);let Z19:Bool:=Nat.beq (771:Nat) Z18.length;let Z20:Nat:=List.length (List.set Z18 (49:Nat) c1);let Z21:List Int:=Yc (2:Int) (List.drop (0:Nat) l2) (List.set Z18 (49:Nat) c1);let Z22:Bool:=Nat.beq (771:Nat) Z21.length;let Z23:DO_:=none;bif QH now && QH sure then bif (bif Vs now sure then (0:Int) else (2:Int)) != (0:Int) then Z3 else bif (bif Zv c w d kk then (0:Int) else (2:Int)) != (0:Int) then Z3 else bif decide (Z4 <= (9223372036854775807:Nat) /\ List.length l0 <= (9223372036854775807:Nat) /\ List.length l1 <= (9223372036854775807:Nat) /\ List.length l2 <= (9223372036854775807:Nat)) then bif !Q5 (St.mk sp it l0 l1 l2 c0 c1 c2) then Z3 else bif Qd Z4 then bif decide (IntKind.wrap .i64 (c * kk) < (↑Z4:Int)) then some (D.tup (D.acons Z2 (D.acons (D.int .i64 120) Z1))) else bif Z5 && decide ((0:Int) <= (0:Int) /\ (0:Int) < (↑nC.length:Int)) then bif Z5 then bif Z7 && decide ((0:Int) <= (3:Int) /\ (3:Int) < (↑Z6:Int)) then bif Z7 then bif Z9 && decide ((0:Int) <= (4:Int) /\ (4:Int) < (↑Z8.length:Int)) then bif Z9 then bif Nat.beq (771:Nat) Z10 && decide ((0:Int) <= (1:Int) /\ (1:Int) < (↑Z10:Int)) then bif Nat.beq (771:Nat) Z10 then bif decide ((0:Int) <= c /\ c <= c) && QW Z11 (8:Nat) then bif decide ((771:Nat)=List.length Z12) && decide (Z11=List.length Z13) && true && Zv c w d kk && decide (List.length Z12=(771:Nat) /\ Z13=V0 Z11 (0:Nat) /\ (0:Int)=(0:Int) /\ (↑Z4:Int) <= c * kk) && VU it then bif decide ((771:Nat)=List.length Z14) && true && decide (List.length Z14=(771:Nat) /\ (0:Int) <= (0:Int) /\ (0:Int) <= (2:Int) /\ List.length l0 <= (1000:Nat)) && List.all l0 Q8 then bif Z16 && decide ((0:Int) <= (48:Int) /\ (48:Int) < (↑Z15.length:Int)) then bif Z16 then bif decide ((771:Nat)=Z17) && true && decide (Z17=(771:Nat) /\ (0:Int) <= (1:Int) /\ (1:Int) <= (2:Int) /\ List.length l1 <= (1000:Nat)) && List.all l1 Q8 then bif Z19 && decide ((0:Int) <= (49:Int) /\ (49:Int) < (↑Z18.length:Int)) then bif Z19 then bif decide ((771:Nat)=Z20) && true && decide (Z20=(771:Nat) /\ (0:Int) <= (2:Int) /\ (2:Int) <= (2:Int) /\ List.length l2 <= (1000:Nat)) && List.all l2 Q8 then bif Z22 && decide ((0:Int) <= (50:Int) /\ (50:Int) < (↑Z21.length:Int)) then bif Z22 then bif Nat.beq (771:Nat) (List.set Z21 (50:Nat) c2).length then some (D.tup (D.acons (D.acons (D.sl RTy.int false (List.set Z21 (50:Nat) c2)) (.acons (D.acons (D.sl RTy.sector false now) (.acons (D.sl RTy.sector false sure) Z1)) Z1)) (.acons (D.int .i64 0) Z1))) else Z23 else Z23 else Z23 else Z23 else Z23 else Z23 else Z23 else Z23 else Z23 else Z23 else Z23 else Z23 else Z23 else Z23 else Z23 else Z23 else Z23 else Z23 else Z23 else Z23 else Z23 else Z23 else Z23):=by kernel_rfl
theorem QmQ (cn:Bool) (now:List Qa) (cs:Bool) (sure:List Qa) (c:Int) (w:Int) (d:Int) (kk:Int) (sp:Int) (ci:Bool) (it:List Item) (f0:Bool) (l0:List Line) (f1:Bool) (l1:List Line) (f2:Bool) (l2:List Line) (c0:Int) (c1:Int) (c2:Int) (h:(QH now && QH sure && decide (it.length <= 9223372036854775807 /\ l0.length <= 9223372036854775807 /\ l1.length <= 9223372036854775807 /\ l2.length <= 9223372036854775807))=true):Qhi cn now cs sure c w d kk sp ci it f0 l0 f1 l1 f2 l2 c0 c1 c2=some (.tup (.acons (.acons (.sl (C:=RC) .int false (bif QX now sure c w d kk ⟨sp,it,l0,l1,l2,c0,c1,c2⟩ == 0 then VZ nC c kk ⟨sp,it,l0,l1,l2,c0,c1,c2⟩ else [])) (.acons (.acons (.sl (C:=RC) .sector false (bif QX now sure c w d kk ⟨sp,it,l0,l1,l2,c0,c1,c2⟩ == 0 then now else [])) (.acons (.sl (C:=RC) .sector false (bif QX now sure c w d kk ⟨sp,it,l0,l1,l2,c0,c1,c2⟩ == 0 then sure else [])) .anil)) .anil)) (.acons (.int .i64 (QX now sure c w d kk ⟨sp,it,l0,l1,l2,c0,c1,c2⟩)) .anil))):=by
 (rw [QmP];conv=>zeta)
 rw [Bool.and_eq_true] at h;obtain ⟨hg,hl⟩:=h
 have err:∀ e:Int,QX now sure c w d kk ⟨sp,it,l0,l1,l2,c0,c1,c2⟩=e->e ≠ 0->some (D.tup (C:=RC) (.acons (.acons (.sl (C:=RC) .int false []) (.acons (.acons (.sl (C:=RC) .sector false []) (.acons (.sl (C:=RC) .sector false []) .anil)) .anil)) (.acons (.int .i64 e) .anil)))=some (.tup (.acons (.acons (.sl (C:=RC) .int false (bif QX now sure c w d kk ⟨sp,it,l0,l1,l2,c0,c1,c2⟩ == 0 then VZ nC c kk ⟨sp,it,l0,l1,l2,c0,c1,c2⟩ else [])) (.acons (.acons (.sl (C:=RC) .sector false (bif QX now sure c w d kk ⟨sp,it,l0,l1,l2,c0,c1,c2⟩ == 0 then now else [])) (.acons (.sl (C:=RC) .sector false (bif QX now sure c w d kk ⟨sp,it,l0,l1,l2,c0,c1,c2⟩ == 0 then sure else [])) .anil)) .anil)) (.acons (.int .i64 (QX now sure c w d kk ⟨sp,it,l0,l1,l2,c0,c1,c2⟩)) .anil))):=fun e h1 h2=>by
  have h3:(e == 0)=false:=by simpa using h2
  rw [h1];simp only [h3,cond_false]
 refine Qb hg ?_;cases hd:Vs now sure
 · exact Qb rfl (err 2 (by simp only [QX,hd,Bool.false_and,cond_false]) (by decide))
 refine Zh rfl ?_;cases hs:Zv c w d kk
 · exact Qb rfl (err 2 (by simp only [QX,hs,Bool.and_false,Bool.false_and,cond_false]) (by decide))
 refine Zh rfl (Qb hl ?_);cases ht:Q5 ⟨sp,it,l0,l1,l2,c0,c1,c2⟩
 · exact Qb rfl (err 2 (by simp only [QX,ht,Bool.and_false,cond_false]) (by decide))
 refine Zh rfl ?_;obtain ⟨b1,c4,_,_,_,_,q4,q40⟩:=Zo hs;obtain ⟨hp,hn,hi,⟨n0,h0⟩,⟨n1,h1⟩,⟨n2,h2⟩⟩:=QbR ht
 dsimp only at hp hn hi n0 h0 n1 h1 n2 h2
 have p0:0 <= c * kk:=Int.mul_nonneg (by omega) (by omega)
 have p1:c * kk <= 4 * 40:=Int.mul_le_mul (by omega) (by omega) (by omega) (by omega)
 have pc:kk * c=c * kk:=Int.mul_comm _ _;have w1:IntKind.i64.wrap (c * kk)=c * kk:=wrap_id (by omega) (by omega)
 refine Qb (Ql (by omega)) ?_
 simp only [w1,List.drop_zero,List.length_set,QbT,QbS,QmB,List.length_replicate]
 by_cases hr:c * kk < it.length
 · exact Qb (by simpa using hr) (err 120 (by simp only [QX,hd,hs,ht,Bool.and_self,cond_true,decide_eq_true hr]) (by decide))
 refine Zh (by simpa using hr) ?_
 have hE:QX now sure c w d kk ⟨sp,it,l0,l1,l2,c0,c1,c2⟩=0:=by simp only [QX,hd,hs,ht,Bool.and_self,cond_true,decide_eq_false hr,cond_false]
 have hib:VU it=true:=List.all_eq_true.2 fun x hx=>by have:=hi x hx;simp;omega
 have hn':(it.length:Int) <= c * kk:=by omega
 have ul0:List.replicate c.toNat (0:Int)=V0 c.toNat 0:=QiJ (by omega) (by omega)
 have m0:l0.all Q8=true:=List.all_eq_true.2 fun x hx=>(h0 x hx).2.2;have m1:l1.all Q8=true:=List.all_eq_true.2 fun x hx=>(h1 x hx).2.2;have m2:l2.all Q8=true:=List.all_eq_true.2 fun x hx=>(h2 x hx).2.2;have hM:Qsc nC c kk ⟨sp,it,l0,l1,l2,c0,c1,c2⟩=VZ nC c kk ⟨sp,it,l0,l1,l2,c0,c1,c2⟩:=Qrp b1 c4 q4 q40 (fun x hx=>⟨(hi x hx).1,(hi x hx).2.1⟩) hn' (fun x hx=>(h0 x hx).1) (fun x hx=>(h1 x hx).1) (fun x hx=>(h2 x hx).1);rw [hE,<- hM];refine Qb (by decide) (Qb (by decide) (Qb (by decide) (Qb (by decide) (Qb (by decide) (Qb (by decide) (Qb (by decide) (Qb (by decide) ?_)))))))
 refine Qb (andT (by simp;omega) (QqJ (by omega))) (Qb (andT (andT (andT (andT (andT (by simp) (by simp)) rfl) rfl) (by simp [ul0,hn'])) hib) ?_)
 refine Qb (andT (andT (andT (by simp) rfl) (by simp;omega)) m0) (Qb (by decide) (Qb (by decide) ?_))
 refine Qb (andT (andT (andT (by simp) rfl) (by simp;omega)) m1) (Qb (by decide) (Qb (by decide) ?_))
 refine Qb (andT (andT (andT (by simp) rfl) (by simp;omega)) m2) (Qb (by decide) (Qb (by decide) ?_))
 exact Qb (by decide) rfl
noncomputable def um_4:=um_3.addSpec 25 Qeh
theorem QmR:Qh Tryz.prog s28 um_4:=QmO.addEvW Qc fun args d h=>by
 unfold Qeh at h
 split at h
 · unfold Qhh at h;have h1:=congrArg Prod.fst (Option.some.inj h);obtain rfl:_=d:=congrArg Prod.snd (Option.some.inj h);exact ⟨by simp [D.refs],300,QmQ _ _ _ _ _ _ _ _ _ _ _ _ _ _ _ _ _ _ _ _ h1⟩
 · cases h
open Go.Proofs
structure Qei where
 c:Bool
 l:List Int
 a:Bool
 now:List Qa
 b:Bool
 sure:List Qa
 d:Bool
 m:List Int
 a':Bool
 now':List Qa
 b':Bool
 sure':List Qa
 i:Nat
noncomputable def QcD (c:Bool) (l:List Int) (a:Bool) (now:List Qa) (b:Bool) (sure:List Qa) (d:Bool) (m:List Int) (a':Bool) (now':List Qa) (b':Bool) (sure':List Qa) (i:Nat):Env RC:=[(2,.ptr 0 []),(3,.ptr 1 []),(4,.bool false),(5,.int .i64 (i:Int))]
def YJ (c:Bool) (l:List Int) (a:Bool) (now:List Qa) (b:Bool) (sure:List Qa) (d:Bool) (m:List Int) (a':Bool) (now':List Qa) (b':Bool) (sure':List Qa) (i:Nat):List (Obj RC):=[.var 41 (.acons (.sl (C:=RC) .int c l) (.acons (.acons (.sl (C:=RC) .sector a now) (.acons (.sl (C:=RC) .sector b sure) .anil)) .anil)),.var 41 (.acons (.sl (C:=RC) .int d m) (.acons (.acons (.sl (C:=RC) .sector a' now') (.acons (.sl (C:=RC) .sector b' sure') .anil)) .anil))]
noncomputable def Qhj (c:Bool) (l:List Int) (a:Bool) (now:List Qa) (b:Bool) (sure:List Qa) (d:Bool) (m:List Int) (a':Bool) (now':List Qa) (b':Bool) (sure':List Qa) (i:Nat):=rndO s28 um_4 16 4 40 2 [2,3,4,5] [4] [.slot 2 0,.slot 3 0] (QcD c l a now b sure d m a' now' b' sure' i) (YJ c l a now b sure d m a' now' b' sure' i)
theorem QmS (c:Bool) (l:List Int) (a:Bool) (now:List Qa) (b:Bool) (sure:List Qa) (d:Bool) (m:List Int) (a':Bool) (now':List Qa) (b':Bool) (sure':List Qa) (i:Nat):Qhj c l a now b sure d m a' now' b' sure' i=(let Z0:Int:=(↑i:Int);let Z1:List (Option (Obj RC)):=[some (Obj.var 41 (.acons (D.sl RTy.int c l) (.acons (D.acons (D.sl RTy.sector a now) (.acons (D.sl RTy.sector b sure) .anil)) .anil))),some (Obj.var 41 (.acons (D.sl RTy.int d m) (.acons (D.acons (D.sl RTy.sector a' now') (.acons (D.sl RTy.sector b' sure') .anil)) .anil)))];bif Qd l.length then bif decide (Z0 < (↑l.length:Int)) then bif decide ((0:Int) <= Z0 /\ Z0 < (↑l.length:Int)) then bif decide ((0:Int) <= Z0 /\ Z0 < (↑m.length:Int)) then bif List.getD l Z0.toNat (0:Int) != List.getD m Z0.toNat (0:Int) then some ((X.ret,[(4,D.bool false)]),Z1) else some ((X.normal,[(2,D.ptr 0 []),(3,D.ptr 1 []),(4,D.bool false),(5,D.int .i64 (IntKind.wrap .i64 (Z0+(1:Int))))]),Z1) else none else none else some ((X.exit (0:Nat),[(4,D.bool false)]),Z1) else none):=by kernel_rfl
noncomputable def YX (c:Bool) (l:List Int) (a:Bool) (now:List Qa) (b:Bool) (sure:List Qa) (d:Bool) (m:List Int) (a':Bool) (now':List Qa) (b':Bool) (sure':List Qa) (i:Nat):RT RC:=.br (decide (l.drop i=m.drop i)) (.leaf (.exit 0) [(4,.bool false)] (YJ c l a now b sure d m a' now' b' sure' i)) (.leaf .ret [(4,.bool false)] (YJ c l a now b sure d m a' now' b' sure' i))
def YY (c:Bool) (l:List Int) (a:Bool) (now:List Qa) (b:Bool) (sure:List Qa) (d:Bool) (m:List Int) (a':Bool) (now':List Qa) (b':Bool) (sure':List Qa) (i:Nat):Prop:=i <= l.length /\ l.length <= 9223372036854775807 /\ l.length=m.length
noncomputable def Yk:QF RC Qei where
 k:=2
 canon q:=QcD q.c q.l q.a q.now q.b q.sure q.d q.m q.a' q.now' q.b' q.sure' q.i
 objs q:=YJ q.c q.l q.a q.now q.b q.sure q.d q.m q.a' q.now' q.b' q.sure' q.i
 fin q:=YX q.c q.l q.a q.now q.b q.sure q.d q.m q.a' q.now' q.b' q.sure' q.i
 Inv q:=YY q.c q.l q.a q.now q.b q.sure q.d q.m q.a' q.now' q.b' q.sure' q.i
 μ q:=q.l.length - q.i
theorem Qej (c:Bool) (l:List Int) (a:Bool) (now:List Qa) (b:Bool) (sure:List Qa) (d:Bool) (m:List Int) (a':Bool) (now':List Qa) (b':Bool) (sure':List Qa) (i:Nat) (hI:YY c l a now b sure d m a' now' b' sure' i):Leaf (Qhj c l a now b sure d m a' now' b' sure' i) (LedR Yk ⟨c,l,a,now,b,sure,d,m,a',now',b',sure',i⟩):=by
 (rw [QmS];conv=>zeta)
 unfold YY at hI;obtain ⟨h1,h2,h3⟩:=hI;have hlk:=Ql h2;rw [hlk];simp only [cond_true]
 by_cases hlt:i < l.length
 · have w_succ:IntKind.i64.wrap ((i:Int)+1)=((i+1:Nat):Int):=by rw [wrap_id (by omega) (by omega)];simp
   have d_lt:decide ((i:Int) < l.length)=true:=by simp;omega
   have d_in:decide (0 <= (i:Int) /\ (i:Int) < l.length)=true:=by simp;omega
   have t_nat:((i:Int)).toNat=i:=by simp
   simp only [w_succ,d_lt,d_in,t_nat,cond_true];have hlt':i < m.length:=by omega
   have d_in':decide (0 <= (i:Int) /\ (i:Int) < m.length)=true:=by simp;omega
   have hst:=Jf l m i (0:Int) hlt h3;simp only [d_in',cond_true];generalize l.getD i (0:Int)=x at hst ⊢;generalize m.getD i (0:Int)=y at hst ⊢
   by_cases hxy:x=y
   · simp only [QqI hxy,cond_false];exact Qt ⟨c,l,a,now,b,sure,d,m,a',now',b',sure',i+1⟩ ⟨hlt,h2,h3⟩ (by simp only [Yk];omega) (by simp only [Yk,YX,hst,hxy,decide_true,Bool.true_and];rfl) rfl rfl
   · simp only [QqH hxy,cond_true];exact QG (YJ c l a now b sure d m a' now' b' sure' i) (by simp [Yk,YX,hst,hxy,RT.val]) rfl
 · have hi:i=l.length:=by omega
   have c1:decide ((i:Int) < l.length)=false:=by simp;omega
   simp only [c1,cond_false];exact Qi (YJ c l a now b sure d m a' now' b' sure' i) (by simp only [Yk,YX,JW l m i (by omega) (by omega),RT.val,cond_true]) rfl
noncomputable def QcE (env:Env RC) (os:List (Obj RC)):Option (Bool × Qei):=match env,os with
 | [(2,.ptr 0 []),(3,.ptr 1 []),(4,.bool false),(5,.int .i64 x0)],[.var 41 (.acons (.sl .int c l) (.acons (.acons (.sl .sector a now) (.acons (.sl .sector b sure) .anil)) .anil)),.var 41 (.acons (.sl .int d m) (.acons (.acons (.sl .sector a' now') (.acons (.sl .sector b' sure') .anil)) .anil))]=>Qz (true) (decide (x0=0) && decide (l.length <= 9223372036854775807 /\ l.length=m.length),⟨c,l,a,now,b,sure,d,m,a',now',b',sure',0⟩)
 | _,_=>none
noncomputable def un_1:=um_4.addLoop 16 4 (sumR s28 [.slot 2 0,.slot 3 0] [2,3,4,5] Yk QcE)
theorem QmT:Qh Tryz.prog s28 un_1:=by
 refine QmR.addRoundsR Qc (by kernel_rfl) Yk 40 [2,3,4,5] [4] [.slot 2 0,.slot 3 0] [2,3,4,5] QcE (fun q hI=>?_) ?_
 · obtain ⟨c,l,a,now,b,sure,d,m,a',now',b',sure',i⟩:=q;refine ⟨?_,?_,Qej c l a now b sure d m a' now' b' sure' i hI⟩
   · simp_all [Qk,Yk,QcD,YJ,YY,D.refs,Obj.refs,rEnc]
   · simp_all [Yk,YX,YJ,YY,RT.refsOK,Qk,D.refs,Obj.refs,rEnc]
 · intro env os b q hd_ hb;unfold QcE at hd_
   split at hd_
   · obtain ⟨hs,hd_⟩:=Qg hd_;cases hd_;simp only [Bool.and_eq_true,decide_eq_true_eq] at hb;obtain ⟨rfl,hl⟩:=hb;exact ⟨⟨Nat.zero_le _,hl.1,hl.2⟩,rfl,rfl⟩
   · cases hd_
noncomputable def QmU (c:Bool) (l:List Int) (a:Bool) (now:List Qa) (b:Bool) (sure:List Qa) (d:Bool) (m:List Int) (a':Bool) (now':List Qa) (b':Bool) (sure':List Qa):Option (Bool × D RC):=some (Qd l.length && Qd m.length && (Qd now.length && Qd now'.length && (Qd sure.length && Qd sure'.length)),.bool (decide (l=m) && (decide (now=now') && decide (sure=sure'))))
noncomputable def Qhk:List (D RC)->Option (Bool × D RC)
 | [.acons (.sl .int c l) (.acons (.acons (.sl .sector a now) (.acons (.sl .sector b sure) .anil)) .anil),.acons (.sl .int d m) (.acons (.acons (.sl .sector a' now') (.acons (.sl .sector b' sure') .anil)) .anil)]=>QmU c l a now b sure d m a' now' b' sure'
 | _=>none
noncomputable def QmV (c:Bool) (l:List Int) (a:Bool) (now:List Qa) (b:Bool) (sure:List Qa) (d:Bool) (m:List Int) (a':Bool) (now':List Qa) (b':Bool) (sure':List Qa):=evF s28 un_1 40 16 [.acons (.sl (C:=RC) .int c l) (.acons (.acons (.sl (C:=RC) .sector a now) (.acons (.sl (C:=RC) .sector b sure) .anil)) .anil),.acons (.sl (C:=RC) .int d m) (.acons (.acons (.sl (C:=RC) .sector a' now') (.acons (.sl (C:=RC) .sector b' sure') .anil)) .anil)]
theorem Qo2 (c:Bool) (l:List Int) (a:Bool) (now:List Qa) (b:Bool) (sure:List Qa) (d:Bool) (m:List Int) (a':Bool) (now':List Qa) (b':Bool) (sure':List Qa):QmV c l a now b sure d m a' now' b' sure'=(let Z0:Nat:=List.length l;let Z1:Nat:=List.length m;let Z2:DO_:=some (D.bool false);bif Qd Z0 then bif Qd Z1 then bif (↑Z0:Int) != (↑Z1:Int) then Z2 else bif Qd now.length && Qd now'.length && (Qd sure.length && Qd sure'.length) then bif !(decide (now=now') && decide (sure=sure')) then Z2 else bif decide (Z0 <= (9223372036854775807:Nat) /\ Z0=Z1) then bif decide (List.drop (0:Nat) l=List.drop (0:Nat) m) then some (D.bool true) else Z2 else none else none else none else none):=by kernel_rfl
theorem Qo3 (c:Bool) (l:List Int) (a:Bool) (now:List Qa) (b:Bool) (sure:List Qa) (d:Bool) (m:List Int) (a':Bool) (now':List Qa) (b':Bool) (sure':List Qa) (h:(Qd l.length && Qd m.length && (Qd now.length && Qd now'.length && (Qd sure.length && Qd sure'.length)))=true):QmV c l a now b sure d m a' now' b' sure'=some (.bool (decide (l=m) && (decide (now=now') && decide (sure=sure')))):=by
 (rw [Qo2];conv=>zeta)
 rw [Bool.and_eq_true,Bool.and_eq_true] at h;obtain ⟨⟨h1,h2⟩,h3⟩:=h;refine Qb h1 (Qb h2 ?_)
 by_cases hl:l.length=m.length
 · refine Zh (by rw [hl];simp) (Qb h3 ?_)
   cases hd:decide (now=now') && decide (sure=sure')
   · refine Qb rfl ?_;simp
   · refine Zh rfl (Qb (decide_eq_true ⟨YZ h1,hl⟩) ?_);rw [List.drop_zero,List.drop_zero,Bool.and_true];cases decide (l=m) <;> rfl
 · refine Qb (by simp;omega) ?_
   rw [decide_eq_false (fun e=>hl (by rw [e]))]
   rfl
noncomputable def un_2:=un_1.addSpec 16 Qhk
theorem QmW:Qh Tryz.prog s28 un_2:=QmT.addEv Qc fun args d h=>by
 unfold Qhk at h
 split at h
 · unfold QmU at h;have h1:=congrArg Prod.fst (Option.some.inj h);obtain rfl:_=d:=congrArg Prod.snd (Option.some.inj h);exact ⟨by simp [D.refs],40,Qo3 _ _ _ _ _ _ _ _ _ _ _ _ h1⟩
 · cases h
theorem Qek (c k:Int) (s:St):(VZ nC c k s).length=771:=by
 unfold VZ;simp only [Yx,QmB]
set_option maxHeartbeats 4000000
noncomputable def Qel :Option (Bool × D RC):=some (true,.bool true)
noncomputable def QbV:List (D RC)->Option (Bool × D RC)
 | []=>Qel 
 | _=>none
noncomputable def Qem  := evF s28 un_2 1500 8 []
theorem wk_0:(VZ Jg 1 4 ⟨4,[],[],[],[],0,0,0⟩).getD 0 0=4:=by kernel_rfl
theorem wk_1:(VZ Jg 1 4 ⟨4,[],[],[],[],0,0,0⟩).getD 1 0=5:=by kernel_rfl
theorem QiO :Qem  = (let Z0:List Int:=VZ nC (1:Int) (4:Int) (St.mk (4:Int) [] [] [] [] (0:Int) (0:Int) (0:Int));let Z1:Int:=(↑Z0.length:Int);bif Qd Z0.length then bif Z1 == (771:Int) then bif decide ((0:Int) <= (0:Int) /\ (0:Int) < Z1) then bif List.getD Z0 (0:Nat) (0:Int) == (4:Int) then bif decide ((0:Int) <= (1:Int) /\ (1:Int) < Z1) then some (D.bool (List.getD Z0 (1:Nat) (0:Int) == (5:Int))) else none else some (D.bool false) else none else some (D.bool false) else none):=by kernel_rfl
theorem QiP  (h:(true)=true):Qem  = some (.bool true):=by
 (rw [QiO];conv=>zeta)
 have hl:=Qek 1 4 ⟨4,[],[],[],[],0,0,0⟩;have h0:=wk_0;have h1:=wk_1;rw [<- QoU] at h0 h1;generalize VZ nC 1 4 ⟨4,[],[],[],[],0,0,0⟩=L at *;refine Qb (Ql (by omega)) (Qb (by rw [hl];rfl) (Qb (by rw [hl];rfl) (Qb (by rw [h0];rfl) (Qb (by rw [hl];rfl) ?_))))
 rw [h1];rfl
noncomputable def un_3:=un_2.addSpec 8 QbV
theorem QmX:Qh Tryz.prog s28 un_3:=QmW.addEv Qc fun args d h=>by
 unfold QbV at h
 split at h
 · unfold Qel at h;have h1:=congrArg Prod.fst (Option.some.inj h);obtain rfl:_=d:=congrArg Prod.snd (Option.some.inj h);exact ⟨by simp [D.refs],1500,QiP  h1⟩
 · cases h
end Go.Ev

namespace Go.Ev
set_option linter.unusedVariables false
set_option linter.unusedSimpArgs false
theorem QmY {f q m:Int} (h0:0 <= q) (h1:q < m):lRow f q m=f+q:=by rw [lRow,if_pos ⟨h0,h1⟩]
theorem QbW {q o:Int} (h0:0 <= q) (h1:q <= 2) (h2:0 <= o):51 <= lStream q o /\ lStream q o <= 98:=by
 rw [lStream,if_pos ⟨h0,h1,h2⟩];have:=Int.emod_nonneg o (show (16:Int) ≠ 0 by decide)
 have:=Int.emod_lt_of_pos o (show (0:Int) < 16 by decide)
 omega
def ln0:Line:=⟨0,0,0,0,0⟩
def revM (l:List Line) (i:Nat):List Line:=(List.range l.length).map fun k=>if i <= k /\ k < l.length - i then l.getD (l.length - 1 - k) ln0 else l.getD k ln0
theorem YK (l:List Line) (i:Nat):(revM l i).length=l.length:=by simp [revM]
theorem QcF (l:List Line) (i k:Nat) (h:k < l.length):(revM l i).getD k ln0=if i <= k /\ k < l.length - i then l.getD (l.length - 1 - k) ln0 else l.getD k ln0:=by
 rw [List.getD_eq_getElem?_getD,List.getElem?_eq_getElem (by rw [YK];exact h),Option.getD_some]
 simp only [revM,List.getElem_map,List.getElem_range]
theorem Qa1 {l m:List Line} (h:l.length=m.length) (hk:∀ k,k < l.length->l.getD k ln0=m.getD k ln0):l=m:=by
 apply List.ext_getElem h;intro k h1 h2;have:=hk k h1
 rwa [List.getD_eq_getElem?_getD,List.getD_eq_getElem?_getD,List.getElem?_eq_getElem h1,List.getElem?_eq_getElem h2,Option.getD_some,Option.getD_some] at this
theorem QmZ (l:List Line):revM l 0=l.reverse:=by
 refine Qa1 (by simp [YK]) fun k hk=>?_
 rw [YK] at hk;rw [QcF l 0 k hk,if_pos ⟨Nat.zero_le _,by omega⟩,List.getD_eq_getElem?_getD,List.getD_eq_getElem?_getD,List.getElem?_reverse hk]
theorem Qo4 {l:List Line} {i:Nat} (h:l.length <= 2 * i+1):revM l i=l:=by
 refine Qa1 (YK l i) fun k hk=>?_;rw [YK] at hk;rw [QcF l i k hk]
 split
 · rw [show l.length - 1 - k=k by omega]
 · rfl
theorem Qen {l:List Line} {i k:Nat} {x:Line} (hi:i < l.length):(l.set i x).getD k ln0=if k=i then x else l.getD k ln0:=by
 rw [List.getD_eq_getElem?_getD,List.getElem?_set]
 by_cases h:i=k
 · subst h;simp [hi]
 · rw [if_neg h,if_neg (fun e=>h e.symm),List.getD_eq_getElem?_getD]
theorem Qm0 {l:List Line} {i:Nat} (h:2 * i+1 < l.length):revM ((l.set i (l.getD (l.length - 1 - i) ln0)).set (l.length - 1 - i) (l.getD i ln0)) (i+1)=revM l i:=by
 have hl:((l.set i (l.getD (l.length - 1 - i) ln0)).set (l.length - 1 - i) (l.getD i ln0)).length=l.length:=by simp
 refine Qa1 (by rw [YK,YK,hl]) fun k hk=>?_
 rw [YK,hl] at hk;rw [QcF _ _ _ (by rw [hl];exact hk),QcF _ _ _ hk,hl]
 have g:∀ j,((l.set i (l.getD (l.length - 1 - i) ln0)).set (l.length - 1 - i) (l.getD i ln0)).getD j ln0=if j=l.length - 1 - i then l.getD i ln0 else if j=i then l.getD (l.length - 1 - i) ln0 else l.getD j ln0:=fun j=>by
  rw [Qen (by simp;omega),Qen (by omega)]
 rw [g,g]
 by_cases k1:k=i
 · subst k1;rw [if_neg (by omega),if_neg (by omega),if_pos rfl,if_pos ⟨Nat.le_refl _,by omega⟩]
 · by_cases k2:k=l.length - 1 - i
   · rw [if_neg (by omega),if_pos k2,if_pos ⟨by omega,by omega⟩,k2,show l.length - 1 - (l.length - 1 - i)=i by omega]
   · by_cases k3:i <= k /\ k < l.length - i
     · rw [if_pos (by omega),if_neg (by omega),if_neg (by omega),if_pos k3]
     · rw [if_neg (by omega),if_neg k2,if_neg k1,if_neg k3]
def lnD (cs:List Int) (q:Int):Nat->Int->List Line
 | 0,_=>[]
 | m+1,i=>if (YO (cs.getD (lStream q i).toNat 0)).isSome=true /\ (readO (cs.getD (lStream q i).toNat 0)).offset=i then readO (cs.getD (lStream q i).toNat 0)::lnD cs q m (i - 1) else []
theorem QcG (cs:List Int) (q:Int):∀ (m:Nat) (i:Int),(lnD cs q m i).length <= m
 | 0,_=>Nat.le_refl _
 | m+1,i=>by
  unfold lnD
  split
  · have:=QcG cs q m (i - 1);simp only [List.length_cons];omega
  · simp
def cntL (cs:List Int) (q:Int):Int:=cs.getD (lRow 45 q 3).toNat 0
def Qhl (cs:List Int) (q:Int):List Line:=(lnD cs q (cntL cs q - max 0 (cntL cs q - 16)).toNat (cntL cs q - 1)).reverse
def rngI (cs:List Int):Bool:=cs.all fun v=>decide (v < 9223372036854775808)
theorem Qm1 {cs:List Int} (h:rngI cs=true) (i:Nat):cs.getD i 0 < 9223372036854775808:=by
 by_cases hi:i < cs.length
 · have e:cs.getD i 0=cs[i]:=by simp [hi]
   rw [e];exact of_decide_eq_true (List.all_eq_true.1 h _ (List.getElem_mem hi))
 · have e:cs.getD i 0=0:=by simp [List.getD_eq_getElem?_getD,List.getElem?_eq_none (Nat.le_of_not_lt hi)]
   rw [e];decide
def rdA (cs:List Int) (key:Int):Nat->Int->List Item
 | 0,_=>[]
 | n+1,w=>if w=0 \/ QO (bare w) 1 true < 0 then [] else ⟨key,plc w,cs.getD (QO (bare w) 2 true).toNat 0 % 256⟩::rdA cs key n (wh (cs.getD (QO (bare w) 1 true).toNat 0))
theorem Qm2 (cs:List Int) (key:Int):∀ (n:Nat) (w:Int),(rdA cs key n w).length <= n
 | 0,_=>Nat.le_refl _
 | n+1,w=>by
  unfold rdA
  split
  · simp
  · have:=Qm2 cs key n (wh (cs.getD (QO (bare w) 1 true).toNat 0));simp only [List.length_cons];omega
theorem cellO_node (w:Int):(QO (bare w) 1 true = -1 /\ QO (bare w) 2 true = -1) \/ (292 <= QO (bare w) 1 true /\ QO (bare w) 1 true <= 769 /\ QO (bare w) 2 true=QO (bare w) 1 true+1):=by
 have h0:=QdV w;have hb:0 <= bare w:=by unfold bare;omega
 have hm:0 <= bare w % 256:=by omega
 unfold QO;rw [if_neg (by omega),if_neg (by omega)]
 simp only [cond_true];unfold lField
 by_cases q:bare w % 256 < 160
 · rw [if_pos ⟨hm,q,by decide,by decide⟩,if_pos ⟨hm,q,by decide,by decide⟩]
   right;omega
 · rw [if_neg (by omega),if_neg (by omega)]
   left;exact ⟨rfl,rfl⟩
def Q1 (p:Int) (l:List Item):Option Item:=l.find? fun x=>decide (x.place <= p)
def Vt (cs:List Int) (key:Int):Bool:=decide (cs.length=771) && (decide (0 <= key) && decide (key < 24))
def Q2 (cs:List Int) (key:Int):List Item:=bif Vt cs key then rdA cs key 160 (wh (cs.getD (21+key).toNat 0)) else []
theorem Qeo (cs:List Int) (key:Int):(Q2 cs key).length <= 160:=by
 unfold Q2;cases Vt cs key
 · simp
 · exact Qm2 _ _ _ _
def Kl (cs:List Int) (p:Int):Nat->Nat->List Item
 | 0,_=>[]
 | n+1,k=>(Q1 p (Q2 cs (k:Int))).toList++Kl cs p n (k+1)
theorem Qep (cs:List Int) (p:Int):∀ n k,(Kl cs p n k).length <= n
 | 0,_=>Nat.le_refl _
 | n+1,k=>by
  have:=Qep cs p n (k+1);unfold Kl;cases Q1 p (Q2 cs (k:Int)) <;> simp <;> omega
def Zb (cs:List Int) (q:Int):Bool:=decide (cs.length=771) && (decide (0 <= q) && decide (q < 3)) && (decide (0 <= cntL cs q) && decide (cntL cs q <= 4194304))
def Zl (cs:List Int) (q:Int):List Line:=bif Zb cs q then Qhl cs q else []
theorem KO (cs:List Int) (q:Int):(Zl cs q).length <= 16:=by
 unfold Zl;cases Zb cs q
 · simp
 · have:=QcG cs q (cntL cs q - max 0 (cntL cs q - 16)).toNat (cntL cs q - 1);simp only [cond_true,Qhl,List.length_reverse];omega
def KP (cs:List Int):Nat->Int->Bool
 | 0,_=>false
 | n+1,w=>if w=0 then false else if QO (bare w) 1 true < 0 then true else KP cs n (wh (cs.getD (QO (bare w) 1 true).toNat 0))
theorem Qsd {cs:List Int} {key:Int}:∀ {n:Nat},rdA cs key n 0=[] /\ KP cs n 0=false
 | 0=>⟨rfl,rfl⟩
 | n+1=>⟨by unfold rdA;rw [if_pos (.inl rfl)],by unfold KP;rw [if_pos rfl]⟩
theorem Qm3 {cs:List Int} {key w:Int} (hw:w ≠ 0) (hb:QO (bare w) 1 true < 0) (n:Nat):rdA cs key (n+1) w=[] /\ KP cs (n+1) w=true :=
 ⟨by unfold rdA;rw [if_pos (.inr hb)],by unfold KP;rw [if_neg hw,if_pos hb]⟩
theorem QpX {cs:List Int} {key w:Int} (hw:w ≠ 0) (hb:¬ QO (bare w) 1 true < 0) (n:Nat):rdA cs key (n+1) w=⟨key,plc w,cs.getD (QO (bare w) 2 true).toNat 0 % 256⟩::rdA cs key n (wh (cs.getD (QO (bare w) 1 true).toNat 0)) /\ KP cs (n+1) w=KP cs n (wh (cs.getD (QO (bare w) 1 true).toNat 0)) :=
 ⟨by
  conv=>lhs;unfold rdA
  rw [if_neg (fun q=>q.elim hw hb)],
 by
  conv=>lhs;unfold KP
  rw [if_neg hw,if_neg hb]⟩
theorem QbX {p:Int} {l:List Item} {i:Nat} (h:i < l.length):Q1 p (l.drop i)=if (l.getD i ⟨0,0,0⟩).place <= p then some (l.getD i ⟨0,0,0⟩) else Q1 p (l.drop (i+1)):=by
 have e:l.getD i ⟨0,0,0⟩=l[i]:=by simp [h]
 unfold Q1;rw [List.drop_eq_getElem_cons h,List.find?_cons,e]
 by_cases q:l[i].place <= p
 · rw [if_pos q,decide_eq_true q]
 · rw [if_neg q,decide_eq_false q]
theorem Qeq {p:Int} {l:List Item}:Q1 p (l.drop l.length)=none:=by rw [List.drop_length];rfl
theorem QbY {cs:List Int} {p:Int} {n k:Nat}:Kl cs p (n+1) k=(Q1 p (Q2 cs (k:Int))).toList++Kl cs p n (k+1):=rfl
def Km (cs:List Int):St:=bif decide (cs.length=771) then ⟨cs.getD 0 0,Kl cs (cs.getD 0 0) 24 0,Zl cs 0,Zl cs 1,Zl cs 2,cs.getD 48 0,cs.getD 49 0,cs.getD 50 0⟩ else st0
def Qbj (cs:List Int):Int:=bif decide (cs.length=771) then 0 else 2
end Go.Ev
