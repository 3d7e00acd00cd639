/-
  A part of the proof of a statement of this seat: the model is run over values by content, proved sound; what the functions come to. No condition beyond the given statements. (text 4)
-/
import Derived.Test.YtndenhihcjijaaaGreatP2
import Derived.KernelRfl
namespace Go.Ev
set_option linter.unusedVariables false
set_option linter.unusedSimpArgs false
def mkO (c p k:Int) (r got:List Int):Task:=⟨c,[⟨p,k,r⟩],got,false⟩
def QgQ (A B:GoR4):Prop:=A.is=B.is /\ A.kind=B.kind /\ A.a=B.a /\ A.b=B.b /\ A.v=B.v /\ A.g=B.g /\ A.got=B.got
theorem VV {p n:Int} {r q got:List Int} {kd a b v g:Int}:QgQ (g4 p n r got kd a b v g) (g4 p n q got kd a b v g):=⟨rfl,rfl,rfl,rfl,rfl,rfl,rfl⟩
theorem QiT {l:List Int}:QgQ (K0 l) (K0 l):=⟨rfl,rfl,rfl,rfl,rfl,rfl,rfl⟩
theorem oB0 (own:Bool) (r got:List Int):goO own [⟨92,0,r⟩] got=g4 92 1 r got 0 0 0 0 0:=rfl
theorem oB1 (own:Bool) (r:List Int) (x:Int):goO own [⟨92,1,r⟩] [x]=g4 92 2 (r.set 1 x) [x] 1 (lRow 9 (r.getD 0 0) 4) 0 (x+1) 0:=rfl
theorem oB2 (own:Bool) (r got:List Int):goO own [⟨92,2,r⟩] got=g4 92 3 r got 0 3 0 0 0:=rfl
theorem oB3 (own:Bool) (r:List Int) (x:Int):goO own [⟨92,3,r⟩] [x]=if r.getD 1 0 < x then g4 92 1 r [x] 0 0 0 0 0 else K0 [r.getD 1 0]:=rfl
theorem oM0 (own:Bool) (r got:List Int):goO own [⟨93,0,r⟩] got=g4 93 1 r got 0 0 0 0 0:=by cases own <;> rfl
theorem oM1 (own:Bool) (r:List Int) (x:Int):goO own [⟨93,1,r⟩] [x]=g4 93 2 (r.set 0 x) [x] 0 3 0 0 0:=by cases own <;> rfl
theorem oA2 (r:List Int) (x:Int):goO false [⟨93,2,r⟩] [x]=if x < r.getD 0 0 then g4 93 3 r [x] 2 3 x (r.getD 0 0) 0 else g4 93 4 (r.set 1 0) [x] 0 9 0 0 0:=rfl
theorem oC2 (r:List Int) (x:Int):goO true [⟨93,2,r⟩] [x]=if x < r.getD 0 0 then g4 93 3 (r.set 1 x) [x] 2 3 x (r.getD 0 0) 0 else g4 93 4 (r.set 2 0) [x] 0 9 0 0 0:=rfl
theorem oA3 (r:List Int) (x:Int):goO false [⟨93,3,r⟩] [x]=if x=0 then g4 93 2 r [x] 0 3 0 0 0 else g4 93 4 (r.set 1 0) [x] 0 9 0 0 0:=rfl
theorem oC3 (r:List Int) (x:Int):goO true [⟨93,3,r⟩] [x]=if x=0 then g4 93 2 r [x] 0 3 0 0 0 else g4 93 4 (r.set 2 0) [x] 0 9 0 0 0:=rfl
theorem oA4 (r:List Int) (x:Int):goO false [⟨93,4,r⟩] [x]=if r.getD 1 0=3 then K0 [flo (r.getD 0 0) [r.getD 2 0,r.getD 3 0,r.getD 4 0,x]]
 else g4 93 4 ((r.set (2+(r.getD 1 0).toNat) x).set 1 (r.getD 1 0+1)) [x] 0 (10+r.getD 1 0) 0 0 0:=rfl
theorem oC4 (r:List Int) (x:Int):goO true [⟨93,4,r⟩] [x]=if r.getD 2 0=3 then K0 [flo (r.getD 0 0) [r.getD 3 0,r.getD 4 0,r.getD 5 0,x]]
 else g4 93 4 ((r.set (3+(r.getD 2 0).toNat) x).set 2 (r.getD 2 0+1)) [x] 0 (10+r.getD 2 0) 0 0 0:=rfl
def frC (cs:List Int):Int:=cs.getD 0 0
def mkC (cs:List Int):Int:=cs.getD 3 0
def scC (cs:List Int) (i:Nat):Int:=cs.getD (9+i) 0
def opB (opn:List Bool) (i:Nat):Bool:=opn.getD i false
def stA (start:List Int) (i:Nat):Int:=start.getD i 0
def Qd1 (opn:List Bool) (start:List Int) (w:Int) (i:Nat) (v:Int):Prop:=opB opn i=true->w <= stA start i \/ 0 < v /\ v - 1 <= stA start i
def JB (cs:List Int) (opn:List Bool) (c k:Int) (r got:List Int):Prop :=
 r.length=96 /\ r.getD 0 0=c /\ opB opn c.toNat=false /\
 (k=0 /\ got=[] \/ ∃ x,got=[x] /\ 0 <= x /\ x <= frC cs /\ (k=1 \/ 0 <= r.getD 1 0 /\ r.getD 1 0 <= frC cs /\ scC cs c.toNat=r.getD 1 0+1 /\ (k=2 \/ k=3)))
def JM4 (cs:List Int) (opn:List Bool) (start:List Int) (r q:List Int) (x:Int):Prop :=
 r.getD 0 0 <= mkC cs /\ ∃ j:Nat,j <= 3 /\ r.getD 1 0=j /\ q.getD 2 0=j /\ (∀ i,i < j->r.getD (2+i) 0=q.getD (3+i) 0 /\ 0 <= r.getD (2+i) 0 /\ r.getD (2+i) 0 <= frC cs+1 /\ Qd1 opn start (r.getD 0 0) i (r.getD (2+i) 0)) /\ Qd1 opn start (r.getD 0 0) j x
def JM (cs:List Int) (opn:List Bool) (start:List Int) (k:Int) (r q got:List Int):Prop :=
 r.length=96 /\ q.length=96 /\
 (k=0 /\ got=[] \/ ∃ x,got=[x] /\ 0 <= x /\ x <= frC cs+1 /\ (k=1 /\ x <= frC cs \/ r.getD 0 0=q.getD 0 0 /\ 0 <= r.getD 0 0 /\ r.getD 0 0 <= frC cs /\
  (k=2 /\ x <= mkC cs \/ k=3 /\ (x=0 \/ r.getD 0 0 <= mkC cs) \/ k=4 /\ JM4 cs opn start r q x)))
theorem JB.ok {cs:List Int} {opn:List Bool} {c k:Int} {r got:List Int} (h:JB cs opn c k r got) (hf:frC cs <= 1000000) (c0:0 <= c) (c3:c <= 3) (own:Bool):okO own c [⟨92,k,r⟩] got:=by
 obtain ⟨h1,h2,_,h⟩:=h;refine ⟨c0,c3,92,k,r,rfl,h1,.inl ⟨rfl,?_⟩⟩;rcases h with h | ⟨x,e,x0,x1,h⟩
 · exact .inl h
 · refine .inr ⟨x,e,?_,?_,x0,by omega,by omega,by omega⟩
   · rcases h with h | ⟨_,_,_,h | h⟩ <;> omega
   · rcases h with h | ⟨_,_,_,h | h⟩ <;> omega
theorem JM.ok {cs:List Int} {opn:List Bool} {start:List Int} {k c:Int} {r q got:List Int} (h:JM cs opn start k r q got) (hf:frC cs <= 1000000) (c0:0 <= c) (c3:c <= 3) :
 okO false c [⟨93,k,r⟩] got /\ okO true c [⟨93,k,q⟩] got /\ QgQ (goO false [⟨93,k,r⟩] got) (goO true [⟨93,k,q⟩] got):=by
 obtain ⟨h1,h2,h⟩:=h;rcases h with ⟨rfl,rfl⟩ | ⟨x,rfl,x0,x1,⟨rfl,x2⟩ | ⟨e,w0,w1,⟨rfl,x2⟩ | ⟨rfl,x2⟩ | ⟨rfl,h4⟩⟩⟩
 · exact ⟨⟨c0,c3,93,0,r,rfl,h1,.inr ⟨rfl,.inl ⟨rfl,rfl⟩⟩⟩,⟨c0,c3,93,0,q,rfl,h2,.inr ⟨rfl,.inl ⟨rfl,rfl⟩⟩⟩,by rw [oM0,oM0];exact VV⟩
 · exact ⟨⟨c0,c3,93,1,r,rfl,h1,.inr ⟨rfl,.inr ⟨x,rfl,by omega,by omega,x0,by omega,by omega,by omega⟩⟩⟩,⟨c0,c3,93,1,q,rfl,h2,.inr ⟨rfl,.inr ⟨x,rfl,by omega,by omega,x0,by omega,by omega,by omega⟩⟩⟩,by rw [oM1,oM1];exact VV⟩
 · refine ⟨⟨c0,c3,93,2,r,rfl,h1,.inr ⟨rfl,.inr ⟨x,rfl,by omega,by omega,x0,by omega,by omega,by omega⟩⟩⟩,⟨c0,c3,93,2,q,rfl,h2,.inr ⟨rfl,.inr ⟨x,rfl,by omega,by omega,x0,by omega,by omega,by omega⟩⟩⟩,?_⟩
   rw [oA2,oC2,<- e]
   split <;> exact VV
 · refine ⟨⟨c0,c3,93,3,r,rfl,h1,.inr ⟨rfl,.inr ⟨x,rfl,by omega,by omega,x0,by omega,by omega,by omega⟩⟩⟩,⟨c0,c3,93,3,q,rfl,h2,.inr ⟨rfl,.inr ⟨x,rfl,by omega,by omega,x0,by omega,by omega,by omega⟩⟩⟩,?_⟩
   rw [oA3,oC3]
   split <;> exact VV
 · obtain ⟨h5,j,j3,e1,e2,hj,_⟩:=h4;refine ⟨⟨c0,c3,93,4,r,rfl,h1,.inr ⟨rfl,.inr ⟨x,rfl,by omega,by omega,x0,by omega,by omega,fun _=>?_⟩⟩⟩,⟨c0,c3,93,4,q,rfl,h2,.inr ⟨rfl,.inr ⟨x,rfl,by omega,by omega,x0,by omega,by omega,fun _=>?_⟩⟩⟩,?_⟩
   · refine ⟨by omega,by omega,fun h3=>?_⟩
     have a0:r.getD 2 0 <= frC cs+1:=(hj 0 (by omega)).2.2.1
     have a1:r.getD 3 0 <= frC cs+1:=(hj 1 (by omega)).2.2.1
     have a2:r.getD 4 0 <= frC cs+1:=(hj 2 (by omega)).2.2.1
     exact ⟨by omega,by omega,by omega⟩
   · refine ⟨by omega,by omega,fun h3=>?_⟩
     have a0:r.getD 2 0=q.getD 3 0 /\ _ /\ r.getD 2 0 <= frC cs+1 /\ _:=hj 0 (by omega)
     have a1:r.getD 3 0=q.getD 4 0 /\ _ /\ r.getD 3 0 <= frC cs+1 /\ _:=hj 1 (by omega)
     have a2:r.getD 4 0=q.getD 5 0 /\ _ /\ r.getD 4 0 <= frC cs+1 /\ _:=hj 2 (by omega)
     exact ⟨by omega,by omega,by omega⟩
   · rw [oA4,oC4,e1,e2]
     split
     · have a0:r.getD 2 0=q.getD 3 0:=(hj 0 (by omega)).1
       have a1:r.getD 3 0=q.getD 4 0:=(hj 1 (by omega)).1
       have a2:r.getD 4 0=q.getD 5 0:=(hj 2 (by omega)).1
       rw [<- e,a0,a1,a2];exact QiT
     · exact VV
theorem JB.mono {cs cs':List Int} {opn opn':List Bool} {c k:Int} {r got:List Int} (h:JB cs opn c k r got) (hf:frC cs <= frC cs') (hs:scC cs' c.toNat=scC cs c.toNat) (ho:opB opn' c.toNat=opB opn c.toNat):JB cs' opn' c k r got:=by
 obtain ⟨h1,h2,h3,h⟩:=h;refine ⟨h1,h2,by rw [ho];exact h3,?_⟩
 rcases h with h | ⟨x,e,x0,x1,h⟩
 · exact .inl h
 · refine .inr ⟨x,e,x0,by omega,?_⟩
   rcases h with h | ⟨a,b,d,h⟩
   · exact .inl h
   · exact .inr ⟨a,by omega,by omega,h⟩
theorem JM.mono {cs cs':List Int} {opn opn':List Bool} {start start':List Int} {k:Int} {r q got:List Int} (h:JM cs opn start k r q got) (hf:frC cs <= frC cs') (hm:mkC cs <= mkC cs')
 (ho:∀ i,opB opn' i=true->opB opn i=true /\ stA start' i=stA start i \/ mkC cs <= stA start' i):JM cs' opn' start' k r q got:=by
 obtain ⟨h1,h2,h⟩:=h;refine ⟨h1,h2,?_⟩;rcases h with h | ⟨x,e,x0,x1,h⟩
 · exact .inl h
 · refine .inr ⟨x,e,x0,by omega,?_⟩
   rcases h with h | ⟨e,w0,w1,h⟩
   · exact .inl ⟨h.1,by omega⟩
   refine .inr ⟨e,w0,by omega,?_⟩
   rcases h with h | h | ⟨hk,w2,j,j3,e1,e2,hj,hx⟩
   · exact .inl ⟨h.1,by omega⟩
   · exact .inr (.inl ⟨h.1,by omega⟩)
   · have saw:∀ i v,Qd1 opn start (r.getD 0 0) i v->Qd1 opn' start' (r.getD 0 0) i v:=fun i v hv ho'=>by
      rcases ho i ho' with ⟨a,b⟩ | b
      · rw [b];exact hv a
      · exact .inl (by omega)
     refine .inr (.inr ⟨hk,by omega,j,j3,e1,e2,fun i hi=>?_,saw _ _ hx⟩)
     obtain ⟨a,b,d,f⟩:=hj i hi;exact ⟨a,b,by omega,saw _ _ f⟩
theorem doC4_load {l:List Int} {a b v:Int}:doC4 l 0 a b v=l:=by simp [doC4]
theorem QR {l:List Int} {a b:Int}:doG4 l 0 a b=l.getD a.toNat 0:=by simp [doG4]
theorem QaN {l:List Int} {a b v:Int}:doC4 l 1 a b v=l.set a.toNat v:=by simp [doC4]
theorem QaO {l:List Int} {a b:Int}:doG4 l 1 a b=0:=by simp [doG4]
theorem Qfa {l:List Int} {a b v:Int}:doC4 l 2 a b v=if l.getD a.toNat 0=b then l.set a.toNat v else l:=by simp [doC4]
theorem QmJ {l:List Int} {a b:Int}:doG4 l 2 a b=if l.getD a.toNat 0=b then 1 else 0:=by simp [doG4]
theorem Zr {l:List Int} {i:Nat} {v:Int} (h:cellsOK l=true) (hv:-1152921504606846976 <= v /\ v <= 1152921504606846976):cellsOK (l.set i v)=true:=by
 unfold cellsOK at *
 simp only [Bool.and_eq_true,decide_eq_true_eq,List.length_set,List.all_eq_true] at *
 refine ⟨h.1,fun x hx=>?_⟩;rcases List.mem_or_eq_of_mem_set hx with hx | rfl
 · exact h.2 x hx
 · unfold KY;rw [decide_eq_true hv.1,decide_eq_true hv.2];rfl
theorem Qfb:∀ (l:List Int) (n:Int),flo n l <= n
 | [],n=>Int.le_refl n
 | s::l,n=>by
  have:=Qfb l (if 0 < s /\ s - 1 < n then s - 1 else n)
  unfold flo
  split at this <;> rename_i h
  · rw [if_pos h];omega
  · rw [if_neg h];omega
theorem QiU:∀ (l:List Int) (n v:Int),v ∈ l->0 < v->flo n l <= v - 1
 | s::l,n,v,hv,h0=>by
  unfold flo;rcases List.mem_cons.1 hv with rfl | hv
  · have:=Qfb l (if 0 < v /\ v - 1 < n then v - 1 else n)
    split at this <;> rename_i h
    · rw [if_pos h];omega
    · rw [if_neg h];omega
  · exact QiU l _ v hv h0
structure QaP (p:Int) (cs cs':List Int) (c:Nat):Prop where
 len:cs'.length=771
 ok:cellsOK cs'=true
 fr:frC cs'=frC cs
 mr:mkC cs <= mkC cs' /\ mkC cs' <= frC cs
 sc:∀ i,i ≠ c \/ p=93->scC cs' i=scC cs i
 sb:∀ i,i < 4->0 <= scC cs' i /\ scC cs' i <= frC cs+1
structure OC (cs:List Int):Prop where
 len:cs.length=771
 ok:cellsOK cs=true
 mr:0 <= mkC cs /\ mkC cs <= frC cs
 fr:frC cs <= 1000000
 sb:∀ i,i < 4->0 <= scC cs i /\ scC cs i <= frC cs+1
theorem OC.same {cs:List Int} (h:OC cs) (p:Int) (c:Nat):QaP p cs cs c:=⟨h.len,h.ok,rfl,⟨Int.le_refl _,h.mr.2⟩,fun _ _=>rfl,h.sb⟩
theorem QaP.next {p:Int} {cs cs':List Int} {c:Nat} (h:QaP p cs cs' c) (hc:OC cs):OC cs' :=
 ⟨h.len,h.ok,⟨by have:=hc.mr;have:=h.mr;omega,by rw [h.fr];exact h.mr.2⟩,by rw [h.fr];exact hc.fr,fun i hi=>by rw [h.fr];exact h.sb i hi⟩
theorem JB.step {cs:List Int} {opn:List Bool} {c k:Int} {r got:List Int} (h:JB cs opn c k r got) (hc:OC cs) (c0:0 <= c) (c3:c <= 3) (hi:(goO false [⟨92,k,r⟩] got).is=true) :
 ∃ n r' kd a b v,(∀ own,goO own [⟨92,k,r⟩] got=g4 92 n r' got kd a b v 0) /\ Vl cs kd a b v /\ QaP 92 cs (doC4 cs kd a b v) c.toNat /\ JB (doC4 cs kd a b v) opn c n r' [doG4 cs kd a b] /\
  ((goO false [⟨92,n,r'⟩] [doG4 cs kd a b]).is=false -> ∃ s,(goO false [⟨92,n,r'⟩] [doG4 cs kd a b])=K0 [s] /\ mkC (doC4 cs kd a b v) <= s /\ scC (doC4 cs kd a b v) c.toNat=s+1 /\ s <= frC cs):=by
 obtain ⟨h1,h2,h3,h⟩:=h;have hl:=hc.len;have hf:=hc.fr;have hm:=hc.mr;have hoL:∀ a:Int,0 <= a->a < 771->Vl cs 0 a 0 0:=fun a a0 a1=>⟨.inl ⟨rfl,rfl,rfl⟩,a0,by rw [hl];exact a1,by decide,by decide,by decide,by decide⟩
 rcases h with ⟨rfl,rfl⟩ | ⟨x,rfl,x0,x1,rfl | ⟨s0,s1,s2,rfl | rfl⟩⟩
 · refine ⟨1,r,0,0,0,0,fun own=>oB0 own r [],hoL 0 (by decide) (by decide),by rw [doC4_load];exact hc.same _ _,?_,fun q=>by rw [QR,oB1] at q;cases q⟩
   rw [doC4_load,QR];exact ⟨h1,h2,h3,.inr ⟨_,rfl,by show 0 <= frC cs;omega,Int.le_refl _,.inl rfl⟩⟩
 · have ha:lRow 9 (r.getD 0 0) 4=9+c:=by rw [h2,lRow,if_pos ⟨c0,by omega⟩]
   have hn:(9+c).toNat=9+c.toNat:=by omega
   refine ⟨2,r.set 1 x,1,9+c,0,x+1,fun own=>by rw [oB1,ha],⟨.inr (.inl ⟨rfl,rfl⟩),by omega,by omega,by decide,by decide,by omega,by omega⟩,?_,?_,fun q=>by rw [QaO,oB2] at q;cases q⟩
   · rw [QaN,hn]
     have hsc:∀ i,scC (cs.set (9+c.toNat) (x+1)) i=if i=c.toNat then x+1 else scC cs i:=fun i=>by
      unfold scC;rw [YA _ _ _ _ _ (by omega)]
      by_cases e:i=c.toNat
      · rw [if_pos (by omega),if_pos e]
      · rw [if_neg (by omega),if_neg e]
     have hmk:mkC (cs.set (9+c.toNat) (x+1))=mkC cs:=by unfold mkC;rw [Qa (by omega)]
     have hfr:frC (cs.set (9+c.toNat) (x+1))=frC cs:=by unfold frC;rw [Qa (by omega)]
     refine ⟨by rw [List.length_set];exact hl,Zr hc.ok (by omega),hfr,by rw [hmk];omega,fun i hi=>?_,fun i hi=>?_⟩
     · rw [hsc,if_neg (by omega)]
     · rw [hsc]
       split
       · omega
       · exact hc.sb i hi
   · rw [QaN,QaO,hn];refine ⟨by rw [List.length_set];exact h1,by rw [Qa (by decide)];exact h2,h3,.inr ⟨0,rfl,Int.le_refl _,?_,.inr ⟨?_,?_,?_,.inl rfl⟩⟩⟩
     · unfold frC;rw [Qa (by omega)];have:frC cs=cs.getD 0 0:=rfl;omega
     · rw [Qd (by omega)];exact x0
     · rw [Qd (by omega)];unfold frC;rw [Qa (by omega)];exact x1
     · unfold scC;rw [Qd (by omega),Qd (by omega)]
 · refine ⟨3,r,0,3,0,0,fun own=>oB2 own r [x],hoL 3 (by decide) (by decide),by rw [doC4_load];exact hc.same _ _,?_,fun q=>?_⟩
   · rw [doC4_load,QR];exact ⟨h1,h2,h3,.inr ⟨_,rfl,hm.1,hm.2,.inr ⟨s0,s1,s2,.inr rfl⟩⟩⟩
   · rw [QR,oB3] at q ⊢
     split at q
     · cases q
     · rename_i hlt;rw [if_neg hlt,doC4_load];have:mkC cs=cs.getD (Int.toNat 3) 0:=rfl;exact ⟨_,rfl,by omega,s2,s1⟩
 · rw [oB3] at hi
   split at hi
   · rename_i hlt;refine ⟨1,r,0,0,0,0,fun own=>by rw [oB3,if_pos hlt],hoL 0 (by decide) (by decide),by rw [doC4_load];exact hc.same _ _,?_,fun q=>by rw [QR,oB1] at q;cases q⟩
     rw [doC4_load,QR];exact ⟨h1,h2,h3,.inr ⟨_,rfl,by show 0 <= frC cs;omega,Int.le_refl _,.inl rfl⟩⟩
   · cases hi
theorem JM.look {cs:List Int} {opn:List Bool} {start:List Int} {r q:List Int} (h1:r.length=96) (h2:q.length=96) (e:r.getD 0 0=q.getD 0 0) (w0:0 <= r.getD 0 0) (w1:r.getD 0 0 <= mkC cs) (hc:OC cs)
 (ho:∀ i,i < 4->opB opn i=true->scC cs i=stA start i+1 /\ 0 <= stA start i) :
 Vl cs 0 9 0 0 /\ QaP 93 cs (doC4 cs 0 9 0 0) 0 /\ JM (doC4 cs 0 9 0 0) opn start 4 (r.set 1 0) (q.set 2 0) [doG4 cs 0 9 0] /\ (goO false [⟨93,4,r.set 1 0⟩] [doG4 cs 0 9 0]).is=true:=by
 have hl:=hc.len;have hm:=hc.mr;have hs:=hc.sb 0 (by decide)
 refine ⟨⟨.inl ⟨rfl,rfl,rfl⟩,by decide,by omega,by decide,by decide,by decide,by decide⟩,by rw [doC4_load];exact hc.same _ _,?_,?_⟩
 · rw [doC4_load,QR];have hx:cs.getD (Int.toNat 9) 0=scC cs 0:=rfl;rw [hx];have er:(r.set 1 0).getD 0 0=r.getD 0 0:=Qa (by decide)
   have eq:(q.set 2 0).getD 0 0=q.getD 0 0:=Qa (by decide)
   refine ⟨by rw [List.length_set];exact h1,by rw [List.length_set];exact h2,.inr ⟨_,rfl,hs.1,hs.2,.inr ⟨by rw [er,eq];exact e,by rw [er];exact w0,by rw [er];omega,.inr (.inr ⟨rfl,by rw [er];exact w1,0,by decide,Qd (by omega),Qd (by omega),fun i hi=>by omega,fun hop=>?_⟩)⟩⟩⟩
   have:=ho 0 (by decide) hop
   exact .inr ⟨by omega,by omega⟩
 · rw [oA4,Qd (by omega),if_neg (by decide)];rfl
theorem JM.step {cs:List Int} {opn:List Bool} {start:List Int} {k:Int} {r q got:List Int} (h:JM cs opn start k r q got) (hc:OC cs) (ho:∀ i,i < 4->opB opn i=true->scC cs i=stA start i+1 /\ 0 <= stA start i)
 (hi:(goO false [⟨93,k,r⟩] got).is=true) :
 ∃ n r' q' kd a b v,goO false [⟨93,k,r⟩] got=g4 93 n r' got kd a b v 0 /\ goO true [⟨93,k,q⟩] got=g4 93 n q' got kd a b v 0 /\ Vl cs kd a b v /\ QaP 93 cs (doC4 cs kd a b v) 0 /\ JM (doC4 cs kd a b v) opn start n r' q' [doG4 cs kd a b] /\
  ((goO false [⟨93,n,r'⟩] [doG4 cs kd a b]).is=false -> ∃ s,(goO false [⟨93,n,r'⟩] [doG4 cs kd a b])=K0 [s] /\ s <= mkC (doC4 cs kd a b v) /\ ∀ i,i < 4->opB opn i=true->s <= stA start i):=by
 obtain ⟨h1,h2,h⟩:=h;have hl:=hc.len;have hf:=hc.fr;have hm:=hc.mr;have hoL:∀ a:Int,0 <= a->a < 771->Vl cs 0 a 0 0:=fun a a0 a1=>⟨.inl ⟨rfl,rfl,rfl⟩,a0,by rw [hl];exact a1,by decide,by decide,by decide,by decide⟩
 rcases h with ⟨rfl,rfl⟩ | ⟨x,rfl,x0,x1,⟨rfl,x2⟩ | ⟨e,w0,w1,⟨rfl,x2⟩ | ⟨rfl,x2⟩ | ⟨rfl,h4⟩⟩⟩
 · refine ⟨1,r,q,0,0,0,0,oM0 _ _ _,oM0 _ _ _,hoL 0 (by decide) (by decide),by rw [doC4_load];exact hc.same _ _,?_,fun q=>by rw [QR,oM1] at q;cases q⟩
   rw [doC4_load,QR];have hx:cs.getD (Int.toNat 0) 0=frC cs:=rfl;rw [hx];exact ⟨h1,h2,.inr ⟨_,rfl,by omega,by omega,.inl ⟨rfl,Int.le_refl _⟩⟩⟩
 · refine ⟨2,r.set 0 x,q.set 0 x,0,3,0,0,oM1 _ _ _,oM1 _ _ _,hoL 3 (by decide) (by decide),by rw [doC4_load];exact hc.same _ _,?_,fun q=>?_⟩
   · rw [doC4_load,QR];have hx:cs.getD (Int.toNat 3) 0=mkC cs:=rfl;have er:(r.set 0 x).getD 0 0=x:=Qd (by omega)
     have eq:(q.set 0 x).getD 0 0=x:=Qd (by omega)
     rw [hx];exact ⟨by rw [List.length_set];exact h1,by rw [List.length_set];exact h2,.inr ⟨_,rfl,hm.1,by omega,.inr ⟨by rw [er,eq],by rw [er];exact x0,by rw [er];exact x2,.inl ⟨rfl,Int.le_refl _⟩⟩⟩⟩
   · rw [QR,oA2] at q
     split at q <;> cases q
 · by_cases hlt:x < r.getD 0 0
   · refine ⟨3,r,q.set 1 x,2,3,x,r.getD 0 0,by rw [oA2,if_pos hlt],by rw [oC2,<- e,if_pos hlt],⟨.inr (.inr (.inl rfl)),by decide,by omega,by omega,by omega,by omega,by omega⟩,?_,?_,fun q=>?_⟩
     · rw [Qfa]
       split
       · rename_i hb;have hmk:mkC (cs.set (Int.toNat 3) (r.getD 0 0))=r.getD 0 0:=Qd (by omega)
         have hfr:frC (cs.set (Int.toNat 3) (r.getD 0 0))=frC cs:=Qa (by decide)
         have hsc:∀ i,scC (cs.set (Int.toNat 3) (r.getD 0 0)) i=scC cs i:=fun i=>Qa (by omega)
         have hb:mkC cs=x:=hb;exact ⟨by rw [List.length_set];exact hl,Zr hc.ok (by omega),hfr,by rw [hmk];omega,fun i _=>hsc i,fun i hi=>by rw [hsc];exact hc.sb i hi⟩
       · exact hc.same _ _
     · rw [Qfa,QmJ];have eq:(q.set 1 x).getD 0 0=q.getD 0 0:=Qa (by decide)
       split
       · have hmk:mkC (cs.set (Int.toNat 3) (r.getD 0 0))=r.getD 0 0:=Qd (by omega)
         have hfr:frC (cs.set (Int.toNat 3) (r.getD 0 0))=frC cs:=Qa (by decide)
         exact ⟨h1,by rw [List.length_set];exact h2,.inr ⟨_,rfl,by decide,by omega,.inr ⟨by rw [eq];exact e,w0,by rw [hfr];exact w1,.inr (.inl ⟨rfl,.inr (by rw [hmk];exact Int.le_refl _)⟩)⟩⟩⟩
       · exact ⟨h1,by rw [List.length_set];exact h2,.inr ⟨_,rfl,by decide,by omega,.inr ⟨by rw [eq];exact e,w0,w1,.inr (.inl ⟨rfl,.inl rfl⟩)⟩⟩⟩
     · rw [oA3] at q
       split at q <;> cases q
   · obtain ⟨a1,a2,a3,a4⟩:=JM.look h1 h2 e w0 (by omega) hc ho
     refine ⟨4,r.set 1 0,q.set 2 0,0,9,0,0,by rw [oA2,if_neg hlt],by rw [oC2,<- e,if_neg hlt],a1,a2,a3,fun q=>by rw [a4] at q;cases q⟩
 · by_cases hx:x=0
   · refine ⟨2,r,q,0,3,0,0,by rw [oA3,if_pos hx],by rw [oC3,if_pos hx],hoL 3 (by decide) (by decide),by rw [doC4_load];exact hc.same _ _,?_,fun q=>?_⟩
     · rw [doC4_load,QR];have hx:cs.getD (Int.toNat 3) 0=mkC cs:=rfl;rw [hx];exact ⟨h1,h2,.inr ⟨_,rfl,hm.1,by omega,.inr ⟨e,w0,w1,.inl ⟨rfl,Int.le_refl _⟩⟩⟩⟩
     · rw [QR,oA2] at q
       split at q <;> cases q
   · obtain ⟨a1,a2,a3,a4⟩:=JM.look h1 h2 e w0 (by omega) hc ho
     exact ⟨4,r.set 1 0,q.set 2 0,0,9,0,0,by rw [oA3,if_neg hx],by rw [oC3,if_neg hx],a1,a2,a3,fun q=>by rw [a4] at q;cases q⟩
 · obtain ⟨w2,j,j3,e1,e2,hj,hx⟩:=h4;rw [oA4] at hi
   split at hi
   · cases hi
   rename_i hne;have hj3:j <= 2:=by omega
   have t1:(r.getD 1 0).toNat=j:=by omega
   have t2:(q.getD 2 0).toNat=j:=by omega
   have hr0:((r.set (2+j) x).set 1 ((j:Int)+1)).getD 0 0=r.getD 0 0:=by rw [Qa (by decide),Qa (by omega)]
   have hq0:((q.set (3+j) x).set 2 ((j:Int)+1)).getD 0 0=q.getD 0 0:=by rw [Qa (by decide),Qa (by omega)]
   have hr1:((r.set (2+j) x).set 1 ((j:Int)+1)).getD 1 0=j+1:=Qd (by rw [List.length_set];omega)
   have hq2:((q.set (3+j) x).set 2 ((j:Int)+1)).getD 2 0=j+1:=Qd (by rw [List.length_set];omega)
   have hri:∀ i,((r.set (2+j) x).set 1 ((j:Int)+1)).getD (2+i) 0=if i=j then x else r.getD (2+i) 0:=fun i=>by
    rw [Qa (by omega),YA _ _ _ _ _ (by omega)]
    by_cases e:i=j
    · rw [if_pos (by omega),if_pos e]
    · rw [if_neg (by omega),if_neg e]
   have hqi:∀ i,((q.set (3+j) x).set 2 ((j:Int)+1)).getD (3+i) 0=if i=j then x else q.getD (3+i) 0:=fun i=>by
    rw [Qa (by omega),YA _ _ _ _ _ (by omega)]
    by_cases e:i=j
    · rw [if_pos (by omega),if_pos e]
    · rw [if_neg (by omega),if_neg e]
   have hsb:=hc.sb (j+1) (by omega)
   have hvx:cs.getD (10+(j:Int)).toNat 0=scC cs (j+1):=by unfold scC;congr 1;omega
   have hsaw:∀ i,i < j+1->Qd1 opn start (r.getD 0 0) i (if i=j then x else r.getD (2+i) 0):=fun i hi=>by
    by_cases e:i=j
    · rw [if_pos e,e];exact hx
    · rw [if_neg e];exact (hj i (by omega)).2.2.2
   have hlast:Qd1 opn start (r.getD 0 0) (j+1) (scC cs (j+1)):=fun hop=>by
    have:=ho (j+1) (by omega) hop
    exact .inr ⟨by omega,by omega⟩
   refine ⟨4,(r.set (2+j) x).set 1 (j+1),(q.set (3+j) x).set 2 (j+1),0,10+j,0,0,by rw [oA4,if_neg hne,t1,e1],by rw [oC4,if_neg (by omega),t2,e2],hoL _ (by omega) (by omega),by rw [doC4_load];exact hc.same _ _,?_,fun q=>?_⟩
   · rw [doC4_load,QR,hvx];refine ⟨by rw [List.length_set,List.length_set];exact h1,by rw [List.length_set,List.length_set];exact h2,.inr ⟨_,rfl,hsb.1,hsb.2,.inr ⟨by rw [hr0,hq0];exact e,by rw [hr0];exact w0,by rw [hr0];exact w1,.inr (.inr ⟨rfl,by rw [hr0];exact w2,j+1,by omega,by rw [hr1];simp,by rw [hq2];simp,fun i hi=>?_,by rw [hr0];exact hlast⟩)⟩⟩⟩
     rw [hri,hqi,hr0];refine ⟨?_,?_,?_,hsaw i hi⟩
     · by_cases e:i=j
       · rw [if_pos e,if_pos e]
       · rw [if_neg e,if_neg e];exact (hj i (by omega)).1
     · by_cases e:i=j
       · rw [if_pos e];exact x0
       · rw [if_neg e];exact (hj i (by omega)).2.1
     · by_cases e:i=j
       · rw [if_pos e];exact x1
       · rw [if_neg e];exact (hj i (by omega)).2.2.1
   · rw [doC4_load];rw [QR,hvx,oA4,hr1,hr0] at q ⊢
     split at q
     · rename_i h3;rw [if_pos h3];have hjj:j=2:=by omega
       refine ⟨_,rfl,Int.le_trans (Qfb _ _) w2,fun i hi hop=>?_⟩;have k2:((r.set (2+j) x).set 1 ((j:Int)+1)).getD 2 0=if (0:Nat)=j then x else r.getD 2 0:=hri 0
       have k3:((r.set (2+j) x).set 1 ((j:Int)+1)).getD 3 0=if (1:Nat)=j then x else r.getD 3 0:=hri 1
       have k4:((r.set (2+j) x).set 1 ((j:Int)+1)).getD 4 0=if (2:Nat)=j then x else r.getD 4 0:=hri 2
       have s:∃ v,v ∈ [((r.set (2+j) x).set 1 ((j:Int)+1)).getD 2 0,((r.set (2+j) x).set 1 ((j:Int)+1)).getD 3 0,((r.set (2+j) x).set 1 ((j:Int)+1)).getD 4 0,scC cs (j+1)] /\ Qd1 opn start (r.getD 0 0) i v:=by
        rw [k2,k3,k4];obtain rfl | rfl | rfl | rfl:i=0 \/ i=1 \/ i=2 \/ i=3:=by omega
        · exact ⟨_,by simp,hsaw 0 (by omega)⟩
        · exact ⟨_,by simp,hsaw 1 (by omega)⟩
        · exact ⟨_,by simp,hsaw 2 (by omega)⟩
        · exact ⟨scC cs (j+1),by simp,by have:=hlast;rwa [hjj] at this ⊢⟩
       obtain ⟨v,hv,hs⟩:=s;rcases hs hop with h | ⟨v0,h⟩
       · exact Int.le_trans (Qfb _ _) h
       · exact Int.le_trans (QiU _ _ v hv v0) h
     · cases q
section
variable {C:Cdc} {P:Program} {T:Tab C} {Φ:Fns C}
open Pg (Ex)
noncomputable def cdec (P:Prop):Bool := @decide P (Classical.propDecidable P)
theorem QG {P:Prop}:cdec P=true ↔ P:=by
 unfold cdec;exact @decide_eq_true_iff P (Classical.propDecidable P)
theorem QK {P:Prop} (h:P):cdec P=true:=QG.2 h
structure FunR (C:Cdc) (σ:Type) where
 k:Nat
 args:σ->List (D C)
 objs:σ->List (Obj C)
 fin:σ->RT C
 Inv:σ->Prop
def fnO (T:Tab C) (Φ:Fns C) (g n k:Nat) (args:List (D C)) (os:List (Obj C)):Option (D C × List (Option (Obj C))) :=
 (J7 T Φ (evC T Φ n) g args).run (0,0) (hpOf 0 os) k [] fun d h _ _=>some (d,Qbv 0 k h)
def LedF {σ:Type} (S:FunR C σ) (s:σ) (r:D C × List (Option (Obj C))):Prop := ∃ os,(S.fin s).val=some ((.ret,[(0,r.1)]),os) /\ r.2=os.map some
def resF {σ:Type} (S:FunR C σ) (d:Env C->List (Obj C)->Option (Bool × σ)) (env:Env C) (os:List (Obj C)):RT C:=match d env os with
 | some (b,q)=>.br b (S.fin q) .fail
 | none=>.fail
def sumF (T:Tab C) (fs:List Fnd) (n:Nat) {σ:Type} (S:FunR C σ) (d:Env C->List (Obj C)->Option (Bool × σ)) (args:List (D C)):Pg C (D C) :=
 bif Nat.beq args.length n then .bind (sumO T fs (List.range n) (resF S d) (eargs 0 args)) fun r=>.ret (eget r.2 0) else .fail
theorem Qi.args (K:QU P T) {X:Cx} {nx:Nat} {lim:Lim} {args:List (D C)} {vs:List Value} (h:RVs T X args vs) (hr:∀ a ∈ args,∀ id ∈ D.refs a,old nx lim id):Qi T X nx lim (eargs 0 args) (⟨vs⟩:Array Value):=by
 intro t;rw [KQ];simp only [Nat.zero_le,if_true,Nat.sub_zero];refine ⟨?_,?_⟩
 · have:=h.get t;have e:(⟨vs⟩:Array Value).getD t undef=vs.getD t undef:=by simp [Array.getD_eq_getD_getElem?]
   rw [e];exact this
 · by_cases ht:t < args.length
   · exact hr _ (by simp [List.getD_eq_getElem?_getD,ht])
   · have:args.getD t .top=.top:=by
      simp only [List.getD_eq_getElem?_getD];rw [List.getElem?_eq_none (by omega)];rfl
     rw [this];simp [D.refs]
theorem RVs.of_get {X:Cx}:∀ (args:List (D C)) (vs:List Value),args.length=vs.length->(∀ i,i < args.length->RV T X (args.getD i .top) (vs.getD i undef))->RVs T X args vs
 | [],[],_,_=>.nil
 | [],_::_,h,_=>by simp at h
 | _::_,[],h,_=>by simp at h
 | d::ds,v::vs,h,hg=>.cons (by simpa using hg 0 (by simp)) (RVs.of_get ds vs (by simpa using h) fun i hi=>by simpa using hg (i+1) (by simpa using hi))
theorem RVs.of_env {X:Cx} {nx:Nat} {lim:Lim} {args:List (D C)} {vs:List Value} (hl:args.length=vs.length) (h:Qi T X nx lim (eargs 0 args) (⟨vs⟩:Array Value)):RVs T X args vs:=by
 refine RVs.of_get args vs hl fun i hi=>?_;have:=(h i).1;rw [KQ] at this
 simpa [Array.getD_eq_getD_getElem?] using this
theorem K1:∀ (l:List (D C)) (n i:Nat) (h:i < l.length),(n+i,l[i]) ∈ eargs n l
 | [],_,_,h=>by simp at h
 | d::l,n,0,_=>by simp [eargs]
 | d::l,n,i+1,h=>by
  have:=K1 l (n+1) i (by simpa using h)
  simp only [eargs,List.mem_cons];right;rw [show n+(i+1)=n+1+i by omega]
  simpa using this
theorem QiV (K:QU P T) {X X1:Cx} {h':Heap C} {k nx':Nat} (g1:G T X1 h' nx' (lim0 nx')) (s1:Step X k (lim0 nx') X1) (hle:k <= nx') {os:List (Obj C)} {d:D C} {v:Value} (q:Qj k [(0,d)] os)
 (hget:∀ j,j < k->h'.get j=os[j]?) (rd:RO T X1 nx' (lim0 nx') d v):∃ X2,X2.w=X1.w /\ G T X2 (hpOf 0 os) k (lim0 k) /\ Step X k (lim0 k) X2 /\ RO T X2 k (lim0 k) d v:=by
 obtain ⟨q1,q2,q3⟩:=q
 obtain ⟨X2,w2,g2,s2,hρ⟩:=G.drop K.base g1 (h':=hpOf 0 os) (fun id=>by
  rw [Qw]
  by_cases hid:id < k
  · exact .inl (hget id hid).symm
  · exact .inr (List.getElem?_eq_none (by omega)))
 have hnone:∀ id,¬ id < k->X2.ρ id=none:=fun id hid=>by
  cases hq:X2.ρ id with
  | none=>rfl
  | some l =>
   have:=g2.dom id l hq;rw [Qw,List.getElem?_eq_none (by omega)] at this
   cases this
 have s3:=s1.trans s2 hle;refine ⟨X2,w2,g2.relim2 (YN q1 q3) (Nat.le_refl _) (Nat.zero_le _) (fun _ h=>h),⟨s3.O,s3.os,s3.tape,s3.output,s3.size,fun id ho=>?_,s3.mine,s3.cell,s3.block,s3.frz⟩,?_⟩
 · by_cases hid:id < k
   · exact s3.ρ id ⟨.inl hid,fun h=>h⟩
   · rw [hnone id hid];cases X.ρ id <;> simp [Qf]
 · have hrt:∀ r ∈ d.refs,r < k:=q2 (0,d) (by simp)
   exact ⟨rd.1.mono T K.base.encOK s2.keeps fun r hh=>s2.ρ r ⟨.inl (by have:=hrt r hh;omega),fun h=>h⟩,fun r hh=>⟨.inl (hrt r hh),fun h=>h⟩⟩
theorem QmK (K:QU P T) (F:Qh P T Φ) {g:Nat} {fs:List Fnd} {m n:Nat} {σ:Type} {S:FunR C σ}
 (hr:∀ q,S.Inv q->Qj S.k (eargs 0 (S.args q)) (S.objs q) /\ (S.fin q).refsOK S.k /\ (S.args q).length=m /\ Leaf (fnO T Φ g n S.k (S.args q) (S.objs q)) (LedF S q))
 (d:Env C->List (Obj C)->Option (Bool × σ)) (hd:∀ env os b q,d env os=some (b,q)->b=true->S.Inv q /\ eargs 0 (S.args q)=env /\ S.objs q=os):QdT P T g (sumF T fs m S d):=by
 intro args vs X h nx lim e dd h' nx' tr gg hargs hrefs hlim hx;unfold sumF at hx;cases hm:Nat.beq args.length m with
 | false=>rw [hm] at hx;exact (Ex.fail hx).elim
 | true =>
 rw [hm] at hx;simp only [cond_true] at hx;have hm:=Nat.eq_of_beq_eq_true hm;obtain ⟨⟨x,env'⟩,h9,n9,t8,t9,hx0,hret,_⟩:=Ex.bind hx;obtain ⟨hdd,e1h,e1n,_⟩:=Ex.ret hret;subst e1h;subst e1n;have he:=Qi.args K hargs hrefs;unfold sumO at hx0;obtain ⟨X1,h1,nx1,env1,ids,tr1,w1,g1,s1,hn1,e1,hx1⟩:=Kq K hlim fs X h nx _ _ [] gg he hx0;cases hnd:YO ids with
 | false=>rw [hnd] at hx1;exact (Ex.fail hx1).elim
 | true =>
 rw [hnd] at hx1;simp only [cond_true] at hx1;have hnodup:=Zq hnd;obtain ⟨os,tr2,hlen,hos,hx2⟩:=Jw ids _ _ hx1;cases hin:inB ids ((List.range m).flatMap fun t=>(eget env1 t).refs) && inB ids (os.flatMap Obj.refs) with
 | false=>rw [hin] at hx2;exact (Ex.fail hx2).elim
 | true =>
 rw [hin] at hx2;simp only [cond_true] at hx2;simp only [Bool.and_eq_true] at hin;have hin1:=Zm hin.1;have hin2:=Zm hin.2;obtain ⟨xx,ee,os',hq,hx3⟩:=RT.pg_ok _ _ hx2;unfold resF at hq
 split at hq
 · rename_i b q hdq;cases b with
   | false=>simp [RT.val] at hq
   | true =>
   simp only [RT.val,cond_true] at hq;obtain ⟨hI,hcan,hobjs⟩:=hd _ _ _ _ hdq rfl;obtain ⟨hr1,hr2,hlenA,r,hr3,hr4⟩:=hr q hI;obtain ⟨h2,tr3,hl2,hw1,hw2,hx4⟩:=Ks ids _ h1 _ hnodup hx3;obtain ⟨hxx,eh,en,_⟩:=Ex.ret hx4;obtain ⟨rfl,rfl⟩:=Prod.mk.inj hxx;subst eh;subst en
   let f:Nat->Nat:=fun j=>ids.getD j 0
   have hfj:∀ j,j < ids.length->ids[j]? = some (f j):=fun j hj=>by simp [f,hj]
   have hk0:ids.length=S.k:=by rw [<- hr1.1,hobjs];simp [hlen]
   have hff:∀ r,r ∈ ids->f (idx ids r)=r:=fun r hr=>by
    have:=Yz ids r hr;simp only [f,List.getD_eq_getElem?_getD,this,Option.getD_some]
   have hlenO:(S.objs q).length=ids.length:=by rw [hr1.1,hk0]
   have part:Part h1 (S.objs q) f:=by
    refine ⟨fun j o ho=>?_,fun i j hi hj hij=>?_,fun o ho r hr=>by rw [hr1.1];exact hr1.2.2 o ho r hr⟩
    · rw [hobjs,List.getElem?_map] at ho;cases hoj:os[j]? with
      | none=>simp [hoj] at ho
      | some o0 =>
       simp only [hoj,Option.map_some,Option.some.injEq] at ho;have hj:j < ids.length:=by rw [<- hlen];exact (List.getElem?_eq_some_iff.1 hoj).1
       rw [hos j (f j) o0 (hfj j hj) hoj,<- ho,Obj.ren_ren];intro id hid;exact hff id (hin2 id (List.mem_flatMap.2 ⟨o0,List.mem_of_getElem? hoj,hid⟩))
    · rw [hlenO] at hi hj;have:=(List.getElem?_inj hi hnodup (j:=j)).1 (by rw [hfj i hi,hfj j hj];simp only [f] at hij ⊢;rw [hij])
      exact this
   have g2:=Part.ctx K.base g1 part (S.objs q).length
   have e2:Qi T (X1.part (S.objs q).length f) (S.objs q).length (lim0 (S.objs q).length) (eargs 0 (S.args q)) (⟨vs⟩:Array Value):=by
    refine Qi.part K.base e1 part.inj (fun p hp=>?_) (fun p hp r hr=>by rw [hr1.1];exact hr1.2.1 p hp r hr)
    rw [hcan] at hp;simp only [List.mem_map] at hp;obtain ⟨t,ht,rfl⟩:=hp;simp only;rw [D.ren_ren];intro id hid;exact hff id (hin1 id (List.mem_flatMap.2 ⟨t,ht,hid⟩))
   rw [hr1.1] at g2 e2;obtain ⟨d0,hh,nn,tt,hex,hsome⟩:=Pg.run_some hr3;simp only [Option.some.injEq] at hsome;subst hsome;obtain ⟨os2,hv2,hg2⟩:=hr4;rw [hq] at hv2;simp only [Option.some.injEq,Prod.mk.injEq] at hv2;obtain ⟨⟨rfl,rfl⟩,rfl⟩:=hv2;have hgets:=Vt S.k 0 hh _ hg2;simp only [Nat.zero_add] at hgets;obtain ⟨x5,env5,os5,hv5,hok5⟩:=RT.refsOK_val hr2;rw [hq] at hv5;simp only [Option.some.injEq,Prod.mk.injEq] at hv5;obtain ⟨⟨rfl,rfl⟩,rfl⟩:=hv5;have hle:S.k <= nn:=hex.le;have g0:G T (X1.part S.k f) (hpOf 0 (S.objs q)) S.k (lim0 nn):=g2.relim2 (YN hr1.1 hr1.2.2) (Nat.le_refl _) (Nat.zero_le _) (fun _ h=>h);have hvs:RVs T (X1.part S.k f) (S.args q) vs:=RVs.of_env (by rw [hlenA,<- hm];exact RVs.length T hargs) e2
   have hrefs0:∀ a ∈ S.args q,∀ id ∈ D.refs a,old S.k (lim0 nn) id:=fun a ha id hid=>⟨.inl (by
    obtain ⟨i,hi,hia⟩:=List.getElem_of_mem ha;refine hr1.2.1 (0+i,a) ?_ id hid;rw [<- hia];exact K1 _ _ _ hi),fun h=>h⟩
   obtain ⟨c1,c2⟩:=Qbs K F n g (S.args q) vs (X1.part S.k f) (hpOf 0 (S.objs q)) S.k (lim0 nn) (0,0) d0 hh nn tt g0 hvs hrefs0 (Nat.le_refl _) hex;have hw:(X1.part S.k f).w=X.w:=w1;rw [hw] at c1 c2;refine ⟨c1,c2.mono fun en w9 hp=>?_⟩;obtain ⟨v,X2,rfl,hX2,g3,s3,ro3⟩:=hp;obtain ⟨X3,w3,g4,s4,ro4⟩:=QiV K g3 s3 hle hok5 hgets ro3;have hlen':os'.length=(S.objs q).length:=by rw [hok5.1,hr1.1]
   have hrefs':∀ o ∈ os',∀ r ∈ Obj.refs o,r < (S.objs q).length:=fun o ho r hr=>by rw [hr1.1];exact hok5.2.2 o ho r hr
   obtain ⟨X4,w4,g5,s5,hρ,hB2⟩:=Part.back K.base g1 part hlen' hrefs' (X1:=X3) (lim1:=lim0 S.k) (h':=h') (by rw [hr1.1];exact g4) (by rw [hr1.1];exact s4) (fun j o hj=>by
    have hlt:j < ids.length:=by rw [<- hlenO,<- hlen'];exact (List.getElem?_eq_some_iff.1 hj).1
    exact hw1 j (f j) _ (hfj j hlt) (by rw [List.getElem?_map,hj];rfl)) (fun id hid=>by
    refine hw2 id fun hm=>?_;obtain ⟨j,hj,hjj⟩:=List.getElem_of_mem hm;refine hid j (by rw [hlenO];exact hj) ?_
    simp [f,hj,hjj])
   have hold:∀ j,j < S.k->old nx' lim (f j):=fun j hj=>by
    have hj':j < (S.objs q).length:=by rw [hr1.1];exact hj
    exact (g1.nums _ _ (part.at' j (S.objs q)[j] (by simp [hj']))).1
   have e4:Qi T X3 S.k (lim0 S.k) [(0,d0)] (#[v]:Array Value):=fun t=>by
    rw [Ql]
    by_cases ht:t=0
    · subst ht;simpa using ro4
    · simp only [ht,if_false,eget];exact RO.mk (RV.top _ _ _) rfl
   have e5:=Qi.back (nx:=nx') (lim:=lim) (f:=f) K.base e4 (fun p hp r hr=>hok5.2.1 p hp r hr) (fun j hj=>hρ j (by rw [hr1.1];exact hj)) ⟨hB2,fun l r h1 _=>⟨by rw [w4];exact h1,fun o ho=>g5.mine_loop ho (by rw [w4];exact h1)⟩⟩ hold
   have ro5:=e5 0;refine ⟨v,X4,rfl,by rw [w4,w3,hX2],g5,s1.trans s5 hn1,?_⟩
   rw [hdd];exact ro5
 · simp [RT.val] at hq
theorem Qh.addFun (K:QU P T) (F:Qh P T Φ) {g:Nat} {σ:Type} (S:FunR C σ) (n m:Nat) (fs:List Fnd) (d:Env C->List (Obj C)->Option (Bool × σ))
 (hr:∀ q,S.Inv q->Qj S.k (eargs 0 (S.args q)) (S.objs q) /\ (S.fin q).refsOK S.k /\ (S.args q).length=m /\ Leaf (fnO T Φ g n S.k (S.args q) (S.objs q)) (LedF S q))
 (hd:∀ env os b q,d env os=some (b,q)->b=true->S.Inv q /\ eargs 0 (S.args q)=env /\ S.objs q=os):Qh P T (Φ.addObj g (sumF T fs m S d)):=F.addObj (QmK K F hr d hd)
theorem QcQ {σ:Type} {S:FunR C σ} {s:σ} {d:D C} {os:List (Option (Obj C))} (os':List (Obj C)) (h1:(S.fin s).val=some ((.ret,[(0,d)]),os')) (h2:os=os'.map some):Leaf (some (d,os)) (LedF S s) :=
 Ju.2 ⟨os',h1,h2⟩
end
structure NA where
 f:Frame
 a:Qb
 fl:Bool
def naLd (p n:Int) (r:List Int) (c g:Int):NA:=⟨⟨p,n,r⟩,⟨0,c,0,0,g,[],[]⟩,true⟩
def naCs (p n:Int) (r:List Int) (c b v g:Int):NA:=⟨⟨p,n,r⟩,⟨2,c,b,v,g,[],[]⟩,true⟩
def naPt (p n:Int) (r:List Int) (s b:Int) (t:List UInt8):NA:=⟨⟨p,n,r⟩,⟨4,s,b,0,0,t,[]⟩,true⟩
def naSy (p n:Int) (r:List Int):NA:=⟨⟨p,n,r⟩,⟨5,0,0,0,0,[],[]⟩,true⟩
def naCl (p n:Int) (r:List Int) (q:Int) (l:List Int):NA:=⟨⟨p,n,r⟩,⟨6,q,0,0,0,[],l⟩,true⟩
def naEn (p n:Int) (r:List Int) (l:List Int) (fl:Bool):NA:=⟨⟨p,n,r⟩,⟨7,0,0,0,0,[],l⟩,fl⟩
def mayN (a:Qb):Bool:=Yc a.kind a.a a.b a.v a.gen a.text a.args
def frm0:Frame:=⟨0,0,List.replicate 96 0⟩
def act0:Qb:=⟨0,0,0,0,0,[],[]⟩
def topF (st:List Frame):Frame:=st.getLastD frm0
def calF (a:Qb):Frame:=⟨a.a,0,regs1 a.args⟩
def tkSt (st:List Frame) (f:Frame) (a:Qb):List Frame:=if a.kind < 6 then st.dropLast++[f] else if a.kind=6 then st.dropLast++[f,calF a] else st.dropLast
def Vm (got:List Int) (a:Qb):List Int:=if a.kind < 6 then got else if a.kind=6 then [] else a.args
def tkFl (e:Bool) (a:Qb):Bool:=if a.kind < 6 then e else decide (a.kind=6)
structure GoM where
 st:List Frame
 got:List Int
 gf:Bool
 a:Qb
 af:Bool
 is:Bool
def goN (nx:Frame->List Int->NA):Nat->List Frame->List Int->Bool->GoM
 | 0,st,got,e=>⟨st,got,e,act0,true,false⟩
 | n+1,st,got,e=>if st=[] then ⟨[],got,e,act0,true,false⟩
  else if (nx (topF st) got).a.kind < 6 then ⟨tkSt st (nx (topF st) got).f (nx (topF st) got).a,got,e,(nx (topF st) got).a,(nx (topF st) got).fl,true⟩
  else goN nx n (tkSt st (nx (topF st) got).f (nx (topF st) got).a) (Vm got (nx (topF st) got).a) (tkFl e (nx (topF st) got).a)
def OkN (nx:Frame->List Int->NA) (ok:Frame->List Int->Prop):Nat->List Frame->List Int->Prop
 | 0,_,_=>False
 | n+1,st,got=>st=[] \/ (st ≠ [] /\ st.length <= 6 /\ got.length <= 96 /\ ok (topF st) got /\ mayN (nx (topF st) got).a=true /\ 0 <= (nx (topF st) got).a.kind /\ (nx (topF st) got).a.kind <= 7 /\
  ((nx (topF st) got).a.kind < 6 \/ ((nx (topF st) got).a.kind=6->st.length < 6) /\ OkN nx ok n (tkSt st (nx (topF st) got).f (nx (topF st) got).a) (Vm got (nx (topF st) got).a)))
def cellO (h f:Int) (nd:Bool):Int:=if h < 0 then -1 else bif nd then lField 291 (h % 256) f 160 3 else lField 99 (h % 256) f 16 12
def wh (x:Int):Int:=if x < 0 then 0 else x
def Q6 (own:Bool) (p k:Int) (r l:List Int):NA:=naEn p (bif own then 99 else k) r l true
def QJ (own:Bool) (p:Int) (r:List Int) (key:Int):NA:=if 0 <= lRow 21 key 24 then naLd p 1 r (lRow 21 key 24) 0 else Q6 own p 0 r []
def Ze (own:Bool) (k:Int) (r:List Int) (x:Int):NA :=
 if k=0 then QJ own 72 r (r.getD 1 0)
 else if r.getD 0 0 < plc (wh x) /\ 0 <= cellO (bare (wh x)) 1 true then naLd 72 1 r (cellO (bare (wh x)) 1 true) (bare (wh x)) else Q6 own 72 k r [wh x]
def QX (own:Bool) (k:Int) (r:List Int) (x:Int):NA :=
 if k=0 then QJ own 73 r (r.getD 2 0)
 else if k=1 then (if cellO (r.getD 1 0) 1 true < 0 \/ r.getD 0 0 <= plc (wh x) then Q6 own 73 1 (r.set 3 (wh x)) [] else naCs 73 2 (r.set 3 (wh x)) (cellO (r.getD 1 0) 1 true) (-1) (wh x) (r.getD 1 0))
 else if k=2 then naCs 73 3 r (lRow 21 (r.getD 2 0) 24) (r.getD 3 0) (wordN (r.getD 0 0) (r.getD 1 0)) 0
 else Q6 own 73 k r []
def QY (own:Bool) (k:Int) (r:List Int) (x:Int):NA :=
 if wh x=0 \/ cellO (bare (wh x)) 1 true < 0 then Q6 own 74 k (r.set 2 (wh x)) [0,0] else naLd 74 2 (r.set 2 (wh x)) (cellO (bare (wh x)) 1 true) (bare (wh x))
def Qy (own:Bool) (k:Int) (r:List Int) (x:Int):NA :=
 if x <= 0 \/ cellO (bare x) 1 true < 0 then Q6 own 74 k (bif own && decide (0 < x) then r.set 3 x else r) [0,0] else naLd 74 3 (r.set 3 x) (cellO (bare x) 1 true) (bare x)
def QH (own:Bool) (k:Int) (r:List Int) (x:Int):NA :=
 if k=0 then QJ own 74 r (r.getD 1 0)
 else if k=1 then QY own 1 r x
 else if k=2 then (if r.getD 0 0 < plc (r.getD 2 0) then QY own 2 r x else Qy own 2 r x)
 else if k=3 then (if 0 < x then Qy own 3 (r.set 2 (r.getD 3 0)) x else naCs 74 4 r (cellO (bare (r.getD 2 0)) 1 true) (r.getD 3 0) 0 (bare (r.getD 2 0)))
 else if k=4 then (if x=0 then Q6 own 74 4 r [0,0] else naLd 74 5 r 2 0)
 else Q6 own 74 5 r [r.getD 3 0,x]
def nCh (own:Bool) (f:Frame) (got:List Int):NA :=
 if f.prog=72 then Ze own f.at' f.r (got.headD 0) else if f.prog=73 then QX own f.at' f.r (got.headD 0) else QH own f.at' f.r (got.headD 0)
def okCh (own:Bool) (f:Frame) (got:List Int):Prop :=
 f.r.length=96 /\ (f.at'=0 /\ got=[] \/ ∃ x,got=[x] /\ 1 <= f.at') /\
  (f.prog=72 /\ f.at' <= 1 \/ f.prog=73 /\ f.at' <= 3 \/ f.prog=74 /\ f.at' <= 5 /\ (f.at'=3->plc (f.r.getD 3 0) <= f.r.getD 0 0))
open Go.Proofs
abbrev RO_:Type:=Option ((X × Env RC) × List (Option (Obj RC)))
abbrev DO_:Type:=Option (D RC)
set_option maxRecDepth 100000
noncomputable def p0:Fns RC:=QgH Tryz.prog 160 (fun f=>Nat.beq f 79 || Nat.beq f 26 || Nat.beq f 9 || Nat.beq f 16 || Nat.beq f 6 || Nat.beq f 53) (fun f=>[]) (fun f=>false) (fun f=>Nat.beq f 76 || Nat.beq f 10)
theorem QpE:Qh Tryz.prog s18 p0:=QgI (by kernel_rfl)
def QrK (n:Int) (a:Int) (b:Int):Option (Bool × D RC):=some (true,.bool (QC n a b))
def Qov:List (D RC)->Option (Bool × D RC)
 | [.int .i64 n,.int .i64 a,.int .i64 b]=>QrK n a b
 | _=>none
noncomputable def QrL (n:Int) (a:Int) (b:Int):=evF s18 p0 20 109 [.int .i64 n,.int .i64 a,.int .i64 b]
theorem QrM (n:Int) (a:Int) (b:Int):QrL n a b=(bif decide (a <= n) then some (D.bool (decide (n <= b))) else some (D.bool false)):=by kernel_rfl
theorem QrN (n:Int) (a:Int) (b:Int) (h:(true)=true):QrL n a b=some (.bool (QC n a b)):=by
 rw [QrM];rw [QC];cases decide (a <= n) <;> simp
noncomputable def ua_1:=p0.addSpec 109 Qov
theorem QiW:Qh Tryz.prog s18 ua_1:=QpE.addEv Qc fun args d h=>by
 unfold Qov at h
 split at h
 · unfold QrK at h;have h1:=congrArg Prod.fst (Option.some.inj h);obtain rfl:_=d:=congrArg Prod.snd (Option.some.inj h);exact ⟨by simp [D.refs],20,QrN _ _ _ h1⟩
 · cases h
def QiX (p:Int) (w:Int):Option (Bool × D RC):=some (true,.int .i64 (lRing p w))
def Qfc:List (D RC)->Option (Bool × D RC)
 | [.int .i64 p,.int .i64 w]=>QiX p w
 | _=>none
noncomputable def QiY (p:Int) (w:Int):=evF s18 ua_1 20 150 [.int .i64 p,.int .i64 w]
theorem QmL (p:Int) (w:Int):QiY p w=(let Z0:DO_:=some (D.int .i64 (-1:Int));bif decide (p < (0:Int)) then Z0 else bif !QC w (2:Int) (8:Int) then Z0 else bif w == (0:Int) then none else some (D.int .i64 (IntKind.wrap .i64 ((13:Int)+Int.tmod p w)))):=by kernel_rfl
theorem QmM (p:Int) (w:Int) (h:(true)=true):QiY p w=some (.int .i64 (lRing p w)):=by
 (rw [QmL];conv=>zeta)
 unfold lRing;refine Zi (fun h0=>?_) fun h0=>?_ <;> simp only [decide_eq_true_eq,decide_eq_false_iff_not] at h0
 · rw [if_neg (by omega)]
 · cases h1:QC w 2 8
   · have h2:=YP h1;rw [if_neg (by omega)];rfl
   · rw [Q8] at h1;have hw:(w == 0)=false:=by simp;omega
     have hm:=Jx (p:=p) (w:=w) (by omega)
     simp only [hw,Bool.not_true,cond_false];rw [QdY (by omega),Qq (by omega) (by omega),if_pos ⟨by omega,h1.1,h1.2⟩]
noncomputable def ua_2:=ua_1.addSpec 150 Qfc
theorem QiZ:Qh Tryz.prog s18 ua_2:=QiW.addEv Qc fun args d h=>by
 unfold Qfc at h
 split at h
 · unfold QiX at h;have h1:=congrArg Prod.fst (Option.some.inj h);obtain rfl:_=d:=congrArg Prod.snd (Option.some.inj h);exact ⟨by simp [D.refs],20,QmM _ _ h1⟩
 · cases h
def Qi0 (p:Int) (w:Int):Option (Bool × D RC):=some (true,.int .i64 (lRing p w))
def Qfd:List (D RC)->Option (Bool × D RC)
 | [.int .i64 p,.int .i64 w]=>Qi0 p w
 | _=>none
noncomputable def Qi1 (p:Int) (w:Int):=evF s18 ua_2 20 115 [.int .i64 p,.int .i64 w]
theorem QmN (p:Int) (w:Int):Qi1 p w=(let Z0:DO_:=some (D.int .i64 (-1:Int));bif decide (p < (0:Int)) then Z0 else bif decide (w < (2:Int)) then Z0 else bif decide ((8:Int) < w) then Z0 else bif w == (0:Int) then none else some (D.int .i64 (IntKind.wrap .i64 ((13:Int)+Int.tmod p w)))):=by kernel_rfl
theorem QmO (p:Int) (w:Int) (h:(true)=true):Qi1 p w=some (.int .i64 (lRing p w)):=by
 (rw [QmN];conv=>zeta)
 unfold lRing;refine Zi (fun h0=>?_) fun h0=>?_ <;> simp only [decide_eq_true_eq,decide_eq_false_iff_not] at h0
 · rw [if_neg (by omega)]
 refine Zi (fun h1=>?_) fun h1=>?_ <;> simp only [decide_eq_true_eq,decide_eq_false_iff_not] at h1
 · rw [if_neg (by omega)]
 refine Zi (fun h2=>?_) fun h2=>?_ <;> simp only [decide_eq_true_eq,decide_eq_false_iff_not] at h2
 · rw [if_neg (by omega)]
 have hw:(w == 0)=false:=by simp;omega
 have hm:=Jx (p:=p) (w:=w) (by omega)
 simp only [hw,Bool.not_true,cond_false];rw [QdY (by omega),Qq (by omega) (by omega),if_pos ⟨by omega,by omega,by omega⟩]
noncomputable def ua_3:=ua_2.addSpec 115 Qfd
theorem Qi2:Qh Tryz.prog s18 ua_3:=QiZ.addEv Qc fun args d h=>by
 unfold Qfd at h
 split at h
 · unfold Qi0 at h;have h1:=congrArg Prod.fst (Option.some.inj h);obtain rfl:_=d:=congrArg Prod.snd (Option.some.inj h);exact ⟨by simp [D.refs],20,QmO _ _ h1⟩
 · cases h
def Qi3 (a:Int) (n:Int) (m:Int):Option (Bool × D RC):=some (true,.int .i64 (bif decide (0 <= n) && decide (n < m) then IntKind.i64.wrap (a+n) else -1))
def Qfe:List (D RC)->Option (Bool × D RC)
 | [.int .i64 a,.int .i64 n,.int .i64 m]=>Qi3 a n m
 | _=>none
noncomputable def Qi4 (a:Int) (n:Int) (m:Int):=evF s18 ua_3 20 48 [.int .i64 a,.int .i64 n,.int .i64 m]
theorem QmP (a:Int) (n:Int) (m:Int):Qi4 a n m=(let Z0:DO_:=some (D.int .i64 (-1:Int));bif decide (n < (0:Int)) then Z0 else bif decide (m <= n) then Z0 else some (D.int .i64 (IntKind.wrap .i64 (a+n)))):=by kernel_rfl
theorem QmQ (a:Int) (n:Int) (m:Int) (h:(true)=true):Qi4 a n m=some (.int .i64 (bif decide (0 <= n) && decide (n < m) then IntKind.i64.wrap (a+n) else -1)):=by
 (rw [QmP];conv=>zeta)
 refine Zi (fun h0=>?_) fun h0=>?_ <;> simp only [decide_eq_true_eq,decide_eq_false_iff_not] at h0
 · rw [decide_eq_false (p:=0 <= n) (by omega)];rfl
 refine Zi (fun h1=>?_) fun h1=>?_ <;> simp only [decide_eq_true_eq,decide_eq_false_iff_not] at h1
 · rw [decide_eq_false (p:=n < m) (by omega),Bool.and_false];rfl
 · rw [decide_eq_true (p:=0 <= n) (by omega),decide_eq_true (p:=n < m) (by omega)];rfl
noncomputable def ua_4:=ua_3.addSpec 48 Qfe
theorem Qi5:Qh Tryz.prog s18 ua_4:=Qi2.addEv Qc fun args d h=>by
 unfold Qfe at h
 split at h
 · unfold Qi3 at h;have h1:=congrArg Prod.fst (Option.some.inj h);obtain rfl:_=d:=congrArg Prod.snd (Option.some.inj h);exact ⟨by simp [D.refs],20,QmQ _ _ _ h1⟩
 · cases h
def Qi6 (a:Int) (s:Int) (n:Int) (m:Int):Option (Bool × D RC):=some (true,.int .i64 (bif decide (0 <= n) && decide (n < m) then IntKind.i64.wrap (a+IntKind.i64.wrap (s * n)) else -1))
def Qff:List (D RC)->Option (Bool × D RC)
 | [.int .i64 a,.int .i64 s,.int .i64 n,.int .i64 m]=>Qi6 a s n m
 | _=>none
noncomputable def Qi7 (a:Int) (s:Int) (n:Int) (m:Int):=evF s18 ua_4 20 38 [.int .i64 a,.int .i64 s,.int .i64 n,.int .i64 m]
theorem QmR (a:Int) (s:Int) (n:Int) (m:Int):Qi7 a s n m=(let Z0:DO_:=some (D.int .i64 (-1:Int));bif decide (n < (0:Int)) then Z0 else bif decide (m <= n) then Z0 else some (D.int .i64 (IntKind.wrap .i64 (a+IntKind.wrap .i64 (s * n))))):=by kernel_rfl
theorem QmS (a:Int) (s:Int) (n:Int) (m:Int) (h:(true)=true):Qi7 a s n m=some (.int .i64 (bif decide (0 <= n) && decide (n < m) then IntKind.i64.wrap (a+IntKind.i64.wrap (s * n)) else -1)):=by
 (rw [QmR];conv=>zeta)
 refine Zi (fun h0=>?_) fun h0=>?_ <;> simp only [decide_eq_true_eq,decide_eq_false_iff_not] at h0
 · rw [decide_eq_false (p:=0 <= n) (by omega)];rfl
 refine Zi (fun h1=>?_) fun h1=>?_ <;> simp only [decide_eq_true_eq,decide_eq_false_iff_not] at h1
 · rw [decide_eq_false (p:=n < m) (by omega),Bool.and_false];rfl
 · rw [decide_eq_true (p:=0 <= n) (by omega),decide_eq_true (p:=n < m) (by omega)];rfl
noncomputable def ua_5:=ua_4.addSpec 38 Qff
theorem Qi8:Qh Tryz.prog s18 ua_5:=Qi5.addEv Qc fun args d h=>by
 unfold Qff at h
 split at h
 · unfold Qi6 at h;have h1:=congrArg Prod.fst (Option.some.inj h);obtain rfl:_=d:=congrArg Prod.snd (Option.some.inj h);exact ⟨by simp [D.refs],20,QmS _ _ _ _ h1⟩
 · cases h
def Qi9 (n:Int):Option (Bool × D RC):=some (true,.int .i64 (lRow 5 n 4))
def Qfg:List (D RC)->Option (Bool × D RC)
 | [.int .i64 n]=>Qi9 n
 | _=>none
noncomputable def Qja (n:Int):=evF s18 ua_5 20 156 [.int .i64 n]
theorem QmT (n:Int):Qja n=(some (D.int .i64 (bif decide ((0:Int) <= n) && decide (n < (4:Int)) then IntKind.wrap .i64 ((5:Int)+n) else (-1:Int)))):=by kernel_rfl
theorem QmU (n:Int) (h:(true)=true):Qja n=some (.int .i64 (lRow 5 n 4)):=by
 rw [QmT]
 congr 2
 unfold lRow
 by_cases h0:0 <= n
 · by_cases h1:n < 4
   · simp (disch:=omega) only [decide_eq_true h0,decide_eq_true h1,Bool.and_self,cond_true,Qaq];rw [if_pos ⟨h0,h1⟩]
   · simp only [decide_eq_false h1,Bool.and_false,cond_false];rw [if_neg (by omega)]
 · simp only [decide_eq_false h0,Bool.false_and,cond_false];rw [if_neg (by omega)]
noncomputable def ua_6:=ua_5.addSpec 156 Qfg
theorem Qjb:Qh Tryz.prog s18 ua_6:=Qi8.addEv Qc fun args d h=>by
 unfold Qfg at h
 split at h
 · unfold Qi9 at h;have h1:=congrArg Prod.fst (Option.some.inj h);obtain rfl:_=d:=congrArg Prod.snd (Option.some.inj h);exact ⟨by simp [D.refs],20,QmU _ h1⟩
 · cases h
def Qjc (n:Int):Option (Bool × D RC):=some (true,.int .i64 (lRow 5 n 4))
def Qfh:List (D RC)->Option (Bool × D RC)
 | [.int .i64 n]=>Qjc n
 | _=>none
noncomputable def Qjd (n:Int):=evF s18 ua_6 20 152 [.int .i64 n]
theorem QmV (n:Int):Qjd n=(some (D.int .i64 (bif decide ((0:Int) <= n) && decide (n < (4:Int)) then IntKind.wrap .i64 ((5:Int)+IntKind.wrap .i64 ((1:Int) * n)) else (-1:Int)))):=by kernel_rfl
theorem QmW (n:Int) (h:(true)=true):Qjd n=some (.int .i64 (lRow 5 n 4)):=by
 rw [QmV]
 congr 2
 unfold lRow
 by_cases h0:0 <= n
 · by_cases h1:n < 4
   · simp (disch:=omega) only [decide_eq_true h0,decide_eq_true h1,Bool.and_self,cond_true,Int.one_mul,Qaq];rw [if_pos ⟨h0,h1⟩]
   · simp only [decide_eq_false h1,Bool.and_false,cond_false];rw [if_neg (by omega)]
 · simp only [decide_eq_false h0,Bool.false_and,cond_false];rw [if_neg (by omega)]
noncomputable def ua_7:=ua_6.addSpec 152 Qfh
theorem Qje:Qh Tryz.prog s18 ua_7:=Qjb.addEv Qc fun args d h=>by
 unfold Qfh at h
 split at h
 · unfold Qjc at h;have h1:=congrArg Prod.fst (Option.some.inj h);obtain rfl:_=d:=congrArg Prod.snd (Option.some.inj h);exact ⟨by simp [D.refs],20,QmW _ h1⟩
 · cases h
def Qfi (n:Int):Option (Bool × D RC):=some (true,.int .i64 (lRow 21 n 24))
def QcR:List (D RC)->Option (Bool × D RC)
 | [.int .i64 n]=>Qfi n
 | _=>none
noncomputable def Qfj (n:Int):=evF s18 ua_7 20 28 [.int .i64 n]
theorem Qjf (n:Int):Qfj n=(some (D.int .i64 (bif decide ((0:Int) <= n) && decide (n < (24:Int)) then IntKind.wrap .i64 ((21:Int)+n) else (-1:Int)))):=by kernel_rfl
theorem Qjg (n:Int) (h:(true)=true):Qfj n=some (.int .i64 (lRow 21 n 24)):=by
 rw [Qjf]
 congr 2
 unfold lRow
 by_cases h0:0 <= n
 · by_cases h1:n < 24
   · simp (disch:=omega) only [decide_eq_true h0,decide_eq_true h1,Bool.and_self,cond_true,Qaq];rw [if_pos ⟨h0,h1⟩]
   · simp only [decide_eq_false h1,Bool.and_false,cond_false];rw [if_neg (by omega)]
 · simp only [decide_eq_false h0,Bool.false_and,cond_false];rw [if_neg (by omega)]
noncomputable def ua_8:=ua_7.addSpec 28 QcR
theorem Qjh:Qh Tryz.prog s18 ua_8:=Qje.addEv Qc fun args d h=>by
 unfold QcR at h
 split at h
 · unfold Qfi at h;have h1:=congrArg Prod.fst (Option.some.inj h);obtain rfl:_=d:=congrArg Prod.snd (Option.some.inj h);exact ⟨by simp [D.refs],20,Qjg _ h1⟩
 · cases h
def Qfk (n:Int):Option (Bool × D RC):=some (true,.int .i64 (lRow 21 n 24))
def QcS:List (D RC)->Option (Bool × D RC)
 | [.int .i64 n]=>Qfk n
 | _=>none
noncomputable def Qfl (n:Int):=evF s18 ua_8 20 19 [.int .i64 n]
theorem Qji (n:Int):Qfl n=(some (D.int .i64 (bif decide ((0:Int) <= n) && decide (n < (24:Int)) then IntKind.wrap .i64 ((21:Int)+IntKind.wrap .i64 ((1:Int) * n)) else (-1:Int)))):=by kernel_rfl
theorem Qjj (n:Int) (h:(true)=true):Qfl n=some (.int .i64 (lRow 21 n 24)):=by
 rw [Qji]
 congr 2
 unfold lRow
 by_cases h0:0 <= n
 · by_cases h1:n < 24
   · simp (disch:=omega) only [decide_eq_true h0,decide_eq_true h1,Bool.and_self,cond_true,Int.one_mul,Qaq];rw [if_pos ⟨h0,h1⟩]
   · simp only [decide_eq_false h1,Bool.and_false,cond_false];rw [if_neg (by omega)]
 · simp only [decide_eq_false h0,Bool.false_and,cond_false];rw [if_neg (by omega)]
noncomputable def ua_9:=ua_8.addSpec 19 QcS
theorem Qjk:Qh Tryz.prog s18 ua_9:=Qjh.addEv Qc fun args d h=>by
 unfold QcS at h
 split at h
 · unfold Qfk at h;have h1:=congrArg Prod.fst (Option.some.inj h);obtain rfl:_=d:=congrArg Prod.snd (Option.some.inj h);exact ⟨by simp [D.refs],20,Qjj _ h1⟩
 · cases h
def QcT (a:Int) (s:Int) (f:Int) (m:Int) (k:Int):Option (Bool × D RC):=some (true,.int .i64 (bif QC s 0 (IntKind.i64.wrap (m - 1)) && QC f 0 (IntKind.i64.wrap (k - 1)) then IntKind.i64.wrap (IntKind.i64.wrap (a+IntKind.i64.wrap (s * k))+f) else -1))
def QaQ:List (D RC)->Option (Bool × D RC)
 | [.int .i64 a,.int .i64 s,.int .i64 f,.int .i64 m,.int .i64 k]=>QcT a s f m k
 | _=>none
noncomputable def QcU (a:Int) (s:Int) (f:Int) (m:Int) (k:Int):=evF s18 ua_9 20 80 [.int .i64 a,.int .i64 s,.int .i64 f,.int .i64 m,.int .i64 k]
theorem QgR (a:Int) (s:Int) (f:Int) (m:Int) (k:Int):QcU a s f m k=(let Z0:DO_:=some (D.int .i64 (-1:Int));bif !QC s (0:Int) (IntKind.wrap .i64 (m - (1:Int))) then Z0 else bif !QC f (0:Int) (IntKind.wrap .i64 (k - (1:Int))) then Z0 else some (D.int .i64 (IntKind.wrap .i64 (IntKind.wrap .i64 (a+IntKind.wrap .i64 (s * k))+f)))):=by kernel_rfl
theorem QgS (a:Int) (s:Int) (f:Int) (m:Int) (k:Int) (h:(true)=true):QcU a s f m k=some (.int .i64 (bif QC s 0 (IntKind.i64.wrap (m - 1)) && QC f 0 (IntKind.i64.wrap (k - 1)) then IntKind.i64.wrap (IntKind.i64.wrap (a+IntKind.i64.wrap (s * k))+f) else -1)):=by
 (rw [QgR];conv=>zeta)
 cases QC s 0 (IntKind.i64.wrap (m - 1)) <;> cases QC f 0 (IntKind.i64.wrap (k - 1)) <;> rfl
noncomputable def QpF:=ua_9.addSpec 80 QaQ
theorem QgT:Qh Tryz.prog s18 QpF:=Qjk.addEv Qc fun args d h=>by
 unfold QaQ at h
 split at h
 · unfold QcT at h;have h1:=congrArg Prod.fst (Option.some.inj h);obtain rfl:_=d:=congrArg Prod.snd (Option.some.inj h);exact ⟨by simp [D.refs],20,QgS _ _ _ _ _ h1⟩
 · cases h
def Qfm (s:Int) (f:Int):Option (Bool × D RC):=some (true,.int .i64 (lField 99 s f 16 12))
def QcV:List (D RC)->Option (Bool × D RC)
 | [.int .i64 s,.int .i64 f]=>Qfm s f
 | _=>none
noncomputable def Qfn (s:Int) (f:Int):=evF s18 QpF 20 52 [.int .i64 s,.int .i64 f]
theorem Qjl (s:Int) (f:Int):Qfn s f=(some (D.int .i64 (bif QC s (0:Int) (15:Int) && QC f (0:Int) (11:Int) then IntKind.wrap .i64 (IntKind.wrap .i64 ((99:Int)+IntKind.wrap .i64 (s * (12:Int)))+f) else (-1:Int)))):=by kernel_rfl
theorem Qjm (s:Int) (f:Int) (h:(true)=true):Qfn s f=some (.int .i64 (lField 99 s f 16 12)):=by
 rw [Qjl]
 congr 2
 unfold lField;cases h0:QC s 0 15
 · have:=YP h0;rw [if_neg (by omega)];rfl
 cases h1:QC f 0 11
 · have:=YP h1;rw [if_neg (by omega)];rfl
 rw [Q8] at h0 h1;rw [if_pos (by omega)]
 simp (disch:=omega) only [Bool.and_self,cond_true,Qaq]
noncomputable def QpG:=QpF.addSpec 52 QcV
theorem QgU:Qh Tryz.prog s18 QpG:=QgT.addEv Qc fun args d h=>by
 unfold QcV at h
 split at h
 · unfold Qfm at h;have h1:=congrArg Prod.fst (Option.some.inj h);obtain rfl:_=d:=congrArg Prod.snd (Option.some.inj h);exact ⟨by simp [D.refs],20,Qjm _ _ h1⟩
 · cases h
def Qfo (s:Int) (f:Int):Option (Bool × D RC):=some (true,.int .i64 (lField 99 s f 16 12))
def QcW:List (D RC)->Option (Bool × D RC)
 | [.int .i64 s,.int .i64 f]=>Qfo s f
 | _=>none
noncomputable def Qfp (s:Int) (f:Int):=evF s18 QpG 20 111 [.int .i64 s,.int .i64 f]
theorem Qjn (s:Int) (f:Int):Qfp s f=(let Z0:DO_:=some (D.int .i64 (-1:Int));let Z1:Int:=bif decide ((0:Int) <= s) && decide (s < (16:Int)) then IntKind.wrap .i64 ((99:Int)+IntKind.wrap .i64 ((12:Int) * s)) else (-1:Int);bif decide (f < (0:Int)) then Z0 else bif decide ((11:Int) < f) then Z0 else bif decide (Z1 < (0:Int)) then Z0 else some (D.int .i64 (IntKind.wrap .i64 (Z1+f)))):=by kernel_rfl
theorem Qjo (s:Int) (f:Int) (h:(true)=true):Qfp s f=some (.int .i64 (lField 99 s f 16 12)):=by
 (rw [Qjn];conv=>zeta)
 unfold lField;refine Zi (fun h0=>?_) fun h0=>?_ <;> simp only [decide_eq_true_eq,decide_eq_false_iff_not] at h0
 · rw [if_neg (by omega)]
 refine Zi (fun h1=>?_) fun h1=>?_ <;> simp only [decide_eq_true_eq,decide_eq_false_iff_not] at h1
 · rw [if_neg (by omega)]
 by_cases h2:0 <= s
 · by_cases h3:s < 16
   · simp (disch:=omega) only [decide_eq_true h2,decide_eq_true h3,Bool.and_self,cond_true,Qaq];rw [decide_eq_false (by omega),if_pos (by omega)]
     simp (disch:=omega) only [cond_false,Qaq]
     congr 2;omega
   · simp only [decide_eq_false h3,Bool.and_false,cond_false];rw [if_neg (by omega)];rfl
 · simp only [decide_eq_false h2,Bool.false_and,cond_false];rw [if_neg (by omega)];rfl
noncomputable def QpH:=QpG.addSpec 111 QcW
theorem QgV:Qh Tryz.prog s18 QpH:=QgU.addEv Qc fun args d h=>by
 unfold QcW at h
 split at h
 · unfold Qfo at h;have h1:=congrArg Prod.fst (Option.some.inj h);obtain rfl:_=d:=congrArg Prod.snd (Option.some.inj h);exact ⟨by simp [D.refs],20,Qjo _ _ h1⟩
 · cases h
def Qfq (s:Int) (f:Int):Option (Bool × D RC):=some (true,.int .i64 (lField 291 s f 160 3))
def QcX:List (D RC)->Option (Bool × D RC)
 | [.int .i64 s,.int .i64 f]=>Qfq s f
 | _=>none
noncomputable def Qfr (s:Int) (f:Int):=evF s18 QpH 20 51 [.int .i64 s,.int .i64 f]
theorem Qjp (s:Int) (f:Int):Qfr s f=(some (D.int .i64 (bif QC s (0:Int) (159:Int) && QC f (0:Int) (2:Int) then IntKind.wrap .i64 (IntKind.wrap .i64 ((291:Int)+IntKind.wrap .i64 (s * (3:Int)))+f) else (-1:Int)))):=by kernel_rfl
theorem Qjq (s:Int) (f:Int) (h:(true)=true):Qfr s f=some (.int .i64 (lField 291 s f 160 3)):=by
 rw [Qjp]
 congr 2
 unfold lField;cases h0:QC s 0 159
 · have:=YP h0;rw [if_neg (by omega)];rfl
 cases h1:QC f 0 2
 · have:=YP h1;rw [if_neg (by omega)];rfl
 rw [Q8] at h0 h1;rw [if_pos (by omega)]
 simp (disch:=omega) only [Bool.and_self,cond_true,Qaq]
noncomputable def QpI:=QpH.addSpec 51 QcX
theorem QgW:Qh Tryz.prog s18 QpI:=QgV.addEv Qc fun args d h=>by
 unfold QcX at h
 split at h
 · unfold Qfq at h;have h1:=congrArg Prod.fst (Option.some.inj h);obtain rfl:_=d:=congrArg Prod.snd (Option.some.inj h);exact ⟨by simp [D.refs],20,Qjq _ _ h1⟩
 · cases h
def Qfs (s:Int) (f:Int):Option (Bool × D RC):=some (true,.int .i64 (lField 291 s f 160 3))
def QcY:List (D RC)->Option (Bool × D RC)
 | [.int .i64 s,.int .i64 f]=>Qfs s f
 | _=>none
noncomputable def Qft (s:Int) (f:Int):=evF s18 QpI 20 18 [.int .i64 s,.int .i64 f]
theorem Qjr (s:Int) (f:Int):Qft s f=(let Z0:DO_:=some (D.int .i64 (-1:Int));let Z1:Int:=bif decide ((0:Int) <= s) && decide (s < (160:Int)) then IntKind.wrap .i64 ((291:Int)+IntKind.wrap .i64 ((3:Int) * s)) else (-1:Int);bif decide (f < (0:Int)) then Z0 else bif decide ((2:Int) < f) then Z0 else bif decide (Z1 < (0:Int)) then Z0 else some (D.int .i64 (IntKind.wrap .i64 (Z1+f)))):=by kernel_rfl
theorem Qjs (s:Int) (f:Int) (h:(true)=true):Qft s f=some (.int .i64 (lField 291 s f 160 3)):=by
 (rw [Qjr];conv=>zeta)
 unfold lField;refine Zi (fun h0=>?_) fun h0=>?_ <;> simp only [decide_eq_true_eq,decide_eq_false_iff_not] at h0
 · rw [if_neg (by omega)]
 refine Zi (fun h1=>?_) fun h1=>?_ <;> simp only [decide_eq_true_eq,decide_eq_false_iff_not] at h1
 · rw [if_neg (by omega)]
 by_cases h2:0 <= s
 · by_cases h3:s < 160
   · simp (disch:=omega) only [decide_eq_true h2,decide_eq_true h3,Bool.and_self,cond_true,Qaq];rw [decide_eq_false (by omega),if_pos (by omega)]
     simp (disch:=omega) only [cond_false,Qaq]
     congr 2;omega
   · simp only [decide_eq_false h3,Bool.and_false,cond_false];rw [if_neg (by omega)];rfl
 · simp only [decide_eq_false h2,Bool.false_and,cond_false];rw [if_neg (by omega)];rfl
noncomputable def QpJ:=QpI.addSpec 18 QcY
theorem QgX:Qh Tryz.prog s18 QpJ:=QgW.addEv Qc fun args d h=>by
 unfold QcY at h
 split at h
 · unfold Qfs at h;have h1:=congrArg Prod.fst (Option.some.inj h);obtain rfl:_=d:=congrArg Prod.snd (Option.some.inj h);exact ⟨by simp [D.refs],20,Qjs _ _ h1⟩
 · cases h
def Qow (w:Int):Option (Bool × D RC):=some (true,.int .i64 (plc w))
def Qjt:List (D RC)->Option (Bool × D RC)
 | [.int .i64 w]=>Qow w
 | _=>none
noncomputable def Qox (w:Int):=evF s18 QpJ 20 29 [.int .i64 w]
theorem QpK (w:Int):Qox w=(let Z0:DO_:=some (D.int .i64 0);bif decide (w < (0:Int)) then Z0 else bif decide ((1099510841343:Int) < w) then Z0 else some (D.int .i64 (bits .i64 (fun (x:Nat) (u v:BitVec x)=>u &&& v) (Int.fdiv w (1048576:Int)) (1099511627775:Int)))):=by kernel_rfl
theorem QpL (w:Int) (h:(true)=true):Qox w=some (.int .i64 (plc w)):=by
 (rw [QpK];conv=>zeta)
 unfold plc;refine Zi (fun h0=>?_) fun h0=>Zi (fun h1=>?_) fun h1=>?_ <;> simp only [decide_eq_true_eq,decide_eq_false_iff_not] at *
 · rw [Zj (by omega)];rfl
 · rw [Zj (by omega)];rfl
 · rw [Q9 (by omega),Qos (by omega),Qsy (by omega)]
noncomputable def QpM:=QpJ.addSpec 29 Qjt
theorem QgY:Qh Tryz.prog s18 QpM:=QgX.addEv Qc fun args d h=>by
 unfold Qjt at h
 split at h
 · unfold Qow at h;have h1:=congrArg Prod.fst (Option.some.inj h);obtain rfl:_=d:=congrArg Prod.snd (Option.some.inj h);exact ⟨by simp [D.refs],20,QpL _ h1⟩
 · cases h
def Qju (p:Int) (d:Int):Option (Bool × D RC):=some (true,.tup (.acons (.int .i64 (wordN p d)) (.acons (.int .i64 (QcI p d)) .anil)))
def Qfu:List (D RC)->Option (Bool × D RC)
 | [.int .i64 p,.int .i64 d]=>Qju p d
 | _=>none
noncomputable def Qjv (p:Int) (d:Int):=evF s18 QpM 20 96 [.int .i64 p,.int .i64 d]
theorem QmX (p:Int) (d:Int):Qjv p d=(let Z0:Bool:=decide (p < (0:Int));let Z1:D RC:=D.int .i64 0;let Z2:DO_:=some (D.tup (D.acons Z1 (D.acons (D.int .i64 2) .anil)));let Z3:Bool:=decide ((1048575:Int) < p);let Z4:DO_:=some (D.tup (D.acons (D.int .i64 (bits .i64 (fun (x:Nat) (u v:BitVec x)=>u ||| v) (IntKind.wrap .i64 (p * (1048576:Int))) d)) (.acons Z1 .anil)));let Z5:DO_:=bif d != (0:Int) then Z2 else bif p != (0:Int) then Z2 else Z4;bif decide ((256:Int) <= d) then bif Z0 then Z2 else bif Z3 then Z2 else bif !decide (d <= (262143:Int)) then Z5 else Z4 else bif Z0 then Z2 else bif Z3 then Z2 else Z5):=by kernel_rfl
theorem QmY (p:Int) (d:Int) (h:(true)=true):Qjv p d=some (.tup (.acons (.int .i64 (wordN p d)) (.acons (.int .i64 (QcI p d)) .anil))):=by
 (rw [QmX];conv=>zeta)
 have ww:0 <= p->p <= 1048575->IntKind.i64.wrap (p * 1048576)=p * 1048576:=fun h1 h2=>Qq (by omega) (by omega)
 repeat' (refine Zi (fun hc=>?_) fun hc=>?_)
 all_goals
  simp only [decide_eq_true_eq,decide_eq_false_iff_not,beq_iff_eq,bne_iff_ne,ne_eq,Bool.not_eq_true',Bool.not_eq_false',bne_eq_false_iff_eq,beq_eq_false_iff_ne] at *
  first
  | exact congrArg some (QcL (by unfold OkWord;omega))
  | (rw [ww (by omega) (by omega),or20 (by omega) (by omega)];exact congrArg some (QcK (by unfold OkWord;omega)))
noncomputable def QpN:=QpM.addSpec 96 Qfu
theorem QgZ:Qh Tryz.prog s18 QpN:=QgY.addEv Qc fun args d h=>by
 unfold Qfu at h
 split at h
 · unfold Qju at h;have h1:=congrArg Prod.fst (Option.some.inj h);obtain rfl:_=d:=congrArg Prod.snd (Option.some.inj h);exact ⟨by simp [D.refs],20,QmY _ _ h1⟩
 · cases h
def Qoy (w:Int):Option (Bool × D RC):=some (true,.int .i64 (plc w))
def Qjw:List (D RC)->Option (Bool × D RC)
 | [.int .i64 w]=>Qoy w
 | _=>none
noncomputable def Qoz (w:Int):=evF s18 QpN 20 13 [.int .i64 w]
theorem QpO (w:Int):Qoz w=(let Z0:DO_:=some (D.int .i64 0);bif decide (w < (0:Int)) then Z0 else bif decide ((1099510841343:Int) < w) then Z0 else some (D.int .i64 (Int.fdiv w (1048576:Int)))):=by kernel_rfl
theorem QpP (w:Int) (h:(true)=true):Qoz w=some (.int .i64 (plc w)):=by
 (rw [QpO];conv=>zeta)
 unfold plc;refine Zi (fun h0=>?_) fun h0=>Zi (fun h1=>?_) fun h1=>?_ <;> simp only [decide_eq_true_eq,decide_eq_false_iff_not] at *
 · rw [Zj (by omega)];rfl
 · rw [Zj (by omega)];rfl
 · rw [Q9 (by omega),Qos (by omega)]
noncomputable def QpQ:=QpN.addSpec 13 Qjw
theorem Qg0:Qh Tryz.prog s18 QpQ:=QgZ.addEv Qc fun args d h=>by
 unfold Qjw at h
 split at h
 · unfold Qoy at h;have h1:=congrArg Prod.fst (Option.some.inj h);obtain rfl:_=d:=congrArg Prod.snd (Option.some.inj h);exact ⟨by simp [D.refs],20,QpP _ h1⟩
 · cases h
def Qjx (w:Int):Option (Bool × D RC):=some (true,.int .i64 (bare w))
def Qfv:List (D RC)->Option (Bool × D RC)
 | [.int .i64 w]=>Qjx w
 | _=>none
noncomputable def Qjy (w:Int):=evF s18 QpQ 20 110 [.int .i64 w]
theorem QmZ (w:Int):Qjy w=(let Z0:DO_:=some (D.int .i64 0);bif decide (w < (0:Int)) then Z0 else bif decide ((1099510841343:Int) < w) then Z0 else some (D.int .i64 (bits .i64 (fun (x:Nat) (u v:BitVec x)=>u &&& v) w (1048575:Int)))):=by kernel_rfl
theorem Qm0 (w:Int) (h:(true)=true):Qjy w=some (.int .i64 (bare w)):=by
 (rw [QmZ];conv=>zeta)
 unfold bare;refine Zi (fun h0=>?_) fun h0=>Zi (fun h1=>?_) fun h1=>?_ <;> simp only [decide_eq_true_eq,decide_eq_false_iff_not] at *
 · rw [Zj (by omega)];rfl
 · rw [Zj (by omega)];rfl
 · rw [Q9 (by omega),QrC]
noncomputable def QpR:=QpQ.addSpec 110 Qfv
theorem Qg1:Qh Tryz.prog s18 QpR:=Qg0.addEv Qc fun args d h=>by
 unfold Qfv at h
 split at h
 · unfold Qjx at h;have h1:=congrArg Prod.fst (Option.some.inj h);obtain rfl:_=d:=congrArg Prod.snd (Option.some.inj h);exact ⟨by simp [D.refs],20,Qm0 _ h1⟩
 · cases h
def Qjz (p:Int) (d:Int):Option (Bool × D RC):=some (true,.tup (.acons (.int .i64 (wordN p d)) (.acons (.int .i64 (QcI p d)) .anil)))
def Qfw:List (D RC)->Option (Bool × D RC)
 | [.int .i64 p,.int .i64 d]=>Qjz p d
 | _=>none
noncomputable def QjA (p:Int) (d:Int):=evF s18 QpR 20 17 [.int .i64 p,.int .i64 d]
theorem Qm1 (p:Int) (d:Int):QjA p d=(let Z0:D RC:=D.int .i64 0;let Z1:DO_:=some (D.tup (D.acons Z0 (D.acons (D.int .i64 2) .anil)));let Z2:DO_:=some (D.tup (D.acons (D.int .i64 (IntKind.wrap .i64 (IntKind.wrap .i64 (p * (1048576:Int))+d))) (.acons Z0 .anil)));let Z3:DO_:=bif d == (0:Int) then bif p != (0:Int) then Z1 else Z2 else Z2;bif decide (p < (0:Int)) then Z1 else bif decide ((1048575:Int) < p) then Z1 else bif d != (0:Int) then bif decide ((256:Int) <= d) then bif !decide (d <= (262143:Int)) then Z1 else Z3 else Z1 else Z3):=by kernel_rfl
theorem Qm2 (p:Int) (d:Int) (h:(true)=true):QjA p d=some (.tup (.acons (.int .i64 (wordN p d)) (.acons (.int .i64 (QcI p d)) .anil))):=by
 (rw [Qm1];conv=>zeta)
 have ww:0 <= p->p <= 1048575->IntKind.i64.wrap (p * 1048576)=p * 1048576:=fun h1 h2=>Qq (by omega) (by omega)
 repeat' (refine Zi (fun hc=>?_) fun hc=>?_)
 all_goals
  simp only [decide_eq_true_eq,decide_eq_false_iff_not,beq_iff_eq,bne_iff_ne,ne_eq,Bool.not_eq_true',Bool.not_eq_false',bne_eq_false_iff_eq,beq_eq_false_iff_ne] at *
  first
  | exact congrArg some (QcL (by unfold OkWord;omega))
  | (rw [ww (by omega) (by omega),Qq (by omega) (by omega)];exact congrArg some (QcK (by unfold OkWord;omega)))
noncomputable def QpS:=QpR.addSpec 17 Qfw
theorem Qg2:Qh Tryz.prog s18 QpS:=Qg1.addEv Qc fun args d h=>by
 unfold Qfw at h
 split at h
 · unfold Qjz at h;have h1:=congrArg Prod.fst (Option.some.inj h);obtain rfl:_=d:=congrArg Prod.snd (Option.some.inj h);exact ⟨by simp [D.refs],20,Qm2 _ _ h1⟩
 · cases h
def QjB (w:Int):Option (Bool × D RC):=some (true,.int .i64 (bare w))
def Qfx:List (D RC)->Option (Bool × D RC)
 | [.int .i64 w]=>QjB w
 | _=>none
noncomputable def QjC (w:Int):=evF s18 QpS 20 30 [.int .i64 w]
theorem Qm3 (w:Int):QjC w=(let Z0:DO_:=some (D.int .i64 0);bif decide (w < (0:Int)) then Z0 else bif decide ((1099510841343:Int) < w) then Z0 else some (D.int .i64 (bits .i64 (fun (x:Nat) (u v:BitVec x)=>u &&& v) (Int.fdiv w (1:Int)) (1048575:Int)))):=by kernel_rfl
theorem Qm4 (w:Int) (h:(true)=true):QjC w=some (.int .i64 (bare w)):=by
 (rw [Qm3];conv=>zeta)
 unfold bare;refine Zi (fun h0=>?_) fun h0=>Zi (fun h1=>?_) fun h1=>?_ <;> simp only [decide_eq_true_eq,decide_eq_false_iff_not] at *
 · rw [Zj (by omega)];rfl
 · rw [Zj (by omega)];rfl
 · rw [Q9 (by omega),Int.fdiv_one,QrC]
noncomputable def QpT:=QpS.addSpec 30 Qfx
theorem Qg3:Qh Tryz.prog s18 QpT:=Qg2.addEv Qc fun args d h=>by
 unfold Qfx at h
 split at h
 · unfold QjB at h;have h1:=congrArg Prod.fst (Option.some.inj h);obtain rfl:_=d:=congrArg Prod.snd (Option.some.inj h);exact ⟨by simp [D.refs],20,Qm4 _ h1⟩
 · cases h
theorem and8 (n:Int):bits .i64 (fun _ u v=>u &&& v) n 255=n % 256:=by
 unfold bits;rw [BitVec.toNat_and,Zu,Zu];have e:((255:Int) % 18446744073709551616).toNat=2 ^ 8 - 1:=by decide
 rw [e,Nat.and_two_pow_sub_one_eq_mod,Qq (by omega) (by omega)]
 omega
def QoA (w:Int):Option (Bool × D RC):=some (true,.int .i64 (Zv w % 256))
def QjD:List (D RC)->Option (Bool × D RC)
 | [.int .i64 w]=>QoA w
 | _=>none
noncomputable def QoB (w:Int):=evF s18 QpT 20 32 [.int .i64 w]
theorem QpU (w:Int):QoB w=(let Z0:DO_:=some (D.int .i64 0);bif decide (w < (0:Int)) then Z0 else bif decide ((1099510841343:Int) < w) then Z0 else some (D.int .i64 (bits .i64 (fun (x:Nat) (u v:BitVec x)=>u &&& v) (Int.fdiv w (1:Int)) (255:Int)))):=by kernel_rfl
theorem QpV (w:Int) (h:(true)=true):QoB w=some (.int .i64 (Zv w % 256)):=by
 (rw [QpU];conv=>zeta)
 refine Zi (fun h0=>?_) fun h0=>Zi (fun h1=>?_) fun h1=>?_ <;> simp only [decide_eq_true_eq,decide_eq_false_iff_not] at *
 · rw [Zj (by omega)];rfl
 · rw [Zj (by omega)];rfl
 · rw [Q9 (by omega),Int.fdiv_one,and8]
noncomputable def QpW:=QpT.addSpec 32 QjD
theorem Qg4:Qh Tryz.prog s18 QpW:=Qg3.addEv Qc fun args d h=>by
 unfold QjD at h
 split at h
 · unfold QoA at h;have h1:=congrArg Prod.fst (Option.some.inj h);obtain rfl:_=d:=congrArg Prod.snd (Option.some.inj h);exact ⟨by simp [D.refs],20,QpV _ h1⟩
 · cases h
def QcZ (a:Int) (f:Int) (nd:Bool):Option (Bool × D RC):=some (true,.int .i64 (cellO a f nd))
def QaR:List (D RC)->Option (Bool × D RC)
 | [.int .i64 a,.int .i64 f,.bool nd]=>QcZ a f nd
 | _=>none
noncomputable def Qc0 (a:Int) (f:Int) (nd:Bool):=evF s18 QpW 20 33 [.int .i64 a,.int .i64 f,.bool nd]
theorem Qg5 (a:Int) (f:Int) (nd:Bool):Qc0 a f nd=(let Z0:Int:=bits .i64 (fun (x:Nat) (u v:BitVec x)=>u &&& v) a (255:Int);bif decide (a < (0:Int)) then some (D.int .i64 (-1:Int)) else bif nd then some (D.int .i64 (lField (291:Int) Z0 f (160:Int) (3:Int))) else some (D.int .i64 (lField (99:Int) Z0 f (16:Int) (12:Int)))):=by kernel_rfl
theorem Qg6 (a:Int) (f:Int) (nd:Bool) (h:(true)=true):Qc0 a f nd=some (.int .i64 (cellO a f nd)):=by
 (rw [Qg5];conv=>zeta)
 unfold cellO;rw [and8];refine Zi (fun h0=>?_) fun h0=>?_ <;> simp only [decide_eq_true_eq,decide_eq_false_iff_not] at h0
 · rw [if_pos h0]
 · rw [if_neg h0];cases nd <;> rfl
noncomputable def QpX:=QpW.addSpec 33 QaR
theorem Qg7:Qh Tryz.prog s18 QpX:=Qg4.addEv Qc fun args d h=>by
 unfold QaR at h
 split at h
 · unfold QcZ at h;have h1:=congrArg Prod.fst (Option.some.inj h);obtain rfl:_=d:=congrArg Prod.snd (Option.some.inj h);exact ⟨by simp [D.refs],20,Qg6 _ _ _ h1⟩
 · cases h
def Qc1 (a:Int) (f:Int) (nd:Bool):Option (Bool × D RC):=some (true,.int .i64 (cellO a f nd))
def QaS:List (D RC)->Option (Bool × D RC)
 | [.int .i64 a,.int .i64 f,.bool nd]=>Qc1 a f nd
 | _=>none
noncomputable def Qc2 (a:Int) (f:Int) (nd:Bool):=evF s18 QpX 20 86 [.int .i64 a,.int .i64 f,.bool nd]
theorem Qg8 (a:Int) (f:Int) (nd:Bool):Qc2 a f nd=(let Z0:Int:=Int.tmod a (256:Int);bif decide (a < (0:Int)) then some (D.int .i64 (-1:Int)) else bif nd then some (D.int .i64 (lField (291:Int) Z0 f (160:Int) (3:Int))) else some (D.int .i64 (lField (99:Int) Z0 f (16:Int) (12:Int)))):=by kernel_rfl
theorem Qg9 (a:Int) (f:Int) (nd:Bool) (h:(true)=true):Qc2 a f nd=some (.int .i64 (cellO a f nd)):=by
 (rw [Qg8];conv=>zeta)
 unfold cellO;refine Zi (fun h0=>?_) fun h0=>?_ <;> simp only [decide_eq_true_eq,decide_eq_false_iff_not] at h0
 · rw [if_pos h0]
 · rw [if_neg h0,QdY (by omega)]
   cases nd <;> rfl
noncomputable def QpY:=QpX.addSpec 86 QaS
theorem Qha:Qh Tryz.prog s18 QpY:=Qg7.addEv Qc fun args d h=>by
 unfold QaS at h
 split at h
 · unfold Qc1 at h;have h1:=congrArg Prod.fst (Option.some.inj h);obtain rfl:_=d:=congrArg Prod.snd (Option.some.inj h);exact ⟨by simp [D.refs],20,Qg9 _ _ _ h1⟩
 · cases h
open Go.Proofs
def Qc3 :Option (Bool × D RC):=some (true,.bool true)
def QaT:List (D RC)->Option (Bool × D RC)
 | []=>Qc3 
 | _=>none
noncomputable def QjE  := evF s18 QpY 400 5 []
theorem Qhb  (h:(true)=true):QjE  = some (.bool true):=by
 kernel_rfl
noncomputable def uw_1:=QpY.addSpec 5 QaT
theorem QjF:Qh Tryz.prog s18 uw_1:=Qha.addEv Qc fun args d h=>by
 unfold QaT at h
 split at h
 · unfold Qc3 at h;have h1:=congrArg Prod.fst (Option.some.inj h);obtain rfl:_=d:=congrArg Prod.snd (Option.some.inj h);exact ⟨by simp [D.refs],400,Qhb  h1⟩
 · cases h
open Go.Proofs
def QoC (k:Int) (a:Int) (b:Int) (v:Int) (g:Int) (tx:List UInt8) (c:Bool) (ar:List Int):Option (Bool × D RC):=some (decide (0 <= k /\ k <= 7) && (Qe tx.length && Qe ar.length),.bool (Yc k a b v g tx ar))
def QjG:List (D RC)->Option (Bool × D RC)
 | [.acons (.int .i8 k) (.acons (.int .i64 a) (.acons (.int .i64 b) (.acons (.int .i64 v) (.acons (.int .i64 g) (.acons (.str tx) (.acons (.sl .int c ar) .anil))))))]=>QoC k a b v g tx c ar
 | _=>none
noncomputable def ZW (k:Int) (a:Int) (b:Int) (v:Int) (g:Int) (tx:List UInt8) (c:Bool) (ar:List Int):=evF s18 uw_1 100 74 [.acons (.int .i8 k) (.acons (.int .i64 a) (.acons (.int .i64 b) (.acons (.int .i64 v) (.acons (.int .i64 g) (.acons (.str tx) (.acons (.sl (C:=RC) .int c ar) .anil))))))]
theorem Qm5 (a b v g:Int) (tx:List UInt8) (c:Bool) (ar:List Int):ZW 0 a b v g tx c ar=(let Z0:Int:=(-1:Int);let Z1:DO_:=some (D.bool false);let Z2:Bool:=Qe ar.length;let Z3:Int:=(↑ar.length:Int);let Z4:DO_:=bif tx == Array.toList #[] then bif Z2 then bif Z3 == (0:Int) then some (D.bool true) else Z1 else none else Z1;let Z5:DO_:=bif b == (0:Int) then bif v == (0:Int) then bif g == (0:Int) then Z4 else Z4 else Z1 else Z1;bif decide (b < Z0) then Z1 else bif decide ((1152921504606846976:Int) < b) then Z1 else bif decide (v < Z0) then Z1 else bif decide ((1152921504606846976:Int) < v) then Z1 else bif decide (g < Z0) then Z1 else bif decide ((1152921504606846976:Int) < g) then Z1 else bif Z2 then bif decide ((96:Int) < Z3) then Z1 else bif Qe tx.length then bif decide ((640:Int) < (↑tx.length:Int)) then Z1 else bif decide (a < (0:Int)) then Z1 else bif decide ((4095:Int) < a) then Z1 else bif a == (0:Int) then Z5 else Z5 else none else none):=by kernel_rfl
theorem Qm6 (a b v g:Int) (tx:List UInt8) (c:Bool) (ar:List Int):ZW 1 a b v g tx c ar=(let Z0:Int:=(-1:Int);let Z1:DO_:=some (D.bool false);let Z2:Bool:=Qe ar.length;let Z3:Int:=(↑ar.length:Int);let Z4:DO_:=bif tx == Array.toList #[] then bif Z2 then bif Z3 == (0:Int) then some (D.bool true) else Z1 else none else Z1;let Z5:DO_:=bif g == (0:Int) then Z4 else Z4;let Z6:DO_:=bif b == (0:Int) then bif v == (0:Int) then Z5 else Z5 else Z1;bif decide (b < Z0) then Z1 else bif decide ((1152921504606846976:Int) < b) then Z1 else bif decide (v < Z0) then Z1 else bif decide ((1152921504606846976:Int) < v) then Z1 else bif decide (g < Z0) then Z1 else bif decide ((1152921504606846976:Int) < g) then Z1 else bif Z2 then bif decide ((96:Int) < Z3) then Z1 else bif Qe tx.length then bif decide ((640:Int) < (↑tx.length:Int)) then Z1 else bif decide (a < (0:Int)) then Z1 else bif decide ((4095:Int) < a) then Z1 else bif a == (0:Int) then Z6 else Z6 else none else none):=by kernel_rfl
theorem Qm7 (a b v g:Int) (tx:List UInt8) (c:Bool) (ar:List Int):ZW 2 a b v g tx c ar=(let Z0:Int:=(-1:Int);let Z1:DO_:=some (D.bool false);let Z2:Bool:=Qe ar.length;let Z3:Int:=(↑ar.length:Int);let Z4:DO_:=bif tx == Array.toList #[] then bif Z2 then bif Z3 == (0:Int) then some (D.bool true) else Z1 else none else Z1;let Z5:DO_:=bif g == (0:Int) then Z4 else Z4;let Z6:DO_:=bif v == (0:Int) then Z5 else Z5;let Z7:DO_:=bif b == (0:Int) then Z6 else Z6;bif decide (b < Z0) then Z1 else bif decide ((1152921504606846976:Int) < b) then Z1 else bif decide (v < Z0) then Z1 else bif decide ((1152921504606846976:Int) < v) then Z1 else bif decide (g < Z0) then Z1 else bif decide ((1152921504606846976:Int) < g) then Z1 else bif Z2 then bif decide ((96:Int) < Z3) then Z1 else bif Qe tx.length then bif decide ((640:Int) < (↑tx.length:Int)) then Z1 else bif decide (a < (0:Int)) then Z1 else bif decide ((4095:Int) < a) then Z1 else bif a == (0:Int) then Z7 else Z7 else none else none):=by kernel_rfl
theorem Qm8 (a b v g:Int) (tx:List UInt8) (c:Bool) (ar:List Int):ZW 3 a b v g tx c ar=(let Z0:Int:=(-1:Int);let Z1:DO_:=some (D.bool false);let Z2:Bool:=Qe ar.length;let Z3:Int:=(↑ar.length:Int);let Z4:DO_:=bif g == (0:Int) then bif tx == Array.toList #[] then bif Z2 then bif Z3 == (0:Int) then some (D.bool true) else Z1 else none else Z1 else Z1;let Z5:DO_:=bif b == (0:Int) then bif v == (0:Int) then Z4 else Z4 else Z1;bif decide (b < Z0) then Z1 else bif decide ((1152921504606846976:Int) < b) then Z1 else bif decide (v < Z0) then Z1 else bif decide ((1152921504606846976:Int) < v) then Z1 else bif decide (g < Z0) then Z1 else bif decide ((1152921504606846976:Int) < g) then Z1 else bif Z2 then bif decide ((96:Int) < Z3) then Z1 else bif Qe tx.length then bif decide ((640:Int) < (↑tx.length:Int)) then Z1 else bif decide (a < (0:Int)) then Z1 else bif decide ((4095:Int) < a) then Z1 else bif a == (0:Int) then Z5 else Z5 else none else none):=by kernel_rfl
theorem Qm9 (a b v g:Int) (tx:List UInt8) (c:Bool) (ar:List Int):ZW 4 a b v g tx c ar=(let Z0:Int:=(-1:Int);let Z1:DO_:=some (D.bool false);let Z2:Bool:=Qe ar.length;let Z3:Int:=(↑ar.length:Int);let Z4:DO_:=bif Z2 then bif Z3 == (0:Int) then some (D.bool true) else Z1 else none;let Z5:DO_:=bif v == (0:Int) then bif g == (0:Int) then bif tx == Array.toList #[] then Z4 else Z4 else Z1 else Z1;let Z6:DO_:=bif b == (0:Int) then Z5 else Z5;bif decide (b < Z0) then Z1 else bif decide ((1152921504606846976:Int) < b) then Z1 else bif decide (v < Z0) then Z1 else bif decide ((1152921504606846976:Int) < v) then Z1 else bif decide (g < Z0) then Z1 else bif decide ((1152921504606846976:Int) < g) then Z1 else bif Z2 then bif decide ((96:Int) < Z3) then Z1 else bif Qe tx.length then bif decide ((640:Int) < (↑tx.length:Int)) then Z1 else bif decide (a < (0:Int)) then Z1 else bif decide ((4095:Int) < a) then Z1 else bif a == (0:Int) then Z6 else Z6 else none else none):=by kernel_rfl
theorem Qna (a b v g:Int) (tx:List UInt8) (c:Bool) (ar:List Int):ZW 5 a b v g tx c ar=(let Z0:Int:=(-1:Int);let Z1:DO_:=some (D.bool false);let Z2:Bool:=Qe ar.length;let Z3:Int:=(↑ar.length:Int);bif decide (b < Z0) then Z1 else bif decide ((1152921504606846976:Int) < b) then Z1 else bif decide (v < Z0) then Z1 else bif decide ((1152921504606846976:Int) < v) then Z1 else bif decide (g < Z0) then Z1 else bif decide ((1152921504606846976:Int) < g) then Z1 else bif Z2 then bif decide ((96:Int) < Z3) then Z1 else bif Qe tx.length then bif decide ((640:Int) < (↑tx.length:Int)) then Z1 else bif decide (a < (0:Int)) then Z1 else bif decide ((4095:Int) < a) then Z1 else bif a == (0:Int) then bif b == (0:Int) then bif v == (0:Int) then bif g == (0:Int) then bif tx == Array.toList #[] then bif Z2 then bif Z3 == (0:Int) then some (D.bool true) else Z1 else none else Z1 else Z1 else Z1 else Z1 else Z1 else none else none):=by kernel_rfl
theorem Qnb (a b v g:Int) (tx:List UInt8) (c:Bool) (ar:List Int):ZW 6 a b v g tx c ar=(let Z0:Int:=(-1:Int);let Z1:DO_:=some (D.bool false);let Z2:Bool:=Qe ar.length;let Z3:Int:=(↑ar.length:Int);let Z4:DO_:=bif b == (0:Int) then bif v == (0:Int) then bif g == (0:Int) then bif tx == Array.toList #[] then bif Z2 then bif Z3 == (0:Int) then some (D.bool true) else some (D.bool true) else none else Z1 else Z1 else Z1 else Z1;bif decide (b < Z0) then Z1 else bif decide ((1152921504606846976:Int) < b) then Z1 else bif decide (v < Z0) then Z1 else bif decide ((1152921504606846976:Int) < v) then Z1 else bif decide (g < Z0) then Z1 else bif decide ((1152921504606846976:Int) < g) then Z1 else bif Z2 then bif decide ((96:Int) < Z3) then Z1 else bif Qe tx.length then bif decide ((640:Int) < (↑tx.length:Int)) then Z1 else bif decide (a < (0:Int)) then Z1 else bif decide ((4095:Int) < a) then Z1 else bif decide ((127:Int) < a) then Z1 else bif a == (0:Int) then Z4 else Z4 else none else none):=by kernel_rfl
theorem Qnc (a b v g:Int) (tx:List UInt8) (c:Bool) (ar:List Int):ZW 7 a b v g tx c ar=(let Z0:Int:=(-1:Int);let Z1:DO_:=some (D.bool false);let Z2:Bool:=Qe ar.length;let Z3:Int:=(↑ar.length:Int);bif decide (b < Z0) then Z1 else bif decide ((1152921504606846976:Int) < b) then Z1 else bif decide (v < Z0) then Z1 else bif decide ((1152921504606846976:Int) < v) then Z1 else bif decide (g < Z0) then Z1 else bif decide ((1152921504606846976:Int) < g) then Z1 else bif Z2 then bif decide ((96:Int) < Z3) then Z1 else bif Qe tx.length then bif decide ((640:Int) < (↑tx.length:Int)) then Z1 else bif decide (a < (0:Int)) then Z1 else bif decide ((4095:Int) < a) then Z1 else bif a == (0:Int) then bif b == (0:Int) then bif v == (0:Int) then bif g == (0:Int) then bif tx == Array.toList #[] then bif Z2 then bif Z3 == (0:Int) then some (D.bool true) else some (D.bool true) else none else Z1 else Z1 else Z1 else Z1 else Z1 else none else none):=by kernel_rfl
theorem QpZ (a b v g:Int) (tx:List UInt8) (c:Bool) (ar:List Int) (h1:Qe tx.length=true) (h2:Qe ar.length=true):ZW 0 a b v g tx c ar=some (.bool (Yc 0 a b v g tx ar)):=by
 (rw [Qm5];conv=>zeta)
 simp only [h1,h2,cond_true];clear h1 h2
 repeat' (first | refine cdD (fun hc=>?_) fun hc=>?_ | refine cdE (fun hc=>?_) fun hc=>?_ | refine cdS (fun hc=>?_) fun hc=>?_)
 all_goals first | exact QcN (MayA.k0.2 (by omega)) | exact QcO (fun q=>by have q:=MayA.k0.1 q;omega)
theorem Qp0 (a b v g:Int) (tx:List UInt8) (c:Bool) (ar:List Int) (h1:Qe tx.length=true) (h2:Qe ar.length=true):ZW 1 a b v g tx c ar=some (.bool (Yc 1 a b v g tx ar)):=by
 (rw [Qm6];conv=>zeta)
 simp only [h1,h2,cond_true];clear h1 h2
 repeat' (first | refine cdD (fun hc=>?_) fun hc=>?_ | refine cdE (fun hc=>?_) fun hc=>?_ | refine cdS (fun hc=>?_) fun hc=>?_)
 all_goals first | exact QcN (MayA.k1.2 (by omega)) | exact QcO (fun q=>by have q:=MayA.k1.1 q;omega)
theorem Qp1 (a b v g:Int) (tx:List UInt8) (c:Bool) (ar:List Int) (h1:Qe tx.length=true) (h2:Qe ar.length=true):ZW 2 a b v g tx c ar=some (.bool (Yc 2 a b v g tx ar)):=by
 (rw [Qm7];conv=>zeta)
 simp only [h1,h2,cond_true];clear h1 h2
 repeat' (first | refine cdD (fun hc=>?_) fun hc=>?_ | refine cdE (fun hc=>?_) fun hc=>?_ | refine cdS (fun hc=>?_) fun hc=>?_)
 all_goals first | exact QcN (MayA.k2.2 (by omega)) | exact QcO (fun q=>by have q:=MayA.k2.1 q;omega)
theorem Qp2 (a b v g:Int) (tx:List UInt8) (c:Bool) (ar:List Int) (h1:Qe tx.length=true) (h2:Qe ar.length=true):ZW 3 a b v g tx c ar=some (.bool (Yc 3 a b v g tx ar)):=by
 (rw [Qm8];conv=>zeta)
 simp only [h1,h2,cond_true];clear h1 h2
 repeat' (first | refine cdD (fun hc=>?_) fun hc=>?_ | refine cdE (fun hc=>?_) fun hc=>?_ | refine cdS (fun hc=>?_) fun hc=>?_)
 all_goals first | exact QcN (MayA.k3.2 (by omega)) | exact QcO (fun q=>by have q:=MayA.k3.1 q;omega)
theorem Qp3 (a b v g:Int) (tx:List UInt8) (c:Bool) (ar:List Int) (h1:Qe tx.length=true) (h2:Qe ar.length=true):ZW 4 a b v g tx c ar=some (.bool (Yc 4 a b v g tx ar)):=by
 (rw [Qm9];conv=>zeta)
 simp only [h1,h2,cond_true];clear h1 h2
 repeat' (first | refine cdD (fun hc=>?_) fun hc=>?_ | refine cdE (fun hc=>?_) fun hc=>?_ | refine cdS (fun hc=>?_) fun hc=>?_)
 all_goals first | exact QcN (MayA.k4.2 (by omega)) | exact QcO (fun q=>by have q:=MayA.k4.1 q;omega)
theorem Qp4 (a b v g:Int) (tx:List UInt8) (c:Bool) (ar:List Int) (h1:Qe tx.length=true) (h2:Qe ar.length=true):ZW 5 a b v g tx c ar=some (.bool (Yc 5 a b v g tx ar)):=by
 (rw [Qna];conv=>zeta)
 simp only [h1,h2,cond_true];clear h1 h2
 repeat' (first | refine cdD (fun hc=>?_) fun hc=>?_ | refine cdE (fun hc=>?_) fun hc=>?_ | refine cdS (fun hc=>?_) fun hc=>?_)
 all_goals first | exact QcN (MayA.k5.2 (by omega)) | exact QcO (fun q=>by have q:=MayA.k5.1 q;omega)
theorem Qp5 (a b v g:Int) (tx:List UInt8) (c:Bool) (ar:List Int) (h1:Qe tx.length=true) (h2:Qe ar.length=true):ZW 6 a b v g tx c ar=some (.bool (Yc 6 a b v g tx ar)):=by
 (rw [Qnb];conv=>zeta)
 simp only [h1,h2,cond_true];clear h1 h2
 repeat' (first | refine cdD (fun hc=>?_) fun hc=>?_ | refine cdE (fun hc=>?_) fun hc=>?_ | refine cdS (fun hc=>?_) fun hc=>?_)
 all_goals first | exact QcN (MayA.k6.2 (by omega)) | exact QcO (fun q=>by have q:=MayA.k6.1 q;omega)
theorem Qp6 (a b v g:Int) (tx:List UInt8) (c:Bool) (ar:List Int) (h1:Qe tx.length=true) (h2:Qe ar.length=true):ZW 7 a b v g tx c ar=some (.bool (Yc 7 a b v g tx ar)):=by
 (rw [Qnc];conv=>zeta)
 simp only [h1,h2,cond_true];clear h1 h2
 repeat' (first | refine cdD (fun hc=>?_) fun hc=>?_ | refine cdE (fun hc=>?_) fun hc=>?_ | refine cdS (fun hc=>?_) fun hc=>?_)
 all_goals first | exact QcN (MayA.k7.2 (by omega)) | exact QcO (fun q=>by have q:=MayA.k7.1 q;omega)
theorem Qp7 (k:Int) (a:Int) (b:Int) (v:Int) (g:Int) (tx:List UInt8) (c:Bool) (ar:List Int) (h:(decide (0 <= k /\ k <= 7) && (Qe tx.length && Qe ar.length))=true):ZW k a b v g tx c ar=some (.bool (Yc k a b v g tx ar)):=by
 rw [Bool.and_eq_true,Bool.and_eq_true,decide_eq_true_eq] at h;obtain ⟨h0,h1,h2⟩:=h;have hs:((((((k=0 \/ k=1) \/ k=2) \/ k=3) \/ k=4) \/ k=5) \/ k=6) \/ k=7:=by omega
 rcases hs with ((((((rfl | rfl) | rfl) | rfl) | rfl) | rfl) | rfl) | rfl
 · exact QpZ a b v g tx c ar h1 h2
 · exact Qp0 a b v g tx c ar h1 h2
 · exact Qp1 a b v g tx c ar h1 h2
 · exact Qp2 a b v g tx c ar h1 h2
 · exact Qp3 a b v g tx c ar h1 h2
 · exact Qp4 a b v g tx c ar h1 h2
 · exact Qp5 a b v g tx c ar h1 h2
 · exact Qp6 a b v g tx c ar h1 h2
noncomputable def ub_1:=uw_1.addSpec 74 QjG
theorem QjH:Qh Tryz.prog s18 ub_1:=QjF.addEv Qc fun args d h=>by
 unfold QjG at h
 split at h
 · unfold QoC at h;have h1:=congrArg Prod.fst (Option.some.inj h);obtain rfl:_=d:=congrArg Prod.snd (Option.some.inj h);exact ⟨by simp [D.refs],100,Qp7 _ _ _ _ _ _ _ _ h1⟩
 · cases h
open Go.Proofs
def Jy (l:List Int) (i:Nat):List Int:=l.take i++List.replicate (96 - i) 0
theorem JV {l:List Int} {i:Nat} (h:i <= l.length) (h2:l.length <= 96):(Jy l i).length=96:=by
 simp only [Jy,List.length_append,List.length_take,List.length_replicate];omega
theorem Qhc {l:List Int} {i:Nat} (h:i < l.length) (h2:l.length <= 96) (d:Int):(Jy l i).set i (l.getD i d)=Jy l (i+1):=by
 apply List.ext_getElem
 · rw [List.length_set,JV (by omega) h2,JV (by omega) h2]
 · intro n h3 h4;rw [JV (by omega) h2] at h4
   rw [List.getElem_set];have e:l.getD i d=l[i]:=by simp [h]
   simp only [Jy,List.getElem_append,List.length_take,List.getElem_take,List.getElem_replicate]
   split
   · rename_i q;subst q;rw [e,dif_pos (by omega)]
   · split <;> split <;> first | rfl | omega
theorem Qhd {l:List Int}:Jy l l.length=regs1 l:=by
 unfold Jy regs1;rw [List.take_length]
structure Qc4 where
 c:Bool
 l:List Int
 p:Int
 r:List Int
 i:Nat
def QbA (c:Bool) (l:List Int) (p:Int) (r:List Int) (i:Nat):Env RC:=[(1,.sl (C:=RC) .int c l),(5,.ptr 0 []),(6,.int .i64 (i:Int))]
def VW (c:Bool) (l:List Int) (p:Int) (r:List Int) (i:Nat):List (Obj RC):=[.var 92 (.acons (.int .i8 p) (.acons (.int .i64 0) (.acons (.arr (C:=RC) .int 96 r) .anil)))]
noncomputable def Qfy (c:Bool) (l:List Int) (p:Int) (r:List Int) (i:Nat):=rndO s18 ub_1 54 3 40 1 [1,5,6] [] [.slot 5 0] (QbA c l p r i) (VW c l p r i)
theorem QjI (c:Bool) (l:List Int) (p:Int) (r:List Int) (i:Nat):Qfy c l p r i=(let Z0:Int:=(↑i:Int);let Z1:D RC:=D.int .i64 0;bif Qe l.length then bif decide (Z0 < (↑l.length:Int)) then bif decide ((0:Int) <= Z0 /\ Z0 < (↑l.length:Int)) then bif decide ((0:Int) <= Z0 /\ Z0 < (96:Int)) then some ((X.normal,[(1,D.sl RTy.int c l),(5,D.ptr 0 []),(6,D.int .i64 (IntKind.wrap .i64 (Z0+(1:Int))))]),[some (Obj.var 92 (.acons (D.int IntKind.i8 p) (.acons Z1 (D.acons (D.arr RTy.int (96:Nat) (List.set r Z0.toNat (List.getD l Z0.toNat (0:Int)))) .anil))))]) else none else none else some ((X.exit (0:Nat),[]),[some (Obj.var 92 (.acons (D.int IntKind.i8 p) (.acons Z1 (D.acons (D.arr RTy.int (96:Nat) r) .anil))))]) else none):=by kernel_rfl
def QaU (c:Bool) (l:List Int) (p:Int) (r:List Int) (i:Nat):RT RC:=.leaf (.exit 0) [] (VW c l p (regs1 l) i)
def YR (c:Bool) (l:List Int) (p:Int) (r:List Int) (i:Nat):Prop:=i <= l.length /\ l.length <= 96 /\ r=Jy l i
def Vd:QV RC Qc4 where
 k:=1
 canon q:=QbA q.c q.l q.p q.r q.i
 objs q:=VW q.c q.l q.p q.r q.i
 fin q:=QaU q.c q.l q.p q.r q.i
 Inv q:=YR q.c q.l q.p q.r q.i
 μ q:=q.l.length - q.i
theorem Qc5 (c:Bool) (l:List Int) (p:Int) (r:List Int) (i:Nat) (hI:YR c l p r i):Leaf (Qfy c l p r i) (LedR Vd ⟨c,l,p,r,i⟩):=by
 (rw [QjI];conv=>zeta)
 unfold YR at hI;obtain ⟨h1,h2,rfl⟩:=hI;have hlk:=Qu (n:=l.length) (by omega)
 by_cases hlt:i < l.length
 · have w_succ:IntKind.i64.wrap ((i:Int)+1)=((i+1:Nat):Int):=by rw [Qq (by omega) (by omega)];simp
   have d_lt:decide ((i:Int) < l.length)=true:=by simp;omega
   have d_in:decide (0 <= (i:Int) /\ (i:Int) < l.length)=true:=by simp;omega
   have t_nat:((i:Int)).toNat=i:=by simp
   simp only [w_succ,d_lt,d_in,t_nat,cond_true];have d1:decide (0 <= (i:Int) /\ (i:Int) < 96)=true:=decide_eq_true ⟨by omega,by omega⟩
   simp only [hlk,d1,cond_true,Qhc hlt h2];exact QL (S:=Vd) ⟨c,l,p,Jy l (i+1),i+1⟩ ⟨hlt,h2,rfl⟩ (by simp only [Vd];omega) rfl rfl rfl
 · have hi:i=l.length:=by omega
   have c1:decide ((i:Int) < l.length)=false:=by simp;omega
   rw [hlk,c1];simp only [cond_true,cond_false];exact QA (VW c l p (regs1 l) i) rfl (by rw [hi,Qhd];rfl)
def QbB (env:Env RC) (os:List (Obj RC)):Option (Bool × Qc4):=match env,os with
 | [(1,.sl .int c l),(5,.ptr 0 []),(6,.int .i64 x0)],[.var 92 (.acons (.int .i8 p) (.acons (.int .i64 0) (.acons (.arr .int 96 r) .anil)))]=>QO (true) (decide (x0=0) && decide (l.length <= 96) && decide (r=List.replicate 96 0),⟨c,l,p,r,0⟩)
 | _,_=>none
noncomputable def uc_1:=ub_1.addLoop 54 3 (sumR s18 [.slot 5 0] [1,5,6] Vd QbB)
theorem QjJ:Qh Tryz.prog s18 uc_1:=by
 refine QjH.addRoundsR Qc (by kernel_rfl) Vd 40 [1,5,6] [] [.slot 5 0] [1,5,6] QbB (fun q hI=>?_) ?_
 · obtain ⟨c,l,p,r,i⟩:=q;refine ⟨?_,?_,Qc5 c l p r i hI⟩
   · simp_all [Qj,Vd,QbA,VW,YR,D.refs,Obj.refs,rEnc]
   · simp_all [Vd,QaU,VW,YR,RT.refsOK,Qj,D.refs,Obj.refs,rEnc]
 · intro env os b q hd_ hb;unfold QbB at hd_
   split at hd_
   · obtain ⟨hs,hd_⟩:=Qg hd_;cases hd_;simp only [Bool.and_eq_true,decide_eq_true_eq] at hb;obtain ⟨⟨e0,e1⟩,e2⟩:=hb;subst e0;exact ⟨⟨Nat.zero_le _,e1,e2⟩,rfl,rfl⟩
   · cases hd_
def QjK (p:Int) (c:Bool) (l:List Int):Option (Bool × D RC):=some (decide (l.length <= 96),.acons (.int .i8 p) (.acons (.int .i64 0) (.acons (.arr (C:=RC) .int 96 (regs1 l)) .anil)))
def Qfz:List (D RC)->Option (Bool × D RC)
 | [.int .i8 p,.sl .int c l]=>QjK p c l
 | _=>none
noncomputable def QjL (p:Int) (c:Bool) (l:List Int):=evF s18 uc_1 60 54 [.int .i8 p,.sl (C:=RC) .int c l]
theorem Qnd (p:Int) (c:Bool) (l:List Int):QjL p c l=(bif decide (List.length l <= (96:Nat)) && true then some (D.acons (D.int IntKind.i8 p) (.acons (D.int .i64 0) (.acons (D.arr RTy.int (96:Nat) (regs1 l)) .anil))) else none):=by kernel_rfl
theorem Qne (p:Int) (c:Bool) (l:List Int) (h:(decide (l.length <= 96))=true):QjL p c l=some (.acons (.int .i8 p) (.acons (.int .i64 0) (.acons (.arr (C:=RC) .int 96 (regs1 l)) .anil))):=by
 rw [Qnd];simp only [h,decide_true,Bool.and_self,cond_true]
noncomputable def uc_2:=uc_1.addSpec 54 Qfz
theorem QjM:Qh Tryz.prog s18 uc_2:=QjJ.addEv Qc fun args d h=>by
 unfold Qfz at h
 split at h
 · unfold QjK at h;have h1:=congrArg Prod.fst (Option.some.inj h);obtain rfl:_=d:=congrArg Prod.snd (Option.some.inj h);exact ⟨by simp [D.refs],60,Qne _ _ _ h1⟩
 · cases h
def frmR (f:Frame):D RC:=.acons (.int .i8 f.prog) (.acons (.int .i64 f.at') (.acons (.arr (C:=RC) .int 96 f.r) .anil))
def actR (a:Qb) (fl:Bool):D RC:=.acons (.int .i8 a.kind) (.acons (.int .i64 a.a) (.acons (.int .i64 a.b) (.acons (.int .i64 a.v) (.acons (.int .i64 a.gen) (.acons (.str a.text) (.acons (.sl (C:=RC) .int fl a.args) .anil))))))
def QoD (c:Int) (p:Int) (ca:Bool) (l:List Int):Option (Bool × D RC):=some (decide (0 <= c /\ c <= 3 /\ 0 <= p /\ l.length <= 96),.tup (.acons (.acons (.int .i64 c) (.acons (.sl (C:=RC) .frame true [⟨p,0,regs1 l⟩]) (.acons (.sl (C:=RC) .int true []) (.acons (.bool false) .anil)))) (.acons (.int .i64 0) .anil)))
def QjN:List (D RC)->Option (Bool × D RC)
 | [.int .i64 c,.int .i8 p,.sl .int ca l]=>QoD c p ca l
 | _=>none
noncomputable def QoE (c:Int) (p:Int) (ca:Bool) (l:List Int):=evF s18 uc_2 60 36 [.int .i64 c,.int .i8 p,.sl (C:=RC) .int ca l]
theorem Qp8 (c:Int) (p:Int) (ca:Bool) (l:List Int):QoE c p ca l=(let Z0:D RC:=D.int .i64 0;let Z1:D RC:=D.acons (D.sl RTy.int true []) (.acons (D.bool false) .anil);let Z2:DO_:=some (D.tup (D.acons (D.acons Z0 (D.acons (D.sl RTy.frame true []) Z1)) (.acons (D.int .i64 2) .anil)));let Z3:Nat:=List.length l;bif decide (c < (0:Int)) then Z2 else bif decide ((4:Int) <= c) then Z2 else bif decide (p < (0:Int)) then Z2 else bif Qe Z3 then bif decide ((96:Int) < (↑Z3:Int)) then Z2 else bif decide (Z3 <= (96:Nat)) then some (D.tup (D.acons (D.acons (D.int .i64 c) (.acons (D.sl RTy.frame true [Frame.mk p (0:Int) (regs1 l)]) Z1)) (.acons Z0 .anil))) else none else none):=by kernel_rfl
theorem Qp9 (c:Int) (p:Int) (ca:Bool) (l:List Int) (h:(decide (0 <= c /\ c <= 3 /\ 0 <= p /\ l.length <= 96))=true):QoE c p ca l=some (.tup (.acons (.acons (.int .i64 c) (.acons (.sl (C:=RC) .frame true [⟨p,0,regs1 l⟩]) (.acons (.sl (C:=RC) .int true []) (.acons (.bool false) .anil)))) (.acons (.int .i64 0) .anil))):=by
 (rw [Qp8];conv=>zeta)
 rw [decide_eq_true_eq] at h;have c1:decide (c < 0)=false:=decide_eq_false (by omega)
 have c2:decide (4 <= c)=false:=decide_eq_false (by omega)
 have c3:decide (p < 0)=false:=decide_eq_false (by omega)
 have c4:decide ((96:Int) < (l.length:Int))=false:=decide_eq_false (by omega)
 have c5:Qe l.length=true:=Qu (by omega)
 have c6:decide (l.length <= 96)=true:=decide_eq_true (by omega)
 simp only [c1,c2,c3,c4,c5,c6,cond_true,cond_false]
noncomputable def uc_3:=uc_2.addSpec 36 QjN
theorem QjO:Qh Tryz.prog s18 uc_3:=QjM.addEv Qc fun args d h=>by
 unfold QjN at h
 split at h
 · unfold QoD at h;have h1:=congrArg Prod.fst (Option.some.inj h);obtain rfl:_=d:=congrArg Prod.snd (Option.some.inj h);exact ⟨by simp [D.refs],60,Qp9 _ _ _ _ h1⟩
 · cases h
def QoF (c:Int) (fs:Bool) (st:List Frame) (e:Bool) (got:List Int) (over:Bool):Option (Bool × D RC):=some (Qe st.length,.tup (.acons (.acons (.int .i8 (topF st).prog) (.acons (.int .i64 (topF st).at') (.acons (.arr (C:=RC) .int 96 (topF st).r) .anil))) (.acons (.bool (decide (st ≠ []))) .anil)))
def QjP:List (D RC)->Option (Bool × D RC)
 | [.acons (.int .i64 c) (.acons (.sl .frame fs st) (.acons (.sl .int e got) (.acons (.bool over) .anil)))]=>QoF c fs st e got over
 | _=>none
noncomputable def QoG (c:Int) (fs:Bool) (st:List Frame) (e:Bool) (got:List Int) (over:Bool):=evF s18 uc_3 40 39 [.acons (.int .i64 c) (.acons (.sl (C:=RC) .frame fs st) (.acons (.sl (C:=RC) .int e got) (.acons (.bool over) .anil)))]
theorem Qqa (c:Int) (fs:Bool) (st:List Frame) (e:Bool) (got:List Int) (over:Bool):QoG c fs st e got over=(let Z0:Bool:=Qe st.length;let Z1:Int:=(↑st.length:Int);let Z2:List Int:=List.replicate (96:Nat) (0:Int);let Z3:Int:=IntKind.wrap .i64 (Z1 - (1:Int));let Z4:Frame:=List.getD st Z3.toNat (Frame.mk (0:Int) (0:Int) Z2);bif Z0 then bif Z1 == (0:Int) then some (D.tup (D.acons (D.acons (D.int IntKind.i8 (0:Int)) (.acons (D.int .i64 0) (.acons (D.arr RTy.int (96:Nat) Z2) .anil))) (.acons (D.bool false) .anil))) else bif Z0 then bif decide ((0:Int) <= Z3 /\ Z3 < Z1) then some (D.tup (D.acons (D.acons (D.int IntKind.i8 (Frame.prog Z4)) (.acons (D.int .i64 (Frame.at' Z4)) (.acons (D.arr RTy.int (96:Nat) (Frame.r Z4)) .anil))) (.acons (D.bool true) .anil))) else none else none else none):=by kernel_rfl
theorem Qqb (c:Int) (fs:Bool) (st:List Frame) (e:Bool) (got:List Int) (over:Bool) (h:(Qe st.length)=true):QoG c fs st e got over=some (.tup (.acons (.acons (.int .i8 (topF st).prog) (.acons (.int .i64 (topF st).at') (.acons (.arr (C:=RC) .int 96 (topF st).r) .anil))) (.acons (.bool (decide (st ≠ []))) .anil))):=by
 (rw [Qqa];conv=>zeta)
 simp only [h,cond_true]
 by_cases e:st=[]
 · subst e;rfl
 · have l0:1 <= st.length:=List.length_pos_iff.2 e;have l1:st.length <= 9223372036854775807:=Jo h;have c1:(((st.length:Nat):Int) == 0)=false:=Qpy (by omega)
   have w1:IntKind.i64.wrap ((st.length:Int) - 1)=(st.length:Int) - 1:=Qq (by omega) (by omega)
   have t1:((st.length:Int) - 1).toNat=st.length - 1:=by omega
   have d1:decide (0 <= (st.length:Int) - 1 /\ (st.length:Int) - 1 < (st.length:Int))=true:=decide_eq_true ⟨by omega,by omega⟩
   have e1:st.getD (st.length - 1) ⟨0,0,List.replicate 96 0⟩=topF st:=by
    unfold topF frm0;rw [List.getLastD_eq_getLast?,List.getLast?_eq_getElem?,List.getD_eq_getElem?_getD]
   simp only [c1,w1,t1,d1,e1,cond_true,cond_false,decide_eq_true (show st ≠ [] from e)]
noncomputable def uc_4:=uc_3.addSpec 39 QjP
theorem QjQ:Qh Tryz.prog s18 uc_4:=QjO.addEv Qc fun args d h=>by
 unfold QjP at h
 split at h
 · unfold QoF at h;have h1:=congrArg Prod.fst (Option.some.inj h);obtain rfl:_=d:=congrArg Prod.snd (Option.some.inj h);exact ⟨by simp [D.refs],40,Qqb _ _ _ _ _ _ h1⟩
 · cases h
theorem Qqc {n:Int} (h1:0 <= n) (h2:n <= 127):IntKind.i8.wrap n=n:=by
 simp only [IntKind.wrap,IntKind.bits,IntKind.signed];simp;omega
def OkTk (c:Int) (st:List Frame) (got:List Int) (a:Qb):Prop:=0 <= c /\ c <= 3 /\ got.length <= 96 /\ 1 <= st.length /\ st.length <= 6 /\ mayN a=true /\ 0 <= a.kind /\ a.kind <= 7 /\ (a.kind=6->st.length < 6)
theorem Qnf {a:Qb} (h:mayN a=true):a.text.length <= 640 /\ a.args.length <= 96 /\ 0 <= a.a /\ a.a <= 4095 /\ (a.kind=6->a.a <= 127):=by
 have h:=of_decide_eq_true h;have h2:=h;obtain ⟨_,_,_,_,_,_,h3,h4,h5,h6,h7⟩:=h;refine ⟨h4,h3,h5,h6,fun e=>?_⟩;rw [e] at h2;exact (MayA.k6.1 h2).2.1
noncomputable def QjR (c:Int) (fs:Bool) (st:List Frame) (e:Bool) (got:List Int) (over:Bool) (p:Int) (at':Int) (r:List Int) (k:Int) (a:Int) (b:Int) (v:Int) (g:Int) (tx:List UInt8) (ca:Bool) (ar:List Int):Option (Bool × D RC):=some (cdec (OkTk c st got ⟨k,a,b,v,g,tx,ar⟩) && !over,.tup (.acons (.acons (.int .i64 c) (.acons (.sl (C:=RC) .frame false (tkSt st ⟨p,at',r⟩ ⟨k,a,b,v,g,tx,ar⟩)) (.acons (.sl (C:=RC) .int (tkFl e ⟨k,a,b,v,g,tx,ar⟩) (Vm got ⟨k,a,b,v,g,tx,ar⟩)) (.acons (.bool (decide (tkSt st ⟨p,at',r⟩ ⟨k,a,b,v,g,tx,ar⟩=[]))) .anil)))) (.acons (.bool (decide (k < 6))) (.acons (.int .i64 0) .anil))))
noncomputable def QfA:List (D RC)->Option (Bool × D RC)
 | [.acons (.int .i64 c) (.acons (.sl .frame fs st) (.acons (.sl .int e got) (.acons (.bool over) .anil))),.acons (.int .i8 p) (.acons (.int .i64 at') (.acons (.arr .int 96 r) .anil)),.acons (.int .i8 k) (.acons (.int .i64 a) (.acons (.int .i64 b) (.acons (.int .i64 v) (.acons (.int .i64 g) (.acons (.str tx) (.acons (.sl .int ca ar) .anil))))))]=>QjR c fs st e got over p at' r k a b v g tx ca ar
 | _=>none
noncomputable def Ve (c:Int) (fs:Bool) (st:List Frame) (e:Bool) (got:List Int) (over:Bool) (p:Int) (at':Int) (r:List Int) (k:Int) (a:Int) (b:Int) (v:Int) (g:Int) (tx:List UInt8) (ca:Bool) (ar:List Int):=evF s18 uc_4 60 42 [.acons (.int .i64 c) (.acons (.sl (C:=RC) .frame fs st) (.acons (.sl (C:=RC) .int e got) (.acons (.bool over) .anil))),.acons (.int .i8 p) (.acons (.int .i64 at') (.acons (.arr (C:=RC) .int 96 r) .anil)),.acons (.int .i8 k) (.acons (.int .i64 a) (.acons (.int .i64 b) (.acons (.int .i64 v) (.acons (.int .i64 g) (.acons (.str tx) (.acons (.sl (C:=RC) .int ca ar) .anil))))))]
theorem Qqd (c:Int) (fs:Bool) (st:List Frame) (e:Bool) (got:List Int) (p at':Int) (r:List Int) (a b v g:Int) (tx:List UInt8) (ca:Bool) (ar:List Int):Ve c fs st e got false p at' r 0 a b v g tx ca ar=(let Z0:D RC:=D.int .i64 0;let Z1:D RC:=D.bool false;let Z2:DO_:=some (D.tup (D.acons (D.acons Z0 (D.acons (D.sl RTy.frame true []) (.acons (D.sl RTy.int true []) (.acons Z1 .anil)))) (.acons Z1 (D.acons (D.int .i64 2) .anil))));let Z3:Bool:=Qe st.length;let Z4:Int:=(↑st.length:Int);let Z5:Bool:=Qe tx.length && Qe ar.length;let Z6:Bool:=Yc (0:Int) a b v g tx ar;let Z7:Int:=IntKind.wrap .i64 (Z4 - (1:Int));let Z8:List Frame:=List.drop (0:Nat) (List.take Z7.toNat st);let Z9:Nat:=(0:Nat)+List.length Z8;let Z10:Nat:=List.length [Frame.mk p at' r];let Z11:List Frame:=[]++Z8++[Frame.mk p at' r];let Z12:Bool:=Nat.beq (List.length ([]++Z8)+Z10) Z11.length;let Z13:DO_:=none;let Z14:Nat:=(0:Nat)+List.length ar;bif decide (c < (0:Int)) then Z2 else bif decide ((4:Int) <= c) then Z2 else bif Qe got.length then bif decide ((96:Int) < (↑got.length:Int)) then Z2 else bif Z3 then bif decide ((1:Int) <= Z4) then bif Z3 then bif !decide (Z4 <= (6:Int)) then Z2 else bif Z5 then bif !Z6 then Z2 else bif Z3 then bif decide ((0:Int) <= (0:Int) /\ (0:Int) <= Z7 /\ Z7 <= Z4) then bif Qs Z9 (784:Nat) then bif Nat.beq Z9 ([]++Z8).length && Qs (Z9+Z10) (784:Nat) then bif Z5 then bif Z6 then bif Z12 then some (D.tup (D.acons (D.acons (D.int .i64 c) (.acons (D.sl RTy.frame false Z11) (.acons (D.sl RTy.int e got) (.acons Z1 .anil)))) (.acons (D.bool true) (.acons Z0 .anil)))) else Z13 else bif Z12 then bif decide ((0:Int) <= (0:Int) /\ (0:Int) <= Z7 /\ Z7 <= (↑Z11.length:Int)) then bif Qs Z14 (8:Nat) then bif Nat.beq Z14 ([]++ar).length then some (D.tup (D.acons (D.acons (D.int .i64 c) (.acons (D.sl RTy.frame false (List.drop (0:Nat) (List.take Z7.toNat Z11))) (.acons (D.sl RTy.int false ([]++ar)) (.acons (D.bool (Z7 == (0:Int))) .anil)))) (.acons Z1 (D.acons Z0 .anil)))) else Z13 else Z13 else Z13 else Z13 else Z13 else Z13 else Z13 else Z13 else Z13 else Z13 else Z13 else Z2 else Z13 else Z13):=by kernel_rfl
theorem Qqe (c:Int) (fs:Bool) (st:List Frame) (e:Bool) (got:List Int) (p at':Int) (r:List Int) (a b v g:Int) (tx:List UInt8) (ca:Bool) (ar:List Int):Ve c fs st e got false p at' r 1 a b v g tx ca ar=(let Z0:D RC:=D.int .i64 0;let Z1:D RC:=D.bool false;let Z2:DO_:=some (D.tup (D.acons (D.acons Z0 (D.acons (D.sl RTy.frame true []) (.acons (D.sl RTy.int true []) (.acons Z1 .anil)))) (.acons Z1 (D.acons (D.int .i64 2) .anil))));let Z3:Bool:=Qe st.length;let Z4:Int:=(↑st.length:Int);let Z5:Bool:=Qe tx.length && Qe ar.length;let Z6:Bool:=Yc (1:Int) a b v g tx ar;let Z7:Int:=IntKind.wrap .i64 (Z4 - (1:Int));let Z8:List Frame:=List.drop (0:Nat) (List.take Z7.toNat st);let Z9:Nat:=(0:Nat)+List.length Z8;let Z10:Nat:=List.length [Frame.mk p at' r];let Z11:List Frame:=[]++Z8++[Frame.mk p at' r];let Z12:Bool:=Nat.beq (List.length ([]++Z8)+Z10) Z11.length;let Z13:DO_:=none;let Z14:Nat:=(0:Nat)+List.length ar;bif decide (c < (0:Int)) then Z2 else bif decide ((4:Int) <= c) then Z2 else bif Qe got.length then bif decide ((96:Int) < (↑got.length:Int)) then Z2 else bif Z3 then bif decide ((1:Int) <= Z4) then bif Z3 then bif !decide (Z4 <= (6:Int)) then Z2 else bif Z5 then bif !Z6 then Z2 else bif Z3 then bif decide ((0:Int) <= (0:Int) /\ (0:Int) <= Z7 /\ Z7 <= Z4) then bif Qs Z9 (784:Nat) then bif Nat.beq Z9 ([]++Z8).length && Qs (Z9+Z10) (784:Nat) then bif Z5 then bif Z6 then bif Z12 then some (D.tup (D.acons (D.acons (D.int .i64 c) (.acons (D.sl RTy.frame false Z11) (.acons (D.sl RTy.int e got) (.acons Z1 .anil)))) (.acons (D.bool true) (.acons Z0 .anil)))) else Z13 else bif Z12 then bif decide ((0:Int) <= (0:Int) /\ (0:Int) <= Z7 /\ Z7 <= (↑Z11.length:Int)) then bif Qs Z14 (8:Nat) then bif Nat.beq Z14 ([]++ar).length then some (D.tup (D.acons (D.acons (D.int .i64 c) (.acons (D.sl RTy.frame false (List.drop (0:Nat) (List.take Z7.toNat Z11))) (.acons (D.sl RTy.int false ([]++ar)) (.acons (D.bool (Z7 == (0:Int))) .anil)))) (.acons Z1 (D.acons Z0 .anil)))) else Z13 else Z13 else Z13 else Z13 else Z13 else Z13 else Z13 else Z13 else Z13 else Z13 else Z13 else Z2 else Z13 else Z13):=by kernel_rfl
theorem Qqf (c:Int) (fs:Bool) (st:List Frame) (e:Bool) (got:List Int) (p at':Int) (r:List Int) (a b v g:Int) (tx:List UInt8) (ca:Bool) (ar:List Int):Ve c fs st e got false p at' r 2 a b v g tx ca ar=(let Z0:D RC:=D.int .i64 0;let Z1:D RC:=D.bool false;let Z2:DO_:=some (D.tup (D.acons (D.acons Z0 (D.acons (D.sl RTy.frame true []) (.acons (D.sl RTy.int true []) (.acons Z1 .anil)))) (.acons Z1 (D.acons (D.int .i64 2) .anil))));let Z3:Bool:=Qe st.length;let Z4:Int:=(↑st.length:Int);let Z5:Bool:=Qe tx.length && Qe ar.length;let Z6:Bool:=Yc (2:Int) a b v g tx ar;let Z7:Int:=IntKind.wrap .i64 (Z4 - (1:Int));let Z8:List Frame:=List.drop (0:Nat) (List.take Z7.toNat st);let Z9:Nat:=(0:Nat)+List.length Z8;let Z10:Nat:=List.length [Frame.mk p at' r];let Z11:List Frame:=[]++Z8++[Frame.mk p at' r];let Z12:Bool:=Nat.beq (List.length ([]++Z8)+Z10) Z11.length;let Z13:DO_:=none;let Z14:Nat:=(0:Nat)+List.length ar;bif decide (c < (0:Int)) then Z2 else bif decide ((4:Int) <= c) then Z2 else bif Qe got.length then bif decide ((96:Int) < (↑got.length:Int)) then Z2 else bif Z3 then bif decide ((1:Int) <= Z4) then bif Z3 then bif !decide (Z4 <= (6:Int)) then Z2 else bif Z5 then bif !Z6 then Z2 else bif Z3 then bif decide ((0:Int) <= (0:Int) /\ (0:Int) <= Z7 /\ Z7 <= Z4) then bif Qs Z9 (784:Nat) then bif Nat.beq Z9 ([]++Z8).length && Qs (Z9+Z10) (784:Nat) then bif Z5 then bif Z6 then bif Z12 then some (D.tup (D.acons (D.acons (D.int .i64 c) (.acons (D.sl RTy.frame false Z11) (.acons (D.sl RTy.int e got) (.acons Z1 .anil)))) (.acons (D.bool true) (.acons Z0 .anil)))) else Z13 else bif Z12 then bif decide ((0:Int) <= (0:Int) /\ (0:Int) <= Z7 /\ Z7 <= (↑Z11.length:Int)) then bif Qs Z14 (8:Nat) then bif Nat.beq Z14 ([]++ar).length then some (D.tup (D.acons (D.acons (D.int .i64 c) (.acons (D.sl RTy.frame false (List.drop (0:Nat) (List.take Z7.toNat Z11))) (.acons (D.sl RTy.int false ([]++ar)) (.acons (D.bool (Z7 == (0:Int))) .anil)))) (.acons Z1 (D.acons Z0 .anil)))) else Z13 else Z13 else Z13 else Z13 else Z13 else Z13 else Z13 else Z13 else Z13 else Z13 else Z13 else Z2 else Z13 else Z13):=by kernel_rfl
theorem Qqg (c:Int) (fs:Bool) (st:List Frame) (e:Bool) (got:List Int) (p at':Int) (r:List Int) (a b v g:Int) (tx:List UInt8) (ca:Bool) (ar:List Int):Ve c fs st e got false p at' r 3 a b v g tx ca ar=(let Z0:D RC:=D.int .i64 0;let Z1:D RC:=D.bool false;let Z2:DO_:=some (D.tup (D.acons (D.acons Z0 (D.acons (D.sl RTy.frame true []) (.acons (D.sl RTy.int true []) (.acons Z1 .anil)))) (.acons Z1 (D.acons (D.int .i64 2) .anil))));let Z3:Bool:=Qe st.length;let Z4:Int:=(↑st.length:Int);let Z5:Bool:=Qe tx.length && Qe ar.length;let Z6:Bool:=Yc (3:Int) a b v g tx ar;let Z7:Int:=IntKind.wrap .i64 (Z4 - (1:Int));let Z8:List Frame:=List.drop (0:Nat) (List.take Z7.toNat st);let Z9:Nat:=(0:Nat)+List.length Z8;let Z10:Nat:=List.length [Frame.mk p at' r];let Z11:List Frame:=[]++Z8++[Frame.mk p at' r];let Z12:Bool:=Nat.beq (List.length ([]++Z8)+Z10) Z11.length;let Z13:DO_:=none;let Z14:Nat:=(0:Nat)+List.length ar;bif decide (c < (0:Int)) then Z2 else bif decide ((4:Int) <= c) then Z2 else bif Qe got.length then bif decide ((96:Int) < (↑got.length:Int)) then Z2 else bif Z3 then bif decide ((1:Int) <= Z4) then bif Z3 then bif !decide (Z4 <= (6:Int)) then Z2 else bif Z5 then bif !Z6 then Z2 else bif Z3 then bif decide ((0:Int) <= (0:Int) /\ (0:Int) <= Z7 /\ Z7 <= Z4) then bif Qs Z9 (784:Nat) then bif Nat.beq Z9 ([]++Z8).length && Qs (Z9+Z10) (784:Nat) then bif Z5 then bif Z6 then bif Z12 then some (D.tup (D.acons (D.acons (D.int .i64 c) (.acons (D.sl RTy.frame false Z11) (.acons (D.sl RTy.int e got) (.acons Z1 .anil)))) (.acons (D.bool true) (.acons Z0 .anil)))) else Z13 else bif Z12 then bif decide ((0:Int) <= (0:Int) /\ (0:Int) <= Z7 /\ Z7 <= (↑Z11.length:Int)) then bif Qs Z14 (8:Nat) then bif Nat.beq Z14 ([]++ar).length then some (D.tup (D.acons (D.acons (D.int .i64 c) (.acons (D.sl RTy.frame false (List.drop (0:Nat) (List.take Z7.toNat Z11))) (.acons (D.sl RTy.int false ([]++ar)) (.acons (D.bool (Z7 == (0:Int))) .anil)))) (.acons Z1 (D.acons Z0 .anil)))) else Z13 else Z13 else Z13 else Z13 else Z13 else Z13 else Z13 else Z13 else Z13 else Z13 else Z13 else Z2 else Z13 else Z13):=by kernel_rfl
theorem Qqh (c:Int) (fs:Bool) (st:List Frame) (e:Bool) (got:List Int) (p at':Int) (r:List Int) (a b v g:Int) (tx:List UInt8) (ca:Bool) (ar:List Int):Ve c fs st e got false p at' r 4 a b v g tx ca ar=(let Z0:D RC:=D.int .i64 0;let Z1:D RC:=D.bool false;let Z2:DO_:=some (D.tup (D.acons (D.acons Z0 (D.acons (D.sl RTy.frame true []) (.acons (D.sl RTy.int true []) (.acons Z1 .anil)))) (.acons Z1 (D.acons (D.int .i64 2) .anil))));let Z3:Bool:=Qe st.length;let Z4:Int:=(↑st.length:Int);let Z5:Bool:=Qe tx.length && Qe ar.length;let Z6:Bool:=Yc (4:Int) a b v g tx ar;let Z7:Int:=IntKind.wrap .i64 (Z4 - (1:Int));let Z8:List Frame:=List.drop (0:Nat) (List.take Z7.toNat st);let Z9:Nat:=(0:Nat)+List.length Z8;let Z10:Nat:=List.length [Frame.mk p at' r];let Z11:List Frame:=[]++Z8++[Frame.mk p at' r];let Z12:Bool:=Nat.beq (List.length ([]++Z8)+Z10) Z11.length;let Z13:DO_:=none;let Z14:Nat:=(0:Nat)+List.length ar;bif decide (c < (0:Int)) then Z2 else bif decide ((4:Int) <= c) then Z2 else bif Qe got.length then bif decide ((96:Int) < (↑got.length:Int)) then Z2 else bif Z3 then bif decide ((1:Int) <= Z4) then bif Z3 then bif !decide (Z4 <= (6:Int)) then Z2 else bif Z5 then bif !Z6 then Z2 else bif Z3 then bif decide ((0:Int) <= (0:Int) /\ (0:Int) <= Z7 /\ Z7 <= Z4) then bif Qs Z9 (784:Nat) then bif Nat.beq Z9 ([]++Z8).length && Qs (Z9+Z10) (784:Nat) then bif Z5 then bif Z6 then bif Z12 then some (D.tup (D.acons (D.acons (D.int .i64 c) (.acons (D.sl RTy.frame false Z11) (.acons (D.sl RTy.int e got) (.acons Z1 .anil)))) (.acons (D.bool true) (.acons Z0 .anil)))) else Z13 else bif Z12 then bif decide ((0:Int) <= (0:Int) /\ (0:Int) <= Z7 /\ Z7 <= (↑Z11.length:Int)) then bif Qs Z14 (8:Nat) then bif Nat.beq Z14 ([]++ar).length then some (D.tup (D.acons (D.acons (D.int .i64 c) (.acons (D.sl RTy.frame false (List.drop (0:Nat) (List.take Z7.toNat Z11))) (.acons (D.sl RTy.int false ([]++ar)) (.acons (D.bool (Z7 == (0:Int))) .anil)))) (.acons Z1 (D.acons Z0 .anil)))) else Z13 else Z13 else Z13 else Z13 else Z13 else Z13 else Z13 else Z13 else Z13 else Z13 else Z13 else Z2 else Z13 else Z13):=by kernel_rfl
theorem Qqi (c:Int) (fs:Bool) (st:List Frame) (e:Bool) (got:List Int) (p at':Int) (r:List Int) (a b v g:Int) (tx:List UInt8) (ca:Bool) (ar:List Int):Ve c fs st e got false p at' r 5 a b v g tx ca ar=(let Z0:D RC:=D.int .i64 0;let Z1:D RC:=D.bool false;let Z2:DO_:=some (D.tup (D.acons (D.acons Z0 (D.acons (D.sl RTy.frame true []) (.acons (D.sl RTy.int true []) (.acons Z1 .anil)))) (.acons Z1 (D.acons (D.int .i64 2) .anil))));let Z3:Bool:=Qe st.length;let Z4:Int:=(↑st.length:Int);let Z5:Bool:=Qe tx.length && Qe ar.length;let Z6:Bool:=Yc (5:Int) a b v g tx ar;let Z7:Int:=IntKind.wrap .i64 (Z4 - (1:Int));let Z8:List Frame:=List.drop (0:Nat) (List.take Z7.toNat st);let Z9:Nat:=(0:Nat)+List.length Z8;let Z10:Nat:=List.length [Frame.mk p at' r];let Z11:List Frame:=[]++Z8++[Frame.mk p at' r];let Z12:Bool:=Nat.beq (List.length ([]++Z8)+Z10) Z11.length;let Z13:DO_:=none;let Z14:Nat:=(0:Nat)+List.length ar;bif decide (c < (0:Int)) then Z2 else bif decide ((4:Int) <= c) then Z2 else bif Qe got.length then bif decide ((96:Int) < (↑got.length:Int)) then Z2 else bif Z3 then bif decide ((1:Int) <= Z4) then bif Z3 then bif !decide (Z4 <= (6:Int)) then Z2 else bif Z5 then bif !Z6 then Z2 else bif Z3 then bif decide ((0:Int) <= (0:Int) /\ (0:Int) <= Z7 /\ Z7 <= Z4) then bif Qs Z9 (784:Nat) then bif Nat.beq Z9 ([]++Z8).length && Qs (Z9+Z10) (784:Nat) then bif Z5 then bif Z6 then bif Z12 then some (D.tup (D.acons (D.acons (D.int .i64 c) (.acons (D.sl RTy.frame false Z11) (.acons (D.sl RTy.int e got) (.acons Z1 .anil)))) (.acons (D.bool true) (.acons Z0 .anil)))) else Z13 else bif Z12 then bif decide ((0:Int) <= (0:Int) /\ (0:Int) <= Z7 /\ Z7 <= (↑Z11.length:Int)) then bif Qs Z14 (8:Nat) then bif Nat.beq Z14 ([]++ar).length then some (D.tup (D.acons (D.acons (D.int .i64 c) (.acons (D.sl RTy.frame false (List.drop (0:Nat) (List.take Z7.toNat Z11))) (.acons (D.sl RTy.int false ([]++ar)) (.acons (D.bool (Z7 == (0:Int))) .anil)))) (.acons Z1 (D.acons Z0 .anil)))) else Z13 else Z13 else Z13 else Z13 else Z13 else Z13 else Z13 else Z13 else Z13 else Z13 else Z13 else Z2 else Z13 else Z13):=by kernel_rfl
theorem Qqj (c:Int) (fs:Bool) (st:List Frame) (e:Bool) (got:List Int) (p at':Int) (r:List Int) (a b v g:Int) (tx:List UInt8) (ca:Bool) (ar:List Int):Ve c fs st e got false p at' r 6 a b v g tx ca ar=(let Z0:D RC:=D.int .i64 0;let Z1:D RC:=D.bool false;let Z2:D RC:=D.acons (D.sl RTy.int true []) (.acons Z1 .anil);let Z3:D RC:=D.acons Z0 (D.acons (D.sl RTy.frame true []) Z2);let Z4:DO_:=some (D.tup (D.acons Z3 (D.acons Z1 (D.acons (D.int .i64 2) .anil))));let Z5:Bool:=Qe st.length;let Z6:Int:=(↑st.length:Int);let Z7:Bool:=Qe tx.length && Qe ar.length;let Z8:Bool:=Yc (6:Int) a b v g tx ar;let Z9:Int:=IntKind.wrap .i64 (Z6 - (1:Int));let Z10:List Frame:=List.drop (0:Nat) (List.take Z9.toNat st);let Z11:Nat:=(0:Nat)+List.length Z10;let Z12:Nat:=List.length ([]++Z10);let Z13:Nat:=List.length [Frame.mk p at' r];let Z14:Nat:=Z12+Z13;let Z15:List Frame:=[]++Z10++[Frame.mk p at' r];let Z16:List Frame:=[Frame.mk (IntKind.wrap IntKind.i8 a) (0:Int) (regs1 ar)];let Z17:DO_:=none;let Z18:DO_:=bif Qe Z14 then bif decide ((6:Int) <= (↑Z14:Int)) then some (D.tup (D.acons Z3 (D.acons Z1 (D.acons (D.int .i64 3) .anil)))) else bif decide (List.length ar <= (96:Nat)) then bif Nat.beq Z14 Z15.length && Qs (Z14+List.length Z16) (784:Nat) then bif Nat.beq (List.length Z15+List.length Z16) (Z15++Z16).length then some (D.tup (D.acons (D.acons (D.int .i64 c) (.acons (D.sl RTy.frame false (Z15++Z16)) Z2)) (.acons Z1 (D.acons Z0 .anil)))) else Z17 else Z17 else Z17 else Z17;bif decide (c < (0:Int)) then Z4 else bif decide ((4:Int) <= c) then Z4 else bif Qe got.length then bif decide ((96:Int) < (↑got.length:Int)) then Z4 else bif Z5 then bif decide ((1:Int) <= Z6) then bif Z5 then bif !decide (Z6 <= (6:Int)) then Z4 else bif Z7 then bif !Z8 then Z4 else bif Z5 then bif decide ((0:Int) <= (0:Int) /\ (0:Int) <= Z9 /\ Z9 <= Z6) then bif Qs Z11 (784:Nat) then bif Nat.beq Z11 Z12 && Qs (Z11+Z13) (784:Nat) then bif Z7 then bif Z8 then Z18 else Z18 else Z17 else Z17 else Z17 else Z17 else Z17 else Z17 else Z17 else Z4 else Z17 else Z17):=by kernel_rfl
theorem Qqk (c:Int) (fs:Bool) (st:List Frame) (e:Bool) (got:List Int) (p at':Int) (r:List Int) (a b v g:Int) (tx:List UInt8) (ca:Bool) (ar:List Int):Ve c fs st e got false p at' r 7 a b v g tx ca ar=(let Z0:D RC:=D.int .i64 0;let Z1:D RC:=D.bool false;let Z2:DO_:=some (D.tup (D.acons (D.acons Z0 (D.acons (D.sl RTy.frame true []) (.acons (D.sl RTy.int true []) (.acons Z1 .anil)))) (.acons Z1 (D.acons (D.int .i64 2) .anil))));let Z3:Bool:=Qe st.length;let Z4:Int:=(↑st.length:Int);let Z5:Bool:=Qe tx.length && Qe ar.length;let Z6:Bool:=Yc (7:Int) a b v g tx ar;let Z7:Int:=IntKind.wrap .i64 (Z4 - (1:Int));let Z8:List Frame:=List.drop (0:Nat) (List.take Z7.toNat st);let Z9:Nat:=(0:Nat)+List.length Z8;let Z10:Nat:=List.length [Frame.mk p at' r];let Z11:List Frame:=[]++Z8++[Frame.mk p at' r];let Z12:Nat:=(0:Nat)+List.length ar;let Z13:DO_:=none;let Z14:DO_:=bif Nat.beq (List.length ([]++Z8)+Z10) Z11.length then bif decide ((0:Int) <= (0:Int) /\ (0:Int) <= Z7 /\ Z7 <= (↑Z11.length:Int)) then bif Qs Z12 (8:Nat) then bif Nat.beq Z12 ([]++ar).length then some (D.tup (D.acons (D.acons (D.int .i64 c) (.acons (D.sl RTy.frame false (List.drop (0:Nat) (List.take Z7.toNat Z11))) (.acons (D.sl RTy.int false ([]++ar)) (.acons (D.bool (Z7 == (0:Int))) .anil)))) (.acons Z1 (D.acons Z0 .anil)))) else Z13 else Z13 else Z13 else Z13;bif decide (c < (0:Int)) then Z2 else bif decide ((4:Int) <= c) then Z2 else bif Qe got.length then bif decide ((96:Int) < (↑got.length:Int)) then Z2 else bif Z3 then bif decide ((1:Int) <= Z4) then bif Z3 then bif !decide (Z4 <= (6:Int)) then Z2 else bif Z5 then bif !Z6 then Z2 else bif Z3 then bif decide ((0:Int) <= (0:Int) /\ (0:Int) <= Z7 /\ Z7 <= Z4) then bif Qs Z9 (784:Nat) then bif Nat.beq Z9 ([]++Z8).length && Qs (Z9+Z10) (784:Nat) then bif Z5 then bif Z6 then Z14 else Z14 else Z13 else Z13 else Z13 else Z13 else Z13 else Z13 else Z13 else Z2 else Z13 else Z13):=by kernel_rfl
theorem Qng (c:Int) (fs:Bool) (st:List Frame) (e:Bool) (got:List Int) (over:Bool) (p:Int) (at':Int) (r:List Int) (k:Int) (a:Int) (b:Int) (v:Int) (g:Int) (tx:List UInt8) (ca:Bool) (ar:List Int) (h:(cdec (OkTk c st got ⟨k,a,b,v,g,tx,ar⟩) && !over)=true):Ve c fs st e got over p at' r k a b v g tx ca ar=some (.tup (.acons (.acons (.int .i64 c) (.acons (.sl (C:=RC) .frame false (tkSt st ⟨p,at',r⟩ ⟨k,a,b,v,g,tx,ar⟩)) (.acons (.sl (C:=RC) .int (tkFl e ⟨k,a,b,v,g,tx,ar⟩) (Vm got ⟨k,a,b,v,g,tx,ar⟩)) (.acons (.bool (decide (tkSt st ⟨p,at',r⟩ ⟨k,a,b,v,g,tx,ar⟩=[]))) .anil)))) (.acons (.bool (decide (k < 6))) (.acons (.int .i64 0) .anil)))):=by
 rw [Bool.and_eq_true,Bool.not_eq_true'] at h;obtain ⟨h,rfl⟩:=h;obtain ⟨h1,h2,h3,h4,h5,h6,h7,h8,h9⟩:=QG.1 h;have m1:Yc k a b v g tx ar=true:=h6;obtain ⟨n1,n2,n3,n4,n5⟩:=Qnf h6;simp only at n1 n2 n3 n4 n5 h7 h8 h9;have c1:decide (c < 0)=false:=decide_eq_false (by omega)
 have c2:decide (4 <= c)=false:=decide_eq_false (by omega)
 have c3:decide ((96:Int) < (got.length:Int))=false:=decide_eq_false (by omega)
 have c4:Qe got.length=true:=Qu (by omega)
 have c5:Qe st.length=true:=Qu (by omega)
 have c6:decide ((1:Int) <= (st.length:Int))=true:=decide_eq_true (by omega)
 have c7:decide ((st.length:Int) <= 6)=true:=decide_eq_true (by omega)
 have c8:Qe tx.length=true:=Qu (by omega)
 have c9:Qe ar.length=true:=Qu (by omega)
 have w1:IntKind.i64.wrap ((st.length:Int) - 1)=(st.length:Int) - 1:=Qq (by omega) (by omega)
 have t1:((st.length:Int) - 1).toNat=st.length - 1:=by omega
 have e0:List.take (st.length - 1) st=st.dropLast:=(List.dropLast_eq_take ..).symm;have e1:st.dropLast.length=st.length - 1:=List.length_dropLast;have e2:∀ x:Frame,List.take (st.length - 1) (st.dropLast++[x])=st.dropLast:=fun x=>by rw [<- e1,List.take_left]
 have f1:decide ((0:Int) <= 0 /\ 0 <= (st.length:Int) - 1 /\ (st.length:Int) - 1 <= (st.length:Int))=true:=decide_eq_true ⟨by omega,by omega,by omega⟩
 have f2:Qs (0+st.dropLast.length) 784=true:=QiH (by omega)
 have f3:Nat.beq (0+st.dropLast.length) st.dropLast.length=true:=QcE (by omega)
 have f4:∀ x:Frame,Qs (0+st.dropLast.length+[x].length) 784=true:=fun x=>QiH (by simp only [List.length_cons,List.length_nil];omega)
 have f5:∀ x:Frame,Nat.beq (st.dropLast.length+[x].length) (st.dropLast++[x]).length=true:=fun x=>QcE (by simp)
 have f6:∀ x:Frame,decide ((0:Int) <= 0 /\ 0 <= (st.length:Int) - 1 /\ (st.length:Int) - 1 <= ((st.dropLast++[x]).length:Int))=true:=fun x=>decide_eq_true ⟨by omega,by omega,by simp only [List.length_append,List.length_cons,List.length_nil,e1];omega⟩
 have f7:Qs (0+ar.length) 8=true:=QiH (by omega)
 have f8:Nat.beq (0+ar.length) ar.length=true:=QcE (by omega)
 have f9:∀ x:Frame,Qe (st.dropLast.length+[x].length)=true:=fun x=>Qu (by simp only [List.length_cons,List.length_nil];omega)
 have g1:decide (ar.length <= 96)=true:=decide_eq_true n2;have g2:∀ x y:Frame,Qs (st.dropLast.length+[x].length+[y].length) 784=true:=fun x y=>QiH (by simp only [List.length_cons,List.length_nil];omega)
 have g3:∀ x y:Frame,Nat.beq ((st.dropLast++[x]).length+[y].length) (st.dropLast++[x]++[y]).length=true:=fun x y=>QcE (by simp)
 have g4:decide ((st.dropLast:List Frame)=[])=((st.length:Int) - 1 == 0):=by
  by_cases q:st.length=1
  · rw [decide_eq_true (List.eq_nil_of_length_eq_zero (by omega)),Qrz (by omega)]
  · rw [decide_eq_false (fun e=>q (by have:=congrArg List.length e;simp only [e1,List.length_nil] at this;omega)),Qpy (by omega)]
 have g5:∀ x:Frame,decide (st.dropLast++[x]=[])=false:=fun x=>decide_eq_false (by simp)
 have g6:∀ x y:Frame,decide (st.dropLast++[x,y]=[])=false:=fun x y=>decide_eq_false (by simp)
 have hs:k=0 \/ k=1 \/ k=2 \/ k=3 \/ k=4 \/ k=5 \/ k=6 \/ k=7:=by omega
 rcases hs with rfl | rfl | rfl | rfl | rfl | rfl | rfl | rfl
 · (rw [Qqd];conv=>zeta)
   simp only [c1,c2,c3,c4,c5,c6,c7,c8,c9,w1,t1,m1,List.drop_zero,List.nil_append,e0,f1,f2,f3,f4,f5,cond_true,cond_false,Bool.not_true,Bool.and_self];rw [show tkSt st ⟨p,at',r⟩ ⟨0,a,b,v,g,tx,ar⟩=st.dropLast++[⟨p,at',r⟩] from rfl,g5];rfl
 · (rw [Qqe];conv=>zeta)
   simp only [c1,c2,c3,c4,c5,c6,c7,c8,c9,w1,t1,m1,List.drop_zero,List.nil_append,e0,f1,f2,f3,f4,f5,cond_true,cond_false,Bool.not_true,Bool.and_self];rw [show tkSt st ⟨p,at',r⟩ ⟨1,a,b,v,g,tx,ar⟩=st.dropLast++[⟨p,at',r⟩] from rfl,g5];rfl
 · (rw [Qqf];conv=>zeta)
   simp only [c1,c2,c3,c4,c5,c6,c7,c8,c9,w1,t1,m1,List.drop_zero,List.nil_append,e0,f1,f2,f3,f4,f5,cond_true,cond_false,Bool.not_true,Bool.and_self];rw [show tkSt st ⟨p,at',r⟩ ⟨2,a,b,v,g,tx,ar⟩=st.dropLast++[⟨p,at',r⟩] from rfl,g5];rfl
 · (rw [Qqg];conv=>zeta)
   simp only [c1,c2,c3,c4,c5,c6,c7,c8,c9,w1,t1,m1,List.drop_zero,List.nil_append,e0,f1,f2,f3,f4,f5,cond_true,cond_false,Bool.not_true,Bool.and_self];rw [show tkSt st ⟨p,at',r⟩ ⟨3,a,b,v,g,tx,ar⟩=st.dropLast++[⟨p,at',r⟩] from rfl,g5];rfl
 · (rw [Qqh];conv=>zeta)
   simp only [c1,c2,c3,c4,c5,c6,c7,c8,c9,w1,t1,m1,List.drop_zero,List.nil_append,e0,f1,f2,f3,f4,f5,cond_true,cond_false,Bool.not_true,Bool.and_self];rw [show tkSt st ⟨p,at',r⟩ ⟨4,a,b,v,g,tx,ar⟩=st.dropLast++[⟨p,at',r⟩] from rfl,g5];rfl
 · (rw [Qqi];conv=>zeta)
   simp only [c1,c2,c3,c4,c5,c6,c7,c8,c9,w1,t1,m1,List.drop_zero,List.nil_append,e0,f1,f2,f3,f4,f5,cond_true,cond_false,Bool.not_true,Bool.and_self];rw [show tkSt st ⟨p,at',r⟩ ⟨5,a,b,v,g,tx,ar⟩=st.dropLast++[⟨p,at',r⟩] from rfl,g5];rfl
 · have h9:=h9 rfl;have n5:=n5 rfl;have g7:∀ x:Frame,decide ((6:Int) <= ((st.dropLast.length+[x].length:Nat):Int))=false:=fun x=>decide_eq_false (by simp only [List.length_cons,List.length_nil,e1];omega)
   have g8:IntKind.i8.wrap a=a:=Qqc n3 n5
   (rw [Qqj];conv=>zeta)
   simp only [c1,c2,c3,c4,c5,c6,c7,c8,c9,w1,t1,m1,List.drop_zero,List.nil_append,e0,f1,f2,f3,f4,f5,f9,g1,g2,g3,g7,g8,cond_true,cond_false,Bool.not_true,Bool.and_self];rw [show tkSt st ⟨p,at',r⟩ ⟨6,a,b,v,g,tx,ar⟩=st.dropLast++[⟨p,at',r⟩,⟨a,0,regs1 ar⟩] from rfl,g6,List.append_assoc];rfl
 · (rw [Qqk];conv=>zeta)
   simp only [c1,c2,c3,c4,c5,c6,c7,c8,c9,w1,t1,m1,List.drop_zero,List.nil_append,e0,e2,f1,f2,f3,f4,f5,f6,f7,f8,cond_true,cond_false,Bool.not_true,Bool.and_self];rw [show tkSt st ⟨p,at',r⟩ ⟨7,a,b,v,g,tx,ar⟩=st.dropLast from rfl,g4];rfl
noncomputable def uc_5:=uc_4.addSpec 42 QfA
theorem QjS:Qh Tryz.prog s18 uc_5:=QjQ.addEv Qc fun args d h=>by
 unfold QfA at h
 split at h
 · unfold QjR at h;have h1:=congrArg Prod.fst (Option.some.inj h);obtain rfl:_=d:=congrArg Prod.snd (Option.some.inj h);exact ⟨by simp [D.refs],60,Qng _ _ _ _ _ _ _ _ _ _ _ _ _ _ _ _ _ h1⟩
 · cases h
structure Qc6 where
 c:Bool
 l:List Int
 d:Bool
 m:List Int
 i:Nat
def QbC (c:Bool) (l:List Int) (d:Bool) (m:List Int) (i:Nat):Env RC:=[(0,.sl (C:=RC) .int c l),(1,.sl (C:=RC) .int d m),(4,.bool false),(5,.int .i64 (i:Int))]
def Kt (c:Bool) (l:List Int) (d:Bool) (m:List Int) (i:Nat):List (Obj RC):=[]
noncomputable def QfB (c:Bool) (l:List Int) (d:Bool) (m:List Int) (i:Nat):=rndO s18 uc_5 43 4 40 0 [0,1,4,5] [4] [] (QbC c l d m i) (Kt c l d m i)
theorem QjT (c:Bool) (l:List Int) (d:Bool) (m:List Int) (i:Nat):QfB c l d m i=(let Z0:Int:=(↑i:Int);bif Qe l.length then bif decide (Z0 < (↑l.length:Int)) then bif decide ((0:Int) <= Z0 /\ Z0 < (↑l.length:Int)) then bif decide ((0:Int) <= Z0 /\ Z0 < (↑m.length:Int)) then bif List.getD l Z0.toNat (0:Int) != List.getD m Z0.toNat (0:Int) then some ((X.ret,[(4,D.bool false)]),[]) else some ((X.normal,[(0,D.sl RTy.int c l),(1,D.sl RTy.int d m),(4,D.bool false),(5,D.int .i64 (IntKind.wrap .i64 (Z0+(1:Int))))]),[]) else none else none else some ((X.exit (0:Nat),[(4,D.bool false)]),[]) else none):=by kernel_rfl
def YS (c:Bool) (l:List Int) (d:Bool) (m:List Int) (i:Nat):RT RC:=.br (decide (l.drop i=m.drop i)) (.leaf (.exit 0) [(4,.bool false)] []) (.leaf .ret [(4,.bool false)] [])
def YT (c:Bool) (l:List Int) (d:Bool) (m:List Int) (i:Nat):Prop:=i <= l.length /\ l.length <= 9223372036854775807 /\ l.length=m.length
def Yd:QV RC Qc6 where
 k:=0
 canon q:=QbC q.c q.l q.d q.m q.i
 objs q:=Kt q.c q.l q.d q.m q.i
 fin q:=YS q.c q.l q.d q.m q.i
 Inv q:=YT q.c q.l q.d q.m q.i
 μ q:=q.l.length - q.i
theorem Qc7 (c:Bool) (l:List Int) (d:Bool) (m:List Int) (i:Nat) (hI:YT c l d m i):Leaf (QfB c l d m i) (LedR Yd ⟨c,l,d,m,i⟩):=by
 (rw [QjT];conv=>zeta)
 unfold YT at hI;obtain ⟨h1,h2,h3⟩:=hI;have hlk:=Qu h2;rw [hlk];simp only [cond_true]
 by_cases hlt:i < l.length
 · have w_succ:IntKind.i64.wrap ((i:Int)+1)=((i+1:Nat):Int):=by rw [Qq (by omega) (by omega)];simp
   have d_lt:decide ((i:Int) < l.length)=true:=by simp;omega
   have d_in:decide (0 <= (i:Int) /\ (i:Int) < l.length)=true:=by simp;omega
   have t_nat:((i:Int)).toNat=i:=by simp
   simp only [w_succ,d_lt,d_in,t_nat,cond_true];have hlt':i < m.length:=by omega
   have d_in':decide (0 <= (i:Int) /\ (i:Int) < m.length)=true:=by simp;omega
   have hst:=QaL l m i (0:Int) hlt h3;simp only [d_in',cond_true];generalize l.getD i (0:Int)=x at hst ⊢;generalize m.getD i (0:Int)=y at hst ⊢
   by_cases hxy:x=y
   · simp only [QiG hxy,cond_false];exact QL ⟨c,l,d,m,i+1⟩ ⟨hlt,h2,h3⟩ (by simp only [Yd];omega) (by simp only [Yd,YS,hst,hxy,decide_true,Bool.true_and]) rfl rfl
   · simp only [QmB hxy,cond_true];exact Zy [] (by simp [Yd,YS,hst,hxy,RT.val]) rfl
 · have hi:i=l.length:=by omega
   have c1:decide ((i:Int) < l.length)=false:=by simp;omega
   simp only [c1,cond_false];exact QA [] (by simp only [Yd,YS,QcG l m i (by omega) (by omega),RT.val,cond_true]) rfl
def QbD (env:Env RC) (os:List (Obj RC)):Option (Bool × Qc6):=match env,os with
 | [(0,.sl .int c l),(1,.sl .int d m),(4,.bool false),(5,.int .i64 x0)],[]=>QO (true) (decide (x0=0) && decide (l.length <= 9223372036854775807 /\ l.length=m.length),⟨c,l,d,m,0⟩)
 | _,_=>none
noncomputable def uc_6:=uc_5.addLoop 43 4 (sumR s18 [] [0,1,4,5] Yd QbD)
theorem QjU:Qh Tryz.prog s18 uc_6:=by
 refine QjS.addRoundsR Qc (by kernel_rfl) Yd 40 [0,1,4,5] [4] [] [0,1,4,5] QbD (fun q hI=>?_) ?_
 · obtain ⟨c,l,d,m,i⟩:=q;refine ⟨?_,?_,Qc7 c l d m i hI⟩
   · simp_all [Qj,Yd,QbC,Kt,YT,D.refs,Obj.refs,rEnc]
   · simp_all [Yd,YS,Kt,YT,RT.refsOK,Qj,D.refs,Obj.refs,rEnc]
 · intro env os b q hd_ hb;unfold QbD at hd_
   split at hd_
   · obtain ⟨hs,hd_⟩:=Qg hd_;cases hd_;simp only [Bool.and_eq_true,decide_eq_true_eq] at hb;obtain ⟨⟨rfl,rfl⟩,hl⟩:=hb;exact ⟨⟨Nat.zero_le _,hl.1,hl.2⟩,rfl,rfl⟩
   · cases hd_
def QjV (c:Bool) (l:List Int) (d:Bool) (m:List Int):Option (Bool × D RC):=some (Qe l.length && Qe m.length,.bool (decide (l=m)))
def QfC:List (D RC)->Option (Bool × D RC)
 | [.sl .int c l,.sl .int d m]=>QjV c l d m
 | _=>none
noncomputable def QjW (c:Bool) (l:List Int) (d:Bool) (m:List Int):=evF s18 uc_6 40 43 [.sl (C:=RC) .int c l,.sl (C:=RC) .int d m]
theorem Qnh (c:Bool) (l:List Int) (d:Bool) (m:List Int):QjW c l d m=(let Z0:Nat:=List.length l;let Z1:Nat:=List.length m;bif Qe Z0 then bif Qe Z1 then bif (↑Z0:Int) != (↑Z1:Int) then some (D.bool false) else bif decide (Z0 <= (9223372036854775807:Nat) /\ Z0=Z1) then bif decide (List.drop (0:Nat) l=List.drop (0:Nat) m) then some (D.bool true) else some (D.bool false) else none else none else none):=by kernel_rfl
theorem Qni (c:Bool) (l:List Int) (d:Bool) (m:List Int) (h:(Qe l.length && Qe m.length)=true):QjW c l d m=some (.bool (decide (l=m))):=by
 (rw [Qnh];conv=>zeta)
 simp only [Bool.and_eq_true] at h;have h1:l.length <= 9223372036854775807:=Jo h.1;simp only [h.1,h.2,cond_true]
 by_cases hl:l.length=m.length
 · have e1:((l.length:Int) != (m.length:Int))=false:=by simp [hl]
   have e2:(l.length <= 9223372036854775807 /\ l.length=m.length):=⟨h1,hl⟩;rw [e1,decide_eq_true e2];simp only [cond_true,cond_false,List.drop_zero];cases decide (l=m) <;> rfl
 · have e1:((l.length:Int) != (m.length:Int))=true:=by simp;omega
   have:¬ l=m:=fun e=>hl (by rw [e])
   simp [e1,this]
noncomputable def uc_7:=uc_6.addSpec 43 QfC
theorem QjX:Qh Tryz.prog s18 uc_7:=QjU.addEv Qc fun args d h=>by
 unfold QfC at h
 split at h
 · unfold QjV at h;have h1:=congrArg Prod.fst (Option.some.inj h);obtain rfl:_=d:=congrArg Prod.snd (Option.some.inj h);exact ⟨by simp [D.refs],40,Qni _ _ _ _ h1⟩
 · cases h
def QoH (c:Int) (f:Bool) (st:List Frame) (e:Bool) (got:List Int) (over:Bool) (x:Int):Option (Bool × D RC):=some (decide (0 <= c /\ c <= 3 /\ got.length <= 96 /\ 1 <= st.length /\ st.length <= 6) && !over,.tup (.acons (.acons (.int .i64 c) (.acons (.sl (C:=RC) .frame f st) (.acons (.sl (C:=RC) .int true [x]) (.acons (.bool over) .anil)))) (.acons (.int .i64 0) .anil)))
def QjY:List (D RC)->Option (Bool × D RC)
 | [.acons (.int .i64 c) (.acons (.sl .frame f st) (.acons (.sl .int e got) (.acons (.bool over) .anil))),.int .i64 x]=>QoH c f st e got over x
 | _=>none
noncomputable def QoI (c:Int) (f:Bool) (st:List Frame) (e:Bool) (got:List Int) (over:Bool) (x:Int):=evF s18 uc_7 40 27 [.acons (.int .i64 c) (.acons (.sl (C:=RC) .frame f st) (.acons (.sl (C:=RC) .int e got) (.acons (.bool over) .anil))),.int .i64 x]
theorem Qql (c:Int) (f:Bool) (st:List Frame) (e:Bool) (got:List Int) (over:Bool) (x:Int):QoI c f st e got over x=(let Z0:D RC:=D.int .i64 0;let Z1:DO_:=some (D.tup (D.acons (D.acons Z0 (D.acons (D.sl RTy.frame true []) (.acons (D.sl RTy.int true []) (.acons (D.bool false) .anil)))) (.acons (D.int .i64 2) .anil)));let Z2:Bool:=Qe st.length;let Z3:Int:=(↑st.length:Int);let Z4:DO_:=bif over then Z1 else some (D.tup (D.acons (D.acons (D.int .i64 c) (.acons (D.sl RTy.frame f st) (.acons (D.sl RTy.int true [x]) (.acons (D.bool over) .anil)))) (.acons Z0 .anil)));bif decide (c < (0:Int)) then Z1 else bif decide ((4:Int) <= c) then Z1 else bif Qe got.length then bif decide ((96:Int) < (↑got.length:Int)) then Z1 else bif over then bif Z2 then bif !Z3 == (0:Int) then Z1 else Z4 else none else bif Z2 then bif decide ((1:Int) <= Z3) then bif Z2 then bif !decide (Z3 <= (6:Int)) then Z1 else Z4 else none else Z1 else none else none):=by kernel_rfl
theorem Qqm (c:Int) (f:Bool) (st:List Frame) (e:Bool) (got:List Int) (over:Bool) (x:Int) (h:(decide (0 <= c /\ c <= 3 /\ got.length <= 96 /\ 1 <= st.length /\ st.length <= 6) && !over)=true):QoI c f st e got over x=some (.tup (.acons (.acons (.int .i64 c) (.acons (.sl (C:=RC) .frame f st) (.acons (.sl (C:=RC) .int true [x]) (.acons (.bool over) .anil)))) (.acons (.int .i64 0) .anil))):=by
 (rw [Qql];conv=>zeta)
 simp only [Bool.and_eq_true,decide_eq_true_eq,Bool.not_eq_true'] at h;obtain ⟨⟨h1,h2,h3,h4,h5⟩,rfl⟩:=h;have c1:decide (c < 0)=false:=by simp;omega
 have c2:decide (4 <= c)=false:=by simp;omega
 have c3:decide ((96:Int) < got.length)=false:=by simp;omega
 have c4:Qe got.length=true:=Qu (by omega)
 have c5:Qe st.length=true:=Qu (by omega)
 have c6:decide ((1:Int) <= st.length)=true:=by simp;omega
 have c7:decide ((st.length:Int) <= 6)=true:=by simp;omega
 simp only [c1,c2,c3,c4,c5,c6,c7,cond_true,cond_false,Bool.not_true]
noncomputable def uc_8:=uc_7.addSpec 27 QjY
theorem QjZ:Qh Tryz.prog s18 uc_8:=QjX.addEv Qc fun args d h=>by
 unfold QjY at h
 split at h
 · unfold QoH at h;have h1:=congrArg Prod.fst (Option.some.inj h);obtain rfl:_=d:=congrArg Prod.snd (Option.some.inj h);exact ⟨by simp [D.refs],40,Qqm _ _ _ _ _ _ _ h1⟩
 · cases h
noncomputable def QfD (k:Int) (a:Int) (b:Int) (v:Int) (g:Int) (tx:List UInt8) (ca:Bool) (ar:List Int) (k2:Int) (a2:Int) (b2:Int) (v2:Int) (g2:Int) (tx2:List UInt8) (cb:Bool) (ar2:List Int):Option (Bool × D RC):=some (Qe ar.length && Qe ar2.length,.bool (decide ((⟨k,a,b,v,g,tx,ar⟩:Qb)=⟨k2,a2,b2,v2,g2,tx2,ar2⟩)))
noncomputable def Qc8:List (D RC)->Option (Bool × D RC)
 | [.acons (.int .i8 k) (.acons (.int .i64 a) (.acons (.int .i64 b) (.acons (.int .i64 v) (.acons (.int .i64 g) (.acons (.str tx) (.acons (.sl .int ca ar) .anil)))))),.acons (.int .i8 k2) (.acons (.int .i64 a2) (.acons (.int .i64 b2) (.acons (.int .i64 v2) (.acons (.int .i64 g2) (.acons (.str tx2) (.acons (.sl .int cb ar2) .anil))))))]=>QfD k a b v g tx ca ar k2 a2 b2 v2 g2 tx2 cb ar2
 | _=>none
noncomputable def QfE (k:Int) (a:Int) (b:Int) (v:Int) (g:Int) (tx:List UInt8) (ca:Bool) (ar:List Int) (k2:Int) (a2:Int) (b2:Int) (v2:Int) (g2:Int) (tx2:List UInt8) (cb:Bool) (ar2:List Int):=evF s18 uc_8 60 24 [.acons (.int .i8 k) (.acons (.int .i64 a) (.acons (.int .i64 b) (.acons (.int .i64 v) (.acons (.int .i64 g) (.acons (.str tx) (.acons (.sl (C:=RC) .int ca ar) .anil)))))),.acons (.int .i8 k2) (.acons (.int .i64 a2) (.acons (.int .i64 b2) (.acons (.int .i64 v2) (.acons (.int .i64 g2) (.acons (.str tx2) (.acons (.sl (C:=RC) .int cb ar2) .anil))))))]
theorem Qj0 (k:Int) (a:Int) (b:Int) (v:Int) (g:Int) (tx:List UInt8) (ca:Bool) (ar:List Int) (k2:Int) (a2:Int) (b2:Int) (v2:Int) (g2:Int) (tx2:List UInt8) (cb:Bool) (ar2:List Int):QfE k a b v g tx ca ar k2 a2 b2 v2 g2 tx2 cb ar2=(let Z0:DO_:=some (D.bool false);bif k == k2 then bif a == a2 then bif b == b2 then bif v == v2 then bif g == g2 then bif tx == tx2 then bif Qe ar.length && Qe ar2.length then some (D.bool (decide (ar=ar2))) else none else Z0 else Z0 else Z0 else Z0 else Z0 else Z0):=by kernel_rfl
theorem Qj1 (k:Int) (a:Int) (b:Int) (v:Int) (g:Int) (tx:List UInt8) (ca:Bool) (ar:List Int) (k2:Int) (a2:Int) (b2:Int) (v2:Int) (g2:Int) (tx2:List UInt8) (cb:Bool) (ar2:List Int) (h:(Qe ar.length && Qe ar2.length)=true):QfE k a b v g tx ca ar k2 a2 b2 v2 g2 tx2 cb ar2=some (.bool (decide ((⟨k,a,b,v,g,tx,ar⟩:Qb)=⟨k2,a2,b2,v2,g2,tx2,ar2⟩))):=by
 (rw [Qj0];conv=>zeta)
 rw [Bool.and_eq_true] at h;obtain ⟨h1,h2⟩:=h;have no:¬ ((⟨k,a,b,v,g,tx,ar⟩:Qb)=⟨k2,a2,b2,v2,g2,tx2,ar2⟩)->some (D.bool (C:=RC) false)=some (.bool (decide ((⟨k,a,b,v,g,tx,ar⟩:Qb)=⟨k2,a2,b2,v2,g2,tx2,ar2⟩))):=fun q=>by rw [decide_eq_false q]
 simp only [Qb.mk.injEq] at no ⊢;refine Zi (fun q1=>?_) fun q=>no (fun e=>by rw [e.1] at q;simp at q)
 refine Zi (fun q2=>?_) fun q=>no (fun e=>by rw [e.2.1] at q;simp at q)
 refine Zi (fun q3=>?_) fun q=>no (fun e=>by rw [e.2.2.1] at q;simp at q)
 refine Zi (fun q4=>?_) fun q=>no (fun e=>by rw [e.2.2.2.1] at q;simp at q)
 refine Zi (fun q5=>?_) fun q=>no (fun e=>by rw [e.2.2.2.2.1] at q;simp at q)
 refine Zi (fun q6=>?_) fun q=>no (fun e=>by rw [e.2.2.2.2.2.1] at q;simp at q)
 simp only [h1,h2,Bool.and_self,cond_true];have q1:=eq_of_beq q1;have q2:=eq_of_beq q2;have q3:=eq_of_beq q3;have q4:=eq_of_beq q4;have q5:=eq_of_beq q5;have q6:=eq_of_beq q6;simp only [q1,q2,q3,q4,q5,q6,true_and]
noncomputable def uc_9:=uc_8.addSpec 24 Qc8
theorem Qj2:Qh Tryz.prog s18 uc_9:=QjZ.addEv Qc fun args d h=>by
 unfold Qc8 at h
 split at h
 · unfold QfD at h;have h1:=congrArg Prod.fst (Option.some.inj h);obtain rfl:_=d:=congrArg Prod.snd (Option.some.inj h);exact ⟨by simp [D.refs],60,Qj1 _ _ _ _ _ _ _ _ _ _ _ _ _ _ _ _ h1⟩
 · cases h
open Go.Proofs
def naR (n:NA):D RC:=.tup (.acons (frmR n.f) (.acons (actR n.a n.fl) .anil))
theorem QfF (n:NA):(naR n).refs=[]:=rfl
theorem chS {α:Type} {p:Prop} [inst:Decidable p] {x y z:α} (h1:p->x=z) (h2:¬ p->y=z):cond (@decide p inst) x y=z:=by by_cases h:p <;> simp only [h,decide_true,decide_false,cond_true,cond_false] <;> first | exact h1 h | exact h2 h
theorem chB {α:Type} {a b:Int} {x y z:α} (h1:a=b->x=z) (h2:¬ a=b->y=z):cond (a == b) x y=z:=by by_cases h:a=b <;> simp only [h,Qrz,Qpy,cond_true,cond_false,not_false_eq_true] <;> first | exact h1 h | exact h2 h
theorem chN {α:Type} {a b:Int} {x y z:α} (h1:¬ a=b->x=z) (h2:a=b->y=z):cond (a != b) x y=z:=by by_cases h:a=b <;> simp only [h,QmB,QiG,cond_true,cond_false,not_false_eq_true] <;> first | exact h1 h | exact h2 h
theorem maxW (x:Int):(if x < 0 then (0:Int) else x)=wh x:=rfl
noncomputable def Qj3 (p:Int) (k:Int) (r:List Int) (gc:Bool) (got:List Int):Option (Bool × D RC):=some (cdec (okCh false ⟨p,k,r⟩ got),naR (nCh false ⟨p,k,r⟩ got))
noncomputable def QfG:List (D RC)->Option (Bool × D RC)
 | [.acons (.int .i8 p) (.acons (.int .i64 k) (.acons (.arr .int 96 r) .anil)),.sl .int gc got]=>Qj3 p k r gc got
 | _=>none
noncomputable def ZK (p:Int) (k:Int) (r:List Int) (gc:Bool) (got:List Int):=evF s18 uc_9 120 41 [.acons (.int .i8 p) (.acons (.int .i64 k) (.acons (.arr (C:=RC) .int 96 r) .anil)),.sl (C:=RC) .int gc got]
theorem Qhe (r:List Int) (gc:Bool):ZK 72 0 r gc []=(let Z0:Int:=lRow (21:Int) (List.getD r (1:Nat) (0:Int)) (24:Int);let Z1:D RC:=D.int IntKind.i8 (72:Int);let Z2:D RC:=D.acons (D.arr RTy.int (96:Nat) r) .anil;let Z3:D RC:=D.int .i64 0;let Z4:D RC:=D.acons Z3 (D.acons Z3 (D.acons Z3 (D.acons (D.str []) (.acons (D.sl RTy.int true []) .anil))));bif decide ((0:Int) <= Z0) then some (D.tup (D.acons (D.acons Z1 (D.acons (D.int .i64 1) Z2)) (.acons (D.acons (D.int IntKind.i8 (0:Int)) (.acons (D.int .i64 Z0) Z4)) .anil))) else some (D.tup (D.acons (D.acons Z1 (D.acons Z3 Z2)) (.acons (D.acons (D.int IntKind.i8 (7:Int)) (.acons Z3 Z4)) .anil)))):=by kernel_rfl
theorem Qhf (x:Int) (r:List Int) (gc:Bool):ZK 72 1 r gc [x]=(let Z0:Int:=if x < (0:Int) then (0:Int) else x;let Z1:Int:=cellO (bare Z0) (1:Int) true;let Z2:D RC:=.anil;let Z3:D RC:=D.acons (D.int IntKind.i8 (72:Int)) (.acons (D.int .i64 1) (.acons (D.arr RTy.int (96:Nat) r) Z2));let Z4:D RC:=D.int .i64 0;let Z5:DO_:=some (D.tup (D.acons Z3 (D.acons (D.acons (D.int IntKind.i8 (7:Int)) (.acons Z4 (D.acons Z4 (D.acons Z4 (D.acons Z4 (D.acons (D.str []) (.acons (D.sl RTy.int true [Z0]) Z2))))))) Z2)));bif decide (List.getD r (0:Nat) (0:Int) < plc Z0) then bif decide ((0:Int) <= Z1) then some (D.tup (D.acons Z3 (D.acons (D.acons (D.int IntKind.i8 (0:Int)) (.acons (D.int .i64 Z1) (.acons Z4 (D.acons Z4 (D.acons (D.int .i64 (bare Z0)) (.acons (D.str []) (.acons (D.sl RTy.int true []) Z2))))))) Z2))) else Z5 else Z5):=by kernel_rfl
theorem Qhg (r:List Int) (gc:Bool):ZK 73 0 r gc []=(let Z0:Int:=lRow (21:Int) (List.getD r (2:Nat) (0:Int)) (24:Int);let Z1:D RC:=D.int IntKind.i8 (73:Int);let Z2:D RC:=D.acons (D.arr RTy.int (96:Nat) r) .anil;let Z3:D RC:=D.int .i64 0;let Z4:D RC:=D.acons Z3 (D.acons Z3 (D.acons Z3 (D.acons (D.str []) (.acons (D.sl RTy.int true []) .anil))));bif decide ((0:Int) <= Z0) then some (D.tup (D.acons (D.acons Z1 (D.acons (D.int .i64 1) Z2)) (.acons (D.acons (D.int IntKind.i8 (0:Int)) (.acons (D.int .i64 Z0) Z4)) .anil))) else some (D.tup (D.acons (D.acons Z1 (D.acons Z3 Z2)) (.acons (D.acons (D.int IntKind.i8 (7:Int)) (.acons Z3 Z4)) .anil)))):=by kernel_rfl
theorem Qhh (x:Int) (r:List Int) (gc:Bool):ZK 73 1 r gc [x]=(let Z0:List Int:=List.set r (3:Nat) (if x < (0:Int) then (0:Int) else x);let Z1:Int:=List.getD Z0 (1:Nat) (0:Int);let Z2:Int:=cellO Z1 (1:Int) true;let Z3:D RC:=D.int IntKind.i8 (73:Int);let Z4:D RC:=D.acons (D.arr RTy.int (96:Nat) Z0) .anil;let Z5:D RC:=D.int .i64 0;let Z6:D RC:=D.acons (D.str []) (.acons (D.sl RTy.int true []) .anil);let Z7:DO_:=some (D.tup (D.acons (D.acons Z3 (D.acons (D.int .i64 1) Z4)) (.acons (D.acons (D.int IntKind.i8 (7:Int)) (.acons Z5 (D.acons Z5 (D.acons Z5 (D.acons Z5 Z6))))) .anil)));let Z8:Int:=List.getD Z0 (3:Nat) (0:Int);bif decide (Z2 < (0:Int)) then Z7 else bif decide (List.getD Z0 (0:Nat) (0:Int) <= plc Z8) then Z7 else some (D.tup (D.acons (D.acons Z3 (D.acons (D.int .i64 2) Z4)) (.acons (D.acons (D.int IntKind.i8 (2:Int)) (.acons (D.int .i64 Z2) (.acons (D.int .i64 (-1:Int)) (.acons (D.int .i64 Z8) (.acons (D.int .i64 Z1) Z6))))) .anil)))):=by kernel_rfl
theorem Qhi (x:Int) (r:List Int) (gc:Bool):ZK 73 2 r gc [x]=(some (D.tup (D.acons (D.acons (D.int IntKind.i8 (73:Int)) (.acons (D.int .i64 3) (.acons (D.arr RTy.int (96:Nat) r) .anil))) (.acons (D.acons (D.int IntKind.i8 (2:Int)) (.acons (D.int .i64 (lRow (21:Int) (List.getD r (2:Nat) (0:Int)) (24:Int))) (.acons (D.int .i64 (List.getD r (3:Nat) (0:Int))) (.acons (D.int .i64 (wordN (List.getD r (0:Nat) (0:Int)) (List.getD r (1:Nat) (0:Int)))) (.acons (D.int .i64 0) (.acons (D.str []) (.acons (D.sl RTy.int true []) .anil))))))) .anil)))):=by kernel_rfl
theorem Qhj (x:Int) (r:List Int) (gc:Bool):ZK 73 3 r gc [x]=(let Z0:D RC:=D.int .i64 0;some (D.tup (D.acons (D.acons (D.int IntKind.i8 (73:Int)) (.acons (D.int .i64 3) (.acons (D.arr RTy.int (96:Nat) r) .anil))) (.acons (D.acons (D.int IntKind.i8 (7:Int)) (.acons Z0 (D.acons Z0 (D.acons Z0 (D.acons Z0 (D.acons (D.str []) (.acons (D.sl RTy.int true []) .anil))))))) .anil)))):=by kernel_rfl
theorem Qhk (r:List Int) (gc:Bool):ZK 74 0 r gc []=(let Z0:Int:=lRow (21:Int) (List.getD r (1:Nat) (0:Int)) (24:Int);let Z1:D RC:=D.int IntKind.i8 (74:Int);let Z2:D RC:=D.acons (D.arr RTy.int (96:Nat) r) .anil;let Z3:D RC:=D.int .i64 0;let Z4:D RC:=D.acons Z3 (D.acons Z3 (D.acons Z3 (D.acons (D.str []) (.acons (D.sl RTy.int true []) .anil))));bif decide ((0:Int) <= Z0) then some (D.tup (D.acons (D.acons Z1 (D.acons (D.int .i64 1) Z2)) (.acons (D.acons (D.int IntKind.i8 (0:Int)) (.acons (D.int .i64 Z0) Z4)) .anil))) else some (D.tup (D.acons (D.acons Z1 (D.acons Z3 Z2)) (.acons (D.acons (D.int IntKind.i8 (7:Int)) (.acons Z3 Z4)) .anil)))):=by kernel_rfl
theorem Qhl (x:Int) (r:List Int) (gc:Bool):ZK 74 1 r gc [x]=(let Z0:List Int:=List.set r (2:Nat) (if x < (0:Int) then (0:Int) else x);let Z1:Int:=List.getD Z0 (2:Nat) (0:Int);let Z2:Int:=cellO (bare Z1) (1:Int) true;let Z3:D RC:=D.int IntKind.i8 (74:Int);let Z4:D RC:=.anil;let Z5:D RC:=D.acons (D.arr RTy.int (96:Nat) Z0) Z4;let Z6:D RC:=D.int .i64 0;let Z7:DO_:=some (D.tup (D.acons (D.acons Z3 (D.acons (D.int .i64 1) Z5)) (.acons (D.acons (D.int IntKind.i8 (7:Int)) (.acons Z6 (D.acons Z6 (D.acons Z6 (D.acons Z6 (D.acons (D.str []) (.acons (D.sl RTy.int true [(0:Int),(0:Int)]) Z4))))))) Z4)));bif decide (Z2 < (0:Int)) then Z7 else bif Z1 == (0:Int) then Z7 else some (D.tup (D.acons (D.acons Z3 (D.acons (D.int .i64 2) Z5)) (.acons (D.acons (D.int IntKind.i8 (0:Int)) (.acons (D.int .i64 Z2) (.acons Z6 (D.acons Z6 (D.acons (D.int .i64 (bare Z1)) (.acons (D.str []) (.acons (D.sl RTy.int true []) Z4))))))) Z4)))):=by kernel_rfl
theorem Qhm (x:Int) (r:List Int) (gc:Bool):ZK 74 2 r gc [x]=(let Z0:List Int:=List.set r (2:Nat) (if x < (0:Int) then (0:Int) else x);let Z1:Int:=List.getD Z0 (2:Nat) (0:Int);let Z2:Int:=cellO (bare Z1) (1:Int) true;let Z3:D RC:=D.int IntKind.i8 (74:Int);let Z4:D RC:=D.int .i64 2;let Z5:D RC:=.anil;let Z6:D RC:=D.acons Z3 (D.acons Z4 (D.acons (D.arr RTy.int (96:Nat) Z0) Z5));let Z7:D RC:=D.int .i64 0;let Z8:D RC:=D.acons (D.acons (D.int IntKind.i8 (7:Int)) (.acons Z7 (D.acons Z7 (D.acons Z7 (D.acons Z7 (D.acons (D.str []) (.acons (D.sl RTy.int true [(0:Int),(0:Int)]) Z5))))))) Z5;let Z9:D RC:=D.int IntKind.i8 (0:Int);let Z10:D RC:=D.acons (D.str []) (.acons (D.sl RTy.int true []) Z5);let Z11:DO_:=some (D.tup (D.acons (D.acons Z3 (D.acons Z4 (D.acons (D.arr RTy.int (96:Nat) r) Z5))) Z8));let Z12:Int:=cellO (bare x) (1:Int) true;bif decide (List.getD r (0:Nat) (0:Int) < plc (List.getD r (2:Nat) (0:Int))) then bif decide (Z2 < (0:Int)) then some (D.tup (D.acons Z6 Z8)) else bif Z1 == (0:Int) then some (D.tup (D.acons Z6 Z8)) else some (D.tup (D.acons Z6 (D.acons (D.acons Z9 (D.acons (D.int .i64 Z2) (.acons Z7 (D.acons Z7 (D.acons (D.int .i64 (bare Z1)) Z10))))) Z5))) else bif decide (x <= (0:Int)) then Z11 else bif decide (Z12 < (0:Int)) then Z11 else some (D.tup (D.acons (D.acons Z3 (D.acons (D.int .i64 3) (.acons (D.arr RTy.int (96:Nat) (List.set r (3:Nat) x)) Z5))) (.acons (D.acons Z9 (D.acons (D.int .i64 Z12) (.acons Z7 (D.acons Z7 (D.acons (D.int .i64 (bare x)) Z10))))) Z5)))):=by kernel_rfl
theorem Qhn (x:Int) (r:List Int) (gc:Bool):ZK 74 3 r gc [x]=(let Z0:Int:=List.getD r (3:Nat) (0:Int);let Z1:List Int:=List.set r (2:Nat) Z0;let Z2:List Int:=List.set Z1 (2:Nat) (if x < (0:Int) then (0:Int) else x);let Z3:Int:=List.getD Z2 (2:Nat) (0:Int);let Z4:Int:=cellO (bare Z3) (1:Int) true;let Z5:D RC:=D.int IntKind.i8 (74:Int);let Z6:D RC:=D.int .i64 3;let Z7:D RC:=.anil;let Z8:D RC:=D.acons (D.arr RTy.int (96:Nat) Z2) Z7;let Z9:D RC:=D.int .i64 0;let Z10:D RC:=D.acons (D.acons (D.int IntKind.i8 (7:Int)) (.acons Z9 (D.acons Z9 (D.acons Z9 (D.acons Z9 (D.acons (D.str []) (.acons (D.sl RTy.int true [(0:Int),(0:Int)]) Z7))))))) Z7;let Z11:DO_:=some (D.tup (D.acons (D.acons Z5 (D.acons Z6 Z8)) Z10));let Z12:D RC:=D.int IntKind.i8 (0:Int);let Z13:D RC:=D.acons (D.str []) (.acons (D.sl RTy.int true []) Z7);let Z14:DO_:=some (D.tup (D.acons (D.acons Z5 (D.acons Z6 (D.acons (D.arr RTy.int (96:Nat) Z1) Z7))) Z10));let Z15:Int:=cellO (bare x) (1:Int) true;let Z16:Int:=bare (List.getD r (2:Nat) (0:Int));bif decide ((0:Int) < x) then bif decide (List.getD Z1 (0:Nat) (0:Int) < plc (List.getD Z1 (2:Nat) (0:Int))) then bif decide (Z4 < (0:Int)) then Z11 else bif Z3 == (0:Int) then Z11 else some (D.tup (D.acons (D.acons Z5 (D.acons (D.int .i64 2) Z8)) (.acons (D.acons Z12 (D.acons (D.int .i64 Z4) (.acons Z9 (D.acons Z9 (D.acons (D.int .i64 (bare Z3)) Z13))))) Z7))) else bif decide (x <= (0:Int)) then Z14 else bif decide (Z15 < (0:Int)) then Z14 else some (D.tup (D.acons (D.acons Z5 (D.acons Z6 (D.acons (D.arr RTy.int (96:Nat) (List.set Z1 (3:Nat) x)) Z7))) (.acons (D.acons Z12 (D.acons (D.int .i64 Z15) (.acons Z9 (D.acons Z9 (D.acons (D.int .i64 (bare x)) Z13))))) Z7))) else some (D.tup (D.acons (D.acons Z5 (D.acons (D.int .i64 4) (.acons (D.arr RTy.int (96:Nat) r) Z7))) (.acons (D.acons (D.int IntKind.i8 (2:Int)) (.acons (D.int .i64 (cellO Z16 (1:Int) true)) (.acons (D.int .i64 Z0) (.acons Z9 (D.acons (D.int .i64 Z16) Z13))))) Z7)))):=by kernel_rfl
theorem Qho (x:Int) (r:List Int) (gc:Bool):ZK 74 4 r gc [x]=(let Z0:D RC:=D.int IntKind.i8 (74:Int);let Z1:D RC:=.anil;let Z2:D RC:=D.acons (D.arr RTy.int (96:Nat) r) Z1;let Z3:D RC:=D.int .i64 0;bif x == (0:Int) then some (D.tup (D.acons (D.acons Z0 (D.acons (D.int .i64 4) Z2)) (.acons (D.acons (D.int IntKind.i8 (7:Int)) (.acons Z3 (D.acons Z3 (D.acons Z3 (D.acons Z3 (D.acons (D.str []) (.acons (D.sl RTy.int true [(0:Int),(0:Int)]) Z1))))))) Z1))) else some (D.tup (D.acons (D.acons Z0 (D.acons (D.int .i64 5) Z2)) (.acons (D.acons (D.int IntKind.i8 (0:Int)) (.acons (D.int .i64 2) (.acons Z3 (D.acons Z3 (D.acons Z3 (D.acons (D.str []) (.acons (D.sl RTy.int true []) Z1))))))) Z1)))):=by kernel_rfl
theorem Qhp (x:Int) (r:List Int) (gc:Bool):ZK 74 5 r gc [x]=(let Z0:D RC:=D.int .i64 0;some (D.tup (D.acons (D.acons (D.int IntKind.i8 (74:Int)) (.acons (D.int .i64 5) (.acons (D.arr RTy.int (96:Nat) r) .anil))) (.acons (D.acons (D.int IntKind.i8 (7:Int)) (.acons Z0 (D.acons Z0 (D.acons Z0 (D.acons Z0 (D.acons (D.str []) (.acons (D.sl RTy.int true [List.getD r (3:Nat) (0:Int),x]) .anil))))))) .anil)))):=by kernel_rfl
theorem Qnj (p:Int) (k:Int) (r:List Int) (gc:Bool) (got:List Int) (h:(cdec (okCh false ⟨p,k,r⟩ got))=true):ZK p k r gc got=some (naR (nCh false ⟨p,k,r⟩ got)):=by
 obtain ⟨hr,hk,hp⟩:=QG.1 h;simp only at hr hk hp;have a22:∀ v:Int,(r.set 2 v).getD 2 0=v:=fun v=>Qd (by omega)
 have a20:∀ v:Int,(r.set 2 v).getD 0 0=r.getD 0 0:=fun v=>Qa (by decide)
 have a33:∀ v:Int,(r.set 3 v).getD 3 0=v:=fun v=>Qd (by omega)
 have a30:∀ v:Int,(r.set 3 v).getD 0 0=r.getD 0 0:=fun v=>Qa (by decide)
 have a31:∀ v:Int,(r.set 3 v).getD 1 0=r.getD 1 0:=fun v=>Qa (by decide)
 rcases hp with ⟨rfl,hk1⟩ | ⟨rfl,hk1⟩ | ⟨rfl,hk1,hk3⟩
 · rcases hk with ⟨rfl,rfl⟩ | ⟨x,rfl,k0⟩
   · clear hk1;have hq:nCh false ⟨72,0,r⟩ []=QJ false 72 r (r.getD 1 0):=rfl;rw [Qhe,hq];clear hq h
     try simp only [maxW,a22,a20,a33,a30,a31,List.set_set]
     repeat' (first | refine chS (fun hc=>?_) (fun hc=>?_) | refine chB (fun hc=>?_) (fun hc=>?_) | refine chN (fun hc=>?_) (fun hc=>?_))
     all_goals
      simp only [QJ,Ze,QX,QY,Qy,QH,Q6,show ¬ (1:Int)=0 by decide,show ¬ (2:Int)=0 by decide,show ¬ (2:Int)=1 by decide,show ¬ (3:Int)=0 by decide,show ¬ (3:Int)=1 by decide,show ¬ (3:Int)=2 by decide,show ¬ (4:Int)=0 by decide,show ¬ (4:Int)=1 by decide,show ¬ (4:Int)=2 by decide,show ¬ (4:Int)=3 by decide,show ¬ (5:Int)=0 by decide,show ¬ (5:Int)=1 by decide,show ¬ (5:Int)=2 by decide,show ¬ (5:Int)=3 by decide,show ¬ (5:Int)=4 by decide,if_true,if_false,cond_true,cond_false,Bool.true_and,Bool.false_and]
      repeat' split
      all_goals first | rfl | (exfalso;omega) | (exfalso;simp_all;done)
   · have ks:k=1:=by omega
     subst ks;have hq:nCh false ⟨72,1,r⟩ [x]=Ze false 1 r x:=rfl;rw [Qhf,hq];clear hq h
     try simp only [maxW,a22,a20,a33,a30,a31,List.set_set]
     repeat' (first | refine chS (fun hc=>?_) (fun hc=>?_) | refine chB (fun hc=>?_) (fun hc=>?_) | refine chN (fun hc=>?_) (fun hc=>?_))
     all_goals
      simp only [QJ,Ze,QX,QY,Qy,QH,Q6,show ¬ (1:Int)=0 by decide,show ¬ (2:Int)=0 by decide,show ¬ (2:Int)=1 by decide,show ¬ (3:Int)=0 by decide,show ¬ (3:Int)=1 by decide,show ¬ (3:Int)=2 by decide,show ¬ (4:Int)=0 by decide,show ¬ (4:Int)=1 by decide,show ¬ (4:Int)=2 by decide,show ¬ (4:Int)=3 by decide,show ¬ (5:Int)=0 by decide,show ¬ (5:Int)=1 by decide,show ¬ (5:Int)=2 by decide,show ¬ (5:Int)=3 by decide,show ¬ (5:Int)=4 by decide,if_true,if_false,cond_true,cond_false,Bool.true_and,Bool.false_and]
      repeat' split
      all_goals first | rfl | (exfalso;omega) | (exfalso;simp_all;done)
 · rcases hk with ⟨rfl,rfl⟩ | ⟨x,rfl,k0⟩
   · clear hk1;have hq:nCh false ⟨73,0,r⟩ []=QJ false 73 r (r.getD 2 0):=rfl;rw [Qhg,hq];clear hq h
     try simp only [maxW,a22,a20,a33,a30,a31,List.set_set]
     repeat' (first | refine chS (fun hc=>?_) (fun hc=>?_) | refine chB (fun hc=>?_) (fun hc=>?_) | refine chN (fun hc=>?_) (fun hc=>?_))
     all_goals
      simp only [QJ,Ze,QX,QY,Qy,QH,Q6,show ¬ (1:Int)=0 by decide,show ¬ (2:Int)=0 by decide,show ¬ (2:Int)=1 by decide,show ¬ (3:Int)=0 by decide,show ¬ (3:Int)=1 by decide,show ¬ (3:Int)=2 by decide,show ¬ (4:Int)=0 by decide,show ¬ (4:Int)=1 by decide,show ¬ (4:Int)=2 by decide,show ¬ (4:Int)=3 by decide,show ¬ (5:Int)=0 by decide,show ¬ (5:Int)=1 by decide,show ¬ (5:Int)=2 by decide,show ¬ (5:Int)=3 by decide,show ¬ (5:Int)=4 by decide,if_true,if_false,cond_true,cond_false,Bool.true_and,Bool.false_and]
      repeat' split
      all_goals first | rfl | (exfalso;omega) | (exfalso;simp_all;done)
   · have ks:k=1 \/ k=2 \/ k=3:=by omega
     rcases ks with rfl | rfl | rfl
     · skip
       have hq:nCh false ⟨73,1,r⟩ [x]=QX false 1 r x:=rfl;rw [Qhh,hq];clear hq h
       try simp only [maxW,a22,a20,a33,a30,a31,List.set_set]
       repeat' (first | refine chS (fun hc=>?_) (fun hc=>?_) | refine chB (fun hc=>?_) (fun hc=>?_) | refine chN (fun hc=>?_) (fun hc=>?_))
       all_goals
        simp only [QJ,Ze,QX,QY,Qy,QH,Q6,show ¬ (1:Int)=0 by decide,show ¬ (2:Int)=0 by decide,show ¬ (2:Int)=1 by decide,show ¬ (3:Int)=0 by decide,show ¬ (3:Int)=1 by decide,show ¬ (3:Int)=2 by decide,show ¬ (4:Int)=0 by decide,show ¬ (4:Int)=1 by decide,show ¬ (4:Int)=2 by decide,show ¬ (4:Int)=3 by decide,show ¬ (5:Int)=0 by decide,show ¬ (5:Int)=1 by decide,show ¬ (5:Int)=2 by decide,show ¬ (5:Int)=3 by decide,show ¬ (5:Int)=4 by decide,if_true,if_false,cond_true,cond_false,Bool.true_and,Bool.false_and]
        repeat' split
        all_goals first | rfl | (exfalso;omega) | (exfalso;simp_all;done)
     · skip
       have hq:nCh false ⟨73,2,r⟩ [x]=QX false 2 r x:=rfl;rw [Qhi,hq];clear hq h
       try simp only [maxW,a22,a20,a33,a30,a31,List.set_set]
       repeat' (first | refine chS (fun hc=>?_) (fun hc=>?_) | refine chB (fun hc=>?_) (fun hc=>?_) | refine chN (fun hc=>?_) (fun hc=>?_))
       all_goals
        simp only [QJ,Ze,QX,QY,Qy,QH,Q6,show ¬ (1:Int)=0 by decide,show ¬ (2:Int)=0 by decide,show ¬ (2:Int)=1 by decide,show ¬ (3:Int)=0 by decide,show ¬ (3:Int)=1 by decide,show ¬ (3:Int)=2 by decide,show ¬ (4:Int)=0 by decide,show ¬ (4:Int)=1 by decide,show ¬ (4:Int)=2 by decide,show ¬ (4:Int)=3 by decide,show ¬ (5:Int)=0 by decide,show ¬ (5:Int)=1 by decide,show ¬ (5:Int)=2 by decide,show ¬ (5:Int)=3 by decide,show ¬ (5:Int)=4 by decide,if_true,if_false,cond_true,cond_false,Bool.true_and,Bool.false_and]
        repeat' split
        all_goals first | rfl | (exfalso;omega) | (exfalso;simp_all;done)
     · skip
       have hq:nCh false ⟨73,3,r⟩ [x]=QX false 3 r x:=rfl;rw [Qhj,hq];clear hq h
       try simp only [maxW,a22,a20,a33,a30,a31,List.set_set]
       repeat' (first | refine chS (fun hc=>?_) (fun hc=>?_) | refine chB (fun hc=>?_) (fun hc=>?_) | refine chN (fun hc=>?_) (fun hc=>?_))
       all_goals
        simp only [QJ,Ze,QX,QY,Qy,QH,Q6,show ¬ (1:Int)=0 by decide,show ¬ (2:Int)=0 by decide,show ¬ (2:Int)=1 by decide,show ¬ (3:Int)=0 by decide,show ¬ (3:Int)=1 by decide,show ¬ (3:Int)=2 by decide,show ¬ (4:Int)=0 by decide,show ¬ (4:Int)=1 by decide,show ¬ (4:Int)=2 by decide,show ¬ (4:Int)=3 by decide,show ¬ (5:Int)=0 by decide,show ¬ (5:Int)=1 by decide,show ¬ (5:Int)=2 by decide,show ¬ (5:Int)=3 by decide,show ¬ (5:Int)=4 by decide,if_true,if_false,cond_true,cond_false,Bool.true_and,Bool.false_and]
        repeat' split
        all_goals first | rfl | (exfalso;omega) | (exfalso;simp_all;done)
 · rcases hk with ⟨rfl,rfl⟩ | ⟨x,rfl,k0⟩
   · clear hk1 hk3;have hq:nCh false ⟨74,0,r⟩ []=QJ false 74 r (r.getD 1 0):=rfl;rw [Qhk,hq];clear hq h
     try simp only [maxW,a22,a20,a33,a30,a31,List.set_set]
     repeat' (first | refine chS (fun hc=>?_) (fun hc=>?_) | refine chB (fun hc=>?_) (fun hc=>?_) | refine chN (fun hc=>?_) (fun hc=>?_))
     all_goals
      simp only [QJ,Ze,QX,QY,Qy,QH,Q6,show ¬ (1:Int)=0 by decide,show ¬ (2:Int)=0 by decide,show ¬ (2:Int)=1 by decide,show ¬ (3:Int)=0 by decide,show ¬ (3:Int)=1 by decide,show ¬ (3:Int)=2 by decide,show ¬ (4:Int)=0 by decide,show ¬ (4:Int)=1 by decide,show ¬ (4:Int)=2 by decide,show ¬ (4:Int)=3 by decide,show ¬ (5:Int)=0 by decide,show ¬ (5:Int)=1 by decide,show ¬ (5:Int)=2 by decide,show ¬ (5:Int)=3 by decide,show ¬ (5:Int)=4 by decide,if_true,if_false,cond_true,cond_false,Bool.true_and,Bool.false_and]
      repeat' split
      all_goals first | rfl | (exfalso;omega) | (exfalso;simp_all;done)
   · have ks:k=1 \/ k=2 \/ k=3 \/ k=4 \/ k=5:=by omega
     rcases ks with rfl | rfl | rfl | rfl | rfl
     · skip
       have hq:nCh false ⟨74,1,r⟩ [x]=QY false 1 r x:=rfl;rw [Qhl,hq];clear hq h
       try simp only [maxW,a22,a20,a33,a30,a31,List.set_set]
       repeat' (first | refine chS (fun hc=>?_) (fun hc=>?_) | refine chB (fun hc=>?_) (fun hc=>?_) | refine chN (fun hc=>?_) (fun hc=>?_))
       all_goals
        simp only [QJ,Ze,QX,QY,Qy,QH,Q6,show ¬ (1:Int)=0 by decide,show ¬ (2:Int)=0 by decide,show ¬ (2:Int)=1 by decide,show ¬ (3:Int)=0 by decide,show ¬ (3:Int)=1 by decide,show ¬ (3:Int)=2 by decide,show ¬ (4:Int)=0 by decide,show ¬ (4:Int)=1 by decide,show ¬ (4:Int)=2 by decide,show ¬ (4:Int)=3 by decide,show ¬ (5:Int)=0 by decide,show ¬ (5:Int)=1 by decide,show ¬ (5:Int)=2 by decide,show ¬ (5:Int)=3 by decide,show ¬ (5:Int)=4 by decide,if_true,if_false,cond_true,cond_false,Bool.true_and,Bool.false_and]
        repeat' split
        all_goals first | rfl | (exfalso;omega) | (exfalso;simp_all;done)
     · skip
       have hq:nCh false ⟨74,2,r⟩ [x]=QH false 2 r x:=rfl;rw [Qhm,hq];clear hq h
       try simp only [maxW,a22,a20,a33,a30,a31,List.set_set]
       repeat' (first | refine chS (fun hc=>?_) (fun hc=>?_) | refine chB (fun hc=>?_) (fun hc=>?_) | refine chN (fun hc=>?_) (fun hc=>?_))
       all_goals
        simp only [QJ,Ze,QX,QY,Qy,QH,Q6,show ¬ (1:Int)=0 by decide,show ¬ (2:Int)=0 by decide,show ¬ (2:Int)=1 by decide,show ¬ (3:Int)=0 by decide,show ¬ (3:Int)=1 by decide,show ¬ (3:Int)=2 by decide,show ¬ (4:Int)=0 by decide,show ¬ (4:Int)=1 by decide,show ¬ (4:Int)=2 by decide,show ¬ (4:Int)=3 by decide,show ¬ (5:Int)=0 by decide,show ¬ (5:Int)=1 by decide,show ¬ (5:Int)=2 by decide,show ¬ (5:Int)=3 by decide,show ¬ (5:Int)=4 by decide,if_true,if_false,cond_true,cond_false,Bool.true_and,Bool.false_and]
        repeat' split
        all_goals first | rfl | (exfalso;omega) | (exfalso;simp_all;done)
     · skip
       have hq:nCh false ⟨74,3,r⟩ [x]=QH false 3 r x:=rfl;rw [Qhn,hq];clear hq h
       try simp only [maxW,a22,a20,a33,a30,a31,List.set_set]
       repeat' (first | refine chS (fun hc=>?_) (fun hc=>?_) | refine chB (fun hc=>?_) (fun hc=>?_) | refine chN (fun hc=>?_) (fun hc=>?_))
       all_goals
        simp only [QJ,Ze,QX,QY,Qy,QH,Q6,show ¬ (1:Int)=0 by decide,show ¬ (2:Int)=0 by decide,show ¬ (2:Int)=1 by decide,show ¬ (3:Int)=0 by decide,show ¬ (3:Int)=1 by decide,show ¬ (3:Int)=2 by decide,show ¬ (4:Int)=0 by decide,show ¬ (4:Int)=1 by decide,show ¬ (4:Int)=2 by decide,show ¬ (4:Int)=3 by decide,show ¬ (5:Int)=0 by decide,show ¬ (5:Int)=1 by decide,show ¬ (5:Int)=2 by decide,show ¬ (5:Int)=3 by decide,show ¬ (5:Int)=4 by decide,if_true,if_false,cond_true,cond_false,Bool.true_and,Bool.false_and]
        repeat' split
        all_goals first | rfl | (exfalso;omega) | (exfalso;simp_all;done)
     · skip
       have hq:nCh false ⟨74,4,r⟩ [x]=QH false 4 r x:=rfl;rw [Qho,hq];clear hq h
       try simp only [maxW,a22,a20,a33,a30,a31,List.set_set]
       repeat' (first | refine chS (fun hc=>?_) (fun hc=>?_) | refine chB (fun hc=>?_) (fun hc=>?_) | refine chN (fun hc=>?_) (fun hc=>?_))
       all_goals
        simp only [QJ,Ze,QX,QY,Qy,QH,Q6,show ¬ (1:Int)=0 by decide,show ¬ (2:Int)=0 by decide,show ¬ (2:Int)=1 by decide,show ¬ (3:Int)=0 by decide,show ¬ (3:Int)=1 by decide,show ¬ (3:Int)=2 by decide,show ¬ (4:Int)=0 by decide,show ¬ (4:Int)=1 by decide,show ¬ (4:Int)=2 by decide,show ¬ (4:Int)=3 by decide,show ¬ (5:Int)=0 by decide,show ¬ (5:Int)=1 by decide,show ¬ (5:Int)=2 by decide,show ¬ (5:Int)=3 by decide,show ¬ (5:Int)=4 by decide,if_true,if_false,cond_true,cond_false,Bool.true_and,Bool.false_and]
        repeat' split
        all_goals first | rfl | (exfalso;omega) | (exfalso;simp_all;done)
     · skip
       have hq:nCh false ⟨74,5,r⟩ [x]=QH false 5 r x:=rfl;rw [Qhp,hq];clear hq h
       try simp only [maxW,a22,a20,a33,a30,a31,List.set_set]
       repeat' (first | refine chS (fun hc=>?_) (fun hc=>?_) | refine chB (fun hc=>?_) (fun hc=>?_) | refine chN (fun hc=>?_) (fun hc=>?_))
       all_goals
        simp only [QJ,Ze,QX,QY,Qy,QH,Q6,show ¬ (1:Int)=0 by decide,show ¬ (2:Int)=0 by decide,show ¬ (2:Int)=1 by decide,show ¬ (3:Int)=0 by decide,show ¬ (3:Int)=1 by decide,show ¬ (3:Int)=2 by decide,show ¬ (4:Int)=0 by decide,show ¬ (4:Int)=1 by decide,show ¬ (4:Int)=2 by decide,show ¬ (4:Int)=3 by decide,show ¬ (5:Int)=0 by decide,show ¬ (5:Int)=1 by decide,show ¬ (5:Int)=2 by decide,show ¬ (5:Int)=3 by decide,show ¬ (5:Int)=4 by decide,if_true,if_false,cond_true,cond_false,Bool.true_and,Bool.false_and]
        repeat' split
        all_goals first | rfl | (exfalso;omega) | (exfalso;simp_all;done)
noncomputable def ud_1:=uc_9.addSpec 41 QfG
theorem Qj4:Qh Tryz.prog s18 ud_1:=Qj2.addEv Qc fun args d h=>by
 unfold QfG at h
 split at h
 · unfold Qj3 at h;have h1:=congrArg Prod.fst (Option.some.inj h);obtain rfl:_=d:=congrArg Prod.snd (Option.some.inj h);exact ⟨by simp [D.refs,QfF],120,Qnj _ _ _ _ _ h1⟩
 · cases h
noncomputable def Qj5 (p:Int) (k:Int) (r:List Int) (gc:Bool) (got:List Int):Option (Bool × D RC):=some (cdec (okCh true ⟨p,k,r⟩ got),naR (nCh true ⟨p,k,r⟩ got))
noncomputable def QfH:List (D RC)->Option (Bool × D RC)
 | [.acons (.int .i8 p) (.acons (.int .i64 k) (.acons (.arr .int 96 r) .anil)),.sl .int gc got]=>Qj5 p k r gc got
 | _=>none
noncomputable def ZL (p:Int) (k:Int) (r:List Int) (gc:Bool) (got:List Int):=evF s18 ud_1 120 40 [.acons (.int .i8 p) (.acons (.int .i64 k) (.acons (.arr (C:=RC) .int 96 r) .anil)),.sl (C:=RC) .int gc got]
theorem Qhq (r:List Int) (gc:Bool):ZL 72 0 r gc []=(let Z0:Int:=lRow (21:Int) (List.getD r (1:Nat) (0:Int)) (24:Int);let Z1:D RC:=D.int IntKind.i8 (72:Int);let Z2:D RC:=D.acons (D.arr RTy.int (96:Nat) r) .anil;let Z3:D RC:=D.int .i64 0;let Z4:D RC:=D.acons Z3 (D.acons Z3 (D.acons Z3 (D.acons (D.str []) (.acons (D.sl RTy.int true []) .anil))));bif decide (Z0 < (0:Int)) then some (D.tup (D.acons (D.acons Z1 (D.acons (D.int .i64 99) Z2)) (.acons (D.acons (D.int IntKind.i8 (7:Int)) (.acons Z3 Z4)) .anil))) else some (D.tup (D.acons (D.acons Z1 (D.acons (D.int .i64 1) Z2)) (.acons (D.acons (D.int IntKind.i8 (0:Int)) (.acons (D.int .i64 Z0) Z4)) .anil)))):=by kernel_rfl
theorem Qhr (x:Int) (r:List Int) (gc:Bool):ZL 72 1 r gc [x]=(let Z0:Int:=if x < (0:Int) then (0:Int) else x;let Z1:Int:=cellO (bare Z0) (1:Int) true;let Z2:D RC:=D.int IntKind.i8 (72:Int);let Z3:D RC:=.anil;let Z4:D RC:=D.acons (D.arr RTy.int (96:Nat) r) Z3;let Z5:D RC:=D.int .i64 0;let Z6:DO_:=some (D.tup (D.acons (D.acons Z2 (D.acons (D.int .i64 99) Z4)) (.acons (D.acons (D.int IntKind.i8 (7:Int)) (.acons Z5 (D.acons Z5 (D.acons Z5 (D.acons Z5 (D.acons (D.str []) (.acons (D.sl RTy.int true [Z0]) Z3))))))) Z3)));bif decide ((0:Int) <= Z1) then bif decide (List.getD r (0:Nat) (0:Int) < plc Z0) then some (D.tup (D.acons (D.acons Z2 (D.acons (D.int .i64 1) Z4)) (.acons (D.acons (D.int IntKind.i8 (0:Int)) (.acons (D.int .i64 Z1) (.acons Z5 (D.acons Z5 (D.acons (D.int .i64 (bare Z0)) (.acons (D.str []) (.acons (D.sl RTy.int true []) Z3))))))) Z3))) else Z6 else Z6):=by kernel_rfl
theorem Qhs (r:List Int) (gc:Bool):ZL 73 0 r gc []=(let Z0:Int:=lRow (21:Int) (List.getD r (2:Nat) (0:Int)) (24:Int);let Z1:D RC:=D.int IntKind.i8 (73:Int);let Z2:D RC:=D.acons (D.arr RTy.int (96:Nat) r) .anil;let Z3:D RC:=D.int .i64 0;let Z4:D RC:=D.acons Z3 (D.acons Z3 (D.acons Z3 (D.acons (D.str []) (.acons (D.sl RTy.int true []) .anil))));bif decide (Z0 < (0:Int)) then some (D.tup (D.acons (D.acons Z1 (D.acons (D.int .i64 99) Z2)) (.acons (D.acons (D.int IntKind.i8 (7:Int)) (.acons Z3 Z4)) .anil))) else some (D.tup (D.acons (D.acons Z1 (D.acons (D.int .i64 1) Z2)) (.acons (D.acons (D.int IntKind.i8 (0:Int)) (.acons (D.int .i64 Z0) Z4)) .anil)))):=by kernel_rfl
theorem Qht (x:Int) (r:List Int) (gc:Bool):ZL 73 1 r gc [x]=(let Z0:List Int:=List.set r (3:Nat) (if x < (0:Int) then (0:Int) else x);let Z1:Int:=List.getD Z0 (1:Nat) (0:Int);let Z2:Int:=cellO Z1 (1:Int) true;let Z3:D RC:=D.int IntKind.i8 (73:Int);let Z4:D RC:=D.acons (D.arr RTy.int (96:Nat) Z0) .anil;let Z5:D RC:=D.int .i64 0;let Z6:D RC:=D.acons (D.str []) (.acons (D.sl RTy.int true []) .anil);let Z7:DO_:=some (D.tup (D.acons (D.acons Z3 (D.acons (D.int .i64 99) Z4)) (.acons (D.acons (D.int IntKind.i8 (7:Int)) (.acons Z5 (D.acons Z5 (D.acons Z5 (D.acons Z5 Z6))))) .anil)));let Z8:Int:=List.getD Z0 (3:Nat) (0:Int);bif decide (Z2 < (0:Int)) then Z7 else bif decide (List.getD Z0 (0:Nat) (0:Int) <= plc Z8) then Z7 else some (D.tup (D.acons (D.acons Z3 (D.acons (D.int .i64 2) Z4)) (.acons (D.acons (D.int IntKind.i8 (2:Int)) (.acons (D.int .i64 Z2) (.acons (D.int .i64 (-1:Int)) (.acons (D.int .i64 Z8) (.acons (D.int .i64 Z1) Z6))))) .anil)))):=by kernel_rfl
theorem Qhu (x:Int) (r:List Int) (gc:Bool):ZL 73 2 r gc [x]=(some (D.tup (D.acons (D.acons (D.int IntKind.i8 (73:Int)) (.acons (D.int .i64 3) (.acons (D.arr RTy.int (96:Nat) r) .anil))) (.acons (D.acons (D.int IntKind.i8 (2:Int)) (.acons (D.int .i64 (lRow (21:Int) (List.getD r (2:Nat) (0:Int)) (24:Int))) (.acons (D.int .i64 (List.getD r (3:Nat) (0:Int))) (.acons (D.int .i64 (wordN (List.getD r (0:Nat) (0:Int)) (List.getD r (1:Nat) (0:Int)))) (.acons (D.int .i64 0) (.acons (D.str []) (.acons (D.sl RTy.int true []) .anil))))))) .anil)))):=by kernel_rfl
theorem Qhv (x:Int) (r:List Int) (gc:Bool):ZL 73 3 r gc [x]=(let Z0:D RC:=D.int .i64 0;some (D.tup (D.acons (D.acons (D.int IntKind.i8 (73:Int)) (.acons (D.int .i64 99) (.acons (D.arr RTy.int (96:Nat) r) .anil))) (.acons (D.acons (D.int IntKind.i8 (7:Int)) (.acons Z0 (D.acons Z0 (D.acons Z0 (D.acons Z0 (D.acons (D.str []) (.acons (D.sl RTy.int true []) .anil))))))) .anil)))):=by kernel_rfl
theorem Qhw (r:List Int) (gc:Bool):ZL 74 0 r gc []=(let Z0:Int:=lRow (21:Int) (List.getD r (1:Nat) (0:Int)) (24:Int);let Z1:D RC:=D.int IntKind.i8 (74:Int);let Z2:D RC:=D.acons (D.arr RTy.int (96:Nat) r) .anil;let Z3:D RC:=D.int .i64 0;let Z4:D RC:=D.acons Z3 (D.acons Z3 (D.acons Z3 (D.acons (D.str []) (.acons (D.sl RTy.int true []) .anil))));bif decide (Z0 < (0:Int)) then some (D.tup (D.acons (D.acons Z1 (D.acons (D.int .i64 99) Z2)) (.acons (D.acons (D.int IntKind.i8 (7:Int)) (.acons Z3 Z4)) .anil))) else some (D.tup (D.acons (D.acons Z1 (D.acons (D.int .i64 1) Z2)) (.acons (D.acons (D.int IntKind.i8 (0:Int)) (.acons (D.int .i64 Z0) Z4)) .anil)))):=by kernel_rfl
theorem Qhx (x:Int) (r:List Int) (gc:Bool):ZL 74 1 r gc [x]=(let Z0:Int:=if x < (0:Int) then (0:Int) else x;let Z1:D RC:=D.int IntKind.i8 (74:Int);let Z2:D RC:=.anil;let Z3:D RC:=D.acons (D.arr RTy.int (96:Nat) (List.set r (2:Nat) Z0)) Z2;let Z4:D RC:=D.int .i64 0;let Z5:DO_:=some (D.tup (D.acons (D.acons Z1 (D.acons (D.int .i64 99) Z3)) (.acons (D.acons (D.int IntKind.i8 (7:Int)) (.acons Z4 (D.acons Z4 (D.acons Z4 (D.acons Z4 (D.acons (D.str []) (.acons (D.sl RTy.int true [(0:Int),(0:Int)]) Z2))))))) Z2)));let Z6:Int:=cellO (bare Z0) (1:Int) true;bif Z0 == (0:Int) then Z5 else bif decide (Z6 < (0:Int)) then Z5 else some (D.tup (D.acons (D.acons Z1 (D.acons (D.int .i64 2) Z3)) (.acons (D.acons (D.int IntKind.i8 (0:Int)) (.acons (D.int .i64 Z6) (.acons Z4 (D.acons Z4 (D.acons (D.int .i64 (bare Z0)) (.acons (D.str []) (.acons (D.sl RTy.int true []) Z2))))))) Z2)))):=by kernel_rfl
theorem Qhy (x:Int) (r:List Int) (gc:Bool):ZL 74 2 r gc [x]=(let Z0:Int:=if x < (0:Int) then (0:Int) else x;let Z1:D RC:=D.int IntKind.i8 (74:Int);let Z2:D RC:=D.int .i64 99;let Z3:D RC:=.anil;let Z4:D RC:=D.acons (D.arr RTy.int (96:Nat) (List.set r (2:Nat) Z0)) Z3;let Z5:D RC:=D.int .i64 0;let Z6:D RC:=D.acons (D.acons (D.int IntKind.i8 (7:Int)) (.acons Z5 (D.acons Z5 (D.acons Z5 (D.acons Z5 (D.acons (D.str []) (.acons (D.sl RTy.int true [(0:Int),(0:Int)]) Z3))))))) Z3;let Z7:DO_:=some (D.tup (D.acons (D.acons Z1 (D.acons Z2 Z4)) Z6));let Z8:Int:=cellO (bare Z0) (1:Int) true;let Z9:Bool:=decide (Z8 < (0:Int));let Z10:D RC:=D.acons (D.acons (D.int IntKind.i8 (0:Int)) (.acons (D.int .i64 Z8) (.acons Z5 (D.acons Z5 (D.acons (D.int .i64 (bare Z0)) (.acons (D.str []) (.acons (D.sl RTy.int true []) Z3))))))) Z3;let Z11:D RC:=D.acons (D.arr RTy.int (96:Nat) (List.set r (3:Nat) Z0)) Z3;bif decide (List.getD r (0:Nat) (0:Int) < plc (List.getD r (2:Nat) (0:Int))) then bif Z0 == (0:Int) then Z7 else bif Z9 then Z7 else some (D.tup (D.acons (D.acons Z1 (D.acons (D.int .i64 2) Z4)) Z10)) else bif Z0 == (0:Int) then some (D.tup (D.acons (D.acons Z1 (D.acons Z2 (D.acons (D.arr RTy.int (96:Nat) r) Z3))) Z6)) else bif Z9 then some (D.tup (D.acons (D.acons Z1 (D.acons Z2 Z11)) Z6)) else some (D.tup (D.acons (D.acons Z1 (D.acons (D.int .i64 3) Z11)) Z10))):=by kernel_rfl
theorem Qhz (x:Int) (r:List Int) (gc:Bool):ZL 74 3 r gc [x]=(let Z0:Int:=if x < (0:Int) then (0:Int) else x;let Z1:Int:=cellO (bare Z0) (1:Int) true;let Z2:D RC:=D.int IntKind.i8 (74:Int);let Z3:Int:=List.getD r (3:Nat) (0:Int);let Z4:D RC:=.anil;let Z5:D RC:=D.acons (D.arr RTy.int (96:Nat) (List.set (List.set r (2:Nat) Z3) (3:Nat) Z0)) Z4;let Z6:D RC:=D.int .i64 0;let Z7:D RC:=D.acons (D.str []) (.acons (D.sl RTy.int true []) Z4);let Z8:Int:=bare (List.getD r (2:Nat) (0:Int));bif Z0 != (0:Int) then bif decide (Z1 < (0:Int)) then some (D.tup (D.acons (D.acons Z2 (D.acons (D.int .i64 99) Z5)) (.acons (D.acons (D.int IntKind.i8 (7:Int)) (.acons Z6 (D.acons Z6 (D.acons Z6 (D.acons Z6 (D.acons (D.str []) (.acons (D.sl RTy.int true [(0:Int),(0:Int)]) Z4))))))) Z4))) else some (D.tup (D.acons (D.acons Z2 (D.acons (D.int .i64 3) Z5)) (.acons (D.acons (D.int IntKind.i8 (0:Int)) (.acons (D.int .i64 Z1) (.acons Z6 (D.acons Z6 (D.acons (D.int .i64 (bare Z0)) Z7))))) Z4))) else some (D.tup (D.acons (D.acons Z2 (D.acons (D.int .i64 4) (.acons (D.arr RTy.int (96:Nat) r) Z4))) (.acons (D.acons (D.int IntKind.i8 (2:Int)) (.acons (D.int .i64 (cellO Z8 (1:Int) true)) (.acons (D.int .i64 Z3) (.acons Z6 (D.acons (D.int .i64 Z8) Z7))))) Z4)))):=by kernel_rfl
theorem QhA (x:Int) (r:List Int) (gc:Bool):ZL 74 4 r gc [x]=(let Z0:D RC:=D.int IntKind.i8 (74:Int);let Z1:D RC:=.anil;let Z2:D RC:=D.acons (D.arr RTy.int (96:Nat) r) Z1;let Z3:D RC:=D.int .i64 0;bif x == (0:Int) then some (D.tup (D.acons (D.acons Z0 (D.acons (D.int .i64 99) Z2)) (.acons (D.acons (D.int IntKind.i8 (7:Int)) (.acons Z3 (D.acons Z3 (D.acons Z3 (D.acons Z3 (D.acons (D.str []) (.acons (D.sl RTy.int true [(0:Int),(0:Int)]) Z1))))))) Z1))) else some (D.tup (D.acons (D.acons Z0 (D.acons (D.int .i64 5) Z2)) (.acons (D.acons (D.int IntKind.i8 (0:Int)) (.acons (D.int .i64 2) (.acons Z3 (D.acons Z3 (D.acons Z3 (D.acons (D.str []) (.acons (D.sl RTy.int true []) Z1))))))) Z1)))):=by kernel_rfl
theorem QhB (x:Int) (r:List Int) (gc:Bool):ZL 74 5 r gc [x]=(let Z0:D RC:=D.int .i64 0;some (D.tup (D.acons (D.acons (D.int IntKind.i8 (74:Int)) (.acons (D.int .i64 99) (.acons (D.arr RTy.int (96:Nat) r) .anil))) (.acons (D.acons (D.int IntKind.i8 (7:Int)) (.acons Z0 (D.acons Z0 (D.acons Z0 (D.acons Z0 (D.acons (D.str []) (.acons (D.sl RTy.int true [List.getD r (3:Nat) (0:Int),x]) .anil))))))) .anil)))):=by kernel_rfl
theorem Qnk (p:Int) (k:Int) (r:List Int) (gc:Bool) (got:List Int) (h:(cdec (okCh true ⟨p,k,r⟩ got))=true):ZL p k r gc got=some (naR (nCh true ⟨p,k,r⟩ got)):=by
 obtain ⟨hr,hk,hp⟩:=QG.1 h;simp only at hr hk hp;have a22:∀ v:Int,(r.set 2 v).getD 2 0=v:=fun v=>Qd (by omega)
 have a20:∀ v:Int,(r.set 2 v).getD 0 0=r.getD 0 0:=fun v=>Qa (by decide)
 have a33:∀ v:Int,(r.set 3 v).getD 3 0=v:=fun v=>Qd (by omega)
 have a30:∀ v:Int,(r.set 3 v).getD 0 0=r.getD 0 0:=fun v=>Qa (by decide)
 have a31:∀ v:Int,(r.set 3 v).getD 1 0=r.getD 1 0:=fun v=>Qa (by decide)
 rcases hp with ⟨rfl,hk1⟩ | ⟨rfl,hk1⟩ | ⟨rfl,hk1,hk3⟩
 · rcases hk with ⟨rfl,rfl⟩ | ⟨x,rfl,k0⟩
   · clear hk1;have hq:nCh true ⟨72,0,r⟩ []=QJ true 72 r (r.getD 1 0):=rfl;rw [Qhq,hq];clear hq h
     try simp only [maxW,a22,a20,a33,a30,a31,List.set_set]
     repeat' (first | refine chS (fun hc=>?_) (fun hc=>?_) | refine chB (fun hc=>?_) (fun hc=>?_) | refine chN (fun hc=>?_) (fun hc=>?_))
     all_goals
      simp only [QJ,Ze,QX,QY,Qy,QH,Q6,show ¬ (1:Int)=0 by decide,show ¬ (2:Int)=0 by decide,show ¬ (2:Int)=1 by decide,show ¬ (3:Int)=0 by decide,show ¬ (3:Int)=1 by decide,show ¬ (3:Int)=2 by decide,show ¬ (4:Int)=0 by decide,show ¬ (4:Int)=1 by decide,show ¬ (4:Int)=2 by decide,show ¬ (4:Int)=3 by decide,show ¬ (5:Int)=0 by decide,show ¬ (5:Int)=1 by decide,show ¬ (5:Int)=2 by decide,show ¬ (5:Int)=3 by decide,show ¬ (5:Int)=4 by decide,if_true,if_false,cond_true,cond_false,Bool.true_and,Bool.false_and]
      repeat' split
      all_goals first | rfl | (exfalso;omega) | (exfalso;simp_all;done)
   · have ks:k=1:=by omega
     subst ks;have hq:nCh true ⟨72,1,r⟩ [x]=Ze true 1 r x:=rfl;rw [Qhr,hq];clear hq h
     try simp only [maxW,a22,a20,a33,a30,a31,List.set_set]
     repeat' (first | refine chS (fun hc=>?_) (fun hc=>?_) | refine chB (fun hc=>?_) (fun hc=>?_) | refine chN (fun hc=>?_) (fun hc=>?_))
     all_goals
      simp only [QJ,Ze,QX,QY,Qy,QH,Q6,show ¬ (1:Int)=0 by decide,show ¬ (2:Int)=0 by decide,show ¬ (2:Int)=1 by decide,show ¬ (3:Int)=0 by decide,show ¬ (3:Int)=1 by decide,show ¬ (3:Int)=2 by decide,show ¬ (4:Int)=0 by decide,show ¬ (4:Int)=1 by decide,show ¬ (4:Int)=2 by decide,show ¬ (4:Int)=3 by decide,show ¬ (5:Int)=0 by decide,show ¬ (5:Int)=1 by decide,show ¬ (5:Int)=2 by decide,show ¬ (5:Int)=3 by decide,show ¬ (5:Int)=4 by decide,if_true,if_false,cond_true,cond_false,Bool.true_and,Bool.false_and]
      repeat' split
      all_goals first | rfl | (exfalso;omega) | (exfalso;simp_all;done)
 · rcases hk with ⟨rfl,rfl⟩ | ⟨x,rfl,k0⟩
   · clear hk1;have hq:nCh true ⟨73,0,r⟩ []=QJ true 73 r (r.getD 2 0):=rfl;rw [Qhs,hq];clear hq h
     try simp only [maxW,a22,a20,a33,a30,a31,List.set_set]
     repeat' (first | refine chS (fun hc=>?_) (fun hc=>?_) | refine chB (fun hc=>?_) (fun hc=>?_) | refine chN (fun hc=>?_) (fun hc=>?_))
     all_goals
      simp only [QJ,Ze,QX,QY,Qy,QH,Q6,show ¬ (1:Int)=0 by decide,show ¬ (2:Int)=0 by decide,show ¬ (2:Int)=1 by decide,show ¬ (3:Int)=0 by decide,show ¬ (3:Int)=1 by decide,show ¬ (3:Int)=2 by decide,show ¬ (4:Int)=0 by decide,show ¬ (4:Int)=1 by decide,show ¬ (4:Int)=2 by decide,show ¬ (4:Int)=3 by decide,show ¬ (5:Int)=0 by decide,show ¬ (5:Int)=1 by decide,show ¬ (5:Int)=2 by decide,show ¬ (5:Int)=3 by decide,show ¬ (5:Int)=4 by decide,if_true,if_false,cond_true,cond_false,Bool.true_and,Bool.false_and]
      repeat' split
      all_goals first | rfl | (exfalso;omega) | (exfalso;simp_all;done)
   · have ks:k=1 \/ k=2 \/ k=3:=by omega
     rcases ks with rfl | rfl | rfl
     · skip
       have hq:nCh true ⟨73,1,r⟩ [x]=QX true 1 r x:=rfl;rw [Qht,hq];clear hq h
       try simp only [maxW,a22,a20,a33,a30,a31,List.set_set]
       repeat' (first | refine chS (fun hc=>?_) (fun hc=>?_) | refine chB (fun hc=>?_) (fun hc=>?_) | refine chN (fun hc=>?_) (fun hc=>?_))
       all_goals
        simp only [QJ,Ze,QX,QY,Qy,QH,Q6,show ¬ (1:Int)=0 by decide,show ¬ (2:Int)=0 by decide,show ¬ (2:Int)=1 by decide,show ¬ (3:Int)=0 by decide,show ¬ (3:Int)=1 by decide,show ¬ (3:Int)=2 by decide,show ¬ (4:Int)=0 by decide,show ¬ (4:Int)=1 by decide,show ¬ (4:Int)=2 by decide,show ¬ (4:Int)=3 by decide,show ¬ (5:Int)=0 by decide,show ¬ (5:Int)=1 by decide,show ¬ (5:Int)=2 by decide,show ¬ (5:Int)=3 by decide,show ¬ (5:Int)=4 by decide,if_true,if_false,cond_true,cond_false,Bool.true_and,Bool.false_and]
        repeat' split
        all_goals first | rfl | (exfalso;omega) | (exfalso;simp_all;done)
     · skip
       have hq:nCh true ⟨73,2,r⟩ [x]=QX true 2 r x:=rfl;rw [Qhu,hq];clear hq h
       try simp only [maxW,a22,a20,a33,a30,a31,List.set_set]
       repeat' (first | refine chS (fun hc=>?_) (fun hc=>?_) | refine chB (fun hc=>?_) (fun hc=>?_) | refine chN (fun hc=>?_) (fun hc=>?_))
       all_goals
        simp only [QJ,Ze,QX,QY,Qy,QH,Q6,show ¬ (1:Int)=0 by decide,show ¬ (2:Int)=0 by decide,show ¬ (2:Int)=1 by decide,show ¬ (3:Int)=0 by decide,show ¬ (3:Int)=1 by decide,show ¬ (3:Int)=2 by decide,show ¬ (4:Int)=0 by decide,show ¬ (4:Int)=1 by decide,show ¬ (4:Int)=2 by decide,show ¬ (4:Int)=3 by decide,show ¬ (5:Int)=0 by decide,show ¬ (5:Int)=1 by decide,show ¬ (5:Int)=2 by decide,show ¬ (5:Int)=3 by decide,show ¬ (5:Int)=4 by decide,if_true,if_false,cond_true,cond_false,Bool.true_and,Bool.false_and]
        repeat' split
        all_goals first | rfl | (exfalso;omega) | (exfalso;simp_all;done)
     · skip
       have hq:nCh true ⟨73,3,r⟩ [x]=QX true 3 r x:=rfl;rw [Qhv,hq];clear hq h
       try simp only [maxW,a22,a20,a33,a30,a31,List.set_set]
       repeat' (first | refine chS (fun hc=>?_) (fun hc=>?_) | refine chB (fun hc=>?_) (fun hc=>?_) | refine chN (fun hc=>?_) (fun hc=>?_))
       all_goals
        simp only [QJ,Ze,QX,QY,Qy,QH,Q6,show ¬ (1:Int)=0 by decide,show ¬ (2:Int)=0 by decide,show ¬ (2:Int)=1 by decide,show ¬ (3:Int)=0 by decide,show ¬ (3:Int)=1 by decide,show ¬ (3:Int)=2 by decide,show ¬ (4:Int)=0 by decide,show ¬ (4:Int)=1 by decide,show ¬ (4:Int)=2 by decide,show ¬ (4:Int)=3 by decide,show ¬ (5:Int)=0 by decide,show ¬ (5:Int)=1 by decide,show ¬ (5:Int)=2 by decide,show ¬ (5:Int)=3 by decide,show ¬ (5:Int)=4 by decide,if_true,if_false,cond_true,cond_false,Bool.true_and,Bool.false_and]
        repeat' split
        all_goals first | rfl | (exfalso;omega) | (exfalso;simp_all;done)
 · rcases hk with ⟨rfl,rfl⟩ | ⟨x,rfl,k0⟩
   · clear hk1 hk3;have hq:nCh true ⟨74,0,r⟩ []=QJ true 74 r (r.getD 1 0):=rfl;rw [Qhw,hq];clear hq h
     try simp only [maxW,a22,a20,a33,a30,a31,List.set_set]
     repeat' (first | refine chS (fun hc=>?_) (fun hc=>?_) | refine chB (fun hc=>?_) (fun hc=>?_) | refine chN (fun hc=>?_) (fun hc=>?_))
     all_goals
      simp only [QJ,Ze,QX,QY,Qy,QH,Q6,show ¬ (1:Int)=0 by decide,show ¬ (2:Int)=0 by decide,show ¬ (2:Int)=1 by decide,show ¬ (3:Int)=0 by decide,show ¬ (3:Int)=1 by decide,show ¬ (3:Int)=2 by decide,show ¬ (4:Int)=0 by decide,show ¬ (4:Int)=1 by decide,show ¬ (4:Int)=2 by decide,show ¬ (4:Int)=3 by decide,show ¬ (5:Int)=0 by decide,show ¬ (5:Int)=1 by decide,show ¬ (5:Int)=2 by decide,show ¬ (5:Int)=3 by decide,show ¬ (5:Int)=4 by decide,if_true,if_false,cond_true,cond_false,Bool.true_and,Bool.false_and]
      repeat' split
      all_goals first | rfl | (exfalso;omega) | (exfalso;simp_all;done)
   · have ks:k=1 \/ k=2 \/ k=3 \/ k=4 \/ k=5:=by omega
     rcases ks with rfl | rfl | rfl | rfl | rfl
     · skip
       have hq:nCh true ⟨74,1,r⟩ [x]=QY true 1 r x:=rfl;rw [Qhx,hq];clear hq h
       try simp only [maxW,a22,a20,a33,a30,a31,List.set_set]
       repeat' (first | refine chS (fun hc=>?_) (fun hc=>?_) | refine chB (fun hc=>?_) (fun hc=>?_) | refine chN (fun hc=>?_) (fun hc=>?_))
       all_goals
        simp only [QJ,Ze,QX,QY,Qy,QH,Q6,show ¬ (1:Int)=0 by decide,show ¬ (2:Int)=0 by decide,show ¬ (2:Int)=1 by decide,show ¬ (3:Int)=0 by decide,show ¬ (3:Int)=1 by decide,show ¬ (3:Int)=2 by decide,show ¬ (4:Int)=0 by decide,show ¬ (4:Int)=1 by decide,show ¬ (4:Int)=2 by decide,show ¬ (4:Int)=3 by decide,show ¬ (5:Int)=0 by decide,show ¬ (5:Int)=1 by decide,show ¬ (5:Int)=2 by decide,show ¬ (5:Int)=3 by decide,show ¬ (5:Int)=4 by decide,if_true,if_false,cond_true,cond_false,Bool.true_and,Bool.false_and]
        repeat' split
        all_goals first | rfl | (exfalso;omega) | (exfalso;simp_all;done)
     · skip
       have hq:nCh true ⟨74,2,r⟩ [x]=QH true 2 r x:=rfl;rw [Qhy,hq];clear hq h
       by_cases hx:0 < x
       · have ew:wh x=x:=by unfold wh;rw [if_neg (by omega)]
         have ed:decide (0 < x)=true:=decide_eq_true hx;simp only [maxW,ew,a22,a20,a33,a30,a31,List.set_set]
         repeat' (first | refine chS (fun hc=>?_) (fun hc=>?_) | refine chB (fun hc=>?_) (fun hc=>?_) | refine chN (fun hc=>?_) (fun hc=>?_))
         all_goals
          simp only [ew,ed,QJ,Ze,QX,QY,Qy,QH,Q6,show ¬ (1:Int)=0 by decide,show ¬ (2:Int)=0 by decide,show ¬ (2:Int)=1 by decide,show ¬ (3:Int)=0 by decide,show ¬ (3:Int)=1 by decide,show ¬ (3:Int)=2 by decide,show ¬ (4:Int)=0 by decide,show ¬ (4:Int)=1 by decide,show ¬ (4:Int)=2 by decide,show ¬ (4:Int)=3 by decide,show ¬ (5:Int)=0 by decide,show ¬ (5:Int)=1 by decide,show ¬ (5:Int)=2 by decide,show ¬ (5:Int)=3 by decide,show ¬ (5:Int)=4 by decide,if_true,if_false,cond_true,cond_false,Bool.true_and,Bool.false_and]
          repeat' split
          all_goals first | rfl | (exfalso;omega) | (exfalso;simp_all;done)
       · have ew:wh x=0:=by unfold wh;split <;> omega
         have ed:decide (0 < x)=false:=decide_eq_false hx;simp only [maxW,ew,a22,a20,a33,a30,a31,List.set_set]
         repeat' (first | refine chS (fun hc=>?_) (fun hc=>?_) | refine chB (fun hc=>?_) (fun hc=>?_) | refine chN (fun hc=>?_) (fun hc=>?_))
         all_goals
          simp only [ew,ed,QJ,Ze,QX,QY,Qy,QH,Q6,show ¬ (1:Int)=0 by decide,show ¬ (2:Int)=0 by decide,show ¬ (2:Int)=1 by decide,show ¬ (3:Int)=0 by decide,show ¬ (3:Int)=1 by decide,show ¬ (3:Int)=2 by decide,show ¬ (4:Int)=0 by decide,show ¬ (4:Int)=1 by decide,show ¬ (4:Int)=2 by decide,show ¬ (4:Int)=3 by decide,show ¬ (5:Int)=0 by decide,show ¬ (5:Int)=1 by decide,show ¬ (5:Int)=2 by decide,show ¬ (5:Int)=3 by decide,show ¬ (5:Int)=4 by decide,if_true,if_false,cond_true,cond_false,Bool.true_and,Bool.false_and]
          repeat' split
          all_goals first | rfl | (exfalso;omega) | (exfalso;simp_all;done)
     · skip
       have hq:nCh true ⟨74,3,r⟩ [x]=QH true 3 r x:=rfl;rw [Qhz,hq];clear hq h
       by_cases hx:0 < x
       · have ew:wh x=x:=by unfold wh;rw [if_neg (by omega)]
         have ed:decide (0 < x)=true:=decide_eq_true hx;simp only [maxW,ew,a22,a20,a33,a30,a31,List.set_set]
         repeat' (first | refine chS (fun hc=>?_) (fun hc=>?_) | refine chB (fun hc=>?_) (fun hc=>?_) | refine chN (fun hc=>?_) (fun hc=>?_))
         all_goals
          simp only [ew,ed,QJ,Ze,QX,QY,Qy,QH,Q6,show ¬ (1:Int)=0 by decide,show ¬ (2:Int)=0 by decide,show ¬ (2:Int)=1 by decide,show ¬ (3:Int)=0 by decide,show ¬ (3:Int)=1 by decide,show ¬ (3:Int)=2 by decide,show ¬ (4:Int)=0 by decide,show ¬ (4:Int)=1 by decide,show ¬ (4:Int)=2 by decide,show ¬ (4:Int)=3 by decide,show ¬ (5:Int)=0 by decide,show ¬ (5:Int)=1 by decide,show ¬ (5:Int)=2 by decide,show ¬ (5:Int)=3 by decide,show ¬ (5:Int)=4 by decide,if_true,if_false,cond_true,cond_false,Bool.true_and,Bool.false_and]
          repeat' split
          all_goals first | rfl | (exfalso;omega) | (exfalso;simp_all;done)
       · have ew:wh x=0:=by unfold wh;split <;> omega
         have ed:decide (0 < x)=false:=decide_eq_false hx;simp only [maxW,ew,a22,a20,a33,a30,a31,List.set_set]
         repeat' (first | refine chS (fun hc=>?_) (fun hc=>?_) | refine chB (fun hc=>?_) (fun hc=>?_) | refine chN (fun hc=>?_) (fun hc=>?_))
         all_goals
          simp only [ew,ed,QJ,Ze,QX,QY,Qy,QH,Q6,show ¬ (1:Int)=0 by decide,show ¬ (2:Int)=0 by decide,show ¬ (2:Int)=1 by decide,show ¬ (3:Int)=0 by decide,show ¬ (3:Int)=1 by decide,show ¬ (3:Int)=2 by decide,show ¬ (4:Int)=0 by decide,show ¬ (4:Int)=1 by decide,show ¬ (4:Int)=2 by decide,show ¬ (4:Int)=3 by decide,show ¬ (5:Int)=0 by decide,show ¬ (5:Int)=1 by decide,show ¬ (5:Int)=2 by decide,show ¬ (5:Int)=3 by decide,show ¬ (5:Int)=4 by decide,if_true,if_false,cond_true,cond_false,Bool.true_and,Bool.false_and]
          repeat' split
          all_goals first | rfl | (exfalso;omega) | (exfalso;simp_all;done)
     · skip
       have hq:nCh true ⟨74,4,r⟩ [x]=QH true 4 r x:=rfl;rw [QhA,hq];clear hq h
       try simp only [maxW,a22,a20,a33,a30,a31,List.set_set]
       repeat' (first | refine chS (fun hc=>?_) (fun hc=>?_) | refine chB (fun hc=>?_) (fun hc=>?_) | refine chN (fun hc=>?_) (fun hc=>?_))
       all_goals
        simp only [QJ,Ze,QX,QY,Qy,QH,Q6,show ¬ (1:Int)=0 by decide,show ¬ (2:Int)=0 by decide,show ¬ (2:Int)=1 by decide,show ¬ (3:Int)=0 by decide,show ¬ (3:Int)=1 by decide,show ¬ (3:Int)=2 by decide,show ¬ (4:Int)=0 by decide,show ¬ (4:Int)=1 by decide,show ¬ (4:Int)=2 by decide,show ¬ (4:Int)=3 by decide,show ¬ (5:Int)=0 by decide,show ¬ (5:Int)=1 by decide,show ¬ (5:Int)=2 by decide,show ¬ (5:Int)=3 by decide,show ¬ (5:Int)=4 by decide,if_true,if_false,cond_true,cond_false,Bool.true_and,Bool.false_and]
        repeat' split
        all_goals first | rfl | (exfalso;omega) | (exfalso;simp_all;done)
     · skip
       have hq:nCh true ⟨74,5,r⟩ [x]=QH true 5 r x:=rfl;rw [QhB,hq];clear hq h
       try simp only [maxW,a22,a20,a33,a30,a31,List.set_set]
       repeat' (first | refine chS (fun hc=>?_) (fun hc=>?_) | refine chB (fun hc=>?_) (fun hc=>?_) | refine chN (fun hc=>?_) (fun hc=>?_))
       all_goals
        simp only [QJ,Ze,QX,QY,Qy,QH,Q6,show ¬ (1:Int)=0 by decide,show ¬ (2:Int)=0 by decide,show ¬ (2:Int)=1 by decide,show ¬ (3:Int)=0 by decide,show ¬ (3:Int)=1 by decide,show ¬ (3:Int)=2 by decide,show ¬ (4:Int)=0 by decide,show ¬ (4:Int)=1 by decide,show ¬ (4:Int)=2 by decide,show ¬ (4:Int)=3 by decide,show ¬ (5:Int)=0 by decide,show ¬ (5:Int)=1 by decide,show ¬ (5:Int)=2 by decide,show ¬ (5:Int)=3 by decide,show ¬ (5:Int)=4 by decide,if_true,if_false,cond_true,cond_false,Bool.true_and,Bool.false_and]
        repeat' split
        all_goals first | rfl | (exfalso;omega) | (exfalso;simp_all;done)
noncomputable def ud_2:=ud_1.addSpec 40 QfH
theorem Qj6:Qh Tryz.prog s18 ud_2:=Qj4.addEv Qc fun args d h=>by
 unfold QfH at h
 split at h
 · unfold Qj5 at h;have h1:=congrArg Prod.fst (Option.some.inj h);obtain rfl:_=d:=congrArg Prod.snd (Option.some.inj h);exact ⟨by simp [D.refs,QfF],120,Qnk _ _ _ _ _ h1⟩
 · cases h
open Go.Proofs
def goGo (own:Bool) (n:Nat) (st:List Frame) (got:List Int) (e:Bool):GoM:=goN (nCh own) n st got e
def okGo (own:Bool) (n:Nat) (st:List Frame) (got:List Int):Prop:=OkN (nCh own) (okCh own) n st got
def tskR (c:Int) (sf:Bool) (st:List Frame) (gf:Bool) (got:List Int) (over:Bool):D RC:=.acons (.int .i64 c) (.acons (.sl (C:=RC) .frame sf st) (.acons (.sl (C:=RC) .int gf got) (.acons (.bool over) .anil)))
structure QfI where
 c:Int
 sf:Bool
 st:List Frame
 gf:Bool
 got:List Int
 over:Bool
 own:Bool
 i:Nat
noncomputable def QbE (c:Int) (sf:Bool) (st:List Frame) (gf:Bool) (got:List Int) (over:Bool) (own:Bool) (i:Nat):Env RC:=[(1,.bool own),(2,.ptr 0 []),(4,.ptr 1 []),(5,.ptr 2 []),(7,.int .i64 (i:Int))]
def K2 (c:Int) (sf:Bool) (st:List Frame) (gf:Bool) (got:List Int) (over:Bool) (own:Bool) (i:Nat):List (Obj RC):=[.var 47 (.acons (.int .i64 c) (.acons (.sl (C:=RC) .frame sf st) (.acons (.sl (C:=RC) .int gf got) (.acons (.bool over) .anil)))),.var 47 (.acons (.int .i64 0) (.acons (.sl (C:=RC) .frame true []) (.acons (.sl (C:=RC) .int true []) (.acons (.bool false) .anil)))),.var 71 (.acons (.int .i8 0) (.acons (.int .i64 0) (.acons (.int .i64 0) (.acons (.int .i64 0) (.acons (.int .i64 0) (.acons (.str []) (.acons (.sl (C:=RC) .int true []) .anil)))))))]
noncomputable def Qj7 (c:Int) (sf:Bool) (st:List Frame) (gf:Bool) (got:List Int) (over:Bool) (own:Bool) (i:Nat):=rndO s18 ud_2 23 2 120 3 [1,2,4,5,7] [6] [.slot 2 0,.slot 4 0,.slot 5 0] (QbE c sf st gf got over own i) (K2 c sf st gf got over own i)
theorem Qnl (c:Int) (sf:Bool) (st:List Frame) (gf:Bool) (got:List Int) (over:Bool) (own:Bool) (i:Nat):Qj7 c sf st gf got over own i=(let Z0:D RC:=D.int .i64 c;let Z1:D RC:=.anil;let Z2:Option (Obj RC):=some (Obj.var 47 (.acons Z0 (D.acons (D.sl RTy.frame sf st) (.acons (D.sl RTy.int gf got) (.acons (D.bool over) Z1)))));let Z3:D RC:=D.int .i64 0;let Z4:List (Option (Obj RC)):=[some (Obj.var 71 (.acons (D.int IntKind.i8 (0:Int)) (.acons Z3 (D.acons Z3 (D.acons Z3 (D.acons Z3 (D.acons (D.str []) (.acons (D.sl RTy.int true []) Z1))))))))];let Z5:Frame:=Frame.mk (Frame.prog (topF st)) (Frame.at' (topF st)) (Frame.r (topF st));let Z6:NA:=nCh true Z5 got;let Z7:Qb:=NA.a Z6;let Z8:Int:=Qb.kind Z7;let Z9:Qb:=Qb.mk Z8 (Qb.a Z7) (Qb.b Z7) (Qb.v Z7) (Qb.gen Z7) (Qb.text Z7) (Qb.args Z7);let Z10:X × Env RC:=(X.ret,[(6,D.bool true)]);let Z11:List Frame:=tkSt st (Frame.mk (Frame.prog (NA.f Z6)) (Frame.at' (NA.f Z6)) (Frame.r (NA.f Z6))) Z9;let Z12:Option (Obj RC):=some (Obj.var 47 (.acons Z0 (D.acons (D.sl RTy.frame false Z11) (.acons (D.sl RTy.int (tkFl gf Z9) (Vm got Z9)) (.acons (D.bool (decide (Z11=[]))) Z1)))));let Z13:X × Env RC:=(X.normal,[(1,D.bool own),(2,D.ptr 0 []),(4,D.ptr 1 []),(5,D.ptr 2 []),(7,D.int .i64 (IntKind.wrap .i64 ((↑i:Int)+(1:Int))))]);let Z14:List (Option (Obj RC)):=some (Obj.var 47 (.acons Z3 (D.acons (D.sl RTy.frame true []) (.acons (D.sl RTy.int true []) (.acons (D.bool false) Z1)))))::Z4;let Z15:NA:=nCh false Z5 got;let Z16:Qb:=NA.a Z15;let Z17:Int:=Qb.kind Z16;let Z18:Qb:=Qb.mk Z17 (Qb.a Z16) (Qb.b Z16) (Qb.v Z16) (Qb.gen Z16) (Qb.text Z16) (Qb.args Z16);let Z19:List Frame:=tkSt st (Frame.mk (Frame.prog (NA.f Z15)) (Frame.at' (NA.f Z15)) (Frame.r (NA.f Z15))) Z18;let Z20:Option (Obj RC):=some (Obj.var 47 (.acons Z0 (D.acons (D.sl RTy.frame false Z19) (.acons (D.sl RTy.int (tkFl gf Z18) (Vm got Z18)) (.acons (D.bool (decide (Z19=[]))) Z1)))));bif decide ((↑i:Int) < (64:Int)) then bif Qe st.length then bif !decide (st ≠ []) then some ((X.ret,[(6,D.bool false)]),Z2::Z2::Z4) else bif own then bif cdec (okCh true Z5 got) then bif cdec (OkTk c st got Z9) && !over then bif decide (Z8 < (6:Int)) then some (Z10,[Z12,Z12,some (Obj.var 71 (.acons (D.int IntKind.i8 Z8) (.acons (D.int .i64 (Qb.a Z7)) (.acons (D.int .i64 (Qb.b Z7)) (.acons (D.int .i64 (Qb.v Z7)) (.acons (D.int .i64 (Qb.gen Z7)) (.acons (D.str (Qb.text Z7)) (.acons (D.sl RTy.int (NA.fl Z6) (Qb.args Z7)) Z1))))))))]) else some (Z13,Z12::Z14) else none else none else bif cdec (okCh false Z5 got) then bif cdec (OkTk c st got Z18) && !over then bif decide (Z17 < (6:Int)) then some (Z10,[Z20,Z20,some (Obj.var 71 (.acons (D.int IntKind.i8 Z17) (.acons (D.int .i64 (Qb.a Z16)) (.acons (D.int .i64 (Qb.b Z16)) (.acons (D.int .i64 (Qb.v Z16)) (.acons (D.int .i64 (Qb.gen Z16)) (.acons (D.str (Qb.text Z16)) (.acons (D.sl RTy.int (NA.fl Z15) (Qb.args Z16)) Z1))))))))]) else some (Z13,Z20::Z14) else none else none else none else some ((X.exit (0:Nat),[(6,D.top)]),Z2::Z14)):=by kernel_rfl
noncomputable def Yk (c:Int) (sf:Bool) (st:List Frame) (gf:Bool) (got:List Int) (over:Bool) (own:Bool) (i:Nat):RT RC:=.leaf .ret [(6,.bool (goGo own (64 - i) st got gf).is)] [.var 47 (tskR c false (goGo own (64 - i) st got gf).st (goGo own (64 - i) st got gf).gf (goGo own (64 - i) st got gf).got (decide ((goGo own (64 - i) st got gf).st=[]))),.var 47 (tskR c false (goGo own (64 - i) st got gf).st (goGo own (64 - i) st got gf).gf (goGo own (64 - i) st got gf).got (decide ((goGo own (64 - i) st got gf).st=[]))),.var 71 (actR (goGo own (64 - i) st got gf).a (goGo own (64 - i) st got gf).af)]
def Vx (c:Int) (sf:Bool) (st:List Frame) (gf:Bool) (got:List Int) (over:Bool) (own:Bool) (i:Nat):Prop:=0 <= c /\ c <= 3 /\ i <= 64 /\ over=decide (st=[]) /\ (st=[]->sf=false) /\ okGo own (64 - i) st got
noncomputable def Vy:QV RC QfI where
 k:=3
 canon q:=QbE q.c q.sf q.st q.gf q.got q.over q.own q.i
 objs q:=K2 q.c q.sf q.st q.gf q.got q.over q.own q.i
 fin q:=Yk q.c q.sf q.st q.gf q.got q.over q.own q.i
 Inv q:=Vx q.c q.sf q.st q.gf q.got q.over q.own q.i
 μ q:=64 - q.i
theorem Qd2 (c:Int) (sf:Bool) (st:List Frame) (gf:Bool) (got:List Int) (over:Bool) (own:Bool) (i:Nat) (hI:Vx c sf st gf got over own i):Leaf (Qj7 c sf st gf got over own i) (LedR Vy ⟨c,sf,st,gf,got,over,own,i⟩):=by
 (rw [Qnl];conv=>zeta)
 unfold Vx at hI;obtain ⟨c0,c3,hi,ho,hsf,hok⟩:=hI;have feta:∀ f:Frame,Frame.mk f.prog f.at' f.r=f:=fun _=>rfl;have aeta:∀ a:Qb,Qb.mk a.kind a.a a.b a.v a.gen a.text a.args=a:=fun _=>rfl;simp only [feta,aeta]
 obtain ⟨m,hm⟩:∃ m,64 - i=m+1:=by
  cases hq:64 - i with
  | zero=>unfold okGo at hok;rw [hq] at hok;exact hok.elim
  | succ m=>exact ⟨m,rfl⟩
 have hm2:64 - (i+1)=m:=by omega
 have d1:decide ((i:Int) < 64)=true:=decide_eq_true (by omega)
 unfold okGo at hok;rw [hm] at hok
 have hfin:∀ R:GoM,goN (nCh own) (m+1) st got gf=R->(Yk c sf st gf got over own i).val=some ((.ret,[(6,.bool R.is)]),[.var 47 (tskR c false R.st R.gf R.got (decide (R.st=[]))),.var 47 (tskR c false R.st R.gf R.got (decide (R.st=[]))),.var 71 (actR R.a R.af)]):=fun R hR=>by
  unfold Yk goGo;rw [hm,hR];rfl
 rcases hok with rfl | ⟨hne,hl6,hg,hk,hmay,k0,k7,hnx⟩
 · have hsf:=hsf rfl;subst hsf;have d2:Qe ([]:List Frame).length=true:=rfl;have d3:decide (([]:List Frame) ≠ [])=false:=decide_eq_false fun h=>h rfl;subst ho;simp only [d1,d2,d3,Bool.not_false,cond_true];exact Zy _ (hfin _ rfl) rfl
 · have l1:1 <= st.length:=List.length_pos_iff.2 hne;have d2:Qe st.length=true:=Qu (by omega)
   have d3:decide (st ≠ [])=true:=decide_eq_true hne;have ho:over=false:=by rw [ho];exact decide_eq_false hne
   subst ho;have e1:cdec (okCh own (topF st) got)=true:=QK hk
   have e2:cdec (OkTk c st got (nCh own (topF st) got).a)=true:=QK ⟨c0,c3,hg,l1,hl6,hmay,k0,k7,fun e=>by
    rcases hnx with h | h
    · omega
    · exact h.1 e⟩
   have hR:goN (nCh own) (m+1) st got gf=if (nCh own (topF st) got).a.kind < 6 then ⟨tkSt st (nCh own (topF st) got).f (nCh own (topF st) got).a,got,gf,(nCh own (topF st) got).a,(nCh own (topF st) got).fl,true⟩
    else goN (nCh own) m (tkSt st (nCh own (topF st) got).f (nCh own (topF st) got).a) (Vm got (nCh own (topF st) got).a) (tkFl gf (nCh own (topF st) got).a):=by
    rw [goN,if_neg hne]
   have hgoal:∀ N:NA,nCh own (topF st) got=N->Leaf (cond (decide (N.a.kind < 6)) (some ((X.ret,[(6,D.bool true)]),[some (Obj.var 47 (tskR c false (tkSt st N.f N.a) (tkFl gf N.a) (Vm got N.a) (decide (tkSt st N.f N.a=[])))),some (Obj.var 47 (tskR c false (tkSt st N.f N.a) (tkFl gf N.a) (Vm got N.a) (decide (tkSt st N.f N.a=[])))),some (Obj.var 71 (actR N.a N.fl))]))
    (some ((X.normal,QbE c false (tkSt st N.f N.a) (tkFl gf N.a) (Vm got N.a) (decide (tkSt st N.f N.a=[])) own (i+1)),(K2 c false (tkSt st N.f N.a) (tkFl gf N.a) (Vm got N.a) (decide (tkSt st N.f N.a=[])) own (i+1)).map some))) (LedR Vy ⟨c,sf,st,gf,got,false,own,i⟩):=fun N hN=>by
    rw [hN] at hR hnx
    by_cases hk6:N.a.kind < 6
    · rw [if_pos hk6] at hR;rw [decide_eq_true hk6,cond_true];have t1:Vm got N.a=got:=if_pos hk6;have t2:tkFl gf N.a=gf:=if_pos hk6;rw [t1,t2];exact Zy _ (hfin _ hR) rfl
    · rw [if_neg hk6] at hR;rw [decide_eq_false hk6,cond_false];refine QL (S:=Vy) ⟨c,false,tkSt st N.f N.a,tkFl gf N.a,Vm got N.a,decide (tkSt st N.f N.a=[]),own,i+1⟩ ⟨c0,c3,by show i+1 <= 64;omega,rfl,fun _=>rfl,?_⟩ (by simp only [Vy];omega) ?_ rfl rfl
      · show OkN (nCh own) (okCh own) (64 - (i+1)) _ _;rw [hm2];rcases hnx with h | h
        · exact absurd h hk6
        · exact h.2
      · show (Yk c false (tkSt st N.f N.a) (tkFl gf N.a) (Vm got N.a) (decide (tkSt st N.f N.a=[])) own (i+1)).val=(Yk c sf st gf got false own i).val;rw [hfin _ hR];unfold Yk goGo;rw [hm2];rfl
   have w1:IntKind.i64.wrap ((i:Int)+1)=((i+1:Nat):Int):=by rw [Qq (by omega) (by omega)];simp
   have q0:((0:Int) != 0)=false:=rfl;cases own
   · simp only [d1,d2,d3,e1,e2,w1,q0,Bool.not_true,Bool.not_false,Bool.and_self,cond_true,cond_false];exact hgoal _ rfl
   · simp only [d1,d2,d3,e1,e2,w1,q0,Bool.not_true,Bool.not_false,Bool.and_self,cond_true,cond_false];exact hgoal _ rfl
noncomputable def Qd3 (env:Env RC) (os:List (Obj RC)):Option (Bool × QfI):=match env,os with
 | [(1,.bool own),(2,.ptr 0 []),(4,.ptr 1 []),(5,.ptr 2 []),(7,.int .i64 x0)],[.var 47 (.acons (.int .i64 c) (.acons (.sl .frame sf st) (.acons (.sl .int gf got) (.acons (.bool over) .anil)))),.var 47 (.acons (.int .i64 0) (.acons (.sl .frame true []) (.acons (.sl .int true []) (.acons (.bool false) .anil)))),.var 71 (.acons (.int .i8 0) (.acons (.int .i64 0) (.acons (.int .i64 0) (.acons (.int .i64 0) (.acons (.int .i64 0) (.acons (.str []) (.acons (.sl .int true []) .anil)))))))]=>QO (true) (decide (x0=0) && cdec (0 <= c /\ c <= 3 /\ over=decide (st=[]) /\ (st=[]->sf=false) /\ okGo own 64 st got),⟨c,sf,st,gf,got,over,own,0⟩)
 | _,_=>none
noncomputable def ue_1:=ud_2.addLoop 23 2 (sumR s18 [.slot 2 0,.slot 4 0,.slot 5 0] [1,2,4,5,7] Vy Qd3)
theorem Qj8:Qh Tryz.prog s18 ue_1:=by
 refine Qj6.addRoundsR Qc (by kernel_rfl) Vy 120 [1,2,4,5,7] [6] [.slot 2 0,.slot 4 0,.slot 5 0] [1,2,4,5,7] Qd3 (fun q hI=>?_) ?_
 · obtain ⟨c,sf,st,gf,got,over,own,i⟩:=q;refine ⟨?_,?_,Qd2 c sf st gf got over own i hI⟩
   · simp_all [Qj,Vy,QbE,K2,Vx,D.refs,Obj.refs,rEnc]
   · simp_all [Vy,Yk,K2,Vx,RT.refsOK,Qj,D.refs,Obj.refs,rEnc,tskR,actR]
 · intro env os b q hd_ hb;unfold Qd3 at hd_
   split at hd_
   · obtain ⟨hs,hd_⟩:=Qg hd_;cases hd_;simp only [Bool.and_eq_true,decide_eq_true_eq] at hb;obtain ⟨e0,e1⟩:=hb;subst e0;obtain ⟨h1,h2,h3,h4,h5⟩:=QG.1 e1;exact ⟨⟨h1,h2,Nat.zero_le _,h3,h4,h5⟩,rfl,rfl⟩
   · cases hd_
noncomputable def QoJ (c:Int) (sf:Bool) (st:List Frame) (gf:Bool) (got:List Int) (over:Bool) (own:Bool):Option (Bool × D RC):=some (cdec (0 <= c /\ c <= 3 /\ over=decide (st=[]) /\ (st=[]->sf=false) /\ okGo own 64 st got),.tup (.acons (tskR c false (goGo own 64 st got gf).st (goGo own 64 st got gf).gf (goGo own 64 st got gf).got (decide ((goGo own 64 st got gf).st=[]))) (.acons (actR (goGo own 64 st got gf).a (goGo own 64 st got gf).af) (.acons (.bool (goGo own 64 st got gf).is) .anil))))
noncomputable def Qj9:List (D RC)->Option (Bool × D RC)
 | [.acons (.int .i64 c) (.acons (.sl .frame sf st) (.acons (.sl .int gf got) (.acons (.bool over) .anil))),.bool own]=>QoJ c sf st gf got over own
 | _=>none
noncomputable def QoK (c:Int) (sf:Bool) (st:List Frame) (gf:Bool) (got:List Int) (over:Bool) (own:Bool):=evF s18 ue_1 120 23 [.acons (.int .i64 c) (.acons (.sl (C:=RC) .frame sf st) (.acons (.sl (C:=RC) .int gf got) (.acons (.bool over) .anil))),.bool own]
theorem Qqn (c:Int) (sf:Bool) (st:List Frame) (gf:Bool) (got:List Int) (over:Bool) (own:Bool):QoK c sf st gf got over own=(let Z0:GoM:=goGo own (64:Nat) st got gf;let Z1:Qb:=GoM.a Z0;bif cdec ((0:Int) <= c /\ c <= (3:Int) /\ over=decide (st=[]) /\ (st=[]->sf=false) /\ okGo own (64:Nat) st got) then some (D.tup (D.acons (D.acons (D.int .i64 c) (.acons (D.sl RTy.frame false (GoM.st Z0)) (.acons (D.sl RTy.int (GoM.gf Z0) (GoM.got Z0)) (.acons (D.bool (decide (GoM.st Z0=[]))) .anil)))) (.acons (D.acons (D.int IntKind.i8 (Qb.kind Z1)) (.acons (D.int .i64 (Qb.a Z1)) (.acons (D.int .i64 (Qb.b Z1)) (.acons (D.int .i64 (Qb.v Z1)) (.acons (D.int .i64 (Qb.gen Z1)) (.acons (D.str (Qb.text Z1)) (.acons (D.sl RTy.int (GoM.af Z0) (Qb.args Z1)) .anil))))))) (.acons (D.bool (GoM.is Z0)) .anil)))) else none):=by kernel_rfl
theorem Qqo (c:Int) (sf:Bool) (st:List Frame) (gf:Bool) (got:List Int) (over:Bool) (own:Bool) (h:(cdec (0 <= c /\ c <= 3 /\ over=decide (st=[]) /\ (st=[]->sf=false) /\ okGo own 64 st got))=true):QoK c sf st gf got over own=some (.tup (.acons (tskR c false (goGo own 64 st got gf).st (goGo own 64 st got gf).gf (goGo own 64 st got gf).got (decide ((goGo own 64 st got gf).st=[]))) (.acons (actR (goGo own 64 st got gf).a (goGo own 64 st got gf).af) (.acons (.bool (goGo own 64 st got gf).is) .anil)))):=by
 (rw [Qqn];conv=>zeta)
 simp only [h,decide_true,Bool.and_self,cond_true];rfl
noncomputable def ue_2:=ue_1.addSpec 23 Qj9
theorem Qka:Qh Tryz.prog s18 ue_2:=Qj8.addEv Qc fun args d h=>by
 unfold Qj9 at h
 split at h
 · unfold QoJ at h;have h1:=congrArg Prod.fst (Option.some.inj h);obtain rfl:_=d:=congrArg Prod.snd (Option.some.inj h);exact ⟨by simp [D.refs],120,Qqo _ _ _ _ _ _ _ h1⟩
 · cases h
open Go.Proofs
structure QfJ where
 c:Bool
 l:List Sector
 i:Nat
def QbF (c:Bool) (l:List Sector) (i:Nat):Env RC:=[(0,.sl (C:=RC) .sector c l),(2,.bool false),(3,.int .i64 (i:Int))]
def QbG (c:Bool) (l:List Sector) (i:Nat):List (Obj RC):=[]
noncomputable def Qkb (c:Bool) (l:List Sector) (i:Nat):=rndO s18 ue_2 108 4 40 0 [0,2,3] [2] [] (QbF c l i) (QbG c l i)
theorem Qnm (c:Bool) (l:List Sector) (i:Nat):Qkb c l i=(let Z0:Int:=(↑i:Int);let Z1:Bool:=decide ((0:Int) <= Z0 /\ Z0 < (↑l.length:Int));let Z2:Sector:=List.getD l Z0.toNat (Sector.mk (0:Int) []);let Z3:Int:=Sector.n Z2;let Z4:RO_:=some ((X.ret,[(2,D.bool false)]),[]);let Z5:Nat:=List.length (Sector.b Z2);let Z6:RO_:=some ((X.normal,[(0,D.sl RTy.sector c l),(2,D.bool false),(3,D.int .i64 (IntKind.wrap .i64 (Z0+(1:Int))))]),[]);bif Qe l.length then bif decide (Z0 < (↑l.length:Int)) then bif Z1 then bif decide (Z3 < (0:Int)) then Z4 else bif Z1 then bif decide ((1048575:Int) < Z3) then Z4 else bif Z1 then bif Qe Z5 then bif decide ((640:Int) < (↑Z5:Int)) then Z4 else bif Z1 then bif Z3 == (0:Int) then bif Z1 then bif !Sector.b Z2 == Array.toList #[] then Z4 else Z6 else none else Z6 else none else none else none else none else none else some ((X.exit (0:Nat),[(2,D.bool false)]),[]) else none):=by kernel_rfl
def Vz (c:Bool) (l:List Sector) (i:Nat):RT RC:=.br (l.drop i |>.all Zz) (.leaf (.exit 0) [(2,.bool false)] []) (.leaf .ret [(2,.bool false)] [])
def VA (c:Bool) (l:List Sector) (i:Nat):Prop:=i <= l.length /\ Qr l=true
def Yl:QV RC QfJ where
 k:=0
 canon q:=QbF q.c q.l q.i
 objs q:=QbG q.c q.l q.i
 fin q:=Vz q.c q.l q.i
 Inv q:=VA q.c q.l q.i
 μ q:=q.l.length - q.i
theorem Qd4 (c:Bool) (l:List Sector) (i:Nat) (hI:VA c l i):Leaf (Qkb c l i) (LedR Yl ⟨c,l,i⟩):=by
 (rw [Qnm];conv=>zeta)
 unfold VA at hI;obtain ⟨h1,hg⟩:=hI;have h2:=(Vv.1 hg).1;have hlk0:Qe l.length=true:=Qu h2
 by_cases hlt:i < l.length
 · have w_succ:IntKind.i64.wrap ((i:Int)+1)=((i+1:Nat):Int):=by rw [Qq (by omega) (by omega)];simp
   have d_lt:decide ((i:Int) < l.length)=true:=by simp;omega
   have d_in:decide (0 <= (i:Int) /\ (i:Int) < l.length)=true:=by simp;omega
   have t_nat:((i:Int)).toNat=i:=by simp
   simp only [w_succ,d_lt,d_in,t_nat,cond_true];have hlk:=QmE hg i hlt (⟨0,[]⟩:Sector);have hst:=Vc l Zz i hlt (⟨0,[]⟩:Sector);generalize l.getD i (⟨0,[]⟩:Sector)=x at hst hlk ⊢;simp only [hlk0,hlk,cond_true]
   have hgo:Zz x=true->Leaf (some ((X.normal,QbF c l (i+1)),[])) (LedR Yl ⟨c,l,i⟩):=fun e =>
    QL ⟨c,l,i+1⟩ ⟨hlt,hg⟩ (by simp only [Yl];omega) (by simp [Yl,Vz,hst,e]) rfl rfl
   have hno:Zz x=false->Leaf (some ((X.ret,[(2,D.bool false)]),[])) (LedR Yl ⟨c,l,i⟩):=fun e=>Zy [] (by simp [Yl,Vz,hst,e,RT.val]) rfl
   have hm:Zz x=(decide (0 <= x.n) && decide (x.n <= 1048575) && decide (x.b.length <= 640) && (decide (0 < x.n) || x.b == [])):=rfl;rw [hm] at hgo hno
   repeat' (refine QcB.2 ⟨fun hc_=>?_,fun hc_=>?_⟩)
   all_goals first | exact hno (by clear hgo hno hst hm;simp_all <;> omega) | exact hgo (by clear hgo hno hst hm;simp_all <;> omega)
 · have hi:i=l.length:=by omega
   have c1:decide ((i:Int) < l.length)=false:=by simp;omega
   rw [hlk0,c1];exact QA [] (by simp [Yl,Vz,hi,RT.val]) rfl
def Qd5 (env:Env RC) (os:List (Obj RC)):Option (Bool × QfJ):=match env,os with
 | [(0,.sl .sector c l),(2,.bool false),(3,.int .i64 x0)],[]=>QO (true) (decide (x0=0) && Qr l,⟨c,l,0⟩)
 | _,_=>none
noncomputable def uf_1:=ue_2.addLoop 108 4 (sumR s18 [] [0,2,3] Yl Qd5)
theorem Qkc:Qh Tryz.prog s18 uf_1:=by
 refine Qka.addRoundsR Qc (by kernel_rfl) Yl 40 [0,2,3] [2] [] [0,2,3] Qd5 (fun q hI=>?_) ?_
 · obtain ⟨c,l,i⟩:=q;refine ⟨?_,?_,Qd4 c l i hI⟩
   · simp_all [Qj,Yl,QbF,QbG,VA,D.refs,Obj.refs,rEnc]
   · simp_all [Yl,Vz,QbG,VA,RT.refsOK,Qj,D.refs,Obj.refs,rEnc]
 · intro env os b q hd_ hb;unfold Qd5 at hd_
   split at hd_
   · obtain ⟨hs,hd_⟩:=Qg hd_;cases hd_;simp only [Bool.and_eq_true,decide_eq_true_eq] at hb;obtain ⟨rfl,hl⟩:=hb;exact ⟨⟨Nat.zero_le _,hl⟩,rfl,rfl⟩
   · cases hd_
def Qkd (c:Bool) (l:List Sector):Option (Bool × D RC):=some (Qr l,.bool (YQ l))
def QfK:List (D RC)->Option (Bool × D RC)
 | [.sl .sector c l]=>Qkd c l
 | _=>none
noncomputable def Qke (c:Bool) (l:List Sector):=evF s18 uf_1 40 108 [.sl (C:=RC) .sector c l]
theorem Qnn (c:Bool) (l:List Sector):Qke c l=(bif Qe l.length then bif (↑l.length:Int) != (33:Int) then some (D.bool false) else bif Qr l then bif List.all (List.drop (0:Nat) l) Zz then some (D.bool true) else some (D.bool false) else none else none):=by kernel_rfl
theorem Qno (c:Bool) (l:List Sector) (h:(Qr l)=true):Qke c l=some (.bool (YQ l)):=by
 rw [Qnn];have hl:=(Vv.1 h).1;have lk:=Qu hl;simp only [h,lk,YQ,cond_true,List.drop_zero]
 by_cases e:l.length=33
 · have e2:((l.length:Int) != 33)=false:=by simp [e]
   cases hm:l.all Zz <;> simp [e,hm]
 · have e2:((l.length:Int) != 33)=true:=by simp [bne];omega
   simp [e,e2]
noncomputable def uf_2:=uf_1.addSpec 108 QfK
theorem Qkf:Qh Tryz.prog s18 uf_2:=Qkc.addEv Qc fun args d h=>by
 unfold QfK at h
 split at h
 · unfold Qkd at h;have h1:=congrArg Prod.fst (Option.some.inj h);obtain rfl:_=d:=congrArg Prod.snd (Option.some.inj h);exact ⟨by simp [D.refs],40,Qno _ _ h1⟩
 · cases h
structure QfL where
 c:Bool
 now:List Sector
 d:Bool
 sure:List Sector
 i:Nat
def Qd6 (c:Bool) (now:List Sector) (d:Bool) (sure:List Sector) (i:Nat):Env RC:=[(1,.ptr 0 []),(2,.int .i64 0),(3,.int .i64 (i:Int))]
def VB (c:Bool) (now:List Sector) (d:Bool) (sure:List Sector) (i:Nat):List (Obj RC):=[.var 42 (.acons (.sl (C:=RC) .sector c now) (.acons (.sl (C:=RC) .sector d sure) .anil))]
noncomputable def Qkg (c:Bool) (now:List Sector) (d:Bool) (sure:List Sector) (i:Nat):=rndO s18 uf_2 78 4 40 1 [1,2,3] [2] [.slot 1 0] (Qd6 c now d sure i) (VB c now d sure i)
theorem Qnp (c:Bool) (now:List Sector) (d:Bool) (sure:List Sector) (i:Nat):Qkg c now d sure i=(let Z0:Int:=(↑i:Int);let Z1:List (Option (Obj RC)):=[some (Obj.var 42 (.acons (D.sl RTy.sector c now) (.acons (D.sl RTy.sector d sure) .anil)))];let Z2:Nat × D RC:=(2,D.int .i64 0);bif Qe now.length then bif decide (Z0 < (↑now.length:Int)) then bif decide ((0:Int) <= Z0 /\ Z0 < (↑sure.length:Int)) then bif decide ((0:Int) <= Z0 /\ Z0 < (↑now.length:Int)) then bif decide (Sector.n (List.getD now Z0.toNat (Sector.mk (0:Int) [])) < Sector.n (List.getD sure Z0.toNat (Sector.mk (0:Int) []))) then some ((X.ret,[(2,D.int .i64 2)]),Z1) else some ((X.normal,[(1,D.ptr 0 []),Z2,(3,D.int .i64 (IntKind.wrap .i64 (Z0+(1:Int))))]),Z1) else none else none else some ((X.exit (0:Nat),[Z2]),Z1) else none):=by kernel_rfl
def VC (c:Bool) (now:List Sector) (d:Bool) (sure:List Sector) (i:Nat):RT RC:=.br (Ki now sure i) (.leaf (.exit 0) [(2,.int .i64 0)] (VB c now d sure i)) (.leaf .ret [(2,.int .i64 2)] (VB c now d sure i))
def VD (c:Bool) (now:List Sector) (d:Bool) (sure:List Sector) (i:Nat):Prop:=i <= now.length /\ now.length <= 9223372036854775807 /\ now.length=sure.length
def Vf:QV RC QfL where
 k:=1
 canon q:=Qd6 q.c q.now q.d q.sure q.i
 objs q:=VB q.c q.now q.d q.sure q.i
 fin q:=VC q.c q.now q.d q.sure q.i
 Inv q:=VD q.c q.now q.d q.sure q.i
 μ q:=q.now.length - q.i
theorem Qd7 (c:Bool) (now:List Sector) (d:Bool) (sure:List Sector) (i:Nat) (hI:VD c now d sure i):Leaf (Qkg c now d sure i) (LedR Vf ⟨c,now,d,sure,i⟩):=by
 (rw [Qnp];conv=>zeta)
 unfold VD at hI;obtain ⟨h1,h2,h3⟩:=hI;have hlk0:Qe now.length=true:=Qu h2
 by_cases hlt:i < now.length
 · have w_succ:IntKind.i64.wrap ((i:Int)+1)=((i+1:Nat):Int):=by rw [Qq (by omega) (by omega)];simp
   have d_lt:decide ((i:Int) < now.length)=true:=by simp;omega
   have d_in:decide (0 <= (i:Int) /\ (i:Int) < now.length)=true:=by simp;omega
   have t_nat:((i:Int)).toNat=i:=by simp
   simp only [w_succ,d_lt,d_in,t_nat,cond_true];have hlt2:i < sure.length:=by omega
   have d_in2:decide (0 <= (i:Int) /\ (i:Int) < sure.length)=true:=by simp;omega
   simp only [d_in2,hlk0,cond_true];have hst:=QgN (now:=now) (sure:=sure) i hlt (by omega) (⟨0,[]⟩:Sector)
   generalize now.getD i (⟨0,[]⟩:Sector)=x at hst ⊢;generalize sure.getD i (⟨0,[]⟩:Sector)=y at hst ⊢;cases a1:decide (y.n <= x.n)
   · have a2:decide (x.n < y.n)=true:=by simp at a1 ⊢;exact a1
     simp only [a2,cond_true];exact Zy (VB c now d sure i) (by simp [Vf,VC,hst,a1,RT.val]) rfl
   · have a2:decide (x.n < y.n)=false:=by simp at a1 ⊢;exact a1
     simp only [a2,cond_false];exact QL ⟨c,now,d,sure,i+1⟩ ⟨hlt,h2,h3⟩ (by simp only [Vf];omega) (by simp [Vf,VC,hst,a1];rfl) rfl rfl
 · have hi:i=now.length:=by omega
   have c1:decide ((i:Int) < now.length)=false:=by simp;omega
   rw [hlk0,c1];exact QA (VB c now d sure i) (by simp [Vf,VC,hi,QiN,RT.val]) rfl
def Qd8 (env:Env RC) (os:List (Obj RC)):Option (Bool × QfL):=match env,os with
 | [(1,.ptr 0 []),(2,.int .i64 0),(3,.int .i64 x0)],[.var 42 (.acons (.sl .sector c now) (.acons (.sl .sector d sure) .anil))]=>QO (true) (decide (x0=0) && decide (now.length <= 9223372036854775807 /\ now.length=sure.length),⟨c,now,d,sure,0⟩)
 | _,_=>none
noncomputable def uf_3:=uf_2.addLoop 78 4 (sumR s18 [.slot 1 0] [1,2,3] Vf Qd8)
theorem Qkh:Qh Tryz.prog s18 uf_3:=by
 refine Qkf.addRoundsR Qc (by kernel_rfl) Vf 40 [1,2,3] [2] [.slot 1 0] [1,2,3] Qd8 (fun q hI=>?_) ?_
 · obtain ⟨c,now,d,sure,i⟩:=q;refine ⟨?_,?_,Qd7 c now d sure i hI⟩
   · simp_all [Qj,Vf,Qd6,VB,VD,D.refs,Obj.refs,rEnc]
   · simp_all [Vf,VC,VB,VD,RT.refsOK,Qj,D.refs,Obj.refs,rEnc]
 · intro env os b q hd_ hb;unfold Qd8 at hd_
   split at hd_
   · obtain ⟨hs,hd_⟩:=Qg hd_;cases hd_;simp only [Bool.and_eq_true,decide_eq_true_eq] at hb;obtain ⟨rfl,hl⟩:=hb;exact ⟨⟨Nat.zero_le _,hl⟩,rfl,rfl⟩
   · cases hd_
def QfM (c:Bool) (now:List Sector) (d:Bool) (sure:List Sector):Option (Bool × D RC):=some (Qr now && Qr sure,.int .i64 (bif Qx now sure then 0 else 2))
def Qc9:List (D RC)->Option (Bool × D RC)
 | [.acons (.sl .sector c now) (.acons (.sl .sector d sure) .anil)]=>QfM c now d sure
 | _=>none
noncomputable def QfN (c:Bool) (now:List Sector) (d:Bool) (sure:List Sector):=evF s18 uf_3 40 78 [.acons (.sl (C:=RC) .sector c now) (.acons (.sl (C:=RC) .sector d sure) .anil)]
theorem Qki (c:Bool) (now:List Sector) (d:Bool) (sure:List Sector):QfN c now d sure=(let Z0:DO_:=some (D.int .i64 2);bif Qr now then bif !YQ now then Z0 else bif Qr sure then bif !YQ sure then Z0 else bif decide (List.length now <= (9223372036854775807:Nat) /\ List.length now=List.length sure) then bif Ki now sure (0:Nat) then some (D.int .i64 0) else Z0 else none else none else none):=by kernel_rfl
theorem Qkj (c:Bool) (now:List Sector) (d:Bool) (sure:List Sector) (h:(Qr now && Qr sure)=true):QfN c now d sure=some (.int .i64 (bif Qx now sure then 0 else 2)):=by
 (rw [Qki];conv=>zeta)
 rw [Bool.and_eq_true] at h;obtain ⟨hg,hgs⟩:=h;have hl:=(Vv.1 hg).1;simp only [hg,hgs,cond_true,Qx];cases h1:YQ now
 · rfl
 cases h2:YQ sure
 · rfl
 have l1:=KW h1;have l2:=KW h2;have e:decide (now.length <= 9223372036854775807 /\ now.length=sure.length)=true:=by simp;omega
 cases h3:Ki now sure 0 <;> simp [e]
noncomputable def uf_4:=uf_3.addSpec 78 Qc9
theorem Qkk:Qh Tryz.prog s18 uf_4:=Qkh.addEv Qc fun args d h=>by
 unfold Qc9 at h
 split at h
 · unfold QfM at h;have h1:=congrArg Prod.fst (Option.some.inj h);obtain rfl:_=d:=congrArg Prod.snd (Option.some.inj h);exact ⟨by simp [D.refs],40,Qkj _ _ _ _ h1⟩
 · cases h
def Qkl (c:Bool) (now:List Sector) (d:Bool) (sure:List Sector) (k:Int) (n:Int) (b:List UInt8):Option (Bool × D RC):=some (Qr now && Qr sure && Qe b.length,.tup (.acons (.acons (.sl (C:=RC) .sector (!Yy now sure k n b) (pNow now sure k n b)) (.acons (.sl (C:=RC) .sector (!Yy now sure k n b) (QcH now sure k n b)) .anil)) (.acons (.int .i64 (bif Yy now sure k n b then 0 else 2)) .anil)))
def QfO:List (D RC)->Option (Bool × D RC)
 | [.acons (.sl .sector c now) (.acons (.sl .sector d sure) .anil),.int .i64 k,.int .i64 n,.str b]=>Qkl c now d sure k n b
 | _=>none
noncomputable def Qkm (c:Bool) (now:List Sector) (d:Bool) (sure:List Sector) (k:Int) (n:Int) (b:List UInt8):=evF s18 uf_4 40 45 [.acons (.sl (C:=RC) .sector c now) (.acons (.sl (C:=RC) .sector d sure) .anil),.int .i64 k,.int .i64 n,.str b]
theorem Qnq (c:Bool) (now:List Sector) (d:Bool) (sure:List Sector) (k:Int) (n:Int) (b:List UInt8):Qkm c now d sure k n b=(let Z0:D RC:=D.sl RTy.sector true [];let Z1:DO_:=some (D.tup (D.acons (D.acons Z0 (D.acons Z0 .anil)) (.acons (D.int .i64 2) .anil)));let Z2:Nat:=(0:Nat)+List.length now;let Z3:Nat:=(0:Nat)+List.length sure;let Z4:List Sector:=List.replicate (0:Nat) (Sector.mk (0:Int) []);let Z5:Nat:=List.length (Z4++now);let Z6:Bool:=Nat.beq Z2 Z5;let Z7:Bool:=Z6 && decide ((0:Int) <= k /\ k < (↑Z5:Int));let Z8:List Sector:=List.set (Z4++now) k.toNat (Sector.mk n b);let Z9:Bool:=Nat.beq Z3 (Z4++sure).length;let Z10:D RC:=D.acons (D.sl RTy.sector false (Z4++sure)) .anil;let Z11:D RC:=D.acons (D.int .i64 0) .anil;let Z12:DO_:=none;bif Qr now && Qr sure then bif (bif Qx now sure then (0:Int) else (2:Int)) != (0:Int) then Z1 else bif decide (k < (0:Int)) then Z1 else bif decide ((33:Int) <= k) then Z1 else bif decide (n < (1:Int)) then Z1 else bif decide ((1048575:Int) < n) then Z1 else bif b == Array.toList #[] then Z1 else bif Qe b.length then bif decide ((640:Int) < (↑b.length:Int)) then Z1 else bif Qs Z2 (24:Nat) then bif Qs Z3 (24:Nat) then bif Z7 then bif Z6 then bif Z6 then bif decide (Sector.n (List.getD (Z4++now) k.toNat (Sector.mk (0:Int) [])) < n) then bif Z7 then bif Z6 then bif Nat.beq Z2 Z8.length then bif Z9 then some (D.tup (D.acons (D.acons (D.sl RTy.sector false Z8) Z10) Z11)) else Z12 else Z12 else Z12 else Z12 else bif Z6 then bif Z9 then some (D.tup (D.acons (D.acons (D.sl RTy.sector false (Z4++now)) Z10) Z11)) else Z12 else Z12 else Z12 else Z12 else Z12 else Z12 else Z12 else Z12 else Z12):=by kernel_rfl
theorem Qnr (c:Bool) (now:List Sector) (d:Bool) (sure:List Sector) (k:Int) (n:Int) (b:List UInt8) (h:(Qr now && Qr sure && Qe b.length)=true):Qkm c now d sure k n b=some (.tup (.acons (.acons (.sl (C:=RC) .sector (!Yy now sure k n b) (pNow now sure k n b)) (.acons (.sl (C:=RC) .sector (!Yy now sure k n b) (QcH now sure k n b)) .anil)) (.acons (.int .i64 (bif Yy now sure k n b then 0 else 2)) .anil))):=by
 (rw [Qnq];conv=>zeta)
 simp only [Bool.and_eq_true] at h;obtain ⟨⟨hg,hgs⟩,hb⟩:=h;have hgg:(Qr now && Qr sure)=true:=by rw [hg,hgs];rfl
 have no:Yy now sure k n b=false->some (D.tup (.acons (.acons (.sl (C:=RC) .sector true []) (.acons (.sl (C:=RC) .sector true []) .anil)) (.acons (.int .i64 2) .anil)))=some (.tup (.acons (.acons (.sl (C:=RC) .sector (!Yy now sure k n b) (pNow now sure k n b)) (.acons (.sl (C:=RC) .sector (!Yy now sure k n b) (QcH now sure k n b)) .anil)) (.acons (.int .i64 (bif Yy now sure k n b then 0 else 2)) .anil))):=fun e=>by simp only [e,pNow,QcH];rfl
 refine Jf hgg ?_;cases hd:Qx now sure
 · exact Jf rfl (no (Yj fun f=>by rw [hd] at f;cases f.1))
 obtain ⟨l1,l2⟩:=QaM hd;refine QpC rfl (Vb (fun e=>no (Yj fun f=>by simp only [decide_eq_true_eq] at e;omega)) fun e1=>?_)
 refine (Vb (fun e=>no (Yj fun f=>by simp only [decide_eq_true_eq] at e;omega)) fun e2=>?_)
 refine (Vb (fun e=>no (Yj fun f=>by simp only [decide_eq_true_eq] at e;omega)) fun e3=>?_)
 have mf:Zz ⟨n,b⟩=true->n <= 1048575 /\ b.length <= 640:=fun e=>by simp only [Zz,Bool.and_eq_true,decide_eq_true_eq] at e;exact ⟨e.1.1.2,e.1.2⟩
 refine (Vb (fun e=>no (Yj fun f=>by have:=mf f.2.2.2.2.2;simp only [decide_eq_true_eq] at e;omega)) fun e4=>?_)
 refine (Vb (fun e=>no (Yj fun f=>f.2.2.2.2.1 (by simpa using e))) fun e5=>?_)
 refine Jf hb ?_;refine (Vb (fun e=>no (Yj fun f=>by have:=mf f.2.2.2.2.2;simp only [decide_eq_true_eq] at e;omega)) fun e6=>?_)
 simp only [decide_eq_false_iff_not] at e1 e2 e3 e4 e6
 have ok:Yy now sure k n b=true:=by
  have d1:0 < n:=by omega
  simp only [Yy,hd,Zz,Bool.true_and,Bool.and_eq_true,decide_eq_true_eq,d1,decide_true,Bool.true_or];exact ⟨⟨⟨⟨by omega,by omega⟩,by omega⟩,by simpa using e5⟩,⟨⟨by omega,by omega⟩,by omega⟩,trivial⟩
 rw [ok];have r0:∀ l:List Sector,List.replicate 0 (⟨0,[]⟩:Sector)++l=l:=fun l=>rfl;have eb:∀ n:Nat,n.beq n=true:=fun n=>by simp
 have s1:Qs now.length 24=true:=by simp [Qs];omega
 have s2:Qs sure.length 24=true:=by simp [Qs];omega
 have dk:decide (0 <= k /\ k < (now.length:Int))=true:=by simp;omega
 simp only [pNow,QcH,ok,cond_true,Bool.not_true,r0,Nat.zero_add,List.length_set,eb,s1,s2,dk,Bool.and_self];refine Vb (fun e=>?_) fun e=>?_ <;> simp only [decide_eq_true_eq,decide_eq_false_iff_not] at e
 · have pn:Vu now k.toNat n b=now.set k.toNat ⟨n,b⟩:=if_pos e;rw [pn]
 · have pn:Vu now k.toNat n b=now:=if_neg e;rw [pn]
noncomputable def uf_5:=uf_4.addSpec 45 QfO
theorem Qkn:Qh Tryz.prog s18 uf_5:=Qkk.addEv Qc fun args d h=>by
 unfold QfO at h
 split at h
 · unfold Qkl at h;have h1:=congrArg Prod.fst (Option.some.inj h);obtain rfl:_=d:=congrArg Prod.snd (Option.some.inj h);exact ⟨by simp [D.refs],40,Qnr _ _ _ _ _ _ _ h1⟩
 · cases h
def CI (w f t q:Int) (hs:List Int) (d k:Int) (r got:List Int):Prop :=
 r.length=96 /\ r.getD 0 0=w /\ r.getD 1 0=d /\ 0 <= r.getD 2 0 /\ r.getD 2 0 <= t /\ (goF k r got (got.headD 0)).is=true /\
 (k=0 /\ got=[] /\ d ∉ hs \/ ∃ x,got=[x] /\ 0 <= x /\
  (k=1 /\ 1 <= x /\ x <= t /\ d ∉ hs \/
   k=2 /\ 1 <= r.getD 2 0 /\ x <= f /\ d ∉ hs \/
   k=3 /\ 1 <= r.getD 2 0 /\ r.getD 2 0 <= f+w /\ x <= q /\ d ∉ hs \/
   k=4 /\ 1 <= r.getD 2 0 /\ r.getD 2 0 <= f+w /\ r.getD 2 0 - 32 <= q /\ x <= 1099510841343 /\ plc x <= hs.length /\ d ∉ hs \/
   k=5 /\ x <= 1 /\ d ∉ hs \/
   k=6 /\ 1 <= r.getD 2 0 /\ (x=0 /\ d ∉ hs \/ x=1 /\ r.getD 2 0 <= hs.length /\ hs.getD (r.getD 2 0 - 1).toNat 0=d)))
theorem CI.mono {w f t q:Int} {hs:List Int} {d k:Int} {r got:List Int} (h:CI w f t q hs d k r got) {f' t' q':Int} {ext:List Int} (hf:f <= f') (ht:t <= t') (hq:q <= q') (he:d ∉ ext):CI w f' t' q' (hs++ext) d k r got:=by
 obtain ⟨a1,a2,a3,a4,a5,a6,h⟩:=h;have hlen:(hs.length:Int) <= ((hs++ext).length:Int):=by rw [List.length_append];omega
 have hmem:d ∉ hs->d ∉ hs++ext:=fun h1 h2=>by
  rcases List.mem_append.1 h2 with h2 | h2
  · exact h1 h2
  · exact he h2
 refine ⟨a1,a2,a3,a4,by omega,a6,?_⟩
 rcases h with ⟨b1,b2,b3⟩ | ⟨x,b1,b2,b3⟩
 · exact .inl ⟨b1,b2,hmem b3⟩
 refine .inr ⟨x,b1,b2,?_⟩;rcases b3 with ⟨c1,c2,c3,c4⟩ | ⟨c1,c2,c3,c4⟩ | ⟨c1,c2,c3,c4,c5⟩ | ⟨c1,c2,c3,c4,c5,c6,c7⟩ | ⟨c1,c2,c3⟩ | ⟨c1,c2,c3⟩
 · exact .inl ⟨c1,c2,by omega,hmem c4⟩
 · exact .inr (.inl ⟨c1,c2,by omega,hmem c4⟩)
 · exact .inr (.inr (.inl ⟨c1,c2,by omega,by omega,hmem c5⟩))
 · exact .inr (.inr (.inr (.inl ⟨c1,c2,by omega,by omega,c5,by omega,hmem c7⟩)))
 · exact .inr (.inr (.inr (.inr (.inl ⟨c1,c2,hmem c3⟩))))
 · refine .inr (.inr (.inr (.inr (.inr ⟨c1,c2,?_⟩))));rcases c3 with ⟨c3,c4⟩ | ⟨c3,c4,c5⟩
   · exact .inl ⟨c3,hmem c4⟩
   · exact .inr ⟨c3,by omega,by rw [Qbz (by omega)];exact c5⟩
def mkT (c k:Int) (r got:List Int):Task:=⟨c,[⟨68,k,r⟩],got,false⟩
theorem QaV (c k:Int) (r got:List Int):stG (mkT c k r got)=goF k r got (got.headD 0):=rfl
structure Qqp (cs:List Int) (t:Task) (cs':List Int) (t':Task) (E:GoR):Prop where
 hcs:stCs cs t=cs'
 ht:stT cs t=t'
 hE:stE cs t=E
theorem Ym {cs:List Int} {c k:Int} {r got r':List Int} {n cell:Int} (h:goF k r got (got.headD 0)=gLoad r' got n cell) :
 Qqp cs (mkT c k r got) cs (mkT c n r' [cs.getD cell.toNat 0]) (goF n r' [cs.getD cell.toNat 0] (cs.getD cell.toNat 0)):=by
 refine ⟨?_,?_,?_⟩
 · unfold stCs;rw [QaV,h];rfl
 · unfold stT stX;rw [QaV,h];rfl
 · unfold stE stX;rw [QaV,h];rfl
theorem QbH {cs:List Int} {c k:Int} {r got r':List Int} {n cell b v:Int} (h:goF k r got (got.headD 0)=gCas r' got n cell b v) :
 Qqp cs (mkT c k r got) (if cs.getD cell.toNat 0=b then cs.set cell.toNat v else cs) (mkT c n r' [if cs.getD cell.toNat 0=b then 1 else 0]) (goF n r' [if cs.getD cell.toNat 0=b then 1 else 0] (if cs.getD cell.toNat 0=b then 1 else 0)):=by
 refine ⟨?_,?_,?_⟩
 · unfold stCs;rw [QaV,h];show doC cs 2 cell b v=_;unfold doC
   by_cases hb:cs.getD cell.toNat 0=b
   · rw [if_pos ⟨rfl,hb⟩,if_pos hb]
   · rw [if_neg (fun q=>hb q.2),if_neg hb]
 · unfold stT stX;rw [QaV,h];rfl
 · unfold stE stX;rw [QaV,h];rfl
theorem Qqq {r got:List Int} {x:Int} (h:(goF 2 r got x).is=true):r.getD 2 0 <= x+r.getD 0 0 /\ r.getD 2 0 <= 1048575 /\ goF 2 r got x=gLoad r got 3 4:=by
 rw [goF2] at h ⊢
 by_cases h1:x+r.getD 0 0 < r.getD 2 0
 · rw [if_pos h1] at h;cases h
 rw [if_neg h1] at h ⊢
 by_cases h2:1048575 < r.getD 2 0
 · rw [if_pos h2] at h;cases h
 rw [if_neg h2];exact ⟨by omega,by omega,rfl⟩
theorem Qqr {r got:List Int} {x:Int} (h:(goF 3 r got x).is=true):r.getD 2 0 - 32 <= x /\ goF 3 r got x=gLoad r got 4 (lRing (r.getD 2 0) (r.getD 0 0)):=by
 rw [goF3] at h ⊢
 by_cases h1:x < r.getD 2 0 - 32
 · rw [if_pos h1] at h;cases h
 rw [if_neg h1];exact ⟨by omega,rfl⟩
def Came (w:Int) (cs hs:List Int) (d c:Int) (t':Task) (E:GoR):Prop :=
 ∃ k r x,t'=mkT c k r [x] /\ E=goF k r [x] x /\ okG c [⟨68,k,r⟩] [x]=true /\
  (E.is=true /\ CI w (cs.getD 0 0) (cs.getD 1 0) (cs.getD 4 0) hs d k r [x] \/
   E.is=false /\ E.got.length=1 \/
   E.is=false /\ ∃ p:Int,E.got=[0,p] /\ 1 <= p /\ p <= hs.length /\ hs.getD (p - 1).toNat 0=d)
theorem QrO {c k x:Int} {r:List Int} (h1:0 <= c) (h2:c <= 3) (hr:r.length=96) (h:OkF k r x):okG c [⟨68,k,r⟩] [x]=true:=by
 show (decide (0 <= c /\ c <= 3 /\ (68:Int)=68 /\ r.length=96) && okFr k r [x])=true;rw [Bool.and_eq_true];exact ⟨decide_eq_true ⟨h1,h2,rfl,hr⟩,decide_eq_true h⟩
theorem Qqs {c:Int} {r:List Int} (h1:0 <= c) (h2:c <= 3) (hr:r.length=96):okG c [⟨68,0,r⟩] []=true:=by
 show (decide (0 <= c /\ c <= 3 /\ (68:Int)=68 /\ r.length=96) && okFr 0 r [])=true;rw [Bool.and_eq_true];exact ⟨decide_eq_true ⟨h1,h2,rfl,hr⟩,rfl⟩
theorem Yn {w:Int} {cs hs:List Int} (h:RW w cs hs) {cell:Int} (h0:0 <= cell) (h1:cell < 771):OkDo cs 0 cell 0 0 :=
 ⟨.inl ⟨rfl,rfl,rfl⟩,h0,by rw [h.lc];exact h1,by decide,by decide,by decide,by decide⟩
theorem QbI {w:Int} {cs hs:List Int} (h:RW w cs hs) {cell b v:Int} (h0:0 <= cell) (h1:cell < 771) (hb:-1152921504606846976 <= b /\ b <= 1152921504606846976) (hv:-1152921504606846976 <= v /\ v <= 1152921504606846976):OkDo cs 2 cell b v :=
 ⟨.inr rfl,h0,by rw [h.lc];exact h1,hb.1,hb.2,hv.1,hv.2⟩
theorem Qns {r got:List Int} {x:Int} (h:(goF 2 r got x).is=false):(goF 2 r got x).got.length=1:=by
 rw [goF2] at h ⊢
 by_cases h1:x+r.getD 0 0 < r.getD 2 0
 · rw [if_pos h1];rfl
 rw [if_neg h1] at h ⊢
 by_cases h2:1048575 < r.getD 2 0
 · rw [if_pos h2];rfl
 rw [if_neg h2] at h;cases h
theorem Qnt {r got:List Int} {x:Int} (h:(goF 3 r got x).is=false):(goF 3 r got x).got.length=1:=by
 rw [goF3] at h ⊢
 by_cases h1:x < r.getD 2 0 - 32
 · rw [if_pos h1];rfl
 rw [if_neg h1] at h;cases h
theorem Qko (r got:List Int) (x:Int):(goF 4 r got x).is=true:=by
 rw [goF4]
 split
 · rfl
 split <;> rfl
theorem RW.step {w:Int} {cs hs:List Int} (h:RW w cs hs) {c d k:Int} {r got:List Int} (hc0:0 <= c) (hc3:c <= 3) (hd:256 <= d /\ d <= 262143) (hk:(hs.length:Int) < 100000)
 (hi:CI w (cs.getD 0 0) (cs.getD 1 0) (cs.getD 4 0) hs d k r got) :
 ∃ ext,(ext=[] \/ ext=[d] /\ d ∉ hs) /\ ∃ cs' t' E,Qqp cs (mkT c k r got) cs' t' E /\ RW w cs' (hs++ext) /\ cs'.getD 0 0=cs.getD 0 0 /\ cs'.getD 4 0=cs.getD 4 0 /\ cs.getD 1 0 <= cs'.getD 1 0 /\
  okG c [⟨68,k,r⟩] got=true /\ OkDo cs (goF k r got (got.headD 0)).kind (goF k r got (got.headD 0)).a (goF k r got (got.headD 0)).b (goF k r got (got.headD 0)).v /\ Came w cs' (hs++ext) d c t' E:=by
 obtain ⟨a1,a2,a3,a4,a5,a6,hi⟩:=hi;have hw0:=h.w0;have hw1:=h.w1;have hTt:=h.Tt;have htT:=h.tT;have hfT:=h.fT;have hqf:=h.qf;have hq0:=h.q0;have ht1:=h.t1;have hTf:=h.Tf;have hlc:=h.lc
 have ok:∀ (k' x':Int) (r':List Int),r'.length=96->r'.getD 0 0=w->0 <= r'.getD 2 0->r'.getD 2 0 <= 200000->1 <= k'->k' <= 7->0 <= x'->x' <= 1152921504606846976->okG c [⟨68,k',r'⟩] [x']=true :=
  fun k' x' r' e1 e2 e3 e4 e5 e6 e7 e8=>QrO hc0 hc3 e1 ⟨e5,e6,e7,e8,by omega,by omega,e3,by omega⟩
 have s2l:∀ y:Int,(r.set 2 y).length=96:=fun y=>by rw [List.length_set];exact a1
 have s20:∀ y:Int,(r.set 2 y).getD 0 0=w:=fun y=>by rw [Qa (by decide)];exact a2
 have s21:∀ y:Int,(r.set 2 y).getD 1 0=d:=fun y=>by rw [Qa (by decide)];exact a3
 have s22:∀ y:Int,(r.set 2 y).getD 2 0=y:=fun y=>Qd (by omega)
 have s3l:∀ y:Int,(r.set 3 y).length=96:=fun y=>by rw [List.length_set];exact a1
 have s30:∀ y:Int,(r.set 3 y).getD 0 0=w:=fun y=>by rw [Qa (by decide)];exact a2
 have s31:∀ y:Int,(r.set 3 y).getD 1 0=d:=fun y=>by rw [Qa (by decide)];exact a3
 have s32:∀ y:Int,(r.set 3 y).getD 2 0=r.getD 2 0:=fun y=>Qa (by decide)
 have hs1:(cs.set (Int.toNat 1) (r.getD 2 0+1)).getD 1 0=r.getD 2 0+1:=Qd (i:=1) (by omega)
 -- a load of TAIL
 have hload1:∀ (r':List Int),r'.length=96->r'.getD 0 0=w->r'.getD 1 0=d->r'.getD 2 0=r.getD 2 0->d ∉ hs->Came w cs hs d c (mkT c 1 r' [cs.getD 1 0]) (goF 1 r' [cs.getD 1 0] (cs.getD 1 0)) :=
  fun r' e1 e2 e3 e4 e5=>⟨1,r',cs.getD 1 0,rfl,rfl,ok 1 _ r' e1 e2 (by omega) (by omega) (by decide) (by decide) (by omega) (by omega),
   .inl ⟨rfl,e1,e2,e3,by omega,by omega,rfl,.inr ⟨_,rfl,by omega,.inl ⟨rfl,by omega,by omega,e5⟩⟩⟩⟩
 rcases hi with ⟨rfl,rfl,b3⟩ | ⟨x,rfl,x0,hi⟩
 · refine ⟨[],.inl rfl,?_⟩;rw [List.append_nil];exact ⟨_,_,_,Ym (r':=r) (n:=1) (cell:=1) rfl,h,rfl,rfl,Int.le_refl _,Qqs hc0 hc3 a1,Yn (cell:=1) h (by decide) (by decide),hload1 r a1 a2 a3 rfl b3⟩
 rcases hi with ⟨rfl,c2,c3,c4⟩ | ⟨rfl,c2,c3,c4⟩ | ⟨rfl,c2,c3,c4,c5⟩ | ⟨rfl,c2,c3,c4,c5,c6,c7⟩ | ⟨rfl,c2,c3⟩ | ⟨rfl,c2,c3⟩
 · -- 1
   refine ⟨[],.inl rfl,?_⟩;rw [List.append_nil];refine ⟨_,_,_,Ym (r':=r.set 2 x) (n:=2) (cell:=0) rfl,h,rfl,rfl,Int.le_refl _,ok 1 x r a1 a2 a4 (by omega) (by decide) (by decide) x0 (by omega),Yn (cell:=0) h (by decide) (by decide),?_⟩
   refine ⟨2,r.set 2 x,cs.getD 0 0,rfl,rfl,ok 2 _ _ (s2l x) (s20 x) (by rw [s22];omega) (by rw [s22];omega) (by decide) (by decide) (by omega) (by omega),?_⟩
   cases hE:(goF 2 (r.set 2 x) [cs.getD 0 0] (cs.getD 0 0)).is with
   | true=>exact .inl ⟨hE,s2l x,s20 x,s21 x,by rw [s22];omega,by rw [s22];omega,hE,.inr ⟨_,rfl,by omega,.inr (.inl ⟨rfl,by rw [s22];omega,Int.le_refl _,c4⟩)⟩⟩
   | false=>exact .inr (.inl ⟨hE,Qns hE⟩)
 · -- 2
   obtain ⟨e1,e2,e3⟩:=Qqq a6;refine ⟨[],.inl rfl,?_⟩;rw [List.append_nil];refine ⟨_,_,_,Ym (r':=r) (n:=3) (cell:=4) e3,h,rfl,rfl,Int.le_refl _,ok 2 x r a1 a2 a4 (by omega) (by decide) (by decide) x0 (by omega),?_,?_⟩
   · show OkDo cs (goF 2 r [x] x).kind (goF 2 r [x] x).a (goF 2 r [x] x).b (goF 2 r [x] x).v;rw [show goF 2 r [x] x=gLoad r [x] 3 4 from e3];exact Yn (cell:=4) h (by decide) (by decide)
   refine ⟨3,r,cs.getD 4 0,rfl,rfl,ok 3 _ _ a1 a2 a4 (by omega) (by decide) (by decide) hq0 (by omega),?_⟩
   have e1:r.getD 2 0 <= x+r.getD 0 0:=e1;cases hE:(goF 3 r [cs.getD 4 0] (cs.getD 4 0)).is with
   | true=>exact .inl ⟨hE,a1,a2,a3,a4,a5,hE,.inr ⟨_,rfl,hq0,.inr (.inr (.inl ⟨rfl,c2,by omega,Int.le_refl _,c4⟩))⟩⟩
   | false=>exact .inr (.inl ⟨hE,Qnt hE⟩)
 · -- 3
   obtain ⟨e1,e3⟩:=Qqr a6;have e1:r.getD 2 0 - 32 <= x:=e1;rw [a2,KZ a4 hw0 hw1] at e3;have hrd:=h.read_le (r.getD 2 0);have hcl:=h.cell (r.getD 2 0);refine ⟨[],.inl rfl,?_⟩;rw [List.append_nil];refine ⟨_,_,_,Ym (r':=r) (n:=4) (cell:=13+r.getD 2 0 % w) e3,h,rfl,rfl,Int.le_refl _,ok 3 x r a1 a2 a4 (by omega) (by decide) (by decide) x0 (by omega),?_,?_⟩
   · rw [e3];exact Yn (cell:=13+r.getD 2 0 % w) h (by omega) (by omega)
   refine ⟨4,r,_,rfl,rfl,ok 4 _ _ a1 a2 a4 (by omega) (by decide) (by decide) hrd.1 (by omega),.inl ⟨Qko _ _ _,a1,a2,a3,a4,a5,Qko _ _ _,.inr ⟨_,rfl,hrd.1,.inr (.inr (.inr (.inl ⟨rfl,c2,c3,by omega,hrd.2.1,hrd.2.2,c5⟩)))⟩⟩⟩
 · -- 4
   have hok:=ok 4 x r a1 a2 a4 (by omega) (by decide) (by decide) x0 (by omega)
   have hg:=goF4 r [x] x
   by_cases p1:plc x=r.getD 2 0
   · rw [if_pos p1] at hg;have hstep:=QbH (cs:=cs) (c:=c) (k:=4) (r:=r) (got:=[x]) hg;refine ⟨[],.inl rfl,?_⟩;rw [List.append_nil];have hx':∀ b:Prop,[Decidable b]->0 <= (if b then (1:Int) else 0) /\ (if b then (1:Int) else 0) <= 1:=fun b _=>by split <;> decide
     refine ⟨_,_,_,hstep,?_,?_,?_,?_,hok,?_,?_⟩
     · split
       · rename_i e;exact h.tail e (by omega)
       · exact h
     · split
       · exact Qa (by decide)
       · rfl
     · split
       · exact Qa (by decide)
       · rfl
     · split
       · rename_i e;rw [hs1];have e:cs.getD 1 0=r.getD 2 0:=e;omega
       · exact Int.le_refl _
     · show OkDo cs (goF 4 r [x] x).kind (goF 4 r [x] x).a (goF 4 r [x] x).b (goF 4 r [x] x).v;rw [hg];exact QbI (cell:=1) (b:=r.getD 2 0) (v:=r.getD 2 0+1) h (by decide) (by decide) ⟨by omega,by omega⟩ ⟨by omega,by omega⟩
     · have ht':r.getD 2 0 <= (if cs.getD (Int.toNat 1) 0=r.getD 2 0 then cs.set (Int.toNat 1) (r.getD 2 0+1) else cs).getD 1 0:=by
        split
        · rw [hs1];omega
        · exact a5
       have hb:=hx' (cs.getD (Int.toNat 1) 0=r.getD 2 0);exact ⟨5,r.set 3 x,_,rfl,rfl,ok 5 _ _ (s3l x) (s30 x) (by rw [s32];exact a4) (by rw [s32];omega) (by decide) (by decide) hb.1 (by omega),.inl ⟨rfl,s3l x,s30 x,s31 x,by rw [s32];exact a4,by rw [s32];exact ht',rfl,.inr ⟨_,rfl,hb.1,.inr (.inr (.inr (.inr (.inl ⟨rfl,hb.2,c7⟩))))⟩⟩⟩
   rw [if_neg p1] at hg
   by_cases p2:r.getD 2 0 < plc x
   · rw [if_pos p2] at hg;refine ⟨[],.inl rfl,?_⟩;rw [List.append_nil];refine ⟨_,_,_,Ym (r':=r.set 3 x) (n:=1) (cell:=1) hg,h,rfl,rfl,Int.le_refl _,hok,?_,hload1 _ (s3l x) (s30 x) (s31 x) (s32 x) c7⟩;show OkDo cs (goF 4 r [x] x).kind (goF 4 r [x] x).a (goF 4 r [x] x).b (goF 4 r [x] x).v;rw [hg];exact Yn (cell:=1) h (by decide) (by decide)
   rw [if_neg p2] at hg
   have hwd:wordN (r.getD 2 0) d=r.getD 2 0 * 1048576+d:=by
    rw [wordN,if_pos];exact ⟨by omega,by omega,.inl hd⟩
   rw [a2,a3,hwd,KZ a4 hw0 hw1] at hg;have hcl:=h.cell (r.getD 2 0);have hstep:=QbH (cs:=cs) (c:=c) (k:=4) (r:=r) (got:=[x]) hg
   have hdo:OkDo cs (goF 4 r [x] ([x].headD 0)).kind (goF 4 r [x] ([x].headD 0)).a (goF 4 r [x] ([x].headD 0)).b (goF 4 r [x] ([x].headD 0)).v:=by
    show OkDo cs (goF 4 r [x] x).kind (goF 4 r [x] x).a (goF 4 r [x] x).b (goF 4 r [x] x).v;rw [hg];exact QbI (cell:=13+r.getD 2 0 % w) (b:=x) (v:=r.getD 2 0 * 1048576+d) h (by omega) (by omega) ⟨by omega,by omega⟩ ⟨by omega,by omega⟩
   by_cases hx:cs.getD (13+r.getD 2 0 % w).toNat 0=x
   · simp only [if_pos hx] at hstep;obtain ⟨g1,g2⟩:=h.give (d:=d) c2 a5 c3 (by rw [hx];omega) hd hk c4
     refine ⟨[d],.inr ⟨rfl,c7⟩,_,_,_,hstep,g2,Qa (by omega),Qa (by omega),?_,hok,hdo,?_⟩
     · rw [Qa (by omega)];exact Int.le_refl _
     · have h1:(cs.set (13+r.getD 2 0 % w).toNat (r.getD 2 0 * 1048576+d)).getD 1 0=cs.getD 1 0:=Qa (by omega)
       have hl:((hs++[d]).length:Int)=hs.length+1:=by simp
       exact ⟨6,r.set 3 x,1,rfl,rfl,ok 6 _ _ (s3l x) (s30 x) (by rw [s32];exact a4) (by rw [s32];omega) (by decide) (by decide) (by decide) (by decide),.inl ⟨rfl,s3l x,s30 x,s31 x,by rw [s32];exact a4,by rw [s32,h1];exact a5,rfl,
        .inr ⟨_,rfl,by decide,.inr (.inr (.inr (.inr (.inr ⟨rfl,by rw [s32];exact c2,.inr ⟨rfl,by rw [s32,hl];omega,by rw [s32,show (r.getD 2 0 - 1).toNat=hs.length by omega];exact Qe9⟩⟩))))⟩⟩⟩
   · simp only [if_neg hx] at hstep;refine ⟨[],.inl rfl,?_⟩;rw [List.append_nil]
     exact ⟨_,_,_,hstep,h,rfl,rfl,Int.le_refl _,hok,hdo,6,r.set 3 x,0,rfl,rfl,ok 6 _ _ (s3l x) (s30 x) (by rw [s32];exact a4) (by rw [s32];omega) (by decide) (by decide) (by decide) (by decide),.inl ⟨rfl,s3l x,s30 x,s31 x,by rw [s32];exact a4,by rw [s32];exact a5,rfl,
      .inr ⟨_,rfl,by decide,.inr (.inr (.inr (.inr (.inr ⟨rfl,by rw [s32];exact c2,.inl ⟨rfl,c7⟩⟩))))⟩⟩⟩
 · -- 5
   refine ⟨[],.inl rfl,?_⟩;rw [List.append_nil];exact ⟨_,_,_,Ym (r':=r) (n:=1) (cell:=1) rfl,h,rfl,rfl,Int.le_refl _,ok 5 x r a1 a2 a4 (by omega) (by decide) (by decide) x0 (by omega),Yn (cell:=1) h (by decide) (by decide),hload1 r a1 a2 a3 rfl c3⟩
 · -- 6
   rcases c3 with ⟨rfl,c4⟩ | ⟨rfl,c4,c5⟩
   · refine ⟨[],.inl rfl,?_⟩;rw [List.append_nil];exact ⟨_,_,_,Ym (r':=r) (n:=1) (cell:=1) rfl,h,rfl,rfl,Int.le_refl _,ok 6 0 r a1 a2 a4 (by omega) (by decide) (by decide) (by decide) (by decide),Yn (cell:=1) h (by decide) (by decide),hload1 r a1 a2 a3 rfl c4⟩
   · have hg:goF 6 r [1] 1=gCas r [1] 7 1 (r.getD 2 0) (r.getD 2 0+1):=rfl;have hstep:=QbH (cs:=cs) (c:=c) (k:=6) (r:=r) (got:=[1]) hg;refine ⟨[],.inl rfl,?_⟩;rw [List.append_nil];have hx':∀ b:Prop,[Decidable b]->0 <= (if b then (1:Int) else 0) /\ (if b then (1:Int) else 0) <= 1:=fun b _=>by split <;> decide
     have hb:=hx' (cs.getD (Int.toNat 1) 0=r.getD 2 0);refine ⟨_,_,_,hstep,?_,?_,?_,?_,ok 6 1 r a1 a2 a4 (by omega) (by decide) (by decide) (by decide) (by decide),QbI (cell:=1) (b:=r.getD 2 0) (v:=r.getD 2 0+1) h (by decide) (by decide) ⟨by omega,by omega⟩ ⟨by omega,by omega⟩,?_⟩
     · split
       · rename_i e;exact h.tail e (by omega)
       · exact h
     · split
       · exact Qa (by decide)
       · rfl
     · split
       · exact Qa (by decide)
       · rfl
     · split
       · rename_i e;rw [hs1];have e:cs.getD 1 0=r.getD 2 0:=e;omega
       · exact Int.le_refl _
     · exact ⟨7,r,_,rfl,rfl,ok 7 _ _ a1 a2 a4 (by omega) (by decide) (by decide) hb.1 (by omega),.inr (.inr ⟨rfl,r.getD 2 0,rfl,c2,c4,c5⟩)⟩
end Go.Ev
