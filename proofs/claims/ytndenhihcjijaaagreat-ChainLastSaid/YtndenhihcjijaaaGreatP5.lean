/-
  A part of the proof of a statement of this seat: the model is run over values by content, proved sound; what the functions come to. No condition beyond the given statements. (text 6)
-/
import Derived.Test.YtndenhihcjijaaaGreatP4
namespace Go.Ev
set_option linter.unusedVariables false
set_option linter.unusedSimpArgs false
def Kn (d:HD) (m:Nat) (r:List Int):Prop := ∀ j,j < m->r.getD (8+j) 0=d.w j /\ r.getD (12+j) 0=d.nd j
theorem Kn.same {d:HD} {m:Nat} {r r':List Int} (h:Kn d m r) (e:∀ i,8 <= i->r'.getD i 0=r.getD i 0):Kn d m r':=fun j hj=>by
 rw [e _ (by omega),e _ (by omega)];exact h j hj
def G100 (ds:List HD) (k:Int) (r got:List Int):Prop:=k=0 /\ got=[] \/ (k=13 \/ k=14) /\ got=[] \/ ∃ x,got=[x] /\ 1 <= k /\ k <= 15 /\ k ≠ 13 /\ k ≠ 14 /\ 0 <= x /\ x <= bigW /\
 (k=1->x <= 1048575) /\ (k=2->x=0 \/ OkH ds (bare x)) /\ (k=3->x=(hD ds (r.getD 3 0)).start) /\ (k=4->x=(hD ds (r.getD 3 0)).ws.length) /\
 (k=5->x=(hD ds (r.getD 3 0)).w (r.getD 6 0).toNat) /\ (k=6->x=(hD ds (r.getD 3 0)).nd (r.getD 6 0).toNat)
structure R100 (ds:List HD) (k:Int) (r q got:List Int):Prop where
 b1:bnd r
 up:0 <= r.getD 0 0 /\ r.getD 0 0 <= 1048575
 wd:2 <= r.getD 1 0 /\ r.getD 1 0 <= 8
 eq:if k=11 \/ k=12 then (∃ j,q=r.set 6 j /\ j <= bigW) /\ r.getD 6 0=0 else q=r
 fr:2 <= k->k <= 14->0 <= r.getD 2 0 /\ r.getD 2 0 < r.getD 0 0
 hd:3 <= k->k <= 14->OkH ds (r.getD 3 0)
 sr:4 <= k->k <= 14->r.getD 4 0=(hD ds (r.getD 3 0)).start
 mn:5 <= k->k <= 14->r.getD 5 0=(hD ds (r.getD 3 0)).ws.length
 j5:k=5 \/ k=6 \/ k=8 \/ k=13 \/ k=14->0 <= r.getD 6 0 /\ r.getD 6 0 < r.getD 5 0
 j9:7 <= k->k <= 10->0 <= r.getD 6 0 /\ r.getD 6 0 <= 4
 k5:k=5 \/ k=6->Kn (hD ds (r.getD 3 0)) (r.getD 6 0).toNat r
 k6:k=6->r.getD (8+(r.getD 6 0).toNat) 0=(hD ds (r.getD 3 0)).w (r.getD 6 0).toNat
 k7:7 <= k->k <= 14->Kn (hD ds (r.getD 3 0)) (hD ds (r.getD 3 0)).ws.length r
 gt:G100 ds k r got
inductive Go1 (ds:List HD) (n:Int) (N M:NA):Prop
 | fin (h1:N.a=⟨7,0,0,0,0,[],[]⟩) (h2:M.a=⟨7,0,0,0,0,[],[]⟩)
 | act (h1:M.a=N.a) (h2:N.f.prog=100) (h3:M.f.prog=100) (h4:M.f.at'=N.f.at') (h5:AtH ds n N.a) (h6:∀ x,RsH ds n N.a x->R100 ds N.f.at' N.f.r M.f.r [x])
 | ins (r l:List Int) (h1:N=naCl 100 13 r 73 l) (h2:M=naCl 100 13 r 73 l) (h3:R100 ds 13 r r []) (h4:R73 0 (regs1 l) []) (h5:l.length <= 96)
 | app (r l:List Int) (h1:N=naCl 100 14 r 76 l) (h2:M=naCl 100 14 r 76 l) (h3:R100 ds 14 r r []) (h4:R76 n 0 (regs1 l) []) (h5:l.length <= 96)
theorem QbV {ds:List HD} {n h f v:Int} (t:TyH ds n (hDesc h f) v) (hs:ds.length <= 16) (hh:OkH ds h) (f0:0 <= f) (f1:f < 12):TyD (hD ds h) f v:=by
 have e:=YC hs hh f0 f1;unfold OkH at hh;exact t.t6 (h - 256) f (by omega) (by omega) f0 f1 e
theorem JA {r:List Int} {m:Nat} (h:r.getD 5 0=(m:Int)) (hm:m <= 4):V0 r=m:=by unfold V0;omega
theorem QnO {ds:List HD} {r:List Int} {o:Int} (d:HD) (hd:OkD d) (h2:0 <= r.getD 2 0 /\ r.getD 2 0 < 1048575) (h5:r.getD 5 0=(d.ws.length:Int)) (hk:Kn d d.ws.length r):mayB (hRec r o)=true:=by
 have hl:=hd.len;have hm:=JA h5 hl
 have hws:(List.range (V0 r)).map (fun j=>(⟨hKey r j,hVal r j⟩:Zb))=d.ws:=by
  rw [hm];apply List.ext_getElem
  · simp
  · intro j h1 h2;simp only [List.length_map,List.length_range] at h1;have hw:=hd.wr h1;have:=(hk j h1).1;simp only [List.getElem_map,List.getElem_range];have e:d.ws.getD j wrH=d.ws[j]:=by simp [h1]
    unfold hKey hVal;rw [this,hw.2.2.1,hw.2.2.2,e]
 unfold mayB hRec;have p:QC (r.getD 2 0+1) 1 1048575=true:=Q8.2 (by omega)
 by_cases e:o=1
 · simp only [e,if_true,hws,p,hd.ws,decide_true,Bool.true_or,Bool.and_self]
 · have e2:Zn []=true:=rfl;simp only [e,if_false,p,e2,decide_false,Bool.false_or,Bool.and_self,List.isEmpty_nil]
theorem Qk3 {r:Rec} (h:mayB r=true):entL r ≠ [] /\ (entL r).length <= 640:=by
 have h1:=QhG h;have e:(entL r).length=(Qe7 r).length+12:=by simp only [entL,h,cond_true,QgM]
 refine ⟨fun q=>?_,by omega⟩
 rw [q] at e;simp at e
theorem Qel {ds:List HD} {n:Int} {r:List Int} (hs:ds.length <= 16) (h1:bnd r) (h2:0 <= r.getD 0 0 /\ r.getD 0 0 <= 1048575) (h3:2 <= r.getD 1 0 /\ r.getD 1 0 <= 8):Go1 ds n (hBeg r) (hBeg r):=by
 refine .act rfl rfl rfl rfl (atLd (by decide) g00) fun x hx=>?_
 have hx:=(hx.ty rfl).t0 rfl;have big1:(1048576:Int) <= bigW:=by decide
 refine (⟨h1,h2,h3,rfl,fun q=>absurd q (by decide),fun q=>absurd q (by decide),fun q=>absurd q (by decide),fun q=>absurd q (by decide),fun q=>absurd q (by decide),fun q=>absurd q (by decide),fun q=>absurd q (by decide),fun q=>absurd q (by decide),fun q=>absurd q (by decide),
  .inr (.inr ⟨x,rfl,by decide,by decide,by decide,by decide,hx.1,by omega,fun _=>hx.2,fun q=>absurd q (by decide),fun q=>absurd q (by decide),fun q=>absurd q (by decide),fun q=>absurd q (by decide),fun q=>absurd q (by decide)⟩)⟩:R100 ds 1 r r [x])
structure A100 (ds:List HD) (r:List Int):Prop where
 b1:bnd r
 up:0 <= r.getD 0 0 /\ r.getD 0 0 <= 1048575
 wd:2 <= r.getD 1 0 /\ r.getD 1 0 <= 8
 fr:0 <= r.getD 2 0 /\ r.getD 2 0 < r.getD 0 0
 hd:OkH ds (r.getD 3 0)
structure M100 (ds:List HD) (r:List Int):Prop extends A100 ds r where
 sr:r.getD 4 0=(hD ds (r.getD 3 0)).start
 mn:r.getD 5 0=(hD ds (r.getD 3 0)).ws.length
 j6:0 <= r.getD 6 0 /\ r.getD 6 0 <= (hD ds (r.getD 3 0)).ws.length
structure W100 (ds:List HD) (r:List Int):Prop extends M100 ds r where
 kn:Kn (hD ds (r.getD 3 0)) (hD ds (r.getD 3 0)).ws.length r
theorem Qk4 {ds:List HD} {n:Int} {r:List Int} (hds:OkDs ds) (h:M100 ds r) (hk:Kn (hD ds (r.getD 3 0)) (r.getD 6 0).toNat r):Go1 ds n (hWrs r) (hWrs r):=by
 obtain ⟨⟨h1,h2,h3,h4,h5⟩,h6,h7,h8⟩:=h;have hD':=hds.at h5;have hl:=hD'.len;have hm:=JA h7 hl;have hs:=hds.1;have h5':=h5;unfold OkH at h5';have gb:0 <= r.getD 3 0 /\ r.getD 3 0 <= bigW:=by unfold bigW;omega
 unfold hWrs;rw [hm]
 split
 · rename_i hj;have hc:=YC (f:=4+r.getD 6 0) hs h5 (by omega) (by omega)
   refine .act rfl rfl rfl rfl (atLd (by omega) gb) fun x hx=>?_
   have ht:=QbV (hx.ty rfl) hs h5 (by omega) (by omega)
   have e4:(4+r.getD 6 0 - 4).toNat=(r.getD 6 0).toNat:=by omega
   have hv:=ht.2.2.1 (by omega) (by omega)
   rw [e4] at hv;have hw:=hD'.wr hj
   exact (⟨h1,h2,h3,rfl,fun _ _=>h4,fun _ _=>h5,fun _ _=>h6,fun _ _=>h7,fun _=>by omega,fun q=>absurd q (by decide),fun _=>hk,fun q=>absurd q (by decide),fun q=>absurd q (by decide),
    .inr (.inr ⟨x,rfl,by decide,by decide,by decide,by decide,by omega,by unfold bigW;omega,fun q=>absurd q (by decide),fun q=>absurd q (by decide),fun q=>absurd q (by decide),fun q=>absurd q (by decide),fun _=>hv,fun q=>absurd q (by decide)⟩)⟩:R100 ds 5 r r [x])
 · rename_i hj;have hc:=YC (f:=1) hs h5 (by omega) (by omega)
   refine .act rfl rfl rfl rfl (atLd (by omega) gb) fun x hx=>?_
   have ht:=(hx.ty rfl).t7 (r.getD 3 0 - 256) (by omega) (by omega) hc
   have e6:(r.getD 6 0).toNat=(hD ds (r.getD 3 0)).ws.length:=by omega
   rw [e6] at hk
   exact (⟨h1,h2,h3,rfl,fun _ _=>h4,fun _ _=>h5,fun _ _=>h6,fun _ _=>h7,fun q=>absurd q (by decide),fun _ _=>by omega,fun q=>absurd q (by decide),fun q=>absurd q (by decide),fun _ _=>hk,
    .inr (.inr ⟨x,rfl,by decide,by decide,by decide,by decide,by omega,by unfold bigW;omega,fun q=>absurd q (by decide),fun q=>absurd q (by decide),fun q=>absurd q (by decide),fun q=>absurd q (by decide),fun q=>absurd q (by decide),fun q=>absurd q (by decide)⟩)⟩:R100 ds 7 r r [x])
theorem W100.mk9 {ds:List HD} (hds:OkDs ds) {k:Int} {r:List Int} (h:W100 ds r) (hk:k=8 \/ k=9 \/ k=10 \/ k=15) (h8:k=8->r.getD 6 0 < r.getD 5 0) {x:Int} (x0:0 <= x /\ x <= bigW):R100 ds k r r [x]:=by
 have hl:=(hds.at h.hd).len;have h6:=h.j6
 refine ⟨h.b1,h.up,h.wd,by rw [if_neg (by omega)],fun _ _=>h.fr,fun _ _=>h.hd,fun _ _=>h.sr,fun _ _=>h.mn,fun q=>⟨h6.1,h8 (by omega)⟩,fun _ _=>by omega,fun q=>by omega,fun q=>by omega,fun _ _=>h.kn,
  .inr (.inr ⟨x,rfl,by omega,by omega,by omega,by omega,x0.1,x0.2,fun q=>by omega,fun q=>by omega,fun q=>by omega,fun q=>by omega,fun q=>by omega,fun q=>by omega⟩)⟩
theorem W100.set {ds:List HD} {r:List Int} (h:W100 ds r) {i:Nat} (hi:i=7) {x:Int} (hx:x <= bigW):W100 ds (r.set i x):=by
 subst hi;have e:∀ j,j ≠ 7->(r.set 7 x).getD j 0=r.getD j 0:=fun j hj=>Qa (fun q=>hj q.symm);obtain ⟨⟨⟨h1,h2,h3,h4,h5⟩,h6,h7,h8⟩,h9⟩:=h;refine ⟨⟨⟨h1.set 7 hx,?_,?_,?_,?_⟩,?_,?_,?_⟩,?_⟩
 · rw [e 0 (by decide)];exact h2
 · rw [e 1 (by decide)];exact h3
 · rw [e 2 (by decide),e 0 (by decide)];exact h4
 · rw [e 3 (by decide)];exact h5
 · rw [e 3 (by decide),e 4 (by decide)];exact h6
 · rw [e 3 (by decide),e 5 (by decide)];exact h7
 · rw [e 3 (by decide),e 6 (by decide)];exact h8
 · rw [e 3 (by decide)];exact h9.same fun i hi=>e i (by omega)
theorem W100.set6 {ds:List HD} {r:List Int} (h:W100 ds r) {x:Int} (h0:0 <= x) (hx:x <= (hD ds (r.getD 3 0)).ws.length) (hl:(hD ds (r.getD 3 0)).ws.length <= 4):W100 ds (r.set 6 x):=by
 have e:∀ j,j ≠ 6->(r.set 6 x).getD j 0=r.getD j 0:=fun j hj=>Qa (fun q=>hj q.symm);obtain ⟨⟨⟨h1,h2,h3,h4,h5⟩,h6,h7,h8⟩,h9⟩:=h;have l1:=h1.1;refine ⟨⟨⟨h1.set 6 (by unfold bigW;omega),?_,?_,?_,?_⟩,?_,?_,?_⟩,?_⟩
 · rw [e 0 (by decide)];exact h2
 · rw [e 1 (by decide)];exact h3
 · rw [e 2 (by decide),e 0 (by decide)];exact h4
 · rw [e 3 (by decide)];exact h5
 · rw [e 3 (by decide),e 4 (by decide)];exact h6
 · rw [e 3 (by decide),e 5 (by decide)];exact h7
 · rw [e 3 (by decide),Qd (by omega)];exact ⟨h0,hx⟩
 · rw [e 3 (by decide)];exact h9.same fun i hi=>e i (by omega)
theorem Qk5 {ds:List HD} {n:Int} {r:List Int} (hds:OkDs ds) (h:W100 ds r) {o:Int} (ho:o=1 \/ o=2):Go1 ds n (hDec r o) (hDec r o):=by
 have h5:=h.hd;have hs:=hds.1;have hc:=YC (f:=1) hs h5 (by omega) (by omega)
 have h5':=h5;unfold OkH at h5';refine .act rfl rfl rfl rfl (atCs (by omega) (by decide) (by unfold bigW;omega) (by unfold bigW;omega) ?_) fun x hx=>?_
 · rw [hc];exact QrU hs (by omega) (by omega) (by omega)
 · have hx:=hx.big rfl;exact (W100.mk9 hds (h.set rfl (by unfold bigW;omega)) (.inr (.inl rfl)) (fun q=>absurd q (by decide)) hx:R100 ds 9 (r.set 7 o) (r.set 7 o) [x])
theorem Qk6 {ds:List HD} {n:Int} {r:List Int} (hds:OkDs ds) (h:W100 ds r):Go1 ds n (hHds r) (hHds r):=by
 have hD':=hds.at h.hd;have hl:=hD'.len;have hm:=JA h.mn hl;have h6:=h.j6;have h7:=h.mn;unfold hHds;rw [hm]
 split
 · rename_i hj;have hw:=hD'.wr hj
   have hk:hKey r (r.getD 6 0).toNat=((hD ds (r.getD 3 0)).ws.getD (r.getD 6 0).toNat wrH).key:=by
    unfold hKey;rw [(h.kn _ hj).1,hw.2.2.1]
   have hw2:=Qk0 hD'.ws hj;have hrow:lRow 21 (hKey r (r.getD 6 0).toNat) 24=21+hKey r (r.getD 6 0).toNat:=QbU (by omega) (by omega)
   refine .act rfl rfl rfl rfl (atLd (by omega) g00) fun x hx=>?_
   have hx:=(hx.ty rfl).t4 (by show 21 <= lRow 21 (hKey r (r.getD 6 0).toNat) 24;omega) (by show lRow 21 (hKey r (r.getD 6 0).toNat) 24 <= 44;omega)
   exact (W100.mk9 hds h (.inl rfl) (fun _=>by omega) hx:R100 ds 8 r r [x])
 · exact Qk5 hds h (.inl rfl)
theorem Qk7 {ds:List HD} {n:Int} {r q:List Int} (hds:OkDs ds) (h:W100 ds r) (h0:r.getD 6 0=0) {j:Int} (hq:q=r.set 6 j) (hj:j <= bigW) {o:Int} (ho:0 <= o /\ o <= bigW):Go1 ds n (hPut r o) (hPut q o):=by
 have hD':=hds.at h.hd;have e:∀ i,i ≠ 6->q.getD i 0=r.getD i 0:=fun i hi=>by rw [hq];exact Qa (fun c=>hi c.symm)
 have hR:hRec q o=hRec r o:=by
  unfold hRec V0;rw [e 2 (by decide),e 5 (by decide)]
  have:∀ j,hKey q j=hKey r j /\ hVal q j=hVal r j:=fun j=>by unfold hKey hVal;rw [e _ (by omega)];exact ⟨rfl,rfl⟩
  simp only [fun j=>(this j).1,fun j=>(this j).2]
 have hmay:mayB (hRec r o)=true:=QnO (ds:=ds) _ hD' (by have:=h.fr;have:=h.up;omega) h.mn h.kn
 obtain ⟨t1,t2⟩:=Qk3 hmay;have hfr:=h.fr;have hup:=h.up;have hsec:secI (r.getD 2 0+1)=(r.getD 2 0+1) % 32:=if_neg (by omega)
 refine .act ?_ rfl rfl rfl ⟨rfl,Int.le_refl _,by show (0:Int) <= bigW;decide,.inr (.inr (.inl ⟨rfl,rfl,rfl,?_,?_,?_,?_,t1,t2⟩))⟩ fun x hx=>?_
 · show (⟨4,(bif mayB (hRec q o) then secI (q.getD 2 0+1) else 0),q.getD 2 0+1,0,0,entL (hRec q o),[]⟩:Qb)=⟨4,(bif mayB (hRec r o) then secI (r.getD 2 0+1) else 0),r.getD 2 0+1,0,0,entL (hRec r o),[]⟩;rw [hR,e 2 (by decide)]
 · show 0 <= (bif mayB (hRec r o) then secI (r.getD 2 0+1) else 0);rw [hmay,cond_true];omega
 · show (bif mayB (hRec r o) then secI (r.getD 2 0+1) else 0) < 33;rw [hmay,cond_true];omega
 · show 1 <= r.getD 2 0+1;omega
 · show r.getD 2 0+1 <= 1048575;omega
 · have hW:=h.set (i:=7) rfl ho.2;rcases hx with ⟨c,_⟩ | ⟨c,_⟩ | ⟨_,rfl⟩
   · exact absurd c (by show ((4:Int) ≠ 0);decide)
   · exact absurd c (by show ((4:Int) ≠ 2);decide)
   · refine (⟨hW.b1,hW.up,hW.wd,?_,fun _ _=>hW.fr,fun _ _=>hW.hd,fun _ _=>hW.sr,fun _ _=>hW.mn,fun c=>absurd c (by decide),fun _ c=>absurd c (by decide),fun c=>absurd c (by decide),fun c=>absurd c (by decide),fun _ _=>hW.kn,
      .inr (.inr ⟨0,rfl,by decide,by decide,by decide,by decide,by decide,by decide,fun c=>absurd c (by decide),fun c=>absurd c (by decide),fun c=>absurd c (by decide),fun c=>absurd c (by decide),fun c=>absurd c (by decide),fun c=>absurd c (by decide)⟩)⟩:R100 ds 11 (r.set 7 o) (q.set 7 o) [0])
     rw [if_pos (.inl rfl)];refine ⟨⟨j,?_,hj⟩,?_⟩
     · rw [hq,List.set_comm _ _ (by decide)]
     · rw [Qa (by decide)];exact h0
theorem Qk8 {ds:List HD} {n:Int} {r:List Int} (hds:OkDs ds) (h:W100 ds r):Go1 ds n (hApp r) (hApp r):=by
 have hD':=hds.at h.hd;have hl:=hD'.len;have hm:=JA h.mn hl;have h6:=h.j6;have h7:=h.mn;have hfr:=h.fr;have hup:=h.up;have big1:(1048576:Int) <= bigW:=by decide
 unfold hApp;rw [hm]
 split
 · rename_i hj;have hj:=hj.2;have hw:=hD'.wr hj;have hw2:=Qk0 hD'.ws hj;have hnb:=hD'.nb
   have hk:hKey r (r.getD 6 0).toNat=((hD ds (r.getD 3 0)).ws.getD (r.getD 6 0).toNat wrH).key:=by
    unfold hKey;rw [(h.kn _ hj).1,hw.2.2.1]
   have hn:r.getD (12+(r.getD 6 0).toNat) 0=256+(hD ds (r.getD 3 0)).base+((r.getD 6 0).toNat:Nat):=(h.kn _ hj).2;refine .ins r _ rfl rfl ⟨h.b1,h.up,h.wd,rfl,fun _ _=>h.fr,fun _ _=>h.hd,fun _ _=>h.sr,fun _ _=>h.mn,fun _=>by omega,fun _ c=>absurd c (by decide),fun c=>absurd c (by decide),fun c=>absurd c (by decide),fun _ _=>h.kn,.inr (.inl ⟨.inl rfl,rfl⟩)⟩ ?_ (by simp)
   generalize r.getD (12+(r.getD 6 0).toNat) 0=nd at *
   generalize hKey r (r.getD 6 0).toNat=ky at *
   generalize ((hD ds (r.getD 3 0)).ws.getD (r.getD 6 0).toNat wrH)=w at *
   refine ⟨⟨by simp [regs1],fun v hv=>?_⟩,?_,?_,.inl ⟨rfl,rfl⟩⟩
   · unfold regs1 at hv;rcases List.mem_append.1 hv with hv | hv
     · simp only [List.mem_cons,List.mem_nil_iff,or_false] at hv;rcases hv with rfl | rfl | rfl <;> omega
     · rw [List.eq_of_mem_replicate hv];decide
   · show 0 <= ky /\ ky <= 23;omega
   · show 256 <= nd /\ nd < 316;omega
 · refine .act rfl rfl rfl rfl (atCs (by decide) (by omega) (by omega) g00 (QnM hds.1 (by omega))) fun x hx=>?_
   have hx:=hx.big rfl;exact (W100.mk9 hds h (.inr (.inr (.inr rfl))) (fun q=>absurd q (by decide)) hx:R100 ds 15 r r [x])
theorem QnP {ds:List HD} {n k:Int} {r q got:List Int} (h:R100 ds k r q got) (hds:OkDs ds):Go1 ds n (nHlp false k r (got.headD 0)) (nHlp true k q (got.headD 0)):=by
 have hs:=hds.1;obtain ⟨b1,up,wd,eq,fr,hd,sr,mn,j5,j9,k5,k6,k7,gt⟩:=h;have big1:(1048576:Int) <= bigW:=by decide
 have l1:=b1.1;rcases gt with ⟨rfl,rfl⟩ | ⟨hk,rfl⟩ | ⟨x,rfl,a1,a15,a13,a14,x0,x1,y1,y2,y3,y4,y5,y6⟩
 · rw [if_neg (by decide)] at eq
   subst eq;exact Qel hs b1 up wd
 · have hW:W100 ds r:=⟨⟨⟨b1,up,wd,fr (by omega) (by omega),hd (by omega) (by omega)⟩,sr (by omega) (by omega),mn (by omega) (by omega),by have:=j5 (by omega);have:=mn (by omega) (by omega);omega⟩,k7 (by omega) (by omega)⟩
   rw [if_neg (by omega)] at eq
   subst eq;have hD':=hds.at hW.hd;have hl:=hD'.len;have hj:=j5 (by omega)
   have hm:=hW.mn;have hlt:(q.getD 6 0).toNat < (hD ds (q.getD 3 0)).ws.length:=by omega
   rcases hk with rfl | rfl
   · have e:∀ own,nHlp own 13 q (([]:List Int).headD 0)=naCl 100 14 q 76 [q.getD 2 0+1,q.getD 6 0,hKey q (q.getD 6 0).toNat,hVal q (q.getD 6 0).toNat]:=fun own=>rfl;rw [e,e];have hw:=hD'.wr hlt;have hw2:=Qk0 hD'.ws hlt
     have hk:hKey q (q.getD 6 0).toNat=((hD ds (q.getD 3 0)).ws.getD (q.getD 6 0).toNat wrH).key:=by
      unfold hKey;rw [(hW.kn _ hlt).1,hw.2.2.1]
     have hv:hVal q (q.getD 6 0).toNat=((hD ds (q.getD 3 0)).ws.getD (q.getD 6 0).toNat wrH).value:=by
      unfold hVal;rw [(hW.kn _ hlt).1,hw.2.2.2]
     have hfr:=hW.fr;have hup:=hW.up;refine .app q _ rfl rfl ⟨b1,up,wd,rfl,fun _ _=>hW.fr,fun _ _=>hW.hd,fun _ _=>hW.sr,fun _ _=>hW.mn,fun _=>hj,fun _ c=>absurd c (by decide),fun c=>absurd c (by decide),fun c=>absurd c (by decide),fun _ _=>hW.kn,.inr (.inl ⟨.inr rfl,rfl⟩)⟩ ?_ (by simp)
     generalize hKey q (q.getD 6 0).toNat=ky at *
     generalize hVal q (q.getD 6 0).toNat=vl at *
     generalize ((hD ds (q.getD 3 0)).ws.getD (q.getD 6 0).toNat wrH)=w at *
     refine ⟨⟨by simp [regs1],fun v hv=>?_⟩,?_,.inl ⟨rfl,rfl⟩⟩
     · unfold regs1 at hv;rcases List.mem_append.1 hv with hv | hv
       · simp only [List.mem_cons,List.mem_nil_iff,or_false] at hv;rcases hv with rfl | rfl | rfl | rfl <;> omega
       · rw [List.eq_of_mem_replicate hv];decide
     · show 0 <= ky /\ ky <= 23;omega
   · have e:∀ own,nHlp own 14 q (([]:List Int).headD 0)=hApp (q.set 6 (q.getD 6 0+1)):=fun own=>rfl;rw [e,e];exact Qk8 hds (hW.set6 (by omega) (by omega) hl)
 simp only [List.headD_cons];have ks:k=1 \/ k=2 \/ k=3 \/ k=4 \/ k=5 \/ k=6 \/ k=7 \/ k=8 \/ k=9 \/ k=10 \/ k=11 \/ k=12 \/ k=15:=by omega
 rcases ks with rfl | rfl | rfl | rfl | rfl | rfl | rfl | rfl | rfl | rfl | rfl | rfl | rfl
 · rw [if_neg (by decide)] at eq
   subst eq;have e:∀ own,nHlp own 1 q x=if q.getD 0 0 <= x then naEn 100 1 (q.set 2 x) [] true else naLd 100 2 (q.set 2 x) (lRing (x+1) (q.getD 1 0)) 0:=fun own=>rfl
   rw [e,e]
   split
   · exact .fin rfl rfl
   · have hr:=Qby (p:=x+1) (by omega) wd
     refine .act rfl rfl rfl rfl (atLd (by omega) g00) fun z hz=>?_
     have hz:=(hz.ty rfl).t3 (by show 13 <= lRing (x+1) (q.getD 1 0);omega) (by show lRing (x+1) (q.getD 1 0) <= 20;omega)
     refine (⟨b1.set 2 x1,?_,?_,rfl,fun _ _=>?_,fun c=>absurd c (by decide),fun c=>absurd c (by decide),fun c=>absurd c (by decide),fun c=>absurd c (by decide),fun c=>absurd c (by decide),fun c=>absurd c (by decide),fun c=>absurd c (by decide),fun c=>absurd c (by decide),
      .inr (.inr ⟨z,rfl,by decide,by decide,by decide,by decide,hz.1.1,hz.1.2,fun c=>absurd c (by decide),fun _=>hz.2,fun c=>absurd c (by decide),fun c=>absurd c (by decide),fun c=>absurd c (by decide),fun c=>absurd c (by decide)⟩)⟩:R100 ds 2 (q.set 2 x) (q.set 2 x) [z])
     · rw [Qa (by decide)];exact up
     · rw [Qa (by decide)];exact wd
     · rw [Qd (by omega),Qa (by decide)];omega
 · rw [if_neg (by decide)] at eq
   subst eq;have e:∀ own,nHlp own 2 q x=if plc x=q.getD 2 0+1 then hOf 3 (q.set 3 (bare x)) 2 else hBeg q:=fun own=>rfl
   rw [e,e];have hf:=fr (by decide) (by decide)
   split
   · rename_i hp
     have hx:OkH ds (bare x):=by
      rcases y2 rfl with rfl | h
      · exfalso;have:plc 0=0:=rfl;omega
      · exact h
     have hb:=QqK (w:=x);have g3:(q.set 3 (bare x)).getD 3 0=bare x:=Qd (by omega)
     have hc:=YC (f:=2) hs hx (by omega) (by omega)
     have hx':=hx;unfold OkH at hx';refine .act rfl rfl rfl rfl (atLd (by rw [g3];omega) (by rw [g3];exact hb)) fun z hz=>?_
     have ht:=hz.ty rfl;replace ht:TyH ds n (hDesc ((q.set 3 (bare x)).getD 3 0) 2) z:=ht;rw [g3] at ht;have hv:=(QbV ht hs hx (by omega) (by omega)).1 rfl
     have hD':=hds.at hx;have hst:=hD'.st
     refine (⟨b1.set 3 hb.2,?_,?_,rfl,fun _ _=>?_,fun _ _=>?_,fun c=>absurd c (by decide),fun c=>absurd c (by decide),fun c=>absurd c (by decide),fun c=>absurd c (by decide),fun c=>absurd c (by decide),fun c=>absurd c (by decide),fun c=>absurd c (by decide),
      .inr (.inr ⟨z,rfl,by decide,by decide,by decide,by decide,by omega,by omega,fun c=>absurd c (by decide),fun c=>absurd c (by decide),fun _=>?_,fun c=>absurd c (by decide),fun c=>absurd c (by decide),fun c=>absurd c (by decide)⟩)⟩:R100 ds 3 (q.set 3 (bare x)) (q.set 3 (bare x)) [z])
     · rw [Qa (by decide)];exact up
     · rw [Qa (by decide)];exact wd
     · rw [Qa (by decide),Qa (by decide)];exact hf
     · rw [g3];exact hx
     · rw [g3];exact hv
   · exact Qel hs b1 up wd
 · rw [if_neg (by decide)] at eq
   subst eq;have e:∀ own,nHlp own 3 q x=hOf 4 (q.set 4 x) 3:=fun own=>rfl;rw [e,e];have hf:=fr (by decide) (by decide)
   have hx:=hd (by decide) (by decide)
   have hv:=y3 rfl;have g3:(q.set 4 x).getD 3 0=q.getD 3 0:=Qa (by decide)
   have hc:=YC (f:=3) hs hx (by omega) (by omega)
   have hx':=hx;unfold OkH at hx';refine .act rfl rfl rfl rfl (atLd (by rw [g3];omega) (by rw [g3];omega)) fun z hz=>?_
   have ht:=hz.ty rfl;replace ht:TyH ds n (hDesc ((q.set 4 x).getD 3 0) 3) z:=ht;rw [g3] at ht;have hz:=(QbV ht hs hx (by omega) (by omega)).2.1 rfl
   have hl:=(hds.at hx).len
   refine (⟨b1.set 4 x1,?_,?_,rfl,fun _ _=>?_,fun _ _=>?_,fun _ _=>?_,fun c=>absurd c (by decide),fun c=>absurd c (by decide),fun c=>absurd c (by decide),fun c=>absurd c (by decide),fun c=>absurd c (by decide),fun c=>absurd c (by decide),
    .inr (.inr ⟨z,rfl,by decide,by decide,by decide,by decide,by omega,by omega,fun c=>absurd c (by decide),fun c=>absurd c (by decide),fun c=>absurd c (by decide),fun _=>?_,fun c=>absurd c (by decide),fun c=>absurd c (by decide)⟩)⟩:R100 ds 4 (q.set 4 x) (q.set 4 x) [z])
   · rw [Qa (by decide)];exact up
   · rw [Qa (by decide)];exact wd
   · rw [Qa (by decide),Qa (by decide)];exact hf
   · rw [g3];exact hx
   · rw [g3,Qd (by omega)];exact hv
   · rw [g3];exact hz
 · rw [if_neg (by decide)] at eq
   subst eq;have e:∀ own,nHlp own 4 q x=hWrs ((q.set 5 x).set 6 0):=fun own=>rfl;rw [e,e];have E:∀ j,j ≠ 5->j ≠ 6->((q.set 5 x).set 6 0).getD j 0=q.getD j 0:=fun j c1 c2=>by rw [Qa (fun c=>c2 c.symm),Qa (fun c=>c1 c.symm)]
   have g6:((q.set 5 x).set 6 0).getD 6 0=0:=Qd (by rw [List.length_set];omega)
   refine Qk4 hds ⟨⟨(b1.set 5 x1).set 6 (by decide),?_,?_,?_,?_⟩,?_,?_,?_⟩ fun j hj=>?_
   · rw [E 0 (by decide) (by decide)];exact up
   · rw [E 1 (by decide) (by decide)];exact wd
   · rw [E 2 (by decide) (by decide),E 0 (by decide) (by decide)];exact fr (by decide) (by decide)
   · rw [E 3 (by decide) (by decide)];exact hd (by decide) (by decide)
   · rw [E 3 (by decide) (by decide),E 4 (by decide) (by decide)];exact sr (by decide) (by decide)
   · rw [E 3 (by decide) (by decide),Qa (by decide),Qd (by omega)];exact y4 rfl
   · rw [g6];omega
   · rw [g6] at hj;simp at hj
 · rw [if_neg (by decide)] at eq
   subst eq;have e:∀ own,nHlp own 5 q x=hOf 6 (q.set (8+(q.getD 6 0).toNat) x) (8+q.getD 6 0):=fun own=>rfl;rw [e,e];have hx:=hd (by decide) (by decide)
   have hm:=mn (by decide) (by decide)
   have hl:=(hds.at hx).len;have hj:=j5 (.inl rfl);have hnb:=(hds.at hx).nb;have E:∀ j,j ≠ 8+(q.getD 6 0).toNat->(q.set (8+(q.getD 6 0).toNat) x).getD j 0=q.getD j 0:=fun j c=>Qa (fun d=>c d.symm);have g3:=E 3 (by omega)
   have hc:=YC (f:=8+q.getD 6 0) hs hx (by omega) (by omega)
   have hx':=hx;unfold OkH at hx';refine .act rfl rfl rfl rfl (atLd (by rw [g3];omega) (by rw [g3];omega)) fun z hz=>?_
   have ht:=hz.ty rfl;replace ht:TyH ds n (hDesc ((q.set (8+(q.getD 6 0).toNat) x).getD 3 0) (8+q.getD 6 0)) z:=ht;rw [g3] at ht;have hz:=(QbV ht hs hx (by omega) (by omega)).2.2.2 (by omega) (by omega)
   rw [show (8+q.getD 6 0 - 8).toNat=(q.getD 6 0).toNat by omega] at hz
   have hz2:z=256+(hD ds (q.getD 3 0)).base+((q.getD 6 0).toNat:Nat):=hz;have g6:=E 6 (by omega)
   refine (⟨b1.set _ x1,?_,?_,rfl,fun _ _=>?_,fun _ _=>?_,fun _ _=>?_,fun _ _=>?_,fun _=>?_,fun c=>absurd c (by decide),fun _=>?_,fun _=>?_,fun c=>absurd c (by decide),
    .inr (.inr ⟨z,rfl,by decide,by decide,by decide,by decide,by omega,by omega,fun c=>absurd c (by decide),fun c=>absurd c (by decide),fun c=>absurd c (by decide),fun c=>absurd c (by decide),fun c=>absurd c (by decide),fun _=>?_⟩)⟩:R100 ds 6 (q.set (8+(q.getD 6 0).toNat) x) (q.set (8+(q.getD 6 0).toNat) x) [z])
   · rw [E 0 (by omega)];exact up
   · rw [E 1 (by omega)];exact wd
   · rw [E 2 (by omega),E 0 (by omega)];exact fr (by decide) (by decide)
   · rw [g3];exact hx
   · rw [g3,E 4 (by omega)];exact sr (by decide) (by decide)
   · rw [g3,E 5 (by omega)];exact hm
   · rw [g6,E 5 (by omega)];exact hj
   · rw [g3,g6];exact fun j hj'=>by rw [E _ (by omega),E _ (by omega)];exact k5 (.inl rfl) j hj'
   · rw [g3,g6,Qd (by omega)];exact y5 rfl
   · rw [g3,g6];exact hz
 · rw [if_neg (by decide)] at eq
   subst eq;have e:∀ own,nHlp own 6 q x=hWrs ((q.set (12+(q.getD 6 0).toNat) x).set 6 (q.getD 6 0+1)):=fun own=>rfl;rw [e,e];have hx:=hd (by decide) (by decide)
   have hm:=mn (by decide) (by decide)
   have hl:=(hds.at hx).len;have hj:=j5 (.inr (.inl rfl));have hkn:=k5 (.inr rfl);have hk6:=k6 rfl;have hxx:=y6 rfl;have E:∀ j,j ≠ 12+(q.getD 6 0).toNat->j ≠ 6->((q.set (12+(q.getD 6 0).toNat) x).set 6 (q.getD 6 0+1)).getD j 0=q.getD j 0:=fun j c1 c2=>by rw [Qa (fun c=>c2 c.symm),Qa (fun c=>c1 c.symm)]
   have g6:((q.set (12+(q.getD 6 0).toNat) x).set 6 (q.getD 6 0+1)).getD 6 0=q.getD 6 0+1:=Qd (by rw [List.length_set];omega)
   have g3:=E 3 (by omega) (by decide)
   refine Qk4 hds ⟨⟨(b1.set _ x1).set 6 (by unfold bigW;omega),?_,?_,?_,?_⟩,?_,?_,?_⟩ ?_
   · rw [E 0 (by omega) (by decide)];exact up
   · rw [E 1 (by omega) (by decide)];exact wd
   · rw [E 2 (by omega) (by decide),E 0 (by omega) (by decide)];exact fr (by decide) (by decide)
   · rw [g3];exact hx
   · rw [g3,E 4 (by omega) (by decide)];exact sr (by decide) (by decide)
   · rw [g3,E 5 (by omega) (by decide)];exact hm
   · rw [g3,g6];omega
   · rw [g3,g6];intro j hj';rw [E (8+j) (by omega) (by omega)]
     by_cases c:j=(q.getD 6 0).toNat
     · subst c;refine ⟨hk6,?_⟩;rw [Qa (by omega),Qd (by omega)]
       exact hxx
     · rw [E (12+j) (by omega) (by omega)]
       exact hkn j (by omega)
 · rw [if_neg (by decide)] at eq
   subst eq;have e:∀ own,nHlp own 7 q x=if x=0 then hHds (q.set 6 0) else hPut (q.set 6 0) x:=fun own=>rfl
   rw [e,e];have hx:=hd (by decide) (by decide)
   have hm:=mn (by decide) (by decide)
   have hl:=(hds.at hx).len;have h9:=j9 (by decide) (by decide)
   have hW0:W100 ds (q.set 6 0):=by
    have E:∀ j,j ≠ 6->(q.set 6 0).getD j 0=q.getD j 0:=fun j c=>Qa (fun d=>c d.symm);refine ⟨⟨⟨b1.set 6 (by decide),?_,?_,?_,?_⟩,?_,?_,?_⟩,?_⟩
    · rw [E 0 (by omega)];exact up
    · rw [E 1 (by omega)];exact wd
    · rw [E 2 (by omega),E 0 (by omega)];exact fr (by decide) (by decide)
    · rw [E 3 (by omega)];exact hx
    · rw [E 3 (by omega),E 4 (by omega)];exact sr (by decide) (by decide)
    · rw [E 3 (by omega),E 5 (by omega)];exact hm
    · rw [E 3 (by omega),Qd (by omega)];omega
    · rw [E 3 (by omega)];exact (k7 (by decide) (by decide)).same fun i hi=>E i (by omega)
   split
   · exact Qk6 hds hW0
   · exact Qk7 hds hW0 (Qd (by omega)) (j:=0) (by rw [List.set_set]) (by decide) ⟨x0,x1⟩
 · rw [if_neg (by decide)] at eq
   subst eq;have e:∀ own,nHlp own 8 q x=if q.getD 4 0 < plc x then hDec q 2 else hHds (q.set 6 (q.getD 6 0+1)):=fun own=>rfl
   rw [e,e];have hj:=j5 (by omega)
   have hm:=mn (by decide) (by decide)
   have hW:W100 ds q:=⟨⟨⟨b1,up,wd,fr (by decide) (by decide),hd (by decide) (by decide)⟩,sr (by decide) (by decide),hm,by omega⟩,k7 (by decide) (by decide)⟩
   split
   · exact Qk5 hds hW (.inr rfl)
   · exact Qk6 hds (hW.set6 (by omega) (by omega) (hds.at hW.hd).len)
 · rw [if_neg (by decide)] at eq
   subst eq;have e:∀ own,nHlp own 9 q x=hOf 10 q 1:=fun own=>rfl;rw [e,e];have hx:=hd (by decide) (by decide)
   have hm:=mn (by decide) (by decide)
   have hc:=YC (f:=1) hs hx (by omega) (by omega)
   have hx':=hx;unfold OkH at hx';refine .act rfl rfl rfl rfl (atLd (by omega) (by omega)) fun z hz=>?_
   have hz:=(hz.ty rfl).t7 (q.getD 3 0 - 256) (by omega) (by omega) hc
   refine (⟨b1,up,wd,rfl,fun _ _=>fr (by decide) (by decide),fun _ _=>hx,fun _ _=>sr (by decide) (by decide),fun _ _=>hm,fun c=>absurd c (by decide),fun _ _=>j9 (by decide) (by decide),fun c=>absurd c (by decide),fun c=>absurd c (by decide),fun _ _=>k7 (by decide) (by decide),
    .inr (.inr ⟨z,rfl,by decide,by decide,by decide,by decide,by omega,by omega,fun c=>absurd c (by decide),fun c=>absurd c (by decide),fun c=>absurd c (by decide),fun c=>absurd c (by decide),fun c=>absurd c (by decide),fun c=>absurd c (by decide)⟩)⟩:R100 ds 10 q q [z])
 · rw [if_neg (by decide)] at eq
   subst eq;have e1:nHlp false 10 q x=hPut (q.set 6 0) x:=rfl;have e2:nHlp true 10 q x=hPut q x:=rfl;rw [e1,e2];have hx:=hd (by decide) (by decide)
   have hm:=mn (by decide) (by decide)
   have h9:=j9 (by decide) (by decide)
   have hl:=(hds.at hx).len
   have hW0:W100 ds (q.set 6 0):=by
    have E:∀ j,j ≠ 6->(q.set 6 0).getD j 0=q.getD j 0:=fun j c=>Qa (fun d=>c d.symm);refine ⟨⟨⟨b1.set 6 (by decide),?_,?_,?_,?_⟩,?_,?_,?_⟩,?_⟩
    · rw [E 0 (by omega)];exact up
    · rw [E 1 (by omega)];exact wd
    · rw [E 2 (by omega),E 0 (by omega)];exact fr (by decide) (by decide)
    · rw [E 3 (by omega)];exact hx
    · rw [E 3 (by omega),E 4 (by omega)];exact sr (by decide) (by decide)
    · rw [E 3 (by omega),E 5 (by omega)];exact hm
    · rw [E 3 (by omega),Qd (by omega)];omega
    · rw [E 3 (by omega)];exact (k7 (by decide) (by decide)).same fun i hi=>E i (by omega)
   refine Qk7 hds hW0 (Qd (by omega)) (j:=q.getD 6 0) ?_ (by omega) ⟨x0,x1⟩
   rw [List.set_set];apply List.ext_getElem
   · rw [List.length_set]
   · intro i i1 i2;rw [List.getElem_set]
     split
     · rename_i c;subst c;simp [i1]
     · rfl
 · rw [if_pos (.inl rfl)] at eq;obtain ⟨⟨j,rfl,hj⟩,h60⟩:=eq;have e:∀ own r,nHlp own 11 r x=naSy 100 12 r:=fun own r=>rfl;rw [e,e];refine .act rfl rfl rfl rfl ⟨rfl,Int.le_refl _,by show (0:Int) <= bigW;decide,.inr (.inr (.inr ⟨rfl,rfl,rfl,rfl,rfl,rfl⟩))⟩ fun z hz=>?_
   rcases hz with ⟨c,_⟩ | ⟨c,_⟩ | ⟨_,rfl⟩
   · exact absurd c (by show ((5:Int) ≠ 0);decide)
   · exact absurd c (by show ((5:Int) ≠ 2);decide)
   · refine (⟨b1,up,wd,?_,fun _ _=>fr (by decide) (by decide),fun _ _=>hd (by decide) (by decide),fun _ _=>sr (by decide) (by decide),fun _ _=>mn (by decide) (by decide),fun c=>absurd c (by decide),fun _ c=>absurd c (by decide),fun c=>absurd c (by decide),fun c=>absurd c (by decide),fun _ _=>k7 (by decide) (by decide),
      .inr (.inr ⟨0,rfl,by decide,by decide,by decide,by decide,by decide,by decide,fun c=>absurd c (by decide),fun c=>absurd c (by decide),fun c=>absurd c (by decide),fun c=>absurd c (by decide),fun c=>absurd c (by decide),fun c=>absurd c (by decide)⟩)⟩:R100 ds 12 r (r.set 6 j) [0])
     rw [if_pos (.inr rfl)];exact ⟨⟨j,rfl,hj⟩,h60⟩
 · rw [if_pos (.inr rfl)] at eq;obtain ⟨⟨j,rfl,hj⟩,h60⟩:=eq;have e1:nHlp false 12 r x=hApp r:=rfl;have e2:nHlp true 12 (r.set 6 j) x=hApp ((r.set 6 j).set 6 0):=rfl
   have e3:(r.set 6 j).set 6 0=r:=by
    rw [List.set_set];apply List.ext_getElem
    · rw [List.length_set]
    · intro i i1 i2;rw [List.getElem_set]
      split
      · rename_i c;subst c;rw [<- h60];simp [i2]
      · rfl
   rw [e1,e2,e3];exact Qk8 hds ⟨⟨⟨b1,up,wd,fr (by decide) (by decide),hd (by decide) (by decide)⟩,sr (by decide) (by decide),mn (by decide) (by decide),by omega⟩,k7 (by decide) (by decide)⟩
 · rw [if_neg (by decide)] at eq
   subst eq;have e:∀ own,nHlp own 15 q x=hBeg q:=fun own=>rfl;rw [e,e];exact Qel hs b1 up wd
def doC5 (cs:List Int) (A:Qb):List Int:=if A.kind < 4 then doC4 cs A.kind A.a A.b A.v else cs
def doG5 (cs:List Int) (A:Qb):Int:=if A.kind < 4 then doG4 cs A.kind A.a A.b else 0
def doN5 (now:List Sector) (A:Qb):List Sector:=if A.kind=4 then Vu now A.a.toNat A.b A.text else now
def doS5 (now sure:List Sector) (A:Qb):List Sector:=if A.kind=5 then now else sure
def QrV (cs:List Int) (now sure:List Sector) (A:Qb):Prop:=A.args=[] /\ 0 <= A.gen /\
 (A.text=[] /\ Vl cs A.kind A.a A.b A.v \/ A.kind=4 /\ A.v=0 /\ Yy now sure A.a A.b A.text=true \/ A.kind=5 /\ A.text=[] /\ A.a=0 /\ A.b=0 /\ A.v=0)
section
variable (nx:Bool->Frame->List Int->NA) (ok:Bool->Frame->List Int->Prop)
def gdX (cs:List Int) (t:Task):Int:=doG5 cs (goT nx false t).a
def gdCs (cs:List Int) (t:Task):List Int:=doC5 cs (goT nx false t).a
def QrW (now:List Sector) (t:Task):List Sector:=doN5 now (goT nx false t).a
def QoR (now sure:List Sector) (t:Task):List Sector:=doS5 now sure (goT nx false t).a
structure Qk9 (c:Int) (cs:List Int) (t u:Task) (now sure:List Sector):Prop where
 e1:QhC nx ok c t u
 is:(goT nx false t).is=true
 la:(goT nx false t).st.length <= 6 /\ (goT nx false t).got.length <= 96
 lb:(goT nx true u).st.length <= 6 /\ (goT nx true u).got.length <= 96
 hd:QrV cs now sure (goT nx false t).a
 hc:cellsOK cs=true
 d1:Qx now sure=true
 d2:Qr now=true
 d3:Qr sure=true
 e2:QhC nx ok c (gmT nx false (gdX nx cs t) t) (gmT nx true (gdX nx cs t) u)
end
inductive HRel (ds:List HD) (n:Int):List Frame->List Frame->List Int->Prop
 | ins {k:Int} {r got:List Int} (h:R68 ds k r got):HRel ds n [⟨68,k,r⟩] [⟨68,k,r⟩] got
 | hlp {k:Int} {r q got:List Int} (h:R100 ds k r q got):HRel ds n [⟨100,k,r⟩] [⟨100,k,q⟩] got
 | inr {k:Int} {r s got:List Int} (h:R100 ds 13 r r []) (h2:R73 k s got):HRel ds n [⟨100,13,r⟩,⟨73,k,s⟩] [⟨100,13,r⟩,⟨73,k,s⟩] got
 | app {k:Int} {r s got:List Int} (h:R100 ds 14 r r []) (h2:R76 n k s got):HRel ds n [⟨100,14,r⟩,⟨76,k,s⟩] [⟨100,14,r⟩,⟨76,k,s⟩] got
structure GoH (ds:List HD) (n:Int) (m:Nat) (st st':List Frame) (got:List Int) (e e':Bool):Prop where
 a1:OkN (nHp false) (okHp false) m st got
 a2:OkN (nHp true) (okHp true) m st' got
 is:(goN (nHp true) m st' got e').is=(goN (nHp false) m st got e).is
 ac:(goN (nHp false) m st got e).is=true->(goN (nHp true) m st' got e').a=(goN (nHp false) m st got e).a /\ AtH ds n (goN (nHp false) m st got e).a /\
  ((goN (nHp false) m st got e).st.length <= 6 /\ (goN (nHp false) m st got e).got.length <= 96) /\ ((goN (nHp true) m st' got e').st.length <= 6 /\ (goN (nHp true) m st' got e').got.length <= 96) /\
  ∀ x,RsH ds n (goN (nHp false) m st got e).a x->HRel ds n (goN (nHp false) m st got e).st (goN (nHp true) m st' got e').st [x]
 en:(goN (nHp false) m st got e).is=false->(goN (nHp false) m st got e).st=[] /\ (goN (nHp true) m st' got e').st=[] /\ (goN (nHp true) m st' got e').got=(goN (nHp false) m st got e).got /\
  ((goN (nHp false) m st got e).got=[] \/ EndI (goN (nHp false) m st got e).got)
theorem QT (f g:Frame):topF [f,g]=g:=rfl
theorem Qv (f:Frame):topF [f]=f:=rfl
theorem Qla {nx:Frame->List Int->NA} {m:Nat} {st:List Frame} {got:List Int} {e:Bool} (h0:st ≠ []) (h:(nx (topF st) got).a.kind < 6):goN nx (m+1) st got e=⟨st.dropLast++[(nx (topF st) got).f],got,e,(nx (topF st) got).a,(nx (topF st) got).fl,true⟩:=by
 rw [goN,if_neg h0,if_pos h];unfold tkSt;rw [if_pos h]
theorem Qf1 {nx:Frame->List Int->NA} {m:Nat} {st:List Frame} {got:List Int} {e:Bool} (h0:st ≠ []) (h:(nx (topF st) got).a.kind=6):goN nx (m+1) st got e=goN nx m (st.dropLast++[(nx (topF st) got).f,calF (nx (topF st) got).a]) [] true:=by
 rw [goN,if_neg h0,if_neg (by omega)]
 unfold tkSt Vm tkFl;rw [if_neg (by omega),if_pos h,if_neg (by omega),if_pos h,if_neg (by omega),decide_eq_true h]
theorem QbW {nx:Frame->List Int->NA} {m:Nat} {st:List Frame} {got:List Int} {e:Bool} (h0:st ≠ []) (h:(nx (topF st) got).a.kind=7):goN nx (m+1) st got e=goN nx m st.dropLast (nx (topF st) got).a.args false:=by
 rw [goN,if_neg h0,if_neg (by omega)]
 unfold tkSt Vm tkFl;rw [if_neg (by omega),if_neg (by omega),if_neg (by omega),if_neg (by omega),if_neg (by omega),decide_eq_false (by omega)]
theorem Qlb {nx:Frame->List Int->NA} {ok:Frame->List Int->Prop} {m:Nat} {st:List Frame} {got:List Int} (h0:st ≠ []) (hl:st.length <= 6) (h1:got.length <= 96) (h2:ok (topF st) got) (h3:mayN (nx (topF st) got).a=true) (h4:0 <= (nx (topF st) got).a.kind /\ (nx (topF st) got).a.kind < 6):OkN nx ok (m+1) st got :=
 .inr ⟨h0,hl,h1,h2,h3,h4.1,by omega,.inl h4.2⟩
theorem Qf2 {nx:Frame->List Int->NA} {ok:Frame->List Int->Prop} {m:Nat} {st:List Frame} {got:List Int} (h0:st ≠ []) (hl:st.length < 6) (h1:got.length <= 96) (h2:ok (topF st) got) (h3:mayN (nx (topF st) got).a=true) (h4:(nx (topF st) got).a.kind=6) (h5:OkN nx ok m (st.dropLast++[(nx (topF st) got).f,calF (nx (topF st) got).a]) []):OkN nx ok (m+1) st got :=
 .inr ⟨h0,by omega,h1,h2,h3,by omega,by omega,.inr ⟨fun _=>hl,by
  unfold tkSt Vm;rw [if_neg (by omega),if_pos h4,if_neg (by omega),if_pos h4]
  exact h5⟩⟩
theorem QbX {nx:Frame->List Int->NA} {ok:Frame->List Int->Prop} {m:Nat} {st:List Frame} {got:List Int} (h0:st ≠ []) (hl:st.length <= 6) (h1:got.length <= 96) (h2:ok (topF st) got) (h3:mayN (nx (topF st) got).a=true) (h4:(nx (topF st) got).a.kind=7) (h5:OkN nx ok m st.dropLast (nx (topF st) got).a.args):OkN nx ok (m+1) st got :=
 .inr ⟨h0,hl,h1,h2,h3,by omega,by omega,.inr ⟨fun q=>by omega,by
  unfold tkSt Vm;rw [if_neg (by omega),if_neg (by omega),if_neg (by omega),if_neg (by omega)]
  exact h5⟩⟩
theorem AtH.may {ds:List HD} {n:Int} {A:Qb} (h:AtH ds n A):mayN A=true /\ 0 <= A.kind /\ A.kind < 6:=by
 obtain ⟨h1,h2,h3,h6⟩:=h;unfold bigW at *;rcases h6 with ⟨k,t,b,v,a0,a1⟩ | ⟨k,t,a0,a1,b0,b1,v0,v1,_⟩ | ⟨k,g,v,a0,a1,b0,b1,t0,t1⟩ | ⟨k,g,t,a,b,v⟩
 · refine ⟨decide_eq_true ?_,by omega,by omega⟩
   rw [h1,k,t,b,v];exact MayA.k0.2 ⟨⟨by decide,by decide,by decide,by decide,by omega,by omega,by decide,by decide,by omega,by omega⟩,rfl,rfl,rfl,rfl⟩
 · refine ⟨decide_eq_true ?_,by omega,by omega⟩
   rw [h1,k,t];exact MayA.k2.2 ⟨⟨by omega,by omega,by omega,by omega,by omega,by omega,by decide,by decide,by omega,by omega⟩,rfl,rfl⟩
 · refine ⟨decide_eq_true ?_,by omega,by omega⟩
   rw [h1,k,g,v];exact MayA.k4.2 ⟨⟨by omega,by omega,by decide,by decide,by decide,by decide,by decide,t1,by omega,by omega⟩,rfl,rfl,rfl⟩
 · refine ⟨decide_eq_true ?_,by omega,by omega⟩
   rw [h1,k,g,t,a,b,v];exact MayA.k5.2 ⟨⟨by decide,by decide,by decide,by decide,by decide,by decide,by decide,by decide,by decide,by decide⟩,rfl,rfl,rfl,rfl,rfl,rfl⟩
theorem QbY {ds:List HD} {n:Int} {m:Nat} {st st':List Frame} {got:List Int} {e e':Bool} (h0:st ≠ []) (h0':st' ≠ []) (hl:st.length <= 6) (hl':st'.length <= 6) (hg:got.length <= 96) (ok1:okHp false (topF st) got) (ok2:okHp true (topF st') got)
 (ha:(nHp true (topF st') got).a=(nHp false (topF st) got).a) (hA:AtH ds n (nHp false (topF st) got).a)
 (hr:∀ x,RsH ds n (nHp false (topF st) got).a x->HRel ds n (st.dropLast++[(nHp false (topF st) got).f]) (st'.dropLast++[(nHp true (topF st') got).f]) [x]):GoH ds n (m+1) st st' got e e':=by
 obtain ⟨hm,k0,k6⟩:=hA.may;have e1:=Qla (m:=m) (e:=e) h0 k6;have e2:=Qla (nx:=nHp true) (st:=st') (got:=got) (m:=m) (e:=e') h0' (by rw [ha];exact k6)
 have l1:1 <= st.length:=List.length_pos_iff.2 h0;have l2:1 <= st'.length:=List.length_pos_iff.2 h0';refine ⟨Qlb h0 hl hg ok1 hm ⟨k0,k6⟩,Qlb h0' hl' hg ok2 (by rw [ha];exact hm) (by rw [ha];exact ⟨k0,k6⟩),by rw [e1,e2],fun _=>?_,fun q=>by rw [e1] at q;cases q⟩
 rw [e1,e2];refine ⟨ha,hA,⟨?_,hg⟩,⟨?_,hg⟩,hr⟩
 · simp only [List.length_append,List.length_dropLast,List.length_cons,List.length_nil];omega
 · simp only [List.length_append,List.length_dropLast,List.length_cons,List.length_nil];omega
theorem mayE {l:List Int} (h:l.length <= 96):mayN ⟨7,0,0,0,0,[],l⟩=true:=decide_eq_true (by
 show MayA 7 0 0 0 0 ([]:List UInt8).length l.length;unfold MayA;simp;omega)
theorem mayC {p:Int} {l:List Int} (hp:0 <= p /\ p <= 127) (h:l.length <= 96):mayN ⟨6,p,0,0,0,[],l⟩=true:=decide_eq_true (by
 show MayA 6 p 0 0 0 ([]:List UInt8).length l.length;unfold MayA;simp;omega)
theorem Qlc {nx:Frame->List Int->NA} {m:Nat} {got:List Int} {e:Bool}:goN nx (m+1) [] got e=⟨[],got,e,act0,true,false⟩:=by rw [goN,if_pos rfl]
theorem Qld {ds:List HD} {n:Int} {m:Nat} {f f':Frame} {got:List Int} {e e':Bool} {l:List Int} (hg:got.length <= 96) (ok1:okHp false f got) (ok2:okHp true f' got)
 (h1:(nHp false f got).a=⟨7,0,0,0,0,[],l⟩) (h2:(nHp true f' got).a=⟨7,0,0,0,0,[],l⟩) (hl:l=[] \/ EndI l):GoH ds n (m+2) [f] [f'] got e e':=by
 have ll:l.length <= 96:=by
  rcases hl with rfl | ⟨t,rfl,_⟩ | ⟨x,rfl⟩ <;> simp
 have e1:=QbW (nx:=nHp false) (st:=[f]) (got:=got) (m:=m+1) (e:=e) (by simp) (by rw [Qv,h1])
 have e2:=QbW (nx:=nHp true) (st:=[f']) (got:=got) (m:=m+1) (e:=e') (by simp) (by rw [Qv,h2])
 rw [Qv,h1,show [f].dropLast=[] from rfl,Qlc] at e1;rw [Qv,h2,show [f'].dropLast=[] from rfl,Qlc] at e2;refine ⟨QbX (by simp) (by simp) hg ok1 (by rw [Qv,h1];exact mayE ll) (by rw [Qv,h1]) (.inl rfl),QbX (by simp) (by simp) hg ok2 (by rw [Qv,h2];exact mayE ll) (by rw [Qv,h2]) (.inl rfl),by rw [e1,e2],fun q=>(by rw [e1] at q;cases q),fun _=>?_⟩
 rw [e1,e2];exact ⟨rfl,rfl,rfl,hl⟩
theorem Qf3 {ds:List HD} {n:Int} {m:Nat} {f f':Frame} {got:List Int} {e e':Bool} {g:Frame} {p:Int} {l:List Int} (hg:got.length <= 96) (ok1:okHp false f got) (ok2:okHp true f' got)
 (h1:nHp false f got=naCl 100 g.at' g.r p l) (h2:nHp true f' got=naCl 100 g.at' g.r p l) (hgp:g.prog=100) (hp:0 <= p /\ p <= 127) (hl:l.length <= 96) (h:∀ e e',GoH ds n m [g,⟨p,0,regs1 l⟩] [g,⟨p,0,regs1 l⟩] [] e e'):GoH ds n (m+1) [f] [f'] got e e':=by
 have hG:(⟨100,g.at',g.r⟩:Frame)=g:=by rw [<- hgp]
 have e1:=Qf1 (nx:=nHp false) (st:=[f]) (got:=got) (m:=m) (e:=e) (by simp) (by rw [Qv,h1];rfl)
 have e2:=Qf1 (nx:=nHp true) (st:=[f']) (got:=got) (m:=m) (e:=e') (by simp) (by rw [Qv,h2];rfl)
 rw [Qv,h1] at e1;rw [Qv,h2] at e2;have t1:[f].dropLast++[(naCl 100 g.at' g.r p l).f,calF (naCl 100 g.at' g.r p l).a]=[g,⟨p,0,regs1 l⟩]:=by show [(⟨100,g.at',g.r⟩:Frame),_]=_;rw [hG];rfl
 have t2:[f'].dropLast++[(naCl 100 g.at' g.r p l).f,calF (naCl 100 g.at' g.r p l).a]=[g,⟨p,0,regs1 l⟩]:=t1;rw [t1] at e1;rw [t2] at e2;obtain ⟨a1,a2,is,ac,en⟩:=h true true;refine ⟨Qf2 (by simp) (by simp) hg ok1 (by rw [Qv,h1];exact mayC hp hl) (by rw [Qv,h1];rfl) (by rw [Qv,h1,t1];exact a1),Qf2 (by simp) (by simp) hg ok2 (by rw [Qv,h2];exact mayC hp hl) (by rw [Qv,h2];rfl) (by rw [Qv,h2,t2];exact a2),by rw [e1,e2];exact is,?_,?_⟩
 · rw [e1,e2];exact ac
 · rw [e1,e2];intro q;exact en q
theorem Qle {ds:List HD} {n:Int} {m:Nat} {f f' g g':Frame} {got:List Int} {e e':Bool} (hg:got.length <= 96) (ok1:okHp false g got) (ok2:okHp true g' got)
 (h1:(nHp false g got).a=⟨7,0,0,0,0,[],[]⟩) (h2:(nHp true g' got).a=⟨7,0,0,0,0,[],[]⟩) (h:∀ e e',GoH ds n m [f] [f'] [] e e'):GoH ds n (m+1) [f,g] [f',g'] got e e':=by
 have e1:=QbW (nx:=nHp false) (st:=[f,g]) (got:=got) (m:=m) (e:=e) (by simp) (by rw [QT,h1])
 have e2:=QbW (nx:=nHp true) (st:=[f',g']) (got:=got) (m:=m) (e:=e') (by simp) (by rw [QT,h2])
 rw [QT,h1,show [f,g].dropLast=[f] from rfl] at e1;rw [QT,h2,show [f',g'].dropLast=[f'] from rfl] at e2;obtain ⟨a1,a2,is,ac,en⟩:=h false false;refine ⟨QbX (by simp) (by simp) hg ok1 (by rw [QT,h1];exact mayE (by simp)) (by rw [QT,h1]) (by rw [QT,h1];exact a1),QbX (by simp) (by simp) hg ok2 (by rw [QT,h2];exact mayE (by simp)) (by rw [QT,h2]) (by rw [QT,h2];exact a2),by rw [e1,e2];exact is,?_,?_⟩
 · rw [e1,e2];exact ac
 · rw [e1,e2];intro q;exact en q
theorem Qlf {n:Int} {A:Qb} (h:AtS n A) {ds:List HD} (hs:ds.length <= 16) (h0:0 <= n) (hn:n <= 900000):AtH ds n A /\ ∀ x,RsH ds n A x->RsS n A x:=by
 obtain ⟨h1,h2,h3,h4,h5,h6⟩:=h;rcases h6 with ⟨k,b,v⟩ | ⟨k,b0,b1,hv⟩
 · exact ⟨⟨h3,by rw [h1];decide,by rw [h1];decide,.inl ⟨k,h2,b,v,by omega,by omega⟩⟩,fun x hx=>.inl ⟨k,(hx.ty k).t5 h4 h5⟩⟩
 · have hb:=hv.big h4 (by omega)
   refine ⟨⟨h3,by rw [h1];decide,by rw [h1];decide,.inr (.inl ⟨k,h2,by omega,by omega,by omega,b1,hb.1,hb.2,QqJ hs ⟨h4,h5⟩ hv⟩)⟩,fun x hx=>.inr ⟨k,?_⟩⟩
   rcases hx with ⟨c,_⟩ | ⟨_,c⟩ | ⟨c,_⟩
   · omega
   · exact c
   · omega
theorem QbZ {n k:Int} {r got:List Int} (h:R76 n k r got) (hn:n <= 1000000) (own:Bool):okHp own ⟨76,k,r⟩ got:=by
 obtain ⟨h1,h2,h3⟩:=h.ok hn own;rcases h3 with ⟨_,h3⟩ | ⟨c,_⟩
 · exact ⟨h1,h2,.inr (.inr (.inl ⟨rfl,h3⟩))⟩
 · exact absurd c (by show ((76:Int) ≠ 77);decide)
theorem R100.ok {ds:List HD} (hds:OkDs ds) {k:Int} {r q got:List Int} (h:R100 ds k r q got):okHp false ⟨100,k,r⟩ got /\ okHp true ⟨100,k,q⟩ got:=by
 obtain ⟨b1,up,wd,eq,fr,hd,sr,mn,j5,j9,k5,k6,k7,gt⟩:=h;have hl:3 <= k->k <= 14->(hD ds (r.getD 3 0)).ws.length <= 4:=fun c1 c2=>(hds.at (hd c1 c2)).len;have hh:3 <= k->k <= 14->256 <= r.getD 3 0 /\ r.getD 3 0 <= 300:=fun c1 c2=>by have:=hd c1 c2;have:=hds.1;unfold OkH at *;omega
 have hw:7 <= k->k <= 14->okWs (V0 r) r:=fun c1 c2 j hj=>by
  rw [JA (mn (by omega) c2) (hl (by omega) c2)] at hj
  rw [(k7 c1 c2 j hj).1];have:=(hds.at (hd (by omega) c2)).wr hj
  omega
 have main:∀ own,(k=12->own=false->r.getD 6 0=0)->QqF own k r got:=fun own h12=>by
  refine ⟨wd.1,wd.2,?_⟩;rcases gt with ⟨rfl,rfl⟩ | ⟨hk,rfl⟩ | ⟨x,rfl,a1,a15,a13,a14,x0,x1,y1,y2,y3,y4,y5,y6⟩
  · exact .inl ⟨rfl,rfl⟩
  · refine .inr (.inl ⟨hk,rfl,?_⟩);have f1:=fr (by omega) (by omega)
    have f2:=mn (by omega) (by omega)
    have f3:=hl (by omega) (by omega)
    have f4:=j5 (by omega)
    exact ⟨f1.1,by omega,by omega,by omega,f4.1,f4.2,hw (by omega) (by omega)⟩
  · refine .inr (.inr ⟨x,rfl,a1,a15,a13,a14,x0,x1,y1,fun c1 c2=>?_,fun c1 c2=>?_,fun c=>?_,fun c1 c2=>?_,fun c=>?_,h12,fun c1 c2=>hw c1 c2⟩)
    · have:=fr c1 c2;omega
    · have:=hh c1 c2;unfold bigW;omega
    · have:=y4 c;have:=hl (by omega) (by omega);omega
    · have:=mn c1 c2;have:=hl (by omega) (by omega);omega
    · exact j5 (by omega)
 refine ⟨⟨b1.1,b1.2,.inr (.inr (.inr ⟨rfl,main false fun c _=>?_⟩))⟩,?_⟩
 · rw [if_pos (.inr c)] at eq;exact eq.2
 · by_cases c:k=11 \/ k=12
   · rw [if_pos c] at eq;obtain ⟨⟨j,rfl,hj⟩,_⟩:=eq;have b2:=b1.set 6 hj;refine ⟨b2.1,b2.2,.inr (.inr (.inr ⟨rfl,?_⟩))⟩;have E:∀ i,i ≠ 6->(r.set 6 j).getD i 0=r.getD i 0:=fun i d=>Qa (fun d'=>d d'.symm);have hM:V0 (r.set 6 j)=V0 r:=by unfold V0;rw [E 5 (by decide)]
     have hm:=main true (fun _ d=>by cases d)
     unfold QqF at hm ⊢;simp only;rw [E 1 (by decide),E 2 (by decide),E 3 (by decide),E 5 (by decide),hM]
     have hW:okWs (V0 r) r->okWs (V0 r) (r.set 6 j):=fun d i hi=>by rw [E _ (by omega)];exact d i hi
     obtain ⟨m1,m2,m3 | m3 | m3⟩:=hm
     · exact ⟨m1,m2,.inl m3⟩
     · omega
     · obtain ⟨x,e,d1,d2,d3,d4,d5,d6,d7,d8,d9,d10,d11,d12,d13,d14⟩:=m3;exact ⟨m1,m2,.inr (.inr ⟨x,e,d1,d2,d3,d4,d5,d6,d7,d8,d9,d10,d11,fun q=>by omega,fun _ q=>by (cases q),fun q1 q2=>hW (d14 q1 q2)⟩)⟩
   · rw [if_neg c] at eq;subst eq;exact ⟨b1.1,b1.2,.inr (.inr (.inr ⟨rfl,main true fun _ d=>by cases d⟩))⟩
theorem R68.got {ds:List HD} {k:Int} {r got:List Int} (h:R68 ds k r got):got.length <= 96:=by
 rcases h.2.2.2 with ⟨_,rfl⟩ | ⟨x,rfl,_⟩ <;> simp
theorem R100.got {ds:List HD} {k:Int} {r q got:List Int} (h:R100 ds k r q got):got.length <= 96:=by
 rcases h.gt with ⟨_,rfl⟩ | ⟨_,rfl⟩ | ⟨x,rfl,_⟩ <;> simp
theorem R73.got {k:Int} {r got:List Int} (h:R73 k r got):got.length <= 96:=by
 rcases h.2.2.2 with ⟨_,rfl⟩ | ⟨x,rfl,_⟩ <;> simp
theorem R76.got {n k:Int} {r got:List Int} (h:R76 n k r got):got.length <= 96:=by
 rcases h.2.2 with ⟨_,rfl⟩ | ⟨x,rfl,_⟩ <;> simp
theorem Qlg {ds:List HD} {n:Int} (hds:OkDs ds) {k:Int} {r s got:List Int} (h:R100 ds 13 r r []) (h2:R73 k s got) (hk:¬ (nInr false k s (got.headD 0)).a=⟨7,0,0,0,0,[],[]⟩) (m:Nat) (e e':Bool):GoH ds n (m+1) [⟨100,13,r⟩,⟨73,k,s⟩] [⟨100,13,r⟩,⟨73,k,s⟩] got e e':=by
 rcases inr_step (n:=n) h2 hds.1 with ⟨c,_⟩ | ⟨q1,q2,q3,q4⟩
 · exact absurd c hk
 · have e1:∀ own,nHp own ⟨73,k,s⟩ got=nInr own k s (got.headD 0):=fun own=>rfl;refine QbY (by simp) (by simp) (by simp) (by simp) h2.got (h2.ok false) (h2.ok true) (by rw [QT,e1,e1,q1]) (by rw [QT,e1];exact q2) fun x hx=>?_
   rw [QT,e1] at hx;rw [QT,e1,e1,q1];have hF:(nInr false k s (got.headD 0)).f=⟨73,(nInr false k s (got.headD 0)).f.at',(nInr false k s (got.headD 0)).f.r⟩:=by rw [<- q3]
   show HRel ds n [⟨100,13,r⟩,(nInr false k s (got.headD 0)).f] [⟨100,13,r⟩,(nInr false k s (got.headD 0)).f] [x];rw [hF];exact .inr h (q4 x hx)
theorem Qlh {ds:List HD} {n:Int} (h0:0 <= n) (hn:n <= 900000) (hds:OkDs ds) {k:Int} {r s got:List Int} (h:R100 ds 14 r r []) (h2:R76 n k s got) (hk:(nApp k s (got.headD 0)).a.kind ≠ 7) (m:Nat) (e e':Bool):GoH ds n (m+1) [⟨100,14,r⟩,⟨76,k,s⟩] [⟨100,14,r⟩,⟨76,k,s⟩] got e e':=by
 rcases (app_step h2 h0 (by omega)).1 with ⟨c,_⟩ | ⟨q2,_,q3,q4⟩
 · exact absurd c hk
 · have e1:∀ own,nHp own ⟨76,k,s⟩ got=nApp k s (got.headD 0):=fun own=>rfl;obtain ⟨qa,qb⟩:=Qlf q2 hds.1 h0 hn;refine QbY (by simp) (by simp) (by simp) (by simp) h2.got (QbZ h2 (by omega) false) (QbZ h2 (by omega) true) (by rw [QT,e1,e1]) (by rw [QT,e1];exact qa) fun x hx=>?_
   rw [QT,e1] at hx;rw [QT,e1,e1];have hF:(nApp k s (got.headD 0)).f=⟨76,(nApp k s (got.headD 0)).f.at',(nApp k s (got.headD 0)).f.r⟩:=by rw [<- q3]
   show HRel ds n [⟨100,14,r⟩,(nApp k s (got.headD 0)).f] [⟨100,14,r⟩,(nApp k s (got.headD 0)).f] [x];rw [hF];exact .app h (q4 x (qb x hx))
theorem Qem {ds:List HD} {n:Int} (h0:0 <= n) (hn:n <= 900000) (hds:OkDs ds) {k:Int} {r q got:List Int} (h:R100 ds k r q got) (m:Nat) (e e':Bool):GoH ds n (m+2) [⟨100,k,r⟩] [⟨100,k,q⟩] got e e':=by
 obtain ⟨ok1,ok2⟩:=h.ok hds;have e1:∀ own r,nHp own ⟨100,k,r⟩ got=nHlp own k r (got.headD 0):=fun own r=>rfl;have hs:=QnP (n:=n) h hds;rw [<- e1,<- e1] at hs;generalize hN:nHp false ⟨100,k,r⟩ got=N at hs;generalize hM:nHp true ⟨100,k,q⟩ got=M at hs;cases hs with
 | fin h1 h2=>exact Qld h.got ok1 ok2 (by rw [hN];exact h1) (by rw [hM];exact h2) (.inl rfl)
 | act h1 h2 h3 h4 h5 h6 =>
  refine QbY (m:=m+1) (by simp) (by simp) (by simp) (by simp) h.got ok1 ok2 (by rw [Qv,Qv,hN,hM];exact h1) (by rw [Qv,hN];exact h5) fun x hx=>?_
  rw [Qv,hN] at hx;rw [Qv,Qv,hN,hM];have hF:N.f=⟨100,N.f.at',N.f.r⟩:=by rw [<- h2]
  have hG:M.f=⟨100,N.f.at',M.f.r⟩:=by rw [<- h3,<- h4]
  show HRel ds n [N.f] [M.f] [x];rw [hG,hF];exact .hlp (h6 x hx)
 | ins r' l h1 h2 h3 h4 h5 =>
  refine Qf3 (g:=⟨100,13,r'⟩) (m:=m+1) h.got ok1 ok2 (by rw [hN];exact h1) (by rw [hM];exact h2) rfl (by decide) h5 fun e e'=>Qlg hds h3 h4 ?_ m e e'
  show ¬ (nInr false 0 (regs1 l) (([]:List Int).headD 0)).a=_;rcases inr_step (n:=n) h4 hds.1 with ⟨_,_,c⟩ | ⟨_,c,_⟩
  · exact absurd rfl c
  · intro d;have:=c.may;rw [d] at this;have:=this.2.2;simp at this
 | app r' l h1 h2 h3 h4 h5 =>
  refine Qf3 (g:=⟨100,14,r'⟩) (m:=m+1) h.got ok1 ok2 (by rw [hN];exact h1) (by rw [hM];exact h2) rfl (by decide) h5 fun e e'=>Qlh h0 hn hds h3 h4 ?_ m e e'
  show ((0:Int) ≠ 7)
  decide
theorem HRel.go {ds:List HD} {n:Int} (h0:0 <= n) (hn:n <= 900000) (hds:OkDs ds) {st st':List Frame} {got:List Int} (h:HRel ds n st st' got) (m:Nat) (e e':Bool):GoH ds n (m+3) st st' got e e':=by
 cases h with
 | @ins k r got h =>
  have e1:∀ own,nHp own ⟨68,k,r⟩ got=nIns k r (got.headD 0):=fun own=>rfl;rcases ins_step (n:=n) h hds.1 with ⟨q1,q2,q3⟩ | ⟨q1,q2,q3⟩
  · have ha:(nIns k r (got.headD 0)).a=⟨7,0,0,0,0,[],(nIns k r (got.headD 0)).a.args⟩:=congrArg NA.a q2;exact Qld (m:=m+1) h.got (h.ok hds.1 false) (h.ok hds.1 true) (by rw [e1];exact ha) (by rw [e1];exact ha) (.inr q3)
  · refine QbY (m:=m+2) (by simp) (by simp) (by simp) (by simp) h.got (h.ok hds.1 false) (h.ok hds.1 true) (by rw [Qv,e1,e1]) (by rw [Qv,e1];exact q1) fun x hx=>?_
    rw [Qv,e1] at hx;rw [Qv,e1,e1];have hF:(nIns k r (got.headD 0)).f=⟨68,(nIns k r (got.headD 0)).f.at',(nIns k r (got.headD 0)).f.r⟩:=by rw [<- q2]
    show HRel ds n [(nIns k r (got.headD 0)).f] [(nIns k r (got.headD 0)).f] [x];rw [hF];exact .ins (q3 x hx)
 | hlp h=>exact Qem h0 hn hds h (m+1) e e'
 | @inr k r s got h h2 =>
  have e1:∀ own,nHp own ⟨73,k,s⟩ got=nInr own k s (got.headD 0):=fun own=>rfl
  by_cases hk:(nInr false k s (got.headD 0)).a=⟨7,0,0,0,0,[],[]⟩
  · rcases inr_step (n:=n) h2 hds.1 with ⟨c1,c2,_⟩ | ⟨_,c,_⟩
    · exact Qle (m:=m+2) h2.got (h2.ok false) (h2.ok true) (by rw [e1];exact c1) (by rw [e1];exact c2) fun e e'=>Qem h0 hn hds h m e e'
    · have:=c.may;rw [hk] at this;have:=this.2.2;simp at this
  · exact Qlg hds h h2 hk (m+2) e e'
 | @app k r s got h h2 =>
  have e1:∀ own,nHp own ⟨76,k,s⟩ got=nApp k s (got.headD 0):=fun own=>rfl
  by_cases hk:(nApp k s (got.headD 0)).a.kind=7
  · obtain ⟨hs,he⟩:=app_step h2 h0 (by omega)
    have ha:=he hk;rcases hs with ⟨_,c⟩ | ⟨c,_⟩
    · have hb:(nApp k s (got.headD 0)).a=⟨7,0,0,0,0,[],[]⟩:=by rw [c];show (⟨7,0,0,0,0,[],(nApp k s (got.headD 0)).a.args⟩:Qb)=_;rw [ha]
      exact Qle (m:=m+2) h2.got (QbZ h2 (by omega) false) (QbZ h2 (by omega) true) (by rw [e1];exact hb) (by rw [e1];exact hb) fun e e'=>Qem h0 hn hds h m e e'
    · have:=(Qlf c hds.1 h0 hn).1.may;omega
  · exact Qlh h0 hn hds h h2 hk (m+2) e e'
theorem QnQ {n n' a v:Int} (h:TyS n a v) (hn:n <= n'):TyS n' a v:=⟨h.1,fun q=>by have:=h.2.1 q;omega,h.2.2.1,h.2.2.2⟩
theorem TyH.mono {ds:List HD} {n n' a v:Int} (h:TyH ds n a v) (hn:n <= n'):TyH ds n' a v:=⟨h.t0,h.t1,h.t2,h.t3,h.t4,fun q1 q2=>QnQ (h.t5 q1 q2) hn,h.t6,h.t7⟩
structure SH (ds:List HD) (n:Int) (cs:List Int):Prop where
 len:cs.length=771
 ok:cellsOK cs=true
 ty:∀ a:Int,0 <= a->a <= 770->TyH ds n a (cs.getD a.toNat 0)
theorem SH.mono {ds:List HD} {n n':Int} {cs:List Int} (h:SH ds n cs) (hn:n <= n'):SH ds n' cs:=⟨h.len,h.ok,fun a h1 h2=>(h.ty a h1 h2).mono hn⟩
def DOK (now sure:List Sector):Prop:=Qx now sure=true
theorem DOK.good {now sure:List Sector} (h:DOK now sure):Qr now=true /\ Qr sure=true:=Qei h
theorem YD {cs:List Int} (h:cellsOK cs=true) {i:Nat} {v:Int} (hv:-1152921504606846976 <= v /\ v <= 1152921504606846976):cellsOK (cs.set i v)=true:=by
 simp only [cellsOK,Bool.and_eq_true,decide_eq_true_eq,List.length_set,List.all_eq_true] at h ⊢;refine ⟨h.1,fun x hx=>?_⟩;rcases List.mem_or_eq_of_mem_set hx with hx | rfl
 · exact h.2 x hx
 · simp only [KY,Bool.and_eq_true,decide_eq_true_eq];exact hv
theorem AtH.does {ds:List HD} {n:Int} {A:Qb} {cs:List Int} {now sure:List Sector} (h:AtH ds n A) (hc:SH ds n cs) (hd:DOK now sure) :
 QrV cs now sure A /\ SH ds (n+1) (doC5 cs A) /\ RsH ds n A (doG5 cs A) /\ DOK (doN5 now A) (doS5 now sure A):=by
 obtain ⟨h1,h2,h3,h6⟩:=h;have hl:=hc.len;rcases h6 with ⟨k,t,b,v,a0,a1⟩ | ⟨k,t,a0,a1,b0,b1,v0,v1,ty⟩ | ⟨k,g,v,a0,a1,b0,b1,t0,t1⟩ | ⟨k,g,t,a,b,v⟩
 · have e1:doC5 cs A=cs:=by
    unfold doC5;rw [if_pos (by omega),k];unfold doC4;rw [if_neg (by omega),if_neg (by omega)]
   have e2:doG5 cs A=cs.getD A.a.toNat 0:=by
    unfold doG5;rw [if_pos (by omega),k];unfold doG4;rw [if_pos (.inl rfl)]
   have e3:doN5 now A=now:=if_neg (by omega)
   have e4:doS5 now sure A=sure:=if_neg (by omega)
   rw [e1,e2,e3,e4];exact ⟨⟨h1,h2,.inl ⟨t,by rw [k,b,v];exact ⟨.inl ⟨rfl,rfl,rfl⟩,a0,by omega,by decide,by decide,by decide,by decide⟩⟩⟩,hc.mono (by omega),.inl ⟨k,hc.ty _ a0 a1⟩,hd⟩
 · have e1:doC5 cs A=if cs.getD A.a.toNat 0=A.b then cs.set A.a.toNat A.v else cs:=by
    unfold doC5;rw [if_pos (by omega),k];unfold doC4
    by_cases q:cs.getD A.a.toNat 0=A.b
    · rw [if_pos (.inr ⟨rfl,q⟩),if_pos q]
    · rw [if_neg (by intro c;rcases c with c | c;omega;exact q c.2),if_neg (by omega),if_neg q]
   have e2:doG5 cs A=if cs.getD A.a.toNat 0=A.b then 1 else 0:=by
    unfold doG5;rw [if_pos (by omega),k];unfold doG4
    rw [if_neg (by omega)]
    by_cases q:cs.getD A.a.toNat 0=A.b
    · rw [if_pos ⟨rfl,q⟩,if_pos q]
    · rw [if_neg (fun c=>q c.2),if_neg q]
   have e3:doN5 now A=now:=if_neg (by omega)
   have e4:doS5 now sure A=sure:=if_neg (by omega)
   rw [e1,e2,e3,e4];unfold bigW at b1 v1;refine ⟨⟨h1,h2,.inl ⟨t,by rw [k];exact ⟨.inr (.inr (.inl rfl)),a0,by omega,by omega,by omega,by omega,by omega⟩⟩⟩,?_,.inr (.inl ⟨k,by split <;> simp⟩),hd⟩
   split
   · refine ⟨by rw [List.length_set];exact hl,YD hc.ok (by omega),fun a q1 q2=>?_⟩
     by_cases e:a=A.a
     · rw [e,Qd (by omega)];exact ty
     · rw [Qa (by omega)]
       exact (hc.ty a q1 q2).mono (by omega)
   · exact hc.mono (by omega)
 · have hm:Zz ⟨A.b,A.text⟩=true:=by
    simp only [Zz,Bool.and_eq_true,decide_eq_true_eq,Bool.or_eq_true];exact ⟨⟨⟨by omega,by omega⟩,by omega⟩,.inl (by omega)⟩
   have hp:Yy now sure A.a A.b A.text=true:=by
    have hd':Qx now sure=true:=hd;simp only [Yy,hd',hm,Bool.true_and,Bool.and_eq_true,decide_eq_true_eq,Bool.not_eq_true',beq_eq_false_iff_ne];exact ⟨⟨⟨⟨a0,a1⟩,b0⟩,t0⟩,trivial⟩
   have e1:doC5 cs A=cs:=if_neg (by omega)
   have e2:doG5 cs A=0:=if_neg (by omega)
   have e3:doN5 now A=Vu now A.a.toNat A.b A.text:=if_pos k;have e4:doS5 now sure A=sure:=if_neg (by omega)
   rw [e1,e2,e3,e4];refine ⟨⟨h1,h2,.inr (.inl ⟨k,v,hp⟩)⟩,hc.mono (by omega),.inr (.inr ⟨.inl k,rfl⟩),?_⟩
   have:=QhH hp;simp only [pNow,QcH,hp,cond_true] at this;exact this
 · have e1:doC5 cs A=cs:=if_neg (by omega)
   have e2:doG5 cs A=0:=if_neg (by omega)
   have e3:doN5 now A=now:=if_neg (by omega)
   have e4:doS5 now sure A=now:=if_pos k;rw [e1,e2,e3,e4];exact ⟨⟨h1,h2,.inr (.inr ⟨k,t,a,b,v⟩)⟩,hc.mono (by omega),.inr (.inr ⟨.inr k,rfl⟩),Qej (YB hd).1⟩
def HCl (ds:List HD) (n c:Int) (t u:Task):Prop := ∃ st st' got,t=⟨c,st,got,false⟩ /\ u=⟨c,st',got,false⟩ /\ HRel ds n st st' got /\ (goN (nHp false) 64 st got false).is=true
structure HEnd (ds:List HD) (n c:Int) (t u:Task):Prop where
 ok:QhC nHp okHp c t u
 is:(goT nHp false t).is=true->HCl ds n c t u
 en:(goT nHp false t).is=false->(goT nHp false t).got=[] \/ EndI (goT nHp false t).got
theorem HRel.ne {ds:List HD} {n:Int} {st st':List Frame} {got:List Int} (h:HRel ds n st st' got):st ≠ [] /\ st' ≠ []:=by
 cases h <;> exact ⟨by simp,by simp⟩
theorem HRel.end {ds:List HD} {n:Int} (h0:0 <= n) (hn:n <= 900000) (hds:OkDs ds) {c:Int} {st st':List Frame} {got:List Int} (h:HRel ds n st st' got):HEnd ds n c ⟨c,st,got,false⟩ ⟨c,st',got,false⟩:=by
 obtain ⟨a1,a2,is,ac,en⟩:=h.go h0 hn hds 61 false false;obtain ⟨n1,n2⟩:=h.ne;refine ⟨⟨⟨n1,a1,rfl,rfl⟩,⟨n2,a2,rfl,rfl⟩,is.symm,fun q=>?_,fun q=>?_⟩,fun q=>⟨st,st',got,rfl,rfl,h,q⟩,fun q=>(en q).2.2.2⟩
 · have:=ac q
   exact ⟨this.1.symm,by
    have h5:(goN (nHp false) 64 st got false).a.args=[]:=this.2.1.1;show (goN (nHp false) 64 st got false).a.args.length <= 96;rw [h5];simp⟩
 · obtain ⟨z1,z2,z3,z4⟩:=en q;refine ⟨z1,z2,z3.symm,?_⟩;show (goN (nHp false) 64 st got false).got.length <= 96;rcases z4 with z | ⟨t,z,_⟩ | ⟨x,z⟩ <;> rw [z] <;> simp
theorem HCl.step {ds:List HD} {n c:Int} {t u:Task} {cs:List Int} {now sure:List Sector} (h:HCl ds n c t u) (hc:SH ds n cs) (hd:DOK now sure) (h0:0 <= n) (hn:n <= 800000) (hds:OkDs ds) :
 Qk9 nHp okHp c cs t u now sure /\ SH ds (n+1) (gdCs nHp cs t) /\ DOK (QrW nHp now t) (QoR nHp now sure t) /\ HEnd ds n c (gmT nHp false (gdX nHp cs t) t) (gmT nHp true (gdX nHp cs t) u):=by
 obtain ⟨st,st',got,rfl,rfl,hR,hk⟩:=h;have hE:=hR.end (c:=c) h0 (by omega) hds
 obtain ⟨a1,a2,is,ac,en⟩:=hR.go h0 (by omega) hds 61 false false
 obtain ⟨q1,qA,q2,q3,q4⟩:=ac hk;obtain ⟨d1,d2,d3,d4⟩:=qA.does hc hd;have n1:(goT nHp false ⟨c,st,got,false⟩).st ≠ []:=Qdb hk;have n2:(goT nHp true ⟨c,st',got,false⟩).st ≠ []:=Qdb (is.trans hk)
 have hT1:gmT nHp false (gdX nHp cs ⟨c,st,got,false⟩) ⟨c,st,got,false⟩=⟨c,(goT nHp false ⟨c,st,got,false⟩).st,[gdX nHp cs ⟨c,st,got,false⟩],false⟩:=by
  unfold gmT;rw [decide_eq_false n1]
 have hT2:gmT nHp true (gdX nHp cs ⟨c,st,got,false⟩) ⟨c,st',got,false⟩=⟨c,(goT nHp true ⟨c,st',got,false⟩).st,[gdX nHp cs ⟨c,st,got,false⟩],false⟩:=by
  unfold gmT;rw [decide_eq_false n2]
 have hE2:=HRel.end (c:=c) h0 (by omega) hds (q4 _ d3)
 have hE3:HEnd ds n c (gmT nHp false (gdX nHp cs ⟨c,st,got,false⟩) ⟨c,st,got,false⟩) (gmT nHp true (gdX nHp cs ⟨c,st,got,false⟩) ⟨c,st',got,false⟩):=by
  rw [hT1,hT2];exact hE2
 exact ⟨⟨hE.ok,hk,q2,q3,d1,hc.ok,hd,hd.good.1,hd.good.2,hE3.ok⟩,d2,d4,hE3⟩
def Ext (ds ds':List HD):Prop:=ds.length <= ds'.length /\ ∀ s,s < ds.length->ds'.getD s hd0=ds.getD s hd0
theorem Ext.refl (ds:List HD):Ext ds ds:=⟨Nat.le_refl _,fun _ _=>rfl⟩
theorem Ext.snoc (ds:List HD) (d:HD):Ext ds (ds++[d]):=⟨by simp,fun s hs=>by rw [List.getD_eq_getElem?_getD,List.getElem?_append_left hs,List.getD_eq_getElem?_getD]⟩
theorem Ext.h {ds ds':List HD} (h:Ext ds ds') {x:Int} (hx:OkH ds x):OkH ds' x /\ hD ds' x=hD ds x:=by
 unfold OkH at *
 have:=h.1;exact ⟨by omega,h.2 _ (by omega)⟩
theorem R68.ext {ds ds':List HD} (e:Ext ds ds') {k:Int} {r got:List Int} (h:R68 ds k r got):R68 ds' k r got:=⟨h.1,h.2.1,(e.h h.2.2.1).1,h.2.2.2⟩
theorem R100.ext {ds ds':List HD} (e:Ext ds ds') {k:Int} {r q got:List Int} (h:R100 ds k r q got):R100 ds' k r q got:=by
 obtain ⟨b1,up,wd,eq,fr,hd,sr,mn,j5,j9,k5,k6,k7,gt⟩:=h;have hD':3 <= k->k <= 14->hD ds' (r.getD 3 0)=hD ds (r.getD 3 0):=fun c1 c2=>(e.h (hd c1 c2)).2;refine ⟨b1,up,wd,eq,fr,fun c1 c2=>(e.h (hd c1 c2)).1,fun c1 c2=>by rw [hD' (by omega) c2];exact sr c1 c2,fun c1 c2=>by rw [hD' (by omega) c2];exact mn c1 c2,j5,j9,fun c=>by rw [hD' (by omega) (by omega)];exact k5 c,fun c=>by rw [hD' (by omega) (by omega)];exact k6 c,fun c1 c2=>by rw [hD' (by omega) c2];exact k7 c1 c2,?_⟩
 rcases gt with c | c | ⟨x,rfl,a1,a15,a13,a14,x0,x1,y1,y2,y3,y4,y5,y6⟩
 · exact .inl c
 · exact .inr (.inl c)
 · refine .inr (.inr ⟨x,rfl,a1,a15,a13,a14,x0,x1,y1,fun c=>?_,fun c=>by rw [hD' (by omega) (by omega)];exact y3 c,fun c=>by rw [hD' (by omega) (by omega)];exact y4 c,fun c=>by rw [hD' (by omega) (by omega)];exact y5 c,fun c=>by rw [hD' (by omega) (by omega)];exact y6 c⟩)
   rcases y2 c with d | d
   · exact .inl d
   · exact .inr (e.h d).1
theorem HRel.ext {ds ds':List HD} {n n':Int} (e:Ext ds ds') (hn:n <= n') {st st':List Frame} {got:List Int} (h:HRel ds n st st' got):HRel ds' n' st st' got:=by
 cases h with
 | ins h=>exact .ins (h.ext e)
 | hlp h=>exact .hlp (h.ext e)
 | inr h h2=>exact .inr (h.ext e) h2
 | app h h2=>exact .app (h.ext e) (h2.mono hn)
theorem HCl.ext {ds ds':List HD} {n n' c:Int} (e:Ext ds ds') (hn:n <= n') {t u:Task} (h:HCl ds n c t u):HCl ds' n' c t u:=by
 obtain ⟨st,st',got,h1,h2,h3,h4⟩:=h;exact ⟨st,st',got,h1,h2,h3.ext e hn,h4⟩
structure HS where
 cs:List Int
 now:List Sector
 sure:List Sector
 ts:List Task
 us:List Task
 busy:List Bool
 n:Int
 v:Int
 has:List Int
 place:List Int
 mp:List (Int × Try)
 tr:List Try
 last:Int
def QnR (s:HS) (c:Int):Bool:=s.busy.getD c.toNat false
def mkHt (c p:Int) (l:List Int):Task:=⟨c,[⟨p,0,regs1 l⟩],[],false⟩
def QaZ (s:HS) (c p:Int) (l:List Int):HS:={ s with ts:=s.ts.set c.toNat (mkHt c p l),us:=s.us.set c.toNat (mkHt c p l),busy:=s.busy.set c.toNat true }
def packW (y:Zb):Int:=y.key * 256+y.value
def put1 (n:Int) (j:Nat) (v:Int) (y:Zb) (cs:List Int):List Int :=
 (((cs.set (lField 99 n (4+j) 16 12).toNat (packW y)).set (lField 99 n (8+j) 16 12).toNat (256+v)).set (lField 291 v 0 160 3).toNat 3).set (lField 291 v 2 160 3).toNat (packW y)
def comW (n:Int):Nat->Int->List Zb->List Int->List Int
 | _,_,[],cs=>cs
 | j,v,y::l,cs=>comW n (j+1) (v+1) l (put1 n j v y cs)
def comS (cs:List Int) (n v start:Int) (ws:List Zb):List Int :=
 ((cs.set (lField 99 n 0 16 12).toNat 3).set (lField 99 n 2 16 12).toNat start).set (lField 99 n 3 16 12).toNat (ws.length:Int)
def comC (cs:List Int) (n v start:Int) (ws:List Zb):List Int:=comW n 0 v ws (comS cs n v start ws)
def comB (s:HS) (ws:List Zb):Bool:=decide (s.n < 16) && decide (s.v+ws.length <= 60) && Zn ws
def Vj (s:HS) (back:Int):Int:=max 0 (s.cs.getD 0 0 - max 0 (min back 20))
section
variable (eq:Int->Int->Bool)
def Qen (w:Int) (s:HS) (c back:Int) (ws:List Zb):HS :=
 QaZ { s with cs:=comC s.cs s.n s.v (Vj s back) ws,n:=s.n+1,v:=s.v+ws.length,has:=s.has.set c.toNat (256+s.n),place:=s.place.set c.toNat 0,mp:=mput eq (256+s.n) ⟨0,Vj s back,ws⟩ s.mp } c 68 [w,256+s.n]
def QhJ (mp:List (Int × Try)) (h:Int):Try:=(mget eq h mp).getD ⟨0,0,[]⟩
def Qae (cs:List Int) (w:Int) (mp:List (Int × Try)):Nat->Int->List Try->Int × List Try
 | 0,last,tr=>(last,tr)
 | m+1,last,tr=>if plc (cs.getD (lRing (last+1) w).toNat 0)=last+1 then
  Qae cs w mp m (last+1) (tr++[⟨last+1,(QhJ eq mp (bare (cs.getD (lRing (last+1) w).toNat 0))).start,(QhJ eq mp (bare (cs.getD (lRing (last+1) w).toNat 0))).writes⟩])
  else (last,tr)
def Qdj (w:Int) (s:HS):HS:={ s with last:=(Qae eq s.cs w s.mp w.toNat s.last s.tr).1,tr:=(Qae eq s.cs w s.mp w.toNat s.last s.tr).2 }
def endH (s:HS) (c:Int):GoM:=goT nHp false (gmT nHp false (gdX nHp s.cs (tkC s.ts c)) (tkC s.ts c))
def Qeo (s:HS) (c:Int):HS :=
 { s with cs:=gdCs nHp s.cs (tkC s.ts c),now:=QrW nHp s.now (tkC s.ts c),sure:=QoR nHp s.now s.sure (tkC s.ts c),ts:=s.ts.set c.toNat (gmT nHp false (gdX nHp s.cs (tkC s.ts c)) (tkC s.ts c)),us:=s.us.set c.toNat (gmT nHp true (gdX nHp s.cs (tkC s.ts c)) (tkC s.us c)),busy:=(bif (endH s c).is then s.busy else s.busy.set c.toNat false) }
def wonB (s:HS) (c:Int):Bool := !(endH s c).is && (decide (s.place.getD c.toNat 0=0) && (decide ((endH s c).got.length=2) && decide ((endH s c).got.getD 0 0=0)))
def wonH (w:Int) (s:HS) (c t:Int):HS:=QaZ { s with place:=s.place.set c.toNat t } c 100 [t,w]
def QrX (w:Int) (s:HS) (x dd back:Int) (ws:List Zb):HS :=
 if QnR s (x % 4)=true then (if wonB s (x % 4)=true then wonH w (Qdj eq w (Qeo s (x % 4))) (x % 4) ((endH s (x % 4)).got.getD 1 0) else Qdj eq w (Qeo s (x % 4)))
 else if dd=0 /\ comB s ws=true then Qen eq w s (x % 4) back ws else s
end
structure HI (w:Int) (ds:List HD) (k:Int) (s:HS):Prop where
 w:2 <= w /\ w <= 8
 od:OkDs ds
 nn:s.n=ds.length
 vv:0 <= s.v /\ s.v <= 60
 sc:SH ds k s.cs
 dk:DOK s.now s.sure
 lt:s.ts.length=4
 lu:s.us.length=4
 lb:s.busy.length=4
 lh:s.has.length=4
 lp:s.place.length=4
 la:0 <= s.last /\ s.last <= 8 * k
 tl:(s.tr.length:Int) <= 8 * k
 tw:∀ t ∈ s.tr,t.writes.length <= 4
 mw:∀ p ∈ s.mp,p.2.writes.length <= 4
 cl:∀ c:Int,0 <= c->c <= 3->QnR s c=true->HCl ds k c (tkC s.ts c) (tkC s.us c)
theorem HI.mono {w:Int} {ds:List HD} {k k':Int} {s:HS} (h:HI w ds k s) (hk:k <= k'):HI w ds k' s :=
 ⟨h.w,h.od,h.nn,h.vv,h.sc.mono hk,h.dk,h.lt,h.lu,h.lb,h.lh,h.lp,by have:=h.la;omega,by have:=h.tl;omega,h.tw,h.mw,fun c c0 c3 hb=>(h.cl c c0 c3 hb).ext (.refl _) hk⟩
theorem tkS {l:List Task} (hl:l.length=4) {c c':Int} (c0:0 <= c) (c3:c <= 3) (d0:0 <= c') (T:Task):tkC (l.set c.toNat T) c'=if c=c' then T else tkC l c':=by
 unfold tkC;rw [List.getD_eq_getElem?_getD,List.getElem?_set]
 by_cases e:c=c'
 · subst e;rw [if_pos rfl,if_pos (by omega),if_pos rfl];rfl
 · rw [if_neg (by omega),if_neg e,List.getD_eq_getElem?_getD]
theorem bS {l:List Bool} (hl:l.length=4) {c c':Int} (c0:0 <= c) (c3:c <= 3) (d0:0 <= c') (b:Bool):(l.set c.toNat b).getD c'.toNat false=if c=c' then b else l.getD c'.toNat false:=by
 rw [List.getD_eq_getElem?_getD,List.getElem?_set]
 by_cases e:c=c'
 · subst e;rw [if_pos rfl,if_pos (by omega),if_pos rfl];rfl
 · rw [if_neg (by omega),if_neg e,List.getD_eq_getElem?_getD]
theorem HI.begin {w:Int} {ds:List HD} {k:Int} {s:HS} (h:HI w ds k s) {c:Int} (c0:0 <= c) (c3:c <= 3) {p:Int} {l:List Int} (hc:HCl ds k c (mkHt c p l) (mkHt c p l)):HI w ds k (QaZ s c p l):=by
 refine ⟨h.w,h.od,h.nn,h.vv,h.sc,h.dk,by simp [QaZ,h.lt],by simp [QaZ,h.lu],by simp [QaZ,h.lb],h.lh,h.lp,h.la,h.tl,h.tw,h.mw,fun c' d0 d3 hb=>?_⟩
 show HCl ds k c' (tkC (s.ts.set c.toNat (mkHt c p l)) c') (tkC (s.us.set c.toNat (mkHt c p l)) c');rw [tkS h.lt c0 c3 d0,tkS h.lu c0 c3 d0]
 by_cases e:c=c'
 · subst e;rw [if_pos rfl,if_pos rfl];exact hc
 · rw [if_neg e,if_neg e];refine h.cl c' d0 d3 ?_;have hb:(s.busy.set c.toNat true).getD c'.toNat false=true:=hb;rw [bS h.lb c0 c3 d0,if_neg e] at hb;exact hb
theorem Qb0 (l:List Int) (i:Nat) (h:i < l.length):(regs1 l).getD i 0=l.getD i 0:=by
 unfold regs1;rw [List.getD_eq_getElem?_getD,List.getElem?_append_left h,List.getD_eq_getElem?_getD]
theorem Qf4 {l:List Int} (h1:l.length <= 96) (h2:∀ v ∈ l,v < 9223372036854775808):bnd (regs1 l):=by
 refine ⟨by simp [regs1];omega,fun v hv=>?_⟩
 unfold regs1 at hv;rcases List.mem_append.1 hv with hv | hv
 · exact h2 v hv
 · rw [List.eq_of_mem_replicate hv];decide
theorem mk68 {ds:List HD} {k c w h:Int} (hw:2 <= w /\ w <= 8) (hs:ds.length <= 16) (hh:OkH ds h):HCl ds k c (mkHt c 68 [w,h]) (mkHt c 68 [w,h]):=by
 have hh':=hh;unfold OkH at hh';refine ⟨_,_,_,rfl,rfl,.ins ⟨Qf4 (by simp) (fun x hx=>?_),?_,?_,.inl ⟨rfl,rfl⟩⟩,rfl⟩
 · simp only [List.mem_cons,List.mem_nil_iff,or_false] at hx;rcases hx with rfl | rfl <;> omega
 · rw [Qb0 _ 0 (by simp)];exact hw
 · rw [Qb0 _ 1 (by simp)];exact hh
theorem QsH {ds:List HD} {k c w t:Int} (hw:2 <= w /\ w <= 8) (ht:1 <= t /\ t <= 1048575):HCl ds k c (mkHt c 100 [t,w]) (mkHt c 100 [t,w]):=by
 refine ⟨_,_,_,rfl,rfl,.hlp ⟨Qf4 (by simp) (fun x hx=>?_),?_,?_,rfl,fun q=>absurd q (by decide),fun q=>absurd q (by decide),fun q=>absurd q (by decide),fun q=>absurd q (by decide),fun q=>absurd q (by decide),fun q=>absurd q (by decide),fun q=>absurd q (by decide),fun q=>absurd q (by decide),fun q=>absurd q (by decide),.inl ⟨rfl,rfl⟩⟩,rfl⟩
 · simp only [List.mem_cons,List.mem_nil_iff,or_false] at hx;rcases hx with rfl | rfl <;> omega
 · rw [Qb0 _ 0 (by simp)];show 0 <= t /\ t <= 1048575;omega
 · rw [Qb0 _ 1 (by simp)];exact hw
theorem HI.step {w:Int} {ds:List HD} {k:Int} {s:HS} (h:HI w ds k s) (h0:0 <= k) (hk:k <= 800000) {c:Int} (c0:0 <= c) (c3:c <= 3) (hb:QnR s c=true) :
 Qk9 nHp okHp c s.cs (tkC s.ts c) (tkC s.us c) s.now s.sure /\ HI w ds (k+1) (Qeo s c) /\ ((endH s c).is=false->(endH s c).got=[] \/ EndI (endH s c).got):=by
 obtain ⟨q1,q2,q3,q4⟩:=(h.cl c c0 c3 hb).step h.sc h.dk h0 hk h.od;refine ⟨q1,⟨h.w,h.od,h.nn,h.vv,q2,q3,by simp [Qeo,h.lt],by simp [Qeo,h.lu],?_,h.lh,h.lp,by have:=h.la;show 0 <= s.last /\ s.last <= 8 * (k+1);omega,by have:=h.tl;show (s.tr.length:Int) <= 8 * (k+1);omega,h.tw,h.mw,fun c' d0 d3 hb'=>?_⟩,q4.en⟩
 · show (bif (endH s c).is then s.busy else s.busy.set c.toNat false).length=4;cases (endH s c).is <;> simp [h.lb]
 · have hb':(bif (endH s c).is then s.busy else s.busy.set c.toNat false).getD c'.toNat false=true:=hb';show HCl ds (k+1) c' (tkC (s.ts.set c.toNat _) c') (tkC (s.us.set c.toNat _) c');rw [tkS h.lt c0 c3 d0,tkS h.lu c0 c3 d0]
   by_cases e:c=c'
   · subst e;rw [if_pos rfl,if_pos rfl]
     have hi:(endH s c).is=true:=by
      cases hi:(endH s c).is
      · rw [hi] at hb';simp only [cond_false] at hb';rw [bS h.lb c0 c3 c0,if_pos rfl] at hb';cases hb'
      · rfl
     exact (q4.is hi).ext (.refl _) (by omega)
   · rw [if_neg e,if_neg e];refine (h.cl c' d0 d3 ?_).ext (.refl _) (by omega)
     cases hi:(endH s c).is
     · rw [hi] at hb';simp only [cond_false] at hb';rw [bS h.lb c0 c3 d0,if_neg e] at hb';exact hb'
     · rw [hi] at hb';exact hb'
theorem Qf5 {eq:Int->Int->Bool} {x:Int}:∀ {l:List (Int × Try)} {t:Try},mget eq x l=some t -> ∃ p ∈ l,p.2=t
 | [],t,h=>by cases h
 | (a,b)::l,t,h=>by
  unfold mget at h;cases e:eq x a
  · rw [e] at h;obtain ⟨p,h1,h2⟩:=Qf5 (l:=l) h;exact ⟨p,List.mem_cons_of_mem _ h1,h2⟩
  · rw [e] at h;simp only [cond_true,Option.some.injEq] at h;exact ⟨(a,b),List.mem_cons_self,h⟩
theorem mput_mem {eq:Int->Int->Bool} {x:Int} {t:Try}:∀ {l:List (Int × Try)} {p:Int × Try},p ∈ mput eq x t l->p=(x,t) \/ p ∈ l
 | [],p,h=>by
  unfold mput at h;rw [List.mem_singleton] at h;exact .inl h
 | (a,b)::l,p,h=>by
  unfold mput at h;cases e:eq x a
  · rw [e] at h;simp only [cond_false] at h;rcases List.mem_cons.1 h with h | h
    · exact .inr (by rw [h];exact List.mem_cons_self)
    · rcases mput_mem h with h | h
      · exact .inl h
      · exact .inr (List.mem_cons_of_mem _ h)
  · rw [e] at h;simp only [cond_true] at h;rcases List.mem_cons.1 h with h | h
    · exact .inl h
    · exact .inr (List.mem_cons_of_mem _ h)
theorem Qli {eq:Int->Int->Bool} {mp:List (Int × Try)} (h:∀ p ∈ mp,p.2.writes.length <= 4) (x:Int):(QhJ eq mp x).writes.length <= 4:=by
 unfold QhJ;cases e:mget eq x mp with
 | none=>simp
 | some t =>
  obtain ⟨p,h1,h2⟩:=Qf5 e;simp only [Option.getD_some];rw [<- h2];exact h p h1
theorem Qf6 {eq:Int->Int->Bool} {cs:List Int} {w:Int} {mp:List (Int × Try)} (h:∀ p ∈ mp,p.2.writes.length <= 4):∀ (m:Nat) {last:Int} {tr:List Try},(∀ t ∈ tr,t.writes.length <= 4)->(last <= (Qae eq cs w mp m last tr).1 /\ (Qae eq cs w mp m last tr).1 <= last+m) /\ (Qae eq cs w mp m last tr).2.length <= tr.length+m /\ ∀ t ∈ (Qae eq cs w mp m last tr).2,t.writes.length <= 4
 | 0,last,tr,ht=>⟨⟨Int.le_refl _,by show last <= last+0;omega⟩,Nat.le_refl _,ht⟩
 | m+1,last,tr,ht=>by
  unfold Qae
  split
  · have ht':∀ t ∈ tr++[(⟨last+1,(QhJ eq mp (bare (cs.getD (lRing (last+1) w).toNat 0))).start,(QhJ eq mp (bare (cs.getD (lRing (last+1) w).toNat 0))).writes⟩:Try)],t.writes.length <= 4:=fun t q=>by
     rcases List.mem_append.1 q with q | q
     · exact ht t q
     · rw [List.mem_singleton] at q;subst q;exact Qli h _
    obtain ⟨⟨q1,q2⟩,q3,q4⟩:=Qf6 (eq:=eq) (cs:=cs) (w:=w) h m (last:=last+1) ht';refine ⟨⟨by omega,by omega⟩,?_,q4⟩
    simp only [List.length_append,List.length_cons,List.length_nil] at q3;omega
  · exact ⟨⟨Int.le_refl _,by show last <= last+((m+1:Nat):Int);omega⟩,by show tr.length <= tr.length+(m+1);omega,ht⟩
theorem HI.looks {eq:Int->Int->Bool} {w:Int} {ds:List HD} {k:Int} {s:HS} (h:HI w ds k s) {k':Int} (hk:k+1 <= k'):HI w ds k' (Qdj eq w s):=by
 obtain ⟨⟨q1,q2⟩,q3,q4⟩:=Qf6 (eq:=eq) (cs:=s.cs) (w:=w) h.mw w.toNat (last:=s.last) h.tw;have hw:=h.w;have hl:=h.la;have ht:=h.tl;refine ⟨h.w,h.od,h.nn,h.vv,h.sc.mono (by omega),h.dk,h.lt,h.lu,h.lb,h.lh,h.lp,?_,?_,q4,h.mw,fun c c0 c3 hb=>(h.cl c c0 c3 hb).ext (.refl _) (by omega)⟩
 · show 0 <= (Qae eq s.cs w s.mp w.toNat s.last s.tr).1 /\ (Qae eq s.cs w s.mp w.toNat s.last s.tr).1 <= 8 * k';omega
 · show ((Qae eq s.cs w s.mp w.toNat s.last s.tr).2.length:Int) <= 8 * k';omega
theorem Qlj {n f:Int} (h0:0 <= n) (h1:n < 16) (f0:0 <= f) (f1:f < 12):lField 99 n f 16 12=99+n * 12+f:=if_pos ⟨h0,h1,f0,f1⟩
theorem QrY {v f:Int} (h0:0 <= v) (h1:v < 160) (f0:0 <= f) (f1:f < 3):lField 291 v f 160 3=291+v * 3+f:=if_pos ⟨h0,h1,f0,f1⟩
theorem Qep {l:List Int} {i k:Nat} {x:Int} (hi:i < l.length):(l.set i x).getD k 0=if k=i then x else l.getD k 0:=by
 by_cases h:k=i
 · subst h;rw [if_pos rfl,Qd hi]
 · rw [if_neg h,Qa (fun q=>h q.symm)]
theorem QnS {n:Int} {j:Nat} {v:Int} {y:Zb} {cs:List Int}:(put1 n j v y cs).length=cs.length:=by unfold put1;simp only [List.length_set]
theorem QnT {n:Int} {j:Nat} {v:Int} {y:Zb} {cs:List Int} (hl:cs.length=771) (n0:0 <= n) (n1:n < 16) (hj:j < 4) (v0:0 <= v) (v1:v < 60) {a:Nat} (ha:a < 291) :
 (put1 n j v y cs).getD a 0=if a=99+n.toNat * 12+4+j then packW y else if a=99+n.toNat * 12+8+j then 256+v else cs.getD a 0:=by
 unfold put1;rw [Qlj n0 n1 (by omega) (by omega),Qlj n0 n1 (by omega) (by omega),QrY v0 (by omega) (by omega) (by omega),QrY v0 (by omega) (by omega) (by omega)]
 rw [Qep (by simp only [List.length_set];omega),if_neg (by omega),Qep (by simp only [List.length_set];omega),if_neg (by omega),Qep (by simp only [List.length_set];omega),Qep (by omega)]
 by_cases e1:a=99+n.toNat * 12+4+j
 · rw [if_neg (by omega),if_pos (by omega),if_pos e1]
 · by_cases e2:a=99+n.toNat * 12+8+j
   · rw [if_pos (by omega),if_neg e1,if_pos e2]
   · rw [if_neg (by omega),if_neg (by omega),if_neg e1,if_neg e2]
theorem Qeq {y:Zb} (h:(0 <= y.key /\ y.key <= 23) /\ 0 <= y.value /\ y.value <= 255):0 <= packW y /\ packW y <= 6143:=by unfold packW;omega
theorem QqL {n:Int} {j:Nat} {v:Int} {y:Zb} {cs:List Int} (h:cellsOK cs=true) (hy:0 <= packW y /\ packW y <= 6143) (v0:0 <= v) (v1:v < 60):cellsOK (put1 n j v y cs)=true :=
 YD (YD (YD (YD h (by omega)) (by omega)) (by decide)) (by omega)
theorem Qlk {n:Int} (n0:0 <= n) (n1:n < 16):∀ (l:List Zb) {j:Nat} {v:Int} {cs:List Int},cs.length=771->cellsOK cs=true->j+l.length <= 4->0 <= v->v+l.length <= 60->(∀ y ∈ l,0 <= packW y /\ packW y <= 6143) ->
 (comW n j v l cs).length=771 /\ cellsOK (comW n j v l cs)=true /\
 (∀ a:Nat,a < 291->(∀ i,i < l.length->a ≠ 99+n.toNat * 12+4+(j+i) /\ a ≠ 99+n.toNat * 12+8+(j+i))->(comW n j v l cs).getD a 0=cs.getD a 0) /\
 (∀ i,i < l.length->(comW n j v l cs).getD (99+n.toNat * 12+4+(j+i)) 0=packW (l.getD i wrH) /\ (comW n j v l cs).getD (99+n.toNat * 12+8+(j+i)) 0=256+v+i)
 | [],j,v,cs,hl,hc,hj,v0,v1,hy=>⟨hl,hc,fun a _ _=>rfl,fun i hi=>by simp at hi⟩
 | y::l,j,v,cs,hl,hc,hj,v0,v1,hy=>by
  simp only [List.length_cons] at hj v1;have hy1:=hy y List.mem_cons_self;obtain ⟨q1,q2,q3,q4⟩:=Qlk n0 n1 l (j:=j+1) (v:=v+1) (cs:=put1 n j v y cs) (by rw [QnS];exact hl) (QqL hc hy1 v0 (by omega)) (by omega) (by omega) (by omega) (fun y' h'=>hy y' (List.mem_cons_of_mem _ h'))
  have hg:∀ a:Nat,a < 291->(put1 n j v y cs).getD a 0=if a=99+n.toNat * 12+4+j then packW y else if a=99+n.toNat * 12+8+j then 256+v else cs.getD a 0:=fun a ha=>QnT hl n0 n1 (by omega) v0 (by omega) ha
  unfold comW;refine ⟨q1,q2,fun a ha hne=>?_,fun i hi=>?_⟩
  · rw [q3 a ha (fun i hi=>by have:=hne (i+1) (by simp only [List.length_cons];omega);omega),hg a ha]
    have:=hne 0 (by simp)
    rw [if_neg (by omega),if_neg (by omega)]
  · simp only [List.length_cons] at hi;cases i with
    | zero =>
     rw [q3 _ (by omega) (fun i hi=>by omega),q3 _ (by omega) (fun i hi=>by omega),hg _ (by omega),hg _ (by omega),if_pos (by omega),if_neg (by omega),if_pos (by omega)]
     exact ⟨rfl,by omega⟩
    | succ i =>
     obtain ⟨z1,z2⟩:=q4 i (by omega)
     rw [show j+(i+1)=j+1+i by omega,z1,z2]
     exact ⟨rfl,by omega⟩
theorem QnU {cs:List Int} (hl:cs.length=771) {n v start:Int} {ws:List Zb} (n0:0 <= n) (n1:n < 16) (a:Nat) :
 (comS cs n v start ws).getD a 0=if a=99+n.toNat * 12+3 then (ws.length:Int) else if a=99+n.toNat * 12+2 then start else if a=99+n.toNat * 12 then 3 else cs.getD a 0:=by
 unfold comS;rw [Qlj n0 n1 (by omega) (by omega),Qlj n0 n1 (by omega) (by omega),Qlj n0 n1 (by omega) (by omega)]
 rw [Qep (by simp only [List.length_set];omega),Qep (by simp only [List.length_set];omega),Qep (by omega)]
 by_cases e1:a=99+n.toNat * 12+3
 · rw [if_pos (by omega),if_pos e1]
 · rw [if_neg (by omega),if_neg e1]
   by_cases e2:a=99+n.toNat * 12+2
   · rw [if_pos (by omega),if_pos e2]
   · rw [if_neg (by omega),if_neg e2]
     by_cases e3:a=99+n.toNat * 12
     · rw [if_pos (by omega),if_pos e3]
     · rw [if_neg (by omega),if_neg e3]
theorem QnV {s:HS} {ws:List Zb} (h:comB s ws=true):s.n < 16 /\ s.v+ws.length <= 60 /\ Zn ws=true:=by
 unfold comB at h;simp only [Bool.and_eq_true,decide_eq_true_eq] at h;exact ⟨h.1.1,h.1.2,h.2⟩
theorem Qaf {ws:List Zb} (h:Zn ws=true):ws.length <= 4:=by
 unfold Zn at h;rw [Bool.and_eq_true,decide_eq_true_eq] at h;exact h.1
theorem Qdk {w:Int} {ds:List HD} {k:Int} {s:HS} (h:HI w ds k s) (back:Int):0 <= Vj s back /\ Vj s back <= 1048575:=by
 have:=(h.sc.ty 0 (by decide) (by decide)).t0 rfl
 have e:(0:Int).toNat=0:=rfl;rw [e] at this;unfold Vj;omega
theorem QqM {ds:List HD} {k:Int} {cs:List Int} (h:SH ds k cs) {v start:Int} {ws:List Zb} (hn:(ds.length:Int) < 16) (v0:0 <= v) (v1:v+ws.length <= 60) (hw:Zn ws=true) (hs:0 <= start /\ start <= 1048575) :
 SH (ds++[⟨start,ws,v⟩]) k (comC cs (ds.length:Int) v start ws):=by
 have hl:=h.len;have hw4:=Qaf hw
 have hmem:∀ y ∈ ws,0 <= packW y /\ packW y <= 6143:=fun y hy=>by
  obtain ⟨i,hi,rfl⟩:=List.mem_iff_getElem.1 hy;have:=Qk0 hw hi;have e:ws.getD i wrH=ws[i]:=by simp [hi]
  rw [e] at this;exact Qeq this
 have n0:(0:Int) <= (ds.length:Int):=by omega
 have nN:((ds.length:Int)).toNat=ds.length:=by simp
 have cl:(comS cs (ds.length:Int) v start ws).length=771:=by unfold comS;simp only [List.length_set];exact hl
 have cc:cellsOK (comS cs (ds.length:Int) v start ws)=true:=by
  unfold comS;exact YD (YD (YD h.ok (by decide)) (by omega)) (by omega)
 obtain ⟨q1,q2,q3,q4⟩:=Qlk n0 hn ws (j:=0) (v:=v) cl cc (by omega) v0 v1 hmem
 have g0:=QnU (v:=v) (start:=start) (ws:=ws) hl n0 hn;rw [nN] at q3 q4 g0;simp only [Nat.zero_add] at q3 q4;refine ⟨q1,q2,fun a a0 a1=>?_⟩;show TyH _ k a ((comW (ds.length:Int) 0 v ws (comS cs (ds.length:Int) v start ws)).getD a.toNat 0);have hls:(ds++[(⟨start,ws,v⟩:HD)]).length=ds.length+1:=by simp
 have hgl:∀ s,s < ds.length->(ds++[(⟨start,ws,v⟩:HD)]).getD s hd0=ds.getD s hd0:=fun s hs=>(Ext.snoc ds ⟨start,ws,v⟩).2 s hs
 have hgn:(ds++[(⟨start,ws,v⟩:HD)]).getD ds.length hd0=⟨start,ws,v⟩:=by
  rw [List.getD_eq_getElem?_getD,List.getElem?_append_right (Nat.le_refl _)];simp
 by_cases b0:a <= 98
 · rw [q3 _ (by omega) (fun i hi=>by omega),g0,if_neg (by omega),if_neg (by omega),if_neg (by omega)]
   have ht:=h.ty a a0 a1;refine TyH.low (.inl b0) (by omega) ht.t0 ht.t1 ht.t2 (fun c1 c2=>?_) ht.t4 ht.t5
   obtain ⟨z1,z2⟩:=ht.t3 c1 c2;refine ⟨z1,?_⟩;rcases z2 with z2 | z2
   · exact .inl z2
   · exact .inr (by unfold OkH at *;omega)
 by_cases b1:291 <= a
 · exact Qk1 (by omega) b1
 have ht:=h.ty a a0 a1
 have hin:∀ s f:Int,0 <= s->0 <= f->f < 12->a=99+s * 12+f->s ≠ (ds.length:Int)->(comW (ds.length:Int) 0 v ws (comS cs (ds.length:Int) v start ws)).getD a.toNat 0=cs.getD a.toNat 0:=fun s f s0 f0 f1 e hne=>by
  rw [q3 _ (by omega) (fun i hi=>by omega),g0,if_neg (by omega),if_neg (by omega),if_neg (by omega)]
 refine ⟨fun q=>by omega,fun q=>by omega,fun _ q=>by omega,fun _ q=>by omega,fun _ q=>by omega,fun _ q=>by omega,fun s f s0 s1 f0 f1 e=>?_,fun s s0 s1 e=>?_⟩
 · by_cases hne:s=(ds.length:Int)
   · subst hne;rw [nN,hgn];have ea:a.toNat=99+ds.length * 12+f.toNat:=by omega
     rw [ea];refine ⟨fun e2=>?_,fun e3=>?_,fun c1 c2=>?_,fun c1 c2=>?_⟩
     · rw [q3 _ (by omega) (fun i hi=>by omega),g0,if_neg (by omega),if_pos (by omega)]
     · rw [q3 _ (by omega) (fun i hi=>by omega),g0,if_pos (by omega)]
     · have c2':f < 4+(ws.length:Int):=c2;have:=(q4 (f - 4).toNat (by omega)).1
       rw [show 99+ds.length * 12+4+(f - 4).toNat=99+ds.length * 12+f.toNat by omega] at this
       rw [this];rfl
     · have c2':f < 8+(ws.length:Int):=c2;have:=(q4 (f - 8).toNat (by omega)).2
       rw [show 99+ds.length * 12+8+(f - 8).toNat=99+ds.length * 12+f.toNat by omega] at this
       rw [this];rfl
   · rw [hin s f s0 f0 f1 e hne,hgl _ (by omega)]
     exact ht.t6 s f s0 (by omega) f0 f1 e
 · by_cases hne:s=(ds.length:Int)
   · rw [q3 _ (by omega) (fun i hi=>by omega),g0,if_neg (by omega),if_neg (by omega),if_neg (by omega)]
     exact ht.t7 s s0 s1 e
   · rw [hin s 1 s0 (by omega) (by omega) e hne]
     exact ht.t7 s s0 s1 e
theorem HI.commit {eq:Int->Int->Bool} {w:Int} {ds:List HD} {k:Int} {s:HS} (h:HI w ds k s) {c:Int} (c0:0 <= c) (c3:c <= 3) (back:Int) {ws:List Zb} (hb:comB s ws=true) :
 HI w (ds++[⟨Vj s back,ws,s.v⟩]) k (Qen eq w s c back ws):=by
 obtain ⟨b1,b2,b3⟩:=QnV hb;have hst:=Qdk h back;have hw4:=Qaf b3;have hn:=h.nn;have hvv:=h.vv;have hls:(ds++[(⟨Vj s back,ws,s.v⟩:HD)]).length=ds.length+1:=by simp
 have hE:=Ext.snoc ds ⟨Vj s back,ws,s.v⟩;have hsc:=QqM h.sc (v:=s.v) (start:=Vj s back) (ws:=ws) (by omega) h.vv.1 b2 b3 hst
 have hod:OkDs (ds++[(⟨Vj s back,ws,s.v⟩:HD)]):=by
  refine ⟨by omega,fun i hi=>?_⟩
  by_cases e:i < ds.length
  · rw [hE.2 i e];exact h.od.2 i e
  · have:i=ds.length:=by omega
    subst this;rw [List.getD_eq_getElem?_getD,List.getElem?_append_right (Nat.le_refl _)];simp only [Nat.sub_self,List.getElem?_cons_zero,Option.getD_some];exact ⟨hst,b3,⟨hvv.1,b2⟩⟩
 rw [<- hn] at hsc;unfold Qen
 refine HI.begin (s:={ s with cs:=comC s.cs s.n s.v (Vj s back) ws,n:=s.n+1,v:=s.v+ws.length,has:=s.has.set c.toNat (256+s.n),place:=s.place.set c.toNat 0,mp:=mput eq (256+s.n) ⟨0,Vj s back,ws⟩ s.mp })
  ⟨h.w,hod,by show s.n+1=((ds++[_]).length:Int);rw [hls];omega,by show 0 <= s.v+(ws.length:Int) /\ s.v+(ws.length:Int) <= 60;omega,hsc,h.dk,h.lt,h.lu,h.lb,by simp [h.lh],by simp [h.lp],h.la,h.tl,h.tw,fun p hp=>?_,fun c' d0 d3 hb'=>(h.cl c' d0 d3 hb').ext hE (Int.le_refl _)⟩ c0 c3 ?_
 · rcases mput_mem hp with e | hp
   · rw [e];exact hw4
   · exact h.mw p hp
 · exact mk68 h.w (by omega) (by unfold OkH;omega)
theorem HI.pick {eq:Int->Int->Bool} {w:Int} {ds:List HD} {k:Int} {s:HS} (h:HI w ds k s) (h0:0 <= k) (hk:k <= 800000) (x dd back:Int) (ws:List Zb):∃ ds',HI w ds' (k+2) (QrX eq w s x dd back ws):=by
 have c0:=Int.emod_nonneg x (show (4:Int) ≠ 0 by decide)
 have c3:=Int.emod_lt_of_pos x (show (0:Int) < 4 by decide)
 unfold QrX
 by_cases hb:QnR s (x % 4)=true
 · rw [if_pos hb];obtain ⟨_,q1,q2⟩:=h.step h0 hk c0 (by omega) hb
   have q3:=q1.looks (eq:=eq) (k':=k+2) (by omega)
   refine ⟨ds,?_⟩
   split
   · rename_i hw;unfold wonB at hw;simp only [Bool.and_eq_true,decide_eq_true_eq,Bool.not_eq_true'] at hw;obtain ⟨w1,w2,w3,w4⟩:=hw
     have ht:1 <= (endH s (x % 4)).got.getD 1 0 /\ (endH s (x % 4)).got.getD 1 0 <= 1048575:=by
      rcases q2 w1 with e | ⟨t,e,t1,t2⟩ | ⟨e',e⟩
      · rw [e] at w3;cases w3
      · rw [e];exact ⟨t1,t2⟩
      · rw [e] at w3;cases w3
     generalize (endH s (x % 4)).got.getD 1 0=t at ht ⊢;unfold wonH
     exact HI.begin (s:={ Qdj eq w (Qeo s (x % 4)) with place:=(Qdj eq w (Qeo s (x % 4))).place.set (x % 4).toNat t })
      ⟨q3.w,q3.od,q3.nn,q3.vv,q3.sc,q3.dk,q3.lt,q3.lu,q3.lb,q3.lh,by simp [q3.lp],q3.la,q3.tl,q3.tw,q3.mw,q3.cl⟩ c0 (by omega) (QsH q3.w ht)
   · exact q3
 · rw [if_neg hb]
   split
   · rename_i hc;exact ⟨_,(h.commit c0 (by omega) back hc.2).mono (by omega)⟩
   · exact ⟨ds,h.mono (by omega)⟩
inductive HF (F:Int):List Frame->List Int->Prop
 | ins {k:Int} {r got:List Int}:HF F [⟨68,k,r⟩] got
 | hlp {k:Int} {r got:List Int} (h:2 <= k->k <= 14->r.getD 2 0 <= F) (h1:k=1 -> ∀ x,got=[x]->x <= F):HF F [⟨100,k,r⟩] got
 | inr {k:Int} {r s got:List Int} (h:r.getD 2 0 <= F) (h2:1 <= s.getD 0 0 /\ s.getD 0 0 <= 1048575) (h3:s.getD 0 0 <= F+1) (h4:k=2->plc (s.getD 3 0) < s.getD 0 0):HF F [⟨100,13,r⟩,⟨73,k,s⟩] got
 | app {k:Int} {r s got:List Int} (h:r.getD 2 0 <= F):HF F [⟨100,14,r⟩,⟨76,k,s⟩] got
theorem HF.mono {F F':Int} (hF:F <= F') {st:List Frame} {got:List Int} (h:HF F st got):HF F' st got:=by
 cases h with
 | ins=>exact .ins
 | hlp h h1=>exact .hlp (fun a b=>by have:=h a b;omega) (fun a x e=>by have:=h1 a x e;omega)
 | inr h h2 h3 h4=>exact .inr (by omega) h2 (by omega) h4
 | app h=>exact .app (by omega)
def wP (p:Nat):Int:=if p=0 then 0 else (p:Int) * 1048576+(255+(p:Int))
theorem wP_0:wP 0=0:=rfl
theorem Qll {p:Nat} (h1:1 <= p):wP p=(p:Int) * 1048576+(255+(p:Int)):=if_neg (by omega)
theorem QqN {p:Nat} (h1:1 <= p) (h2:p <= 100):wordN (p:Int) (255+(p:Int))=wP p:=by
 rw [Qll h1,wordN,if_pos ⟨by omega,by omega,.inl (by omega)⟩]
theorem YE {p:Nat} (h2:p <= 100):0 <= wP p /\ wP p <= 104857955:=by
 unfold wP;split <;> omega
theorem Qat {p:Nat} (h1:1 <= p):0 < wP p:=by rw [Qll h1];omega
theorem ZZ {p:Nat} (h2:p <= 100):plc (wP p)=p:=by
 unfold plc;rw [Q9 (by have:=YE h2;omega)]
 unfold wP;split <;> omega
theorem ZM {p:Nat} (h1:1 <= p) (h2:p <= 100):bare (wP p)=255+(p:Int):=by
 unfold bare;rw [Q9 (by have:=YE h2;omega),Qll h1]
 omega
theorem Qlm {p q:Nat} (hp:p <= 100) (hq:q <= 100) (h:wP p=wP q):p=q:=by
 have h1:=ZZ hp;have h2:=ZZ hq;rw [h] at h1;omega
theorem Qdl {p:Nat} (h:wP p=0):p=0:=by
 unfold wP at h;split at h <;> omega
theorem Kj {p:Nat} (hp:p <= 100):wh (wP p)=wP p:=by
 unfold wh;rw [if_neg (by have:=YE hp;omega)]
theorem Q0 {p:Nat} (h1:1 <= p) (h2:p <= 100) {f:Int} (f0:0 <= f) (f1:f < 3):cellO (255+(p:Int)) f true=288+3 * (p:Int)+f:=by
 unfold cellO;rw [if_neg (by omega),cond_true,Jj (by omega) (by omega) f0 f1]
 omega
def nxtW (cs:List Int) (w:Int):Int:=cs.getD (cellO (bare w) 1 true).toNat 0
def valW (cs:List Int) (w:Int):Int:=cs.getD (cellO (bare w) 2 true).toNat 0
def rdW (cs:List Int) (key:Int):Nat->Int->List Item
 | 0,_=>[]
 | n+1,w=>if w=0 then [] else ⟨key,plc w,valW cs w % 256⟩::rdW cs key n (wh (nxtW cs w))
structure ROK (cs:List Int) (K:Nat->Int) (m:Nat):Prop where
 len:cs.length=771
 mle:m <= 100
 Kr:∀ p,1 <= p->p <= m->0 <= K p /\ K p < 24
 hd:∀ k:Nat,k < 24 -> ∃ p,p <= m /\ cs.getD (21+k) 0=wP p /\ (p=0 \/ K p=k)
 gen:∀ p,1 <= p->p <= m->cs.getD (288+3 * p) 0=3
 val:∀ p,1 <= p->p <= m -> ∃ v:Int,0 <= v /\ v < 256 /\ cs.getD (290+3 * p) 0=K p * 256+v
 nx:∀ p,1 <= p->p <= m -> ∃ q,q < p /\ cs.getD (289+3 * p) 0=wP q /\ (q=0 \/ K q=K p)
theorem ROK.nxt {cs:List Int} {K:Nat->Int} {m p:Nat} (h:ROK cs K m) (h1:1 <= p) (h2:p <= m):nxtW cs (wP p)=cs.getD (289+3 * p) 0:=by
 have:=h.mle;unfold nxtW;rw [ZM h1 (by omega),Q0 h1 (by omega) (by omega) (by omega),show (288+3 * (p:Int)+1).toNat=289+3 * p by omega]
theorem ROK.valw {cs:List Int} {K:Nat->Int} {m p:Nat} (h:ROK cs K m) (h1:1 <= p) (h2:p <= m):valW cs (wP p)=cs.getD (290+3 * p) 0:=by
 have:=h.mle;unfold valW;rw [ZM h1 (by omega),Q0 h1 (by omega) (by omega) (by omega),show (288+3 * (p:Int)+2).toNat=290+3 * p by omega]
def AtW (cs:List Int) (key w:Int) (n:Nat):Prop := ∃ K m p,ROK cs K m /\ p <= m /\ w=wP p /\ (p=0 \/ K p=key) /\ n+p <= 100 /\ 0 <= key /\ key < 24
def OkRd (cs:List Int) (key:Int):Prop:=(∃ K m,ROK cs K m) /\ 0 <= key /\ key < 24
theorem Qln (cs:List Int) (key:Int):∀ (n:Nat) (w:Int),(rdW cs key n w).length <= n
 | 0,_=>Nat.le_refl _
 | n+1,w=>by
  unfold rdW
  split
  · simp
  · have:=Qln cs key n (wh (nxtW cs w));simp;omega
theorem OkRd.start {cs:List Int} {key:Int} (h:OkRd cs key):AtW cs key (wh (cs.getD (21+key).toNat 0)) 0 /\ cs.length=771:=by
 obtain ⟨⟨K,m,hR⟩,k0,k1⟩:=h;obtain ⟨p,h1,h2,h3⟩:=hR.hd key.toNat (by omega)
 have hm:=hR.mle;refine ⟨⟨K,m,p,hR,h1,?_,?_,by omega,k0,k1⟩,hR.len⟩
 · rw [show (21+key).toNat=21+key.toNat by omega,h2,Kj (by omega)]
 · rcases h3 with h | h
   · exact .inl h
   · exact .inr (by rw [h];omega)
theorem AtW.next {cs:List Int} {key w:Int} {n:Nat} (h:AtW cs key w n) (hw:w ≠ 0):AtW cs key (wh (nxtW cs w)) (n+1) /\ 0 < w /\ 291 <= cellO (bare w) 1 true /\ cellO (bare w) 1 true < 771 /\ 0 <= cellO (bare w) 2 true /\ cellO (bare w) 2 true < 771 /\ n < 100:=by
 obtain ⟨K,m,p,hR,h1,rfl,h3,h4,k0,k1⟩:=h;have hm:=hR.mle
 have hp:1 <= p:=by
  rcases Nat.eq_zero_or_pos p with e | e
  · subst e;exact absurd wP_0 hw
  · exact e
 obtain ⟨q,q1,q2,q3⟩:=hR.nx p hp h1;have hk:K p=key:=h3.resolve_left (by omega)
 rw [hR.nxt hp h1,q2,Kj (by omega),ZM hp (by omega),Q0 hp (by omega) (by omega) (by omega),Q0 hp (by omega) (by omega) (by omega)]
 refine ⟨⟨K,m,q,hR,by omega,rfl,?_,by omega,k0,k1⟩,Qat hp,by omega,by omega,by omega,by omega,by omega⟩
 rcases q3 with h | h
 · exact .inl h
 · exact .inr (by rw [h,hk])
theorem Qdm {α β:Type} {eq:α->α->Bool} {k:α} {b:β}:∀ {l:List (α × β)},mget eq k l=some b -> ∃ a,(a,b) ∈ l /\ eq k a=true
 | [],h=>by simp [mget] at h
 | (a,c)::l,h=>by
  unfold mget at h;cases hc:eq k a with
  | true=>rw [hc] at h;simp only [cond_true,Option.some.injEq] at h;subst h;exact ⟨a,by simp,hc⟩
  | false =>
   rw [hc] at h;obtain ⟨a',h1,h2⟩:=Qdm h;exact ⟨a',by simp [h1],h2⟩
theorem mput_memC {α β:Type} {eq:α->α->Bool} {k:α} {v:β} {x:α × β}:∀ {l:List (α × β)},x ∈ mput eq k v l->x=(k,v) \/ x ∈ l
 | [],h=>by simp [mput] at h;exact .inl h
 | (a,c)::l,h=>by
  unfold mput at h;cases hc:eq k a with
  | true =>
   rw [hc] at h;simp only [cond_true,List.mem_cons] at h;exact h.imp id fun h=>by simp [h]
  | false =>
   rw [hc] at h;simp only [cond_false,List.mem_cons] at h;rcases h with h | h
   · exact .inr (by simp [h])
   · exact (mput_memC h).imp id fun h=>by simp [h]
def eqI (a b:Int):Bool:=a == b
def rgW (cs:List Int):Nat->Int->Int->List (Int × Bool)->List (Int × Bool)
 | 0,_,_,seen=>seen
 | n+1,w,was,seen=>if w=0 then seen else rgW cs n (nxtW cs w) (plc w) (mput eqI (Zv (bare w) % 256) true seen)
def rgK (cs:List Int):Nat->Nat->List (Int × Bool)->List (Int × Bool)
 | 0,_,seen=>seen
 | n+1,k,seen=>rgK cs n (k+1) (rgW cs 101 (cs.getD (21+k) 0) 1048576 seen)
def Qb1 (K:Nat->Int) (m:Nat) (k was:Int) (seen:List (Int × Bool)):Prop := ∀ x ∈ seen,∃ p:Nat,1 <= p /\ p <= m /\ x.1=(p:Int) - 1 /\ (K p < k \/ K p=k /\ was <= p)
theorem Qlo {p:Nat} (h1:1 <= p) (h2:p <= 100):Zv (bare (wP p)) % 256=(p:Int) - 1:=by
 rw [ZM h1 h2,Q9 (by omega)];omega
theorem Qb1.step {K:Nat->Int} {m p:Nat} {k was:Int} {seen:List (Int × Bool)} (h:Qb1 K m k was seen) (h1:1 <= p) (h2:p <= m) (hm:m <= 100) (hk:K p=k) (hw:(p:Int) < was):Qb1 K m k p (mput eqI (Zv (bare (wP p)) % 256) true seen):=by
 intro x hx;rcases mput_memC hx with rfl | hx
 · exact ⟨p,h1,h2,Qlo h1 (by omega),.inr ⟨hk,Int.le_refl _⟩⟩
 · obtain ⟨q,q1,q2,q3,q4⟩:=h x hx;exact ⟨q,q1,q2,q3,q4.imp id fun h=>⟨h.1,by omega⟩⟩
theorem Qb1.not {K:Nat->Int} {m p:Nat} {k was:Int} {seen:List (Int × Bool)} (h:Qb1 K m k was seen) (h1:1 <= p) (h2:p <= m) (hm:m <= 100) (hk:K p=k) (hw:(p:Int) < was):mget eqI (Zv (bare (wP p)) % 256) seen=none:=by
 cases hg:mget eqI (Zv (bare (wP p)) % 256) seen with
 | none=>rfl
 | some b =>
  obtain ⟨a,ha,he⟩:=Qdm hg;obtain ⟨q,q1,q2,q3,q4⟩:=h _ ha;have he:Zv (bare (wP p)) % 256=a:=by simpa [eqI] using he
  rw [Qlo h1 (by omega)] at he
  dsimp only at q3
  have:q=p:=by omega
  subst this;rcases q4 with h | h <;> omega
theorem Qf7 {cs:List Int} {K:Nat->Int} {m:Nat} (hR:ROK cs K m):∀ (p n:Nat) (was:Int) (seen:List (Int × Bool)),p <= m->p < n->rgW cs n (wP p) was seen=rgW cs (p+1) (wP p) was seen:=by
 intro p
 induction p using Nat.strongRecOn with
 | ind p ih =>
  intro n was seen h1 h2;obtain ⟨n,rfl⟩:∃ n',n=n'+1:=⟨n - 1,by omega⟩
  unfold rgW
  by_cases hp:p=0
  · subst hp;rw [if_pos wP_0,if_pos wP_0]
  · have hne:¬ wP p=0:=fun h=>hp (Qdl h);rw [if_neg hne,if_neg hne];obtain ⟨q,q1,q2,q3⟩:=hR.nx p (by omega) h1
    rw [hR.nxt (by omega) h1,q2,ih q q1 n _ _ (by omega) (by omega),ih q q1 p _ _ (by omega) q1]
theorem QnW {cs:List Int} {K:Nat->Int} {m p:Nat} (hR:ROK cs K m) (h1:1 <= p) (h2:p <= m) (was:Int) (seen:List (Int × Bool)):rgW cs 101 (wP p) was seen=rgW cs 101 (nxtW cs (wP p)) (plc (wP p)) (mput eqI (Zv (bare (wP p)) % 256) true seen):=by
 have hm:=hR.mle;obtain ⟨q,q1,q2,q3⟩:=hR.nx p h1 h2
 conv=>lhs;unfold rgW
 rw [if_neg (fun h=>by have:=Qdl h;omega),hR.nxt h1 h2,q2,Qf7 hR q 100 _ _ (by omega) (by omega),Qf7 hR q 101 _ _ (by omega) (by omega)]
theorem Qf8 {cs:List Int} {K:Nat->Int} {m:Nat} (hR:ROK cs K m) {k:Int}:∀ (n p:Nat) (was:Int) (seen:List (Int × Bool)),p <= m->(p=0 \/ K p=k)->(p:Int) < was->Qb1 K m k was seen->Qb1 K m (k+1) 1048576 (rgW cs n (wP p) was seen)
 | 0,p,was,seen,_,_,_,h=>fun x hx=>by
  obtain ⟨q,q1,q2,q3,q4⟩:=h x hx;exact ⟨q,q1,q2,q3,.inl (by rcases q4 with h | h <;> omega)⟩
 | n+1,p,was,seen,h1,h2,h3,h=>by
  unfold rgW
  by_cases hp:p=0
  · subst hp;rw [if_pos wP_0]
    exact fun x hx=>by
     obtain ⟨q,q1,q2,q3,q4⟩:=h x hx;exact ⟨q,q1,q2,q3,.inl (by rcases q4 with h | h <;> omega)⟩
  · rw [if_neg (fun h=>hp (Qdl h))];have hm:=hR.mle;have hk:=h2.resolve_left hp;obtain ⟨q,q1,q2,q3⟩:=hR.nx p (by omega) h1
    rw [hR.nxt (by omega) h1,q2]
    rw [ZZ (by omega)]
    exact Qf8 hR n q p _ (by omega) (q3.imp id fun h=>by rw [h,hk]) (by omega) (h.step (by omega) h1 hm hk h3)
def RgI (cs:List Int) (k was w:Int) (seen:List (Int × Bool)):Prop := ∃ K m p,ROK cs K m /\ p <= m /\ w=wP p /\ (p=0 \/ K p=k) /\ (p:Int) < was /\ was <= 1048576 /\ Qb1 K m k was seen
def RgO (cs:List Int) (k:Nat) (seen:List (Int × Bool)):Prop := ∃ K m,ROK cs K m /\ Qb1 K m k 1048576 seen
def OkRt (cs:List Int):Prop := ∃ K m,ROK cs K m
open Go.Proofs
set_option maxRecDepth 100000
def rfC:Code->Option (Code × Code)
 | .rangeFunc _ _ a b=>some (a,b)
 | .seq a b=>(match rfC a with | some x=>some x | none=>rfC b)
 | .cond _ a b=>(match rfC a with | some x=>some x | none=>rfC b)
 | .block _ b=>rfC b
 | .loop b=>rfC b
 | .scope b=>rfC b
 | _=>none
noncomputable def rfF (f:Nat):Code × Code:=match p0.fn f with
 | some fn=>(match fn.body with
  | some b=>(match rfC b with | some x=>x | none=>(.skip,.skip))
  | none=>(.skip,.skip))
 | none=>(.skip,.skip)
noncomputable def redA:Code:=(rfF 11).1
noncomputable def redB:Code:=(rfF 11).2
structure Qlp where
 key:Int
 cs:List Int
 l:List Item
 w:Int
 n:Nat
noncomputable def Qlq (key:Int) (cs:List Int) (l:List Item) (w:Int) (n:Nat):Env RC:=[(0,.yl 27 [4,3,2] [10] (redA) (redB) (.acons (.ptr 4 []) (.acons (.ptr 3 []) (.acons (.ptr 2 []) .anil)))),(1,.ptr 1 []),(2,.ptr 0 []),(5,.int .i64 w),(6,.int .i64 (n:Int))]
def Ke (key:Int) (cs:List Int) (l:List Item) (w:Int) (n:Nat):List (Obj RC):=[.var 35 (.vs 6 (cs.length)),.var 3 (.int .i64 key),.var 35 (.vs 6 (cs.length)),.var 3 (.int .i64 ((key))),.var 33 (.vs 5 (l.length)),.vec .item true l,.vec .int true cs]
noncomputable def QoS (key:Int) (cs:List Int) (l:List Item) (w:Int) (n:Nat):=rndO s18 uk_4 53 4 60 7 [0,1,2,5,6] [] [.slot 2 0,.slot 1 0,.slot 0 2,.slot 0 1,.slot 0 0,.path 4 [],.path 0 []] (Qlq key cs l w n) (Ke key cs l w n)
theorem QqO (key:Int) (cs:List Int) (l:List Item) (w:Int) (n:Nat):QoS key cs l w n=(let Z0:Int:=cellO (bare w) (1:Int) true;let Z1:Nat:=List.length cs;let Z2:Option (Obj RC):=some (Obj.var 35 (D.vs 6 Z1));let Z3:Option (Obj RC):=some (Obj.var 3 (D.int .i64 key));let Z4:Nat:=List.length l;let Z5:List (Option (Obj RC)):=[Z2,Z3,Z2,Z3,some (Obj.var 33 (D.vs 5 Z4)),some (Obj.vec RTy.item true l),some (Obj.vec RTy.int true cs)];let Z6:Bool:=Nat.beq Z1 Z1;let Z7:Int:=cellO (bare w) (2:Int) true;let Z8:List Item:=[Item.mk key (plc w) (bits .i64 (fun (x:Nat) (u v:BitVec x)=>u &&& v) (List.getD cs Z7.toNat (0:Int)) (255:Int))];let Z9:Int:=List.getD cs Z0.toNat (0:Int);bif decide ((↑n:Int) < (160:Int)) then bif w != (0:Int) then bif decide (Z0 < (0:Int)) then some ((X.ret,[]),Z5) else bif Z6 && decide ((0:Int) <= Z7 /\ Z7 < (↑Z1:Int)) then bif Z6 then bif Nat.beq Z4 Z4 && Qs (Z4+List.length Z8) (24:Nat) then bif Z6 && decide ((0:Int) <= Z0 /\ Z0 < (↑Z1:Int)) then bif Z6 then some ((X.normal,[(0,D.yl (27:Nat) [(4:Nat),(3:Nat),(2:Nat)] [(10:Nat)] redA redB (D.acons (D.ptr 4 []) (.acons (D.ptr 3 []) (.acons (D.ptr 2 []) .anil)))),(1,D.ptr 1 []),(2,D.ptr 0 []),(5,D.int .i64 (if Z9 < (0:Int) then (0:Int) else Z9)),(6,D.int .i64 (IntKind.wrap .i64 ((↑n:Int)+(1:Int))))]),[Z2,Z3,Z2,Z3,some (Obj.var 33 (D.vs 5 (Z4+List.length Z8))),some (Obj.vec RTy.item true (l++Z8)),some (Obj.vec RTy.int true cs)]) else none else none else none else none else none else some ((X.exit (0:Nat),[]),Z5) else some ((X.exit (0:Nat),[]),Z5)):=by kernel_rfl
noncomputable def Kv (key:Int) (cs:List Int) (l:List Item) (w:Int) (n:Nat):RT RC:=.leaf (.exit 0) [] (Ke key cs (l++rdW cs key (160 - n) w) w n)
def JC (key:Int) (cs:List Int) (l:List Item) (w:Int) (n:Nat):Prop:=AtW cs key w n /\ l.length <= n
noncomputable def V4:QV RC Qlp where
 k:=7
 canon q:=Qlq q.key q.cs q.l q.w q.n
 objs q:=Ke q.key q.cs q.l q.w q.n
 fin q:=Kv q.key q.cs q.l q.w q.n
 Inv q:=JC q.key q.cs q.l q.w q.n
 μ q:=160 - q.n
theorem QhK (key:Int) (cs:List Int) (l:List Item) (w:Int) (n:Nat) (hI:JC key cs l w n):Leaf (QoS key cs l w n) (LedR V4 ⟨key,cs,l,w,n⟩):=by
 (rw [QqO];conv=>zeta)
 unfold JC at hI;obtain ⟨hA,hl⟩:=hI;have hcs:cs.length=771:=by obtain ⟨K,m,p,hR,_⟩:=hA;exact hR.len
 have hb:∀ n:Nat,Nat.beq n n=true:=fun n=>by simp
 have hn:n <= 100:=by obtain ⟨K,m,p,_,_,_,_,h,_⟩:=hA;omega
 have dn:decide ((n:Int) < 160)=true:=decide_eq_true (by omega)
 rw [dn,cond_true]
 by_cases hw:w=0
 · have ew:(w != 0)=false:=by simp [hw]
   rw [ew,cond_false]
   have hz:l++rdW cs key (160 - n) w=l:=by
    rw [show 160 - n=(159 - n)+1 by omega];unfold rdW;rw [if_pos hw,List.append_nil]
   exact QA (Ke key cs l w n) (by simp only [V4,Kv,hz,RT.val]) rfl
 · have ew:(w != 0)=true:=by simp [hw]
   rw [ew,cond_true];obtain ⟨hA',w0,a0,a1,b0,b1,hn'⟩:=hA.next hw;have d1:decide (cellO (bare w) 1 true < 0)=false:=decide_eq_false (by omega)
   have d2:decide (0 <= cellO (bare w) 2 true /\ cellO (bare w) 2 true < ((771:Nat):Int))=true:=decide_eq_true (by omega)
   have d3:decide (0 <= cellO (bare w) 1 true /\ cellO (bare w) 1 true < ((771:Nat):Int))=true:=decide_eq_true (by omega)
   have w1:IntKind.i64.wrap ((n:Int)+1)=((n+1:Nat):Int):=by rw [Qq (by omega) (by omega)];simp
   have e1:∀ x:Item,l.length+([x]:List Item).length=(l++[x]).length:=fun x=>by simp
   have s1:∀ x:Item,Qs (l++[x]).length 24=true:=fun x=>by simp [Qs];omega
   rw [hcs];simp only [d1,d2,d3,w1,Qee,e1,s1,hb,Bool.and_self,cond_true,cond_false]
   have hst:l++rdW cs key (160 - n) w=(l++[⟨key,plc w,valW cs w % 256⟩])++rdW cs key (160 - (n+1)) (wh (nxtW cs w)):=by
    rw [show 160 - n=(160 - (n+1))+1 by omega]
    conv=>lhs;unfold rdW
    rw [if_neg hw];simp
   have hO:∀ l' w' n',Ke key cs l' w' n'=[.var 35 (.vs 6 771),.var 3 (.int .i64 key),.var 35 (.vs 6 771),.var 3 (.int .i64 key),.var 33 (.vs 5 l'.length),.vec .item true l',.vec .int true cs]:=fun l' w' n'=>by unfold Ke;rw [hcs]
   exact QL (S:=V4) (s:=⟨key,cs,l,w,n⟩) ⟨key,cs,l++[⟨key,plc w,valW cs w % 256⟩],wh (nxtW cs w),n+1⟩ ⟨hA',by simp;omega⟩ (by simp only [V4];omega) (by simp only [V4,Kv];rw [hst];rfl) rfl (by simp only [V4,hO];rfl)
noncomputable def Qlr (env:Env RC) (os:List (Obj RC)):Option (Bool × Qlp):=match env,os with
 | [(0,.yl 27 [4,3,2] [10] x0 x1 (.acons (.ptr 4 []) (.acons (.ptr 3 []) (.acons (.ptr 2 []) .anil)))),(1,.ptr 1 []),(2,.ptr 0 []),(5,.int .i64 w),(6,.int .i64 x2)],[.var 35 (.vs 6 x3),.var 3 (.int .i64 key),.var 35 (.vs 6 x4),.var 3 (.int .i64 x5),.var 33 (.vs 5 x6),.vec .item true l,.vec .int true cs]=>QO (true) (cdec (x0=redA) && cdec (x1=redB) && decide (x2=0) && decide (x3=cs.length) && decide (x4=cs.length) && decide (x5=(key)) && decide (x6=l.length) && cdec (AtW cs key w 0) && l.isEmpty,⟨key,cs,l,w,0⟩)
 | _,_=>none
noncomputable def ul_1:=uk_4.addLoop 53 4 (sumR s18 [.slot 2 0,.slot 1 0,.slot 0 2,.slot 0 1,.slot 0 0,.path 4 [],.path 0 []] [0,1,2,5,6] V4 Qlr)
theorem Qls:Qh Tryz.prog s18 ul_1:=by
 refine QkY.addRoundsR Qc (by kernel_rfl) V4 60 [0,1,2,5,6] [] [.slot 2 0,.slot 1 0,.slot 0 2,.slot 0 1,.slot 0 0,.path 4 [],.path 0 []] [0,1,2,5,6] Qlr (fun q hI=>?_) ?_
 · obtain ⟨key,cs,l,w,n⟩:=q;refine ⟨?_,?_,QhK key cs l w n hI⟩
   · simp_all [Qj,V4,Qlq,Ke,JC,D.refs,Obj.refs,rEnc]
   · simp_all [V4,Kv,Ke,JC,RT.refsOK,Qj,D.refs,Obj.refs,rEnc]
 · intro env os b q hd_ hb;unfold Qlr at hd_
   split at hd_
   · obtain ⟨hs,hd_⟩:=Qg hd_;cases hd_;simp only [Bool.and_eq_true,decide_eq_true_eq] at hb;obtain ⟨⟨⟨⟨⟨⟨⟨⟨h1,h2⟩,rfl⟩,rfl⟩,rfl⟩,rfl⟩,rfl⟩,hA⟩,hl⟩:=hb;have h1:=QG.1 h1;have h2:=QG.1 h2;subst h1;subst h2;have hl:=List.isEmpty_iff.1 hl;subst hl;exact ⟨⟨QG.1 hA,Nat.zero_le _⟩,rfl,rfl⟩
   · cases hd_
structure Qdn where
 cs:List Int
 key:Int
def Qb2 (cs:List Int) (key:Int):List (D RC):=[.vs 0 (cs.length),.int .i64 key]
def Kw (cs:List Int) (key:Int):List (Obj RC):=[.vec .int true cs]
noncomputable def Qf9 (cs:List Int) (key:Int):=fnO s18 ul_1 11 60 1 (Qb2 cs key) (Kw cs key)
theorem Qlt (cs : List Int) (key : Int) : Qf9 cs key=(let Z0 : Nat:=List.length cs;let Z1 : Option (D RC × List (Option (Obj RC))):=some (D.sl RTy.item true [],[some (Obj.vec RTy.int true cs)]);let Z2 : Int:=lRow (21 : Int) key (24 : Int);let Z3 : Option (Nat × Bool):=none;let Z4 : Op:=Op.move (Operand.tmp (5 : Nat));let Z5 : Edge:=Edge.mk (1 : Nat) Ground.data;let Z6 : Edge:=Edge.mk (2 : Nat) Ground.data;let Z7 : Edge:=Edge.mk (0 : Nat) Ground.data;let Z8 : Edge:=Edge.mk (3 : Nat) Ground.data;let Z9 : Array Edge := #[Edge.mk (4 : Nat) Ground.data];let Z10 : Edge:=Edge.mk (5 : Nat) Ground.data;let Z11 : Edge:=Edge.mk (3 : Nat) Ground.chain;let Z12 : Edge:=Edge.mk (0 : Nat) Ground.phase;let Z13 : Edge:=Edge.mk (1 : Nat) Ground.phase;let Z14 : Edge:=Edge.mk (2 : Nat) Ground.phase;let Z15 : Edge:=Edge.mk (3 : Nat) Ground.phase;let Z16 : Edge:=Edge.mk (4 : Nat) Ground.phase;let Z17 : Edge:=Edge.mk (5 : Nat) Ground.phase;let Z18 : Int:=List.getD cs Z2.toNat (0 : Int);let Z19 : Int:=if Z18 < (0 : Int) then (0 : Int) else Z18;let Z20 : List Item:=[]++rdW cs key (160 : Nat) Z19;bif Qe Z0 then bif (↑Z0 : Int) != (771 : Int) then Z1 else bif decide (Z2 < (0 : Int)) then Z1 else bif Nat.beq Z0 Z0 && decide ((0 : Int) <= Z2 /\ Z2 < (↑Z0 : Int)) then bif Nat.beq Z0 Z0 then bif cdec (Code.region (2 : Nat) #[Oper.mk (some (5 : Nat)) (Op.assign (Operand.tmp (10 : Nat))) (3 : Nat) "chain.go:174" #[] Z3] false=redA) && cdec (Code.block (1 : Nat) (Code.seq (Code.region (3 : Nat) #[Oper.mk (some (11 : Nat)) (Op.load (35 : Nat) (Operand.tmp (2 : Nat))) (35 : Nat) "chain.go:175" #[] Z3,Oper.mk (some (12 : Nat)) Z4 (3 : Nat) "chain.go:175" #[] Z3,Oper.mk (some (13 : Nat)) (Op.call (Call.mk (Callee.value (Operand.func (30 : Nat))) #[Operand.tmp (12 : Nat)] #[(3 : Nat)])) (3 : Nat) "chain.go:175" #[Z5] Z3,Oper.mk (some (14 : Nat)) (Op.call (Call.mk (Callee.value (Operand.func (33 : Nat))) #[Operand.tmp (13 : Nat),Operand.const (Value.int .i64 (2 : Int)),Operand.const (Value.bool true)] #[(3 : Nat),(3 : Nat),(4 : Nat)])) (3 : Nat) "chain.go:175" #[Z6,Edge.mk (2 : Nat) Ground.chain] Z3,Oper.mk (some (15 : Nat)) (Op.indexAddr (35 : Nat) (Operand.tmp (11 : Nat)) (Operand.tmp (14 : Nat))) (0 : Nat) "chain.go:175" #[Z7,Z8] Z3,Oper.mk (some (16 : Nat)) (Op.load (3 : Nat) (Operand.tmp (15 : Nat))) (3 : Nat) "chain.go:175" Z9 Z3,Oper.mk (some (6 : Nat)) (Op.assign (Operand.tmp (16 : Nat))) (3 : Nat) "chain.go:175" #[Z10,Z11,Z12,Z13,Z14,Z15,Z16,Z17] Z3] true) (Code.region (4 : Nat) #[Oper.mk (some (17 : Nat)) (Op.load (33 : Nat) (Operand.tmp (4 : Nat))) (33 : Nat) "chain.go:176" #[] Z3,Oper.mk (some (18 : Nat)) (Op.load (3 : Nat) (Operand.tmp (3 : Nat))) (3 : Nat) "chain.go:176" #[] Z3,Oper.mk (some (19 : Nat)) Z4 (3 : Nat) "chain.go:176" #[] Z3,Oper.mk (some (20 : Nat)) (Op.call (Call.mk (Callee.value (Operand.func (29 : Nat))) #[Operand.tmp (19 : Nat)] #[(3 : Nat)])) (3 : Nat) "chain.go:176" #[Z6] Z3,Oper.mk (some (21 : Nat)) (Op.move (Operand.tmp (6 : Nat))) (3 : Nat) "chain.go:176" #[] Z3,Oper.mk (some (22 : Nat)) (Op.binOp BinOp.and (3 : Nat) (Operand.tmp (21 : Nat)) (Operand.const (Value.int .i64 (255 : Int))) (3 : Nat)) (3 : Nat) "chain.go:176" Z9 Z3,Oper.mk (some (23 : Nat)) (Op.build (39 : Nat) #[(0,Operand.tmp (18 : Nat)),(1,Operand.tmp (20 : Nat)),(2,Operand.tmp (22 : Nat))]) (39 : Nat) "chain.go:176" #[Z5,Z8,Z10] Z3,Oper.mk (some (24 : Nat)) (Op.buildSlice (33 : Nat) (1 : Nat) #[(0,Operand.tmp (23 : Nat))]) (33 : Nat) "chain.go:176" #[Edge.mk (6 : Nat) Ground.data] Z3,Oper.mk (some (25 : Nat)) (Op.call (Call.mk (Callee.builtin Builtin.append) #[Operand.tmp (17 : Nat),Operand.tmp (24 : Nat)] #[(33 : Nat),(33 : Nat)])) (33 : Nat) "chain.go:176" #[Z7,Edge.mk (7 : Nat) Ground.data,Z11] Z3,Oper.mk none (Op.store (33 : Nat) (Operand.tmp (4 : Nat)) (Operand.tmp (25 : Nat))) (0 : Nat) "chain.go:176" #[Edge.mk (8 : Nat) Ground.data,Edge.mk (8 : Nat) Ground.chain,Z12,Z13,Z14,Z15,Z16,Z17,Edge.mk (6 : Nat) Ground.phase,Edge.mk (7 : Nat) Ground.phase,Edge.mk (8 : Nat) Ground.phase] Z3] true))=redB) && true && decide (Z0=Z0) && decide (Z0=Z0) && decide (key=key) && true && cdec (AtW cs key Z19 (0 : Nat)) && true then bif Nat.beq Z20.length Z20.length then some (D.sl RTy.item false Z20,[some (Obj.vec RTy.int true cs)]) else none else none else none else none else none):=by kernel_rfl
noncomputable def Qa0 (cs:List Int) (key:Int):RT RC:=.leaf .ret [(0,.sl (C:=RC) .item false (rdW cs key 160 (wh (cs.getD (21+key).toNat 0))))] [.vec .int true cs]
def JX (cs:List Int) (key:Int):Prop:=OkRd cs key
noncomputable def JD:FunR RC Qdn where
 k:=1
 args q:=Qb2 q.cs q.key
 objs q:=Kw q.cs q.key
 fin q:=Qa0 q.cs q.key
 Inv q:=JX q.cs q.key
theorem Qlu (cs:List Int) (key:Int) (hI:JX cs key):Leaf (Qf9 cs key) (LedF JD ⟨cs,key⟩):=by
 (rw [Qlt];conv=>zeta)
 unfold JX at hI;have e1:∀ X:Code,X=redA->cdec (X=redA)=true:=fun X hX=>QK hX;have e2:∀ X:Code,X=redB->cdec (X=redB)=true:=fun X hX=>QK hX;rw [e1,e2];rotate_left
 · rfl
 · rfl
 obtain ⟨hA,hcs⟩:=hI.start;obtain ⟨_,k0,k1⟩:=hI;have lk:Qe cs.length=true:=Qu (by omega)
 have c2:((cs.length:Int) != 771)=false:=QiG (by omega)
 have lr:lRow 21 key 24=21+key:=by unfold lRow;rw [if_pos ⟨k0,k1⟩]
 have c3:decide (21+key < 0)=false:=decide_eq_false (by omega)
 have c4:decide (0 <= 21+key /\ 21+key < (cs.length:Int))=true:=decide_eq_true (by omega)
 have hb:∀ n:Nat,Nat.beq n n=true:=fun n=>by simp
 have hw:(if cs.getD (21+key).toNat 0 < 0 then 0 else cs.getD (21+key).toNat 0)=wh (cs.getD (21+key).toNat 0):=rfl
 have k1:cdec (AtW cs key (wh (cs.getD (21+key).toNat 0)) 0)=true:=QK hA;simp only [lk,c2,lr,c3,c4,hb,hw,k1,decide_true,Bool.and_self,cond_true,cond_false,List.nil_append];exact QcQ [.vec .int true cs] rfl rfl
noncomputable def Qb3 (env:Env RC) (os:List (Obj RC)):Option (Bool × Qdn):=match env,os with
 | [(0,.vs 0 x0),(1,.int .i64 key)],[.vec .int true cs]=>QO (true) (decide (x0=cs.length) && cdec (OkRd cs key),⟨cs,key⟩)
 | _,_=>none
noncomputable def ul_2:=ul_1.addObj 11 (sumF s18 [.slot 0 0] 2 JD Qb3)
theorem Qlv:Qh Tryz.prog s18 ul_2:=by
 refine Qls.addFun Qc JD 60 2 [.slot 0 0] Qb3 (fun q hI=>?_) ?_
 · obtain ⟨cs,key⟩:=q;refine ⟨?_,?_,rfl,Qlu cs key hI⟩
   · simp [Qj,JD,Qb2,Kw,eargs,D.refs,Obj.refs]
   · simp [JD,Qa0,Kw,RT.refsOK,Qj,D.refs,Obj.refs]
 · intro env os b q hd_ hb;unfold Qb3 at hd_
   split at hd_
   · obtain ⟨hs,hd_⟩:=Qg hd_;cases hd_
     try simp only [Bool.and_eq_true,decide_eq_true_eq] at hb
     obtain ⟨rfl,hb⟩:=hb;exact ⟨QG.1 hb,rfl,rfl⟩
   · cases hd_
structure Qdo where
 c:Bool
 l:List Item
 s:Int
 w:Int
 i:Nat
noncomputable def Qb4 (c:Bool) (l:List Item) (s:Int) (w:Int) (i:Nat):Env RC:=[(0,.sl (C:=RC) .item c l),(1,.int .i64 s),(2,.int .i64 w),(6,.bool false),(7,.int .i64 (i:Int))]
def Kx (c:Bool) (l:List Item) (s:Int) (w:Int) (i:Nat):List (Obj RC):=[]
noncomputable def Qga (c:Bool) (l:List Item) (s:Int) (w:Int) (i:Nat):=rndO s18 ul_2 12 2 40 0 [0,1,2,6,7] [6] [] (Qb4 c l s w i) (Kx c l s w i)
theorem Qlw (c:Bool) (l:List Item) (s:Int) (w:Int) (i:Nat):Qga c l s w i=(let Z0:Int:=(↑i:Int);let Z1:Bool:=decide ((0:Int) <= Z0 /\ Z0 < (↑l.length:Int));let Z2:Int:=Item.place (List.getD l Z0.toNat (Item.mk (0:Int) (0:Int) (0:Int)));bif Qe l.length then bif decide (Z0 < (↑l.length:Int)) then bif Z1 then bif decide (Z2 <= s) then bif Z1 then some ((X.ret,[(6,D.bool (plc w == Z2))]),[]) else none else some ((X.normal,[(0,D.sl RTy.item c l),(1,D.int .i64 s),(2,D.int .i64 w),(6,D.bool false),(7,D.int .i64 (IntKind.wrap .i64 (Z0+(1:Int))))]),[]) else none else some ((X.exit (0:Nat),[(6,D.bool false)]),[]) else none):=by kernel_rfl
noncomputable def YX (c:Bool) (l:List Item) (s:Int) (w:Int) (i:Nat):RT RC:=.br ((l.drop i).any fun x=>decide (x.place <= s)) (.leaf .ret [(6,.bool (plc w == (((l.drop i).find? fun x=>decide (x.place <= s)).getD ⟨0,0,0⟩).place))] []) (.leaf (.exit 0) [(6,.bool false)] [])
def YY (c:Bool) (l:List Item) (s:Int) (w:Int) (i:Nat):Prop:=i <= l.length /\ l.length <= 9223372036854775807
noncomputable def Ye:QV RC Qdo where
 k:=0
 canon q:=Qb4 q.c q.l q.s q.w q.i
 objs q:=Kx q.c q.l q.s q.w q.i
 fin q:=YX q.c q.l q.s q.w q.i
 Inv q:=YY q.c q.l q.s q.w q.i
 μ q:=q.l.length - q.i
theorem Qdp (c:Bool) (l:List Item) (s:Int) (w:Int) (i:Nat) (hI:YY c l s w i):Leaf (Qga c l s w i) (LedR Ye ⟨c,l,s,w,i⟩):=by
 (rw [Qlw];conv=>zeta)
 unfold YY at hI;obtain ⟨h1,h2⟩:=hI;have hlk0:Qe l.length=true:=Qu h2
 by_cases hlt:i < l.length
 · have w_succ:IntKind.i64.wrap ((i:Int)+1)=((i+1:Nat):Int):=by rw [Qq (by omega) (by omega)];simp
   have d_lt:decide ((i:Int) < l.length)=true:=by simp;omega
   have d_in:decide (0 <= (i:Int) /\ (i:Int) < l.length)=true:=by simp;omega
   have t_nat:((i:Int)).toNat=i:=by simp
   simp only [w_succ,d_lt,d_in,t_nat,cond_true];have e:l.getD i (⟨0,0,0⟩:Item)=l[i]:=by simp [hlt]
   have hd:l.drop i=l[i]::l.drop (i+1):=List.drop_eq_getElem_cons hlt;rw [e];simp only [hlk0,cond_true];cases c1:decide (l[i].place <= s)
   · simp only [cond_false];exact QL ⟨c,l,s,w,i+1⟩ ⟨hlt,h2⟩ (by simp only [Ye];omega) (by simp only [Ye,YX,hd,List.any_cons,List.find?_cons,c1,Bool.false_or]) rfl rfl
   · simp only [cond_true];exact Zy [] (by simp only [Ye,YX,hd,List.any_cons,List.find?_cons,c1,Bool.true_or,RT.val,cond_true];rfl) rfl
 · have hi:i=l.length:=by omega
   have c1:decide ((i:Int) < l.length)=false:=by simp;omega
   rw [hlk0,c1];exact QA [] (by simp [Ye,YX,hi,RT.val]) rfl
noncomputable def Qb5 (env:Env RC) (os:List (Obj RC)):Option (Bool × Qdo):=match env,os with
 | [(0,.sl .item c l),(1,.int .i64 s),(2,.int .i64 w),(6,.bool false),(7,.int .i64 x0)],[]=>QO (true) (decide (x0=0) && decide (l.length <= 9223372036854775807),⟨c,l,s,w,0⟩)
 | _,_=>none
noncomputable def ul_3:=ul_2.addLoop 12 2 (sumR s18 [] [0,1,2,6,7] Ye Qb5)
theorem Qlx:Qh Tryz.prog s18 ul_3:=by
 refine Qlv.addRoundsR Qc (by kernel_rfl) Ye 40 [0,1,2,6,7] [6] [] [0,1,2,6,7] Qb5 (fun q hI=>?_) ?_
 · obtain ⟨c,l,s,w,i⟩:=q;refine ⟨?_,?_,Qdp c l s w i hI⟩
   · simp_all [Qj,Ye,Qb4,Kx,YY,D.refs,Obj.refs,rEnc]
   · simp_all [Ye,YX,Kx,YY,RT.refsOK,Qj,D.refs,Obj.refs,rEnc]
 · intro env os b q hd_ hb;unfold Qb5 at hd_
   split at hd_
   · obtain ⟨hs,hd_⟩:=Qg hd_;cases hd_;simp only [Bool.and_eq_true,decide_eq_true_eq] at hb;obtain ⟨rfl,hl⟩:=hb;exact ⟨⟨Nat.zero_le _,hl⟩,rfl,rfl⟩
   · cases hd_
noncomputable def Qa1 (c:Bool) (l:List Item) (s:Int) (w:Int):Option (Bool × D RC):=some (Qe l.length,.bool (match l.find? (fun x=>decide (x.place <= s)) with | some x=>plc w == x.place | none=>w == 0))
noncomputable def Qag:List (D RC)->Option (Bool × D RC)
 | [.sl .item c l,.int .i64 s,.int .i64 w]=>Qa1 c l s w
 | _=>none
noncomputable def Qa2 (c:Bool) (l:List Item) (s:Int) (w:Int):=evF s18 ul_3 40 12 [.sl (C:=RC) .item c l,.int .i64 s,.int .i64 w]
theorem Qer (c:Bool) (l:List Item) (s:Int) (w:Int):Qa2 c l s w=(bif decide (List.length l <= (9223372036854775807:Nat)) then bif List.any (List.drop (0:Nat) l) fun (x:Item)=>decide (Item.place x <= s) then some (D.bool (plc w == Item.place (Option.getD (List.find? (fun (x:Item)=>decide (Item.place x <= s)) (List.drop (0:Nat) l)) (Item.mk (0:Int) (0:Int) (0:Int))))) else some (D.bool (w == (0:Int))) else none):=by kernel_rfl
theorem Qes (c:Bool) (l:List Item) (s:Int) (w:Int) (h:(Qe l.length)=true):Qa2 c l s w=some (.bool (match l.find? (fun x=>decide (x.place <= s)) with | some x=>plc w == x.place | none=>w == 0)):=by
 rw [Qer];rw [decide_eq_true (Jo h),cond_true,List.drop_zero];cases hf:l.find? (fun x=>decide (x.place <= s)) with
 | none =>
  have:(l.any fun x=>decide (x.place <= s))=false:=by
   rw [List.any_eq_false];intro x hx;exact List.find?_eq_none.1 hf x hx
  rw [this];rfl
 | some x =>
  have h2:=List.find?_some hf;have:(l.any fun x=>decide (x.place <= s))=true:=List.any_eq_true.2 ⟨x,List.mem_of_find?_eq_some hf,h2⟩;rw [this];rfl
noncomputable def ul_4:=ul_3.addSpec 12 Qag
theorem Qly:Qh Tryz.prog s18 ul_4:=Qlx.addEv Qc fun args d h=>by
 unfold Qag at h
 split at h
 · unfold Qa1 at h;have h1:=congrArg Prod.fst (Option.some.inj h);obtain rfl:_=d:=congrArg Prod.snd (Option.some.inj h);exact ⟨by simp [D.refs],40,Qes _ _ _ _ h1⟩
 · cases h
open Go.Proofs
theorem Qet:Jp s18 RTy.int=eqI:=rfl
structure Qlz where
 c:Bool
 cs:List Int
 k:Int
 was:Int
 w:Int
 seen:List (Int × Bool)
noncomputable def QlA (c:Bool) (cs:List Int) (k:Int) (was:Int) (w:Int) (seen:List (Int × Bool)):Env RC:=[(0,.sl (C:=RC) .int c cs),(2,.bool false),(3,.mp 0),(4,.int .i64 k),(5,.int .i64 was),(6,.int .i64 w)]
def Qa3 (c:Bool) (cs:List Int) (k:Int) (was:Int) (w:Int) (seen:List (Int × Bool)):List (Obj RC):=[.map .int .bool seen]
noncomputable def QoT (c:Bool) (cs:List Int) (k:Int) (was:Int) (w:Int) (seen:List (Int × Bool)):=rndO s18 ul_4 10 9 60 1 [0,2,3,4,5,6] [2] [.slot 3 0] (QlA c cs k was w seen) (Qa3 c cs k was w seen)
theorem QqP (c:Bool) (cs:List Int) (k:Int) (was:Int) (w:Int) (seen:List (Int × Bool)):QoT c cs k was w seen=(let Z0:RO_:=some ((X.ret,[(2,D.bool false)]),[some (Obj.map RTy.int RTy.bool seen)]);let Z1:Int:=bare w;let Z2:Bool:=Qe cs.length;let Z3:Int:=(↑cs.length:Int);let Z4:Int:=cellO Z1 (0:Int) true;let Z5:Bool:=decide ((0:Int) <= Z4);let Z6:RO_:=bif Z2 then bif Z3 == (771:Int) then bif Z5 then Z0 else Z0 else Z0 else none;let Z7:Int:=Int.fdiv Z1 (256:Int);let Z8:Int:=bits .i64 (fun (x:Nat) (u v:BitVec x)=>u &&& v) Z7 (4095:Int);let Z9:Int:=Zv Z1 % (256:Int);let Z10:Int:=cellO Z1 (2:Int) true;let Z11:Int:=List.getD cs Z10.toNat (0:Int);let Z12:Int:=cellO Z1 (1:Int) true;bif w != (0:Int) then bif decide (w < (0:Int)) then Z0 else bif decide (plc w < (1:Int)) then Z0 else bif decide (was <= plc w) then Z0 else bif decide (Z1 < (0:Int)) then Z6 else bif decide ((1099510841343:Int) < Z1) then Z6 else bif Z2 then bif Z3 == (771:Int) then bif Z5 then bif decide ((0:Int) < Z8) then bif decide (Z8 <= (1023:Int)) then bif Z7 == Z8 then bif decide ((0:Int) <= Z4 /\ Z4 < Z3) then bif !List.getD cs Z4.toNat (0:Int) == IntKind.wrap .i64 (IntKind.wrap .i64 (Z8 * (2:Int))+(1:Int)) then Z0 else bif Option.getD (mget (Jp s18 RTy.int) Z9 seen) false then Z0 else bif decide ((0:Int) <= Z10 /\ Z10 < Z3) then bif decide (Z11 < (0:Int)) then Z0 else bif Int.fdiv Z11 (256:Int) != k then Z0 else bif decide ((0:Int) <= Z12 /\ Z12 < Z3) then some ((X.normal,[(0,D.sl RTy.int c cs),(2,D.bool false),(3,D.mp (0:Nat)),(4,D.int .i64 k),(5,D.int .i64 (plc w)),(6,D.int .i64 (List.getD cs Z12.toNat (0:Int)))]),[some (Obj.map RTy.int RTy.bool (mput (Jp s18 RTy.int) Z9 true seen))]) else none else none else none else Z0 else Z0 else Z0 else Z0 else Z0 else none else some ((X.exit (2:Nat),[(2,D.bool false)]),[some (Obj.map RTy.int RTy.bool seen)])):=by kernel_rfl
noncomputable def Ky (c:Bool) (cs:List Int) (k:Int) (was:Int) (w:Int) (seen:List (Int × Bool)):RT RC:=.leaf (.exit 2) [(2,.bool false)] (Qa3 c cs k was w (rgW cs 101 w was seen))
def JE (c:Bool) (cs:List Int) (k:Int) (was:Int) (w:Int) (seen:List (Int × Bool)):Prop:=RgI cs k was w seen
noncomputable def JF:QV RC Qlz where
 k:=1
 canon q:=QlA q.c q.cs q.k q.was q.w q.seen
 objs q:=Qa3 q.c q.cs q.k q.was q.w q.seen
 fin q:=Ky q.c q.cs q.k q.was q.w q.seen
 Inv q:=JE q.c q.cs q.k q.was q.w q.seen
 μ q:=q.was.toNat
theorem QhL (c:Bool) (cs:List Int) (k:Int) (was:Int) (w:Int) (seen:List (Int × Bool)) (hI:JE c cs k was w seen):Leaf (QoT c cs k was w seen) (LedR JF ⟨c,cs,k,was,w,seen⟩):=by
 (rw [QqP];conv=>zeta)
 unfold JE at hI;obtain ⟨K,m,p,hR,h1,rfl,h2,h3,h4,hS⟩:=hI;have hm:=hR.mle
 by_cases hp:p=0
 · subst hp;have hz:rgW cs 101 (wP 0) was seen=seen:=by unfold rgW;rw [if_pos wP_0]
   rw [show (wP 0 != 0)=false from rfl,cond_false];exact QA (Qa3 c cs k was (wP 0) seen) (by simp only [JF,Ky,hz,RT.val]) rfl
 · have hp1:1 <= p:=by omega
   have hk:=h2.resolve_left hp;have hst:=QnW hR hp1 h1 was seen;have hnot:=hS.not hp1 h1 hm hk h3;have hS':=hS.step hp1 h1 hm hk h3;obtain ⟨q,q1,q2,q3⟩:=hR.nx p hp1 h1;obtain ⟨v,v0,v1,v2⟩:=hR.val p hp1 h1;have hgen:=hR.gen p hp1 h1;have hnx:=hR.nxt hp1 h1;have hb:=ZM hp1 (show p <= 100 by omega)
   have hpl:=ZZ (show p <= 100 by omega)
   have hgt:=Qat hp1;rw [hb] at hst hnot hS';rw [hpl] at hst;have hcs:=hR.len;have a0:cellO (255+(p:Int)) 0 true=288+3 * (p:Int):=by rw [Q0 hp1 (by omega) (by omega) (by omega)];omega
   have a1:cellO (255+(p:Int)) 1 true=289+3 * (p:Int):=by rw [Q0 hp1 (by omega) (by omega) (by omega)];omega
   have a2:cellO (255+(p:Int)) 2 true=290+3 * (p:Int):=by rw [Q0 hp1 (by omega) (by omega) (by omega)];omega
   have n0:(288+3 * (p:Int)).toNat=288+3 * p:=by omega
   have n1:(289+3 * (p:Int)).toNat=289+3 * p:=by omega
   have n2:(290+3 * (p:Int)).toNat=290+3 * p:=by omega
   have g1:(255+(p:Int)).fdiv 256=1:=by rw [Int.fdiv_eq_ediv_of_nonneg _ (by decide)];omega
   have g2:bits IntKind.i64 (fun x u v=>u &&& v) 1 4095=1:=by decide
   have f1:(K p * 256+v).fdiv 256=k:=by rw [Int.fdiv_eq_ediv_of_nonneg _ (by decide),hk];omega
   have kr:=hR.Kr p hp1 h1;have c1:(wP p != 0)=true:=by simp;omega
   have c2:decide (wP p < 0)=false:=decide_eq_false (by omega)
   have c3:decide ((p:Int) < 1)=false:=decide_eq_false (by omega)
   have c4:decide (was <= (p:Int))=false:=decide_eq_false (by omega)
   have c5:decide (255+(p:Int) < 0)=false:=decide_eq_false (by omega)
   have c6:decide (1099510841343 < 255+(p:Int))=false:=decide_eq_false (by omega)
   have c7:Qe 771=true:=by decide
   have c8:decide (0 <= 288+3 * (p:Int))=true:=decide_eq_true (by omega)
   have c9:decide (0 <= 288+3 * (p:Int) /\ 288+3 * (p:Int) < ((771:Nat):Int))=true:=decide_eq_true (by omega)
   have d1:decide (0 <= 289+3 * (p:Int) /\ 289+3 * (p:Int) < ((771:Nat):Int))=true:=decide_eq_true (by omega)
   have d2:decide (0 <= 290+3 * (p:Int) /\ 290+3 * (p:Int) < ((771:Nat):Int))=true:=decide_eq_true (by omega)
   have d3:decide (K p * 256+v < 0)=false:=decide_eq_false (by omega)
   have d4:((((771:Nat):Int)) == 771)=true:=rfl;have d5:decide ((0:Int) < 1)=true:=rfl;have d6:decide ((1:Int) <= 1023)=true:=rfl;have d7:((1:Int) == 1)=true:=rfl;have d8:IntKind.i64.wrap (IntKind.i64.wrap (1 * 2)+1)=3:=by decide
   have d9:((3:Int) == 3)=true:=rfl;have e1:(k != k)=false:=by simp
   simp only [c1,c2,hpl,hb,c3,c4,c5,c6,hcs,c7,d4,a0,a1,a2,c8,g1,g2,d5,d6,d7,c9,n0,n1,n2,hgen,d8,d9,Bool.not_true,Qet,hnot,Option.getD_none,d2,v2,d3,f1,e1,d1,cond_true,cond_false];exact QL (S:=JF) (s:=⟨c,cs,k,was,wP p,seen⟩) ⟨c,cs,k,(p:Int),cs.getD (289+3 * p) 0,mput eqI (Zv (255+(p:Int)) % 256) true seen⟩ ⟨K,m,q,hR,by omega,q2,q3.imp id fun h=>by rw [h,hk],by show (q:Int) < (p:Int);omega,by show (p:Int) <= 1048576;omega,hS'⟩ (by simp only [JF];omega) (by simp only [JF,Ky,hst,hnx];rfl) rfl rfl
noncomputable def QlB (env:Env RC) (os:List (Obj RC)):Option (Bool × Qlz):=match env,os with
 | [(0,.sl .int c cs),(2,.bool false),(3,.mp 0),(4,.int .i64 k),(5,.int .i64 was),(6,.int .i64 w)],[.map .int .bool seen]=>QO (true) (cdec (RgI cs k was w seen) && true,⟨c,cs,k,was,w,seen⟩)
 | _,_=>none
noncomputable def um_1:=ul_4.addLoop 10 9 (sumR s18 [.slot 3 0] [0,2,3,4,5,6] JF QlB)
theorem QlC:Qh Tryz.prog s18 um_1:=by
 refine Qly.addRoundsR Qc (by kernel_rfl) JF 60 [0,2,3,4,5,6] [2] [.slot 3 0] [0,2,3,4,5,6] QlB (fun q hI=>?_) ?_
 · obtain ⟨c,cs,k,was,w,seen⟩:=q;refine ⟨?_,?_,QhL c cs k was w seen hI⟩
   · simp_all [Qj,JF,QlA,Qa3,JE,D.refs,Obj.refs,rEnc]
   · simp_all [JF,Ky,Qa3,JE,RT.refsOK,Qj,D.refs,Obj.refs,rEnc]
 · intro env os b q hd_ hb;unfold QlB at hd_
   split at hd_
   · obtain ⟨hs,hd_⟩:=Qg hd_;cases hd_;simp only [Bool.and_eq_true,decide_eq_true_eq] at hb;exact ⟨QG.1 hb.1,rfl,rfl⟩
   · cases hd_
structure QlD where
 c:Bool
 cs:List Int
 i:Nat
 seen:List (Int × Bool)
noncomputable def QlE (c:Bool) (cs:List Int) (i:Nat) (seen:List (Int × Bool)):Env RC:=[(0,.sl (C:=RC) .int c cs),(2,.bool false),(3,.mp 0),(14,.int .i64 (i:Int))]
def Qa4 (c:Bool) (cs:List Int) (i:Nat) (seen:List (Int × Bool)):List (Obj RC):=[.map .int .bool seen]
noncomputable def QoU (c:Bool) (cs:List Int) (i:Nat) (seen:List (Int × Bool)):=rndO s18 um_1 10 5 60 1 [0,2,3,14] [2] [.slot 3 0] (QlE c cs i seen) (Qa4 c cs i seen)
theorem QqQ (c:Bool) (cs:List Int) (i:Nat) (seen:List (Int × Bool)):QoU c cs i seen=(let Z0:Int:=(↑i:Int);let Z1:Int:=lRow (21:Int) Z0 (24:Int);let Z2:Int:=List.getD cs Z1.toNat (0:Int);bif decide (Z0 < (24:Int)) then bif decide ((0:Int) <= Z1 /\ Z1 < (↑cs.length:Int)) then bif cdec (RgI cs Z0 (1048576:Int) Z2 seen) && true then some ((X.normal,[(0,D.sl RTy.int c cs),(2,D.bool false),(3,D.mp (0:Nat)),(14,D.int .i64 (IntKind.wrap .i64 (Z0+(1:Int))))]),[some (Obj.map RTy.int RTy.bool (rgW cs (101:Nat) Z2 (1048576:Int) seen))]) else none else none else some ((X.exit (0:Nat),[(2,D.bool false)]),[some (Obj.map RTy.int RTy.bool seen)])):=by kernel_rfl
noncomputable def Qb6 (c:Bool) (cs:List Int) (i:Nat) (seen:List (Int × Bool)):RT RC:=.leaf (.exit 0) [(2,.bool false)] (Qa4 c cs i (rgK cs (24 - i) i seen))
def JG (c:Bool) (cs:List Int) (i:Nat) (seen:List (Int × Bool)):Prop:=i <= 24 /\ RgO cs i seen
noncomputable def Kf:QV RC QlD where
 k:=1
 canon q:=QlE q.c q.cs q.i q.seen
 objs q:=Qa4 q.c q.cs q.i q.seen
 fin q:=Qb6 q.c q.cs q.i q.seen
 Inv q:=JG q.c q.cs q.i q.seen
 μ q:=24 - q.i
theorem QhM (c:Bool) (cs:List Int) (i:Nat) (seen:List (Int × Bool)) (hI:JG c cs i seen):Leaf (QoU c cs i seen) (LedR Kf ⟨c,cs,i,seen⟩):=by
 (rw [QqQ];conv=>zeta)
 unfold JG at hI;obtain ⟨h1,hO⟩:=hI
 by_cases hlt:i < 24
 · have d1:decide ((i:Int) < 24)=true:=decide_eq_true (by omega)
   have w1:IntKind.i64.wrap ((i:Int)+1)=((i+1:Nat):Int):=by rw [Qq (by omega) (by omega)];simp
   have hcs:cs.length=771:=by obtain ⟨K,m,hR,_⟩:=hO;exact hR.len
   have lr:lRow 21 (i:Int) 24=21+(i:Int):=by unfold lRow;rw [if_pos ⟨by omega,by omega⟩]
   have n1:(21+(i:Int)).toNat=21+i:=by omega
   have d2:decide (0 <= 21+(i:Int) /\ 21+(i:Int) < ((771:Nat):Int))=true:=decide_eq_true (by omega)
   have hst:rgK cs (24 - i) i seen=rgK cs (24 - (i+1)) (i+1) (rgW cs 101 (cs.getD (21+i) 0) 1048576 seen):=by
    rw [show 24 - i=(24 - (i+1))+1 by omega];rfl
   have hI':RgI cs i 1048576 (cs.getD (21+i) 0) seen /\ RgO cs (i+1) (rgW cs 101 (cs.getD (21+i) 0) 1048576 seen):=by
    obtain ⟨K,m,hR,hS⟩:=hO;obtain ⟨p,p1,p2,p3⟩:=hR.hd i hlt;have hm:=hR.mle;rw [p2];refine ⟨⟨K,m,p,hR,p1,rfl,p3,by omega,Int.le_refl _,hS⟩,K,m,hR,?_⟩
    have:=Qf8 hR 101 p 1048576 seen p1 p3 (by omega) hS
    simpa using this
   simp only [d1,w1,lr,n1,hcs,d2,cond_true];have k1:=QK hI'.1;simp only [k1,cond_true];exact QL (S:=Kf) (s:=⟨c,cs,i,seen⟩) ⟨c,cs,i+1,rgW cs 101 (cs.getD (21+i) 0) 1048576 seen⟩ ⟨hlt,hI'.2⟩ (by simp only [Kf];omega) (by simp only [Kf,Qb6,hst];rfl) rfl rfl
 · have e:i=24:=by omega
   subst e;have d1:decide (((24:Nat):Int) < 24)=false:=by decide
   rw [d1];exact QA (Qa4 c cs 24 seen) rfl rfl
noncomputable def QlF (env:Env RC) (os:List (Obj RC)):Option (Bool × QlD):=match env,os with
 | [(0,.sl .int c cs),(2,.bool false),(3,.mp 0),(14,.int .i64 x0)],[.map .int .bool seen]=>QO (true) (decide (x0=0) && cdec (RgO cs 0 seen),⟨c,cs,0,seen⟩)
 | _,_=>none
noncomputable def um_2:=um_1.addLoop 10 5 (sumR s18 [.slot 3 0] [0,2,3,14] Kf QlF)
theorem QlG:Qh Tryz.prog s18 um_2:=by
 refine QlC.addRoundsR Qc (by kernel_rfl) Kf 60 [0,2,3,14] [2] [.slot 3 0] [0,2,3,14] QlF (fun q hI=>?_) ?_
 · obtain ⟨c,cs,i,seen⟩:=q;refine ⟨?_,?_,QhM c cs i seen hI⟩
   · simp_all [Qj,Kf,QlE,Qa4,JG,D.refs,Obj.refs,rEnc]
   · simp_all [Kf,Qb6,Qa4,JG,RT.refsOK,Qj,D.refs,Obj.refs,rEnc]
 · intro env os b q hd_ hb;unfold QlF at hd_
   split at hd_
   · obtain ⟨hs,hd_⟩:=Qg hd_;cases hd_;simp only [Bool.and_eq_true,decide_eq_true_eq] at hb;obtain ⟨rfl,hb⟩:=hb;exact ⟨⟨Nat.zero_le _,QG.1 hb⟩,rfl,rfl⟩
   · cases hd_
noncomputable def Qdq (c:Bool) (cs:List Int):Option (Bool × D RC):=some (cdec (OkRt cs),.bool true)
noncomputable def Qa5:List (D RC)->Option (Bool × D RC)
 | [.sl .int c cs]=>Qdq c cs
 | _=>none
noncomputable def Qdr (c:Bool) (cs:List Int):=evF s18 um_2 60 10 [.sl (C:=RC) .int c cs]
theorem QhN (c:Bool) (cs:List Int):Qdr c cs=(bif Qe cs.length then bif (↑cs.length:Int) != (771:Int) then some (D.bool false) else bif cdec (RgO cs (0:Nat) []) then some (D.bool true) else none else none):=by kernel_rfl
theorem QhO (c:Bool) (cs:List Int) (h:(cdec (OkRt cs))=true):Qdr c cs=some (.bool true):=by
 rw [QhN];obtain ⟨K,m,hR⟩:=QG.1 h;have hcs:=hR.len;have k1:cdec (RgO cs 0 [])=true:=QK ⟨K,m,hR,fun x hx=>by simp at hx⟩
 have c2:((((771:Nat):Int)) != 771)=false:=rfl;have c3:Qe 771=true:=by decide
 simp only [hcs,c2,c3,k1,cond_true,cond_false]
noncomputable def um_3:=um_2.addSpec 10 Qa5
theorem QlH:Qh Tryz.prog s18 um_3:=QlG.addEv Qc fun args d h=>by
 unfold Qa5 at h
 split at h
 · unfold Qdq at h;have h1:=congrArg Prod.fst (Option.some.inj h);obtain rfl:_=d:=congrArg Prod.snd (Option.some.inj h);exact ⟨by simp [D.refs],60,QhO _ _ h1⟩
 · cases h
def prevK (K:Nat->Int) (k:Int):Nat->Nat
 | 0=>0
 | q+1=>if 1 <= q /\ K q=k then q else prevK K k q
theorem Qo (K:Nat->Int) (k:Int):∀ q,1 <= q->prevK K k q < q
 | 0,h=>by omega
 | q+1,_=>by
  unfold prevK
  split
  · omega
  · rcases Nat.eq_zero_or_pos q with e | e
    · subst e;simp [prevK]
    · have:=Qo K k q e;omega
theorem Qgb (K:Nat->Int) (k:Int) (q:Nat):prevK K k q <= q:=by
 rcases Nat.eq_zero_or_pos q with e | e
 · subst e;simp [prevK]
 · exact Nat.le_of_lt (Qo K k q e)
theorem prevK_key (K:Nat->Int) (k:Int):∀ q,prevK K k q=0 \/ K (prevK K k q)=k
 | 0=>.inl rfl
 | q+1=>by
  unfold prevK
  split
  · rename_i h;exact .inr h.2
  · exact prevK_key K k q
theorem Zo {K:Nat->Int} {k:Int} {p:Nat} (h1:1 <= p) (hk:K p=k):∀ {q},p < q->p <= prevK K k q
 | 0,h=>by omega
 | q+1,h=>by
  unfold prevK
  split
  · omega
  · rename_i hn;have:p ≠ q:=fun e=>hn (by subst e;exact ⟨h1,hk⟩)
    exact Zo h1 hk (by omega)
theorem Jk {K K':Nat->Int} {k:Int}:∀ {q:Nat},(∀ p,1 <= p->p < q->K' p=K p)->prevK K' k q=prevK K k q
 | 0,_=>rfl
 | q+1,h=>by
  unfold prevK;rw [Jk (fun p h1 h2=>h p h1 (by omega))]
  by_cases hq:1 <= q
  · rw [h q hq (by omega)]
  · rw [if_neg (fun h=>hq h.1),if_neg (fun h=>hq h.1)]
theorem Qa6 {K:Nat->Int} {k:Int} {p q:Nat} (h:p <= q):prevK K k p <= prevK K k q:=by
 rcases Nat.eq_zero_or_pos (prevK K k p) with e | e
 · omega
 · have hp:1 <= p:=by rcases Nat.eq_zero_or_pos p with e' | e';subst e';simp [prevK] at e;exact e'
   have h1:=Qo K k p hp;exact Zo e ((prevK_key K k p).resolve_left (by omega)) (by omega)
structure CG where
 K:Nat->Int
 V:Nat->Int
 n:Nat
 m:Nat
 cut:List Int
def CG.ct (g:CG) (k:Int):Int:=g.cut.getD k.toNat 0
structure QB (g:CG) (cs:List Int):Prop where
 len:cs.length=771
 fits:cellsOK cs=true
 n100:g.n <= 100
 mn:g.m <= g.n
 nm:g.n <= g.m+1
 kr:∀ p,1 <= p->p <= g.n->0 <= g.K p /\ g.K p < 24
 vr:∀ p,1 <= p->p <= g.n->0 <= g.V p /\ g.V p < 256
 hd:∀ k:Nat,k < 24->cs.getD (21+k) 0=wP (prevK g.K k (g.m+1))
 gen:∀ p,1 <= p->p <= g.n->cs.getD (288+3 * p) 0=3
 val:∀ p,1 <= p->p <= g.n->cs.getD (290+3 * p) 0=g.K p * 256+g.V p
 nx:∀ p,1 <= p->p <= g.m->cs.getD (289+3 * p) 0=wP (prevK g.K (g.K p) p) \/ cs.getD (289+3 * p) 0=0 /\ (p:Int) <= g.ct (g.K p)
 nxn:g.n=g.m+1->cs.getD (289+3 * g.n) 0 = -1 \/ cs.getD (289+3 * g.n) 0=wP (prevK g.K (g.K g.n) g.n)
 free:∀ p,g.n < p->p <= 160->cs.getD (289+3 * p) 0 = -1
theorem QB.rok {g:CG} {cs:List Int} (h:QB g cs):ROK cs g.K g.m where
 len:=h.len
 mle:=by have:=h.n100;have:=h.mn;omega
 Kr p h1 h2:=h.kr p h1 (by have:=h.mn;omega)
 hd k hk:=⟨prevK g.K k (g.m+1),by have:=Qo g.K k (g.m+1) (by omega);omega,h.hd k hk,prevK_key _ _ _⟩
 gen p h1 h2:=h.gen p h1 (by have:=h.mn;omega)
 val p h1 h2:=by
  have:=h.mn;obtain ⟨v0,v1⟩:=h.vr p h1 (by omega)
  exact ⟨g.V p,v0,v1,h.val p h1 (by omega)⟩
 nx p h1 h2:=by
  rcases h.nx p h1 h2 with e | ⟨e,_⟩
  · exact ⟨_,Qo _ _ p h1,e,prevK_key _ _ _⟩
  · exact ⟨0,by omega,by rw [e,wP_0],.inl rfl⟩
inductive PhI (g:CG) (cs:List Int) (d:Pick):Frame->List Int->Prop
 | get0 {r:List Int} (hr:r.length=96) (hd:d.do_=1) (h0:r.getD 0 0=d.place) (h1:r.getD 1 0=d.key) (hk:0 <= d.key /\ d.key < 24) (hs:g.ct d.key <= d.place /\ 0 <= d.place /\ d.place <= g.m):PhI g cs d ⟨72,0,r⟩ []
 | get1 {r:List Int} {q:Nat} (hr:r.length=96) (hd:d.do_=1) (h0:r.getD 0 0=d.place) (h1:r.getD 1 0=d.key) (hk:0 <= d.key /\ d.key < 24) (hs:g.ct d.key <= d.place /\ 0 <= d.place /\ d.place <= g.m)
  (hq:q <= g.m) (kq:q=0 \/ g.K q=d.key) (nb:prevK g.K d.key (d.place.toNat+1) <= q):PhI g cs d ⟨72,1,r⟩ [wP q]
 | ins0 {r:List Int} {p:Nat} (hr:r.length=96) (hd:d.do_=0) (hp:1 <= p /\ p <= g.n) (h0:r.getD 0 0=p) (h1:r.getD 1 0=255+(p:Int)) (h2:r.getD 2 0=g.K p) (pl:d.place=p):PhI g cs d ⟨73,0,r⟩ []
 | ins1 {r:List Int} {p q:Nat} (hr:r.length=96) (hd:d.do_=0) (hp:1 <= p /\ p <= g.n) (h0:r.getD 0 0=p) (h1:r.getD 1 0=255+(p:Int)) (h2:r.getD 2 0=g.K p) (pl:d.place=p)
  (hq:q=prevK g.K (g.K p) p \/ p <= q /\ q <= g.m):PhI g cs d ⟨73,1,r⟩ [wP q]
 | ins2 {r:List Int} {p:Nat} {x:Int} (hr:r.length=96) (hd:d.do_=0) (hp:1 <= p /\ p <= g.n) (h0:r.getD 0 0=p) (h1:r.getD 1 0=255+(p:Int)) (h2:r.getD 2 0=g.K p) (pl:d.place=p)
  (h3:r.getD 3 0=wP (prevK g.K (g.K p) p)) (hn:cs.getD (289+3 * p) 0 ≠ -1):PhI g cs d ⟨73,2,r⟩ [x]
 | ins3 {r:List Int} {p:Nat} {x:Int} (hr:r.length=96) (hd:d.do_=0) (hp:1 <= p /\ p <= g.m) (pl:d.place=p):PhI g cs d ⟨73,3,r⟩ [x]
 | cut0 {r:List Int} (hr:r.length=96) (hd:d.do_=2) (h0:r.getD 0 0=d.place) (h1:r.getD 1 0=d.key) (hk:0 <= d.key /\ d.key < 24) (he:0 <= d.place /\ d.place <= g.ct d.key):PhI g cs d ⟨74,0,r⟩ []
 | cut1 {r:List Int} {q:Nat} (hr:r.length=96) (hd:d.do_=2) (h0:r.getD 0 0=d.place) (h1:r.getD 1 0=d.key) (hk:0 <= d.key /\ d.key < 24) (he:0 <= d.place /\ d.place <= g.ct d.key)
  (hq:q <= g.m) (kq:q=0 \/ g.K q=d.key):PhI g cs d ⟨74,1,r⟩ [wP q]
 | cut2 {r:List Int} {a b:Nat} (hr:r.length=96) (hd:d.do_=2) (h0:r.getD 0 0=d.place) (h1:r.getD 1 0=d.key) (hk:0 <= d.key /\ d.key < 24) (he:0 <= d.place /\ d.place <= g.ct d.key)
  (ha:1 <= a /\ a <= g.m) (ka:g.K a=d.key) (h2:r.getD 2 0=wP a) (hb:b=0 \/ b=prevK g.K d.key a):PhI g cs d ⟨74,2,r⟩ [wP b]
 | cut3 {r:List Int} {a y z:Nat} (hr:r.length=96) (hd:d.do_=2) (h0:r.getD 0 0=d.place) (h1:r.getD 1 0=d.key) (hk:0 <= d.key /\ d.key < 24) (he:0 <= d.place /\ d.place <= g.ct d.key)
  (ha:1 <= a /\ a <= g.m) (ka:g.K a=d.key) (h2:r.getD 2 0=wP a) (ae:(a:Int) <= d.place) (h3:r.getD 3 0=wP y) (hy:1 <= y /\ y=prevK g.K d.key a) (hz:z=0 \/ z=prevK g.K d.key y):PhI g cs d ⟨74,3,r⟩ [wP z]
 | cut4n {r:List Int} (hr:r.length=96) (hd:d.do_=2):PhI g cs d ⟨74,4,r⟩ [0]
 | cut4y {r:List Int} {a y:Nat} (hr:r.length=96) (hd:d.do_=2) (ha:1 <= a /\ a <= g.m) (ka:g.K a=d.key) (ae:(a:Int) <= d.place) (h3:r.getD 3 0=wP y) (hy:1 <= y /\ y=prevK g.K d.key a) (hc:cs.getD (289+3 * a) 0=0):PhI g cs d ⟨74,4,r⟩ [1]
 | cut5 {r:List Int} {a y:Nat} {x:Int} (hr:r.length=96) (hd:d.do_=2) (ha:1 <= a /\ a <= g.m) (ka:g.K a=d.key) (ae:(a:Int) <= d.place) (h3:r.getD 3 0=wP y) (hy:1 <= y /\ y=prevK g.K d.key a) (hc:cs.getD (289+3 * a) 0=0):PhI g cs d ⟨74,5,r⟩ [x]
structure Jl (g:CG) (cs:List Int) (g':CG) (cs':List Int):Prop where
 K:∀ p,1 <= p->p <= g.n->g'.K p=g.K p
 n:g.n <= g'.n
 m:g.m <= g'.m
 mn:g.m <= g.n
 ct:∀ k,g.ct k <= g'.ct k
 lk:∀ p,1 <= p->p <= g.n->cs.getD (289+3 * p) 0 ≠ -1->cs'.getD (289+3 * p) 0 ≠ -1
 off:∀ p,1 <= p->p <= g.m->cs.getD (289+3 * p) 0=0->cs'.getD (289+3 * p) 0=0
theorem Jl.prev {g g':CG} {cs cs':List Int} (L:Jl g cs g' cs') (k:Int) {q:Nat} (h:q <= g.n+1):prevK g'.K k q=prevK g.K k q:=Jk fun p h1 h2=>L.K p h1 (by omega)
theorem PhI.later {g g':CG} {cs cs':List Int} {d:Pick} {f:Frame} {got:List Int} (h:PhI g cs d f got) (L:Jl g cs g' cs') (hc:d.do_=1->g'.ct d.key <= d.place):PhI g' cs' d f got:=by
 have hmn:=L.mn;have hn:=L.n;have hm:=L.m
 have kz:∀ q:Nat,q <= g.m->(q=0 \/ g.K q=d.key)->q=0 \/ g'.K q=d.key:=fun q h1 h2=>by
  rcases Nat.eq_zero_or_pos q with e | e
  · exact .inl e
  · exact h2.imp id fun h=>by rw [L.K q e (by omega)];exact h
 cases h with
 | get0 hr hd h0 h1 hk hs=>exact .get0 hr hd h0 h1 hk ⟨hc hd,hs.2.1,by have:=hs.2.2;omega⟩
 | get1 hr hd h0 h1 hk hs hq kq nb=>exact .get1 hr hd h0 h1 hk ⟨hc hd,hs.2.1,by have:=hs.2.2;omega⟩ (by omega) (kz _ hq kq) (by rw [L.prev _ (by have:=hs.2.2;omega)];exact nb)
 | ins0 hr hd hp h0 h1 h2 pl=>exact .ins0 hr hd ⟨hp.1,by omega⟩ h0 h1 (by rw [L.K _ hp.1 hp.2];exact h2) pl
 | ins1 hr hd hp h0 h1 h2 pl hq=>exact .ins1 hr hd ⟨hp.1,by omega⟩ h0 h1 (by rw [L.K _ hp.1 hp.2];exact h2) pl (by rw [L.K _ hp.1 hp.2,L.prev _ (by omega)];exact hq.imp id fun h=>⟨h.1,by omega⟩)
 | ins2 hr hd hp h0 h1 h2 pl h3 hn'=>exact .ins2 hr hd ⟨hp.1,by omega⟩ h0 h1 (by rw [L.K _ hp.1 hp.2];exact h2) pl (by rw [L.K _ hp.1 hp.2,L.prev _ (by omega)];exact h3) (L.lk _ hp.1 hp.2 hn')
 | ins3 hr hd hp pl=>exact .ins3 hr hd ⟨hp.1,by omega⟩ pl
 | cut0 hr hd h0 h1 hk he=>exact .cut0 hr hd h0 h1 hk ⟨he.1,Int.le_trans he.2 (L.ct _)⟩
 | cut1 hr hd h0 h1 hk he hq kq=>exact .cut1 hr hd h0 h1 hk ⟨he.1,Int.le_trans he.2 (L.ct _)⟩ (by omega) (kz _ hq kq)
 | cut2 hr hd h0 h1 hk he ha ka h2 hb=>exact .cut2 hr hd h0 h1 hk ⟨he.1,Int.le_trans he.2 (L.ct _)⟩ ⟨ha.1,by omega⟩ (by rw [L.K _ ha.1 (by omega)];exact ka) h2 (by rw [L.prev _ (by omega)];exact hb)
 | @cut3 r a y z hr hd h0 h1 hk he ha ka h2 ae h3 hy hz =>
  have hle:=Qgb g.K d.key a;exact .cut3 hr hd h0 h1 hk ⟨he.1,Int.le_trans he.2 (L.ct _)⟩ ⟨ha.1,by omega⟩ (by rw [L.K _ ha.1 (by omega)];exact ka) h2 ae h3 (by rw [L.prev _ (by omega)];exact hy) (by rw [L.prev _ (by omega)];exact hz)
 | cut4n hr hd=>exact .cut4n hr hd
 | cut4y hr hd ha ka ae h3 hy hc'=>exact .cut4y hr hd ⟨ha.1,by omega⟩ (by rw [L.K _ ha.1 (by omega)];exact ka) ae h3 (by rw [L.prev _ (by omega)];exact hy) (L.off _ ha.1 ha.2 hc')
 | cut5 hr hd ha ka ae h3 hy hc'=>exact .cut5 hr hd ⟨ha.1,by omega⟩ (by rw [L.K _ ha.1 (by omega)];exact ka) ae h3 (by rw [L.prev _ (by omega)];exact hy) (L.off _ ha.1 ha.2 hc')
structure NxtP (f:Frame) (got:List Int) (na:NA):Prop where
 e:∀ own,nCh own f got=na
 ok:∀ own,okCh own f got
 may:mayN na.a=true
 kd:na.a.kind=0 \/ na.a.kind=2
 tx:na.a.text=[] /\ na.a.args=[]
 gen:0 <= na.a.gen
structure EndC (f:Frame) (got args:List Int):Prop where
 e:∀ own,(nCh own f got).a=⟨7,0,0,0,0,[],args⟩
 ok:∀ own,okCh own f got
 len:args.length <= 2
def Zt (f:Frame) (got:List Int):Int:=if f.prog=74 /\ (f.at'=4 /\ got=[1] \/ f.at'=5) then f.r.getD 3 0 else 0
def JH (g:CG) (cs:List Int) (y:Nat):Prop := ∃ a,1 <= a /\ a <= g.m /\ prevK g.K (g.K a) a=y /\ cs.getD (289+3 * a) 0=0
structure QnX (g:CG) (d:Pick) (f:Frame) (got args:List Int):Prop where
 i:d.do_=0->d.place <= g.m
 s:d.do_=1->args=[wP (prevK g.K d.key (d.place.toNat+1))]
 c:d.do_=2->args.length=2 /\ args.headD 0=Zt f got /\ (args.headD 0=0 \/ plc (args.headD 0) < d.place)
structure Qau (g:CG) (cs:List Int) (d:Pick) (f:Frame) (got:List Int) (na:NA) (g':CG) (cs':List Int) (x:Int):Prop where
 nx:NxtP f got na
 d4:Vl cs na.a.kind na.a.a na.a.b na.a.v
 ce:doC4 cs na.a.kind na.a.a na.a.b na.a.v=cs'
 xe:doG4 cs na.a.kind na.a.a na.a.b=x
 C:QB g' cs'
 L:Jl g cs g' cs'
 K:g'.K=g.K
 V:g'.V=g.V
 n:g'.n=g.n
 cut:g'.cut=g.cut
 P:PhI g' cs' d na.f [x]
 pd:Zt na.f [x]=Zt f got \/ Zt f got=0 /\ ∃ y,Zt na.f [x]=wP y /\ 1 <= y /\ y <= 100 /\ ¬ JH g cs y /\ JH g' cs' y
theorem Jl.refl {g:CG} {cs:List Int} (h:QB g cs):Jl g cs g cs:=⟨fun _ _ _=>rfl,Nat.le_refl _,Nat.le_refl _,h.mn,fun _=>Int.le_refl _,fun _ _ _ h=>h,fun _ _ _ h=>h⟩
theorem gset {cs:List Int} (n:Nat) (x:Int) (h:n < cs.length) (j:Nat):(cs.set n x).getD j 0=if j=n then x else cs.getD j 0:=by
 by_cases e:j=n
 · subst e;simp [h]
 · rw [if_neg e];simp only [List.getD_eq_getElem?_getD];rw [List.getElem?_set_ne (fun q=>e q.symm)]
theorem QrZ {a g:Int} (h0:0 <= a) (h1:a <= 4095) (g0:0 <= g) (g1:g <= 1000000) (p n:Int) (r:List Int):mayN (naLd p n r a g).a=true:=by
 refine decide_eq_true (p:=MayA 0 a 0 0 g 0 0) (MayA.k0.2 ?_);refine ⟨⟨?_,?_,?_,?_,?_,?_,?_,?_,h0,h1⟩,rfl,rfl,rfl,rfl⟩ <;> omega
theorem Qr0 {a b v g:Int} (h0:0 <= a) (h1:a <= 4095) (b0:-1 <= b) (b1:b <= 104857955) (v0:0 <= v) (v1:v <= 104857955) (g0:0 <= g) (g1:g <= 1000000) (p n:Int) (r:List Int):mayN (naCs p n r a b v g).a=true:=by
 refine decide_eq_true (p:=MayA 2 a b v g 0 0) (MayA.k2.2 ?_);refine ⟨⟨?_,?_,?_,?_,?_,?_,?_,?_,h0,h1⟩,rfl,rfl⟩ <;> omega
theorem Jm {g:CG} {cs:List Int} {d:Pick} {f:Frame} {got r:List Int} {p n a gn:Int} {i:Nat} (hC:QB g cs) (e:∀ own,nCh own f got=naLd p n r a gn) (ok:∀ own,okCh own f got)
 (ai:a=(i:Int)) (hi:i < 771) (g0:0 <= gn) (g1:gn <= 1000000) (hP:PhI g cs d ⟨p,n,r⟩ [cs.getD i 0]) (pd:Zt ⟨p,n,r⟩ [cs.getD i 0]=Zt f got):Qau g cs d f got (naLd p n r a gn) g cs (cs.getD i 0):=by
 have hl:=hC.len;refine ⟨⟨e,ok,QrZ (by omega) (by omega) g0 g1 _ _ _,.inl rfl,⟨rfl,rfl⟩,g0⟩,?_,?_,?_,hC,.refl hC,rfl,rfl,rfl,rfl,hP,.inl pd⟩
 · show Vl cs 0 a 0 0;exact ⟨.inl ⟨rfl,rfl,rfl⟩,by omega,by omega,by decide,by decide,by decide,by decide⟩
 · show doC4 cs 0 a 0 0=cs;unfold doC4;rw [if_neg (by omega),if_neg (by omega)]
 · show doG4 cs 0 a 0=_;unfold doG4;rw [if_pos (.inl rfl),ai];rfl
theorem step_cs {g g':CG} {cs cs':List Int} {d:Pick} {f:Frame} {got r:List Int} {p n a b v gn x:Int} {i:Nat} (hC:QB g cs) (e:∀ own,nCh own f got=naCs p n r a b v gn) (ok:∀ own,okCh own f got)
 (ai:a=(i:Int)) (hi:i < 771) (b0:-1 <= b) (b1:b <= 104857955) (v0:0 <= v) (v1:v <= 104857955) (g0:0 <= gn) (g1:gn <= 1000000)
 (hc:cs.getD i 0=b /\ cs'=cs.set i v /\ x=1 \/ cs.getD i 0 ≠ b /\ cs'=cs /\ x=0) (C:QB g' cs') (L:Jl g cs g' cs') (K:g'.K=g.K) (V:g'.V=g.V) (nn:g'.n=g.n) (cut:g'.cut=g.cut)
 (hP:PhI g' cs' d ⟨p,n,r⟩ [x]) (pd:Zt ⟨p,n,r⟩ [x]=Zt f got \/ Zt f got=0 /\ ∃ y,Zt ⟨p,n,r⟩ [x]=wP y /\ 1 <= y /\ y <= 100 /\ ¬ JH g cs y /\ JH g' cs' y):Qau g cs d f got (naCs p n r a b v gn) g' cs' x:=by
 have hl:=hC.len;have ti:a.toNat=i:=by omega
 refine ⟨⟨e,ok,Qr0 (by omega) (by omega) b0 b1 v0 v1 g0 g1 _ _ _,.inr rfl,⟨rfl,rfl⟩,g0⟩,?_,?_,?_,C,L,K,V,nn,cut,hP,pd⟩
 · show Vl cs 2 a b v;exact ⟨.inr (.inr (.inl rfl)),by omega,by omega,by omega,by omega,by omega,by omega⟩
 · show doC4 cs 2 a b v=cs';unfold doC4;rw [ti];rcases hc with ⟨h1,h2,h3⟩ | ⟨h1,h2,h3⟩
   · rw [if_pos (.inr ⟨rfl,h1⟩),h2]
   · rw [if_neg (fun h=>h.elim (by omega) (fun h=>h1 h.2)),if_neg (by omega),h2]
 · show doG4 cs 2 a b=x;unfold doG4;rw [ti,if_neg (by omega)]
   rcases hc with ⟨h1,h2,h3⟩ | ⟨h1,h2,h3⟩
   · rw [if_pos ⟨rfl,h1⟩,h3]
   · rw [if_neg (fun h=>h1 h.2),h3]
theorem QB.next {g:CG} {cs:List Int} (h:QB g cs) {p:Nat} (h1:1 <= p) (h2:p <= g.m):∃ b,cs.getD (289+3 * p) 0=wP b /\ (b=0 \/ b=prevK g.K (g.K p) p):=by
 rcases h.nx p h1 h2 with e | ⟨e,_⟩
 · exact ⟨_,e,.inr rfl⟩
 · exact ⟨0,by rw [e,wP_0],.inl rfl⟩
theorem Qgc {k:Int} (h:0 <= k /\ k < 24):lRow 21 k 24=21+k:=by unfold lRow;rw [if_pos h]
theorem QB.head {g:CG} {cs:List Int} (h:QB g cs) {k:Int} (hk:0 <= k /\ k < 24):cs.getD (21+k.toNat) 0=wP (prevK g.K k (g.m+1)) /\ prevK g.K k (g.m+1) <= g.m:=by
 have:=h.hd k.toNat (by omega)
 rw [this,show ((k.toNat:Nat):Int)=k by omega]
 exact ⟨rfl,by have:=Qo g.K k (g.m+1) (by omega);omega⟩
theorem rset {r:List Int} (h:r.length=96) (n:Nat) (x:Int) (hn:n < 96) (j:Nat):(r.set n x).getD j 0=if j=n then x else r.getD j 0:=gset n x (by omega) j
theorem QnY {K:Nat->Int} {a b y:Nat} (ha:1 <= a) (hb:1 <= b) (hy:1 <= y) (h1:prevK K (K a) a=y) (h2:prevK K (K b) b=y):a=b:=by
 have k1:=(prevK_key K (K a) a).resolve_left (by omega)
 have k2:=(prevK_key K (K b) b).resolve_left (by omega)
 rw [h1] at k1;rw [h2] at k2;have hab:K a=K b:=by rw [<- k1,k2]
 have la:=Qo K (K a) a ha;have lb:=Qo K (K b) b hb;rcases Nat.lt_trichotomy a b with h | h | h
 · have:=Zo ha hab h;omega
 · exact h
 · have:=Zo hb hab.symm h;omega
theorem QnZ (own:Bool) (k:Int) (r:List Int) (got:List Int):nCh own ⟨72,k,r⟩ got=Ze own k r (got.headD 0):=rfl
theorem Qav (own:Bool) (k:Int) (r:List Int) (got:List Int):nCh own ⟨73,k,r⟩ got=QX own k r (got.headD 0):=rfl
theorem YK (own:Bool) (k:Int) (r:List Int) (got:List Int):nCh own ⟨74,k,r⟩ got=QH own k r (got.headD 0):=rfl
theorem ZC (own:Bool) (p:Int) (r:List Int) {k:Int} (hk:0 <= k /\ k < 24):QJ own p r k=naLd p 1 r (21+k) 0:=by
 unfold QJ;rw [Qgc hk,if_pos (by omega)]
theorem Qa7 (k:Int) (r got:List Int):Zt ⟨72,k,r⟩ got=0:=if_neg (fun h=>by have h1:(72:Int)=74:=h.1;omega)
theorem YF (k:Int) (r got:List Int):Zt ⟨73,k,r⟩ got=0:=if_neg (fun h=>by have h1:(73:Int)=74:=h.1;omega)
theorem pend74 {k:Int} (r got:List Int) (h:k ≠ 4) (h5:k ≠ 5):Zt ⟨74,k,r⟩ got=0:=if_neg (fun q=>q.2.elim (fun q=>h q.1) h5)
theorem okCC {p k:Int} {r got:List Int} (hr:r.length=96) (hg:k=0 /\ got=[] \/ ∃ x,got=[x] /\ 1 <= k) (h:p=72 /\ k <= 1 \/ p=73 /\ k <= 3 \/ p=74 /\ k <= 5 /\ (k=3->plc (r.getD 3 0) <= r.getD 0 0)) (own:Bool):okCh own ⟨p,k,r⟩ got:=⟨hr,hg,h⟩
abbrev Nx (g:CG) (cs:List Int) (d:Pick) (f:Frame) (got:List Int):Prop:=(∃ na g' cs' x,Qau g cs d f got na g' cs' x) \/ ∃ args,EndC f got args /\ QnX g d f got args
section
variable {g:CG} {cs:List Int} {d:Pick} {r:List Int} (hC:QB g cs)
include hC
theorem QqR (hr:r.length=96) (hd:d.do_=1) (h0:r.getD 0 0=d.place) (h1:r.getD 1 0=d.key) (hk:0 <= d.key /\ d.key < 24) (hs:g.ct d.key <= d.place /\ 0 <= d.place /\ d.place <= g.m):Nx g cs d ⟨72,0,r⟩ []:=by
 obtain ⟨e1,e2⟩:=hC.head hk;refine .inl ⟨_,_,_,_,Jm (i:=21+d.key.toNat) hC (p:=72) (n:=1) (r:=r) (a:=21+d.key) (gn:=0) (fun own=>?_) (okCC hr (.inl ⟨rfl,rfl⟩) (.inl ⟨rfl,by decide⟩)) (by omega) (by omega) (by omega) (by omega) ?_ (by rw [Qa7,Qa7])⟩
 · rw [QnZ];unfold Ze;rw [if_pos rfl,h1,ZC own 72 r hk]
 · rw [e1];exact .get1 hr hd h0 h1 hk hs e2 (prevK_key _ _ _) (Qa6 (by omega))
theorem QqS {q:Nat} (hr:r.length=96) (hd:d.do_=1) (h0:r.getD 0 0=d.place) (h1:r.getD 1 0=d.key) (hk:0 <= d.key /\ d.key < 24) (hs:g.ct d.key <= d.place /\ 0 <= d.place /\ d.place <= g.m)
 (hq:q <= g.m) (kq:q=0 \/ g.K q=d.key) (nb:prevK g.K d.key (d.place.toNat+1) <= q):Nx g cs d ⟨72,1,r⟩ [wP q]:=by
 have n100:=hC.n100;have mn:=hC.mn;have hw:wh (wP q)=wP q:=Kj (by omega)
 have hpl:plc (wP q)=q:=ZZ (by omega)
 have hok:∀ own,okCh own ⟨72,1,r⟩ [wP q]:=okCC hr (.inr ⟨_,rfl,by decide⟩) (.inl ⟨rfl,by decide⟩)
 by_cases hlt:d.place < q
 · have q1:1 <= q:=by omega
   have hK:=kq.resolve_left (by omega)
   have hcw:cellO (255+(q:Int)) 1 true=289+3 * (q:Int):=by rw [Q0 q1 (by omega) (by omega) (by omega)];omega
   have hb:=ZM q1 (show q <= 100 by omega)
   refine .inl ⟨_,_,_,_,Jm (i:=289+3 * q) hC (p:=72) (n:=1) (r:=r) (a:=289+3 * (q:Int)) (gn:=255+(q:Int)) (fun own=>?_) hok (by omega) (by omega) (by omega) (by omega) ?_ (by rw [Qa7,Qa7])⟩
   · rw [QnZ];unfold Ze;rw [if_neg (by decide)]
     simp only [List.headD_cons,hw,hpl,hcw,hb,h0];rw [if_pos ⟨hlt,by omega⟩]
   · rcases hC.nx q q1 hq with e | ⟨_,e⟩
     · rw [e,hK];exact .get1 hr hd h0 h1 hk hs (by have:=Qgb g.K d.key q;omega) (prevK_key _ _ _) (Qa6 (by omega))
     · rw [hK] at e;omega
 · refine .inr ⟨[wP q],⟨fun own=>?_,hok,by simp⟩,⟨fun h=>by omega,fun _=>?_,fun h=>by omega⟩⟩
   · rw [QnZ];unfold Ze;rw [if_neg (by decide)]
     simp only [List.headD_cons,hw,hpl,h0];rw [if_neg (fun h=>hlt h.1)];rfl
   · have:q=prevK g.K d.key (d.place.toNat+1):=by
      rcases Nat.eq_zero_or_pos q with e | e
      · omega
      · have:=Zo (K:=g.K) e (kq.resolve_left (by omega)) (show q < d.place.toNat+1 by omega);omega
     rw [<- this]
theorem QqT {p:Nat} (hr:r.length=96) (hd:d.do_=0) (hp:1 <= p /\ p <= g.n) (h0:r.getD 0 0=p) (h1:r.getD 1 0=255+(p:Int)) (h2:r.getD 2 0=g.K p) (pl:d.place=p):Nx g cs d ⟨73,0,r⟩ []:=by
 have hk:=hC.kr p hp.1 hp.2;have nm:=hC.nm;obtain ⟨e1,e2⟩:=hC.head hk;refine .inl ⟨_,_,_,_,Jm (i:=21+(g.K p).toNat) hC (p:=73) (n:=1) (r:=r) (a:=21+g.K p) (gn:=0) (fun own=>?_) (okCC hr (.inl ⟨rfl,rfl⟩) (.inr (.inl ⟨rfl,by decide⟩))) (by omega) (by omega) (by omega) (by omega) ?_ (by rw [YF,YF])⟩
 · rw [Qav];unfold QX;rw [if_pos rfl,h2,ZC own 73 r hk]
 · rw [e1];refine .ins1 hr hd hp h0 h1 h2 pl ?_
   by_cases h:p <= g.m
   · exact .inr ⟨Zo hp.1 rfl (by omega),e2⟩
   · exact .inl (by rw [show g.m+1=p by omega])
theorem QqU {p q:Nat} (hr:r.length=96) (hd:d.do_=0) (hp:1 <= p /\ p <= g.n) (h0:r.getD 0 0=p) (h1:r.getD 1 0=255+(p:Int)) (h2:r.getD 2 0=g.K p) (pl:d.place=p)
 (hq:q=prevK g.K (g.K p) p \/ p <= q /\ q <= g.m):Nx g cs d ⟨73,1,r⟩ [wP q]:=by
 have n100:=hC.n100;have mn:=hC.mn;have nm:=hC.nm;have hl:=hC.len;have hlt:=Qo g.K (g.K p) p hp.1;have q100:q <= 100:=by rcases hq with h | h <;> omega
 have hw:wh (wP q)=wP q:=Kj q100;have hpl:plc (wP q)=q:=ZZ q100;have hok:∀ own,okCh own ⟨73,1,r⟩ [wP q]:=okCC hr (.inr ⟨_,rfl,by decide⟩) (.inr (.inl ⟨rfl,by decide⟩))
 have hcw:cellO (255+(p:Int)) 1 true=289+3 * (p:Int):=by rw [Q0 hp.1 (by omega) (by omega) (by omega)];omega
 by_cases hpq:p <= q
 · have hm:p <= g.m:=by rcases hq with h | h <;> omega
   refine .inr ⟨[],⟨fun own=>?_,hok,by simp⟩,⟨fun _=>by omega,fun h=>by omega,fun h=>by omega⟩⟩
   rw [Qav];unfold QX;rw [if_neg (by decide),if_pos rfl]
   simp only [List.headD_cons,hw,hpl,h0,h1,hcw];rw [if_pos (.inr (by omega))]
   rfl
 · have hqe:q=prevK g.K (g.K p) p:=by rcases hq with h | h;exact h;omega
   have rw0:=YE q100
   have e:∀ own,nCh own ⟨73,1,r⟩ [wP q]=naCs 73 2 (r.set 3 (wP q)) (289+3 * (p:Int)) (-1) (wP q) (255+(p:Int)):=fun own=>by
    rw [Qav];unfold QX;rw [if_neg (by decide),if_pos rfl]
    simp only [List.headD_cons,hw,hpl,h0,h1,hcw];rw [if_neg (by omega)]
   have hP:∀ (g':CG) (cs':List Int) (x:Int),g'=g->cs'.getD (289+3 * p) 0 ≠ -1->PhI g' cs' d ⟨73,2,r.set 3 (wP q)⟩ [x]:=fun g' cs' x hg hn=>by
    subst hg;exact .ins2 (by rw [List.length_set];exact hr) hd hp (by rw [rset hr 3 _ (by omega)];exact h0) (by rw [rset hr 3 _ (by omega)];exact h1) (by rw [rset hr 3 _ (by omega)];exact h2) pl (by rw [rset hr 3 _ (by omega),if_pos rfl,hqe]) hn
   by_cases hc:cs.getD (289+3 * p) 0 = -1
   · have hpn:p=g.n /\ g.n=g.m+1:=by
      have:¬ p <= g.m:=fun h=>by
       rcases hC.nx p hp.1 h with e | ⟨e,_⟩
       · rw [hc] at e;have:=YE (show prevK g.K (g.K p) p <= 100 by omega);omega
       · rw [hc] at e;omega
      omega
     have hi:289+3 * p < cs.length:=by omega
     have hother:∀ j,j ≠ 289+3 * p->(cs.set (289+3 * p) (wP q)).getD j 0=cs.getD j 0:=fun j hj=>by rw [gset _ _ hi,if_neg hj]
     have hself:(cs.set (289+3 * p) (wP q)).getD (289+3 * p) 0=wP q:=by rw [gset _ _ hi,if_pos rfl]
     have hC':QB g (cs.set (289+3 * p) (wP q)):=by
      refine ⟨by rw [List.length_set];exact hl,Zr hC.fits (by omega),n100,mn,nm,hC.kr,hC.vr,fun k hk=>?_,fun p' a b=>?_,fun p' a b=>?_,fun p' a b=>?_,fun _=>?_,fun p' a b=>?_⟩
      · rw [hother _ (by omega)];exact hC.hd k hk
      · rw [hother _ (by omega)];exact hC.gen p' a b
      · rw [hother _ (by omega)];exact hC.val p' a b
      · rw [hother _ (by omega)];exact hC.nx p' a b
      · rw [<- hpn.1,hself,hqe];exact .inr rfl
      · rw [hother _ (by omega)];exact hC.free p' a b
     refine .inl ⟨_,g,cs.set (289+3 * p) (wP q),1,step_cs (i:=289+3 * p) hC e hok (by omega) (by omega) (by omega) (by omega) (by omega) (by omega) (by omega) (by omega) (.inl ⟨hc,rfl,rfl⟩) hC' ⟨fun _ _ _=>rfl,Nat.le_refl _,Nat.le_refl _,mn,fun _=>Int.le_refl _,fun p' a b hn=>?_,fun p' a b hz=>?_⟩ rfl rfl rfl rfl (hP _ _ _ rfl (by rw [hself];omega)) (.inl (by rw [YF,YF]))⟩
     · by_cases h:p'=p
       · subst h;rw [hself];omega
       · rw [hother _ (by omega)];exact hn
     · rw [hother _ (by omega)];exact hz
   · exact .inl ⟨_,g,cs,0,step_cs (i:=289+3 * p) hC e hok (by omega) (by omega) (by omega) (by omega) (by omega) (by omega) (by omega) (by omega) (.inr ⟨hc,rfl,rfl⟩) hC (.refl hC) rfl rfl rfl rfl (hP _ _ _ rfl hc) (.inl (by rw [YF,YF]))⟩
theorem QqV {p:Nat} {x:Int} (hr:r.length=96) (hd:d.do_=0) (hp:1 <= p /\ p <= g.n) (h0:r.getD 0 0=p) (h1:r.getD 1 0=255+(p:Int)) (h2:r.getD 2 0=g.K p) (pl:d.place=p)
 (h3:r.getD 3 0=wP (prevK g.K (g.K p) p)) (hn:cs.getD (289+3 * p) 0 ≠ -1):Nx g cs d ⟨73,2,r⟩ [x]:=by
 have n100:=hC.n100;have mn:=hC.mn;have nm:=hC.nm;have hl:=hC.len;have hk:=hC.kr p hp.1 hp.2;have hlt:=Qo g.K (g.K p) p hp.1;have hok:∀ own,okCh own ⟨73,2,r⟩ [x]:=okCC hr (.inr ⟨_,rfl,by decide⟩) (.inr (.inl ⟨rfl,by decide⟩))
 have hq:=YE (show prevK g.K (g.K p) p <= 100 by omega)
 have hpw:=YE (show p <= 100 by omega)
 have e:∀ own,nCh own ⟨73,2,r⟩ [x]=naCs 73 3 r (21+g.K p) (wP (prevK g.K (g.K p) p)) (wP p) 0:=fun own=>by
  rw [Qav];unfold QX;rw [if_neg (by decide),if_neg (by decide),if_pos rfl,h0,h1,h2,h3,Qgc hk,QqN hp.1 (by omega)]
 obtain ⟨hh,hm⟩:=hC.head hk
 by_cases hc:cs.getD (21+(g.K p).toNat) 0=wP (prevK g.K (g.K p) p)
 · have hpm:¬ p <= g.m:=fun h=>by
    have h4:=Zo (K:=g.K) hp.1 rfl (show p < g.m+1 by omega)
    rw [hh] at hc;have:=Qlm (by omega) (by omega) hc
    omega
   have hpn:p=g.n /\ g.n=g.m+1:=by omega
   have hi:21+(g.K p).toNat < cs.length:=by omega
   have hother:∀ j,j ≠ 21+(g.K p).toNat->(cs.set (21+(g.K p).toNat) (wP p)).getD j 0=cs.getD j 0:=fun j hj=>by rw [gset _ _ hi,if_neg hj]
   have hself:(cs.set (21+(g.K p).toNat) (wP p)).getD (21+(g.K p).toNat) 0=wP p:=by rw [gset _ _ hi,if_pos rfl]
   have hC':QB { g with m:=g.n } (cs.set (21+(g.K p).toNat) (wP p)):=by
    refine ⟨by rw [List.length_set];exact hl,Zr hC.fits (by omega),n100,Nat.le_refl _,by show g.n <= g.n+1;omega,hC.kr,hC.vr,fun k hk'=>?_,fun p' a b=>?_,fun p' a b=>?_,fun p' a b=>?_,fun h=>by have h:g.n=g.n+1:=h;omega,fun p' a b=>?_⟩
    · show _=wP (prevK g.K k (g.n+1))
      by_cases hkk:(k:Int)=g.K p
      · have:k=(g.K p).toNat:=by omega
        rw [this,hself];unfold prevK;rw [if_pos ⟨by omega,by rw [<- hpn.1];omega⟩,hpn.1]
      · rw [hother _ (by omega),hC.hd k hk']
        conv=>rhs;unfold prevK
        rw [if_neg (fun h=>hkk (by rw [<- h.2,hpn.1])),hpn.2]
    · rw [hother _ (by omega)];exact hC.gen p' a b
    · rw [hother _ (by omega)];exact hC.val p' a b
    · rw [hother _ (by omega)]
      by_cases h:p' <= g.m
      · exact hC.nx p' a h
      · have b':p' <= g.n:=b;have:p'=p:=by omega
        subst this;rcases hC.nxn hpn.2 with h' | h'
        · rw [<- hpn.1] at h';exact absurd h' hn
        · rw [<- hpn.1] at h';exact .inl h'
    · rw [hother _ (by omega)];exact hC.free p' a b
   refine .inl ⟨_,{ g with m:=g.n },_,1,step_cs (i:=21+(g.K p).toNat) hC e hok (by omega) (by omega) (by omega) (by omega) (by omega) (by omega) (by omega) (by omega) (.inl ⟨hc,rfl,rfl⟩) hC' ⟨fun _ _ _=>rfl,Nat.le_refl _,mn,mn,fun _=>Int.le_refl _,fun p' a b hn'=>?_,fun p' a b hz=>?_⟩ rfl rfl rfl rfl (.ins3 hr hd ⟨hp.1,hp.2⟩ pl) (.inl (by rw [YF,YF]))⟩
   · rw [hother _ (by omega)];exact hn'
   · rw [hother _ (by omega)];exact hz
 · have hpm:p <= g.m:=by
    rcases Nat.lt_or_ge g.m p with h | h
    · exact absurd (by rw [hh,show g.m+1=p by omega]) hc
    · exact h
   exact .inl ⟨_,g,cs,0,step_cs (i:=21+(g.K p).toNat) hC e hok (by omega) (by omega) (by omega) (by omega) (by omega) (by omega) (by omega) (by omega) (.inr ⟨hc,rfl,rfl⟩) hC (.refl hC) rfl rfl rfl rfl (.ins3 hr hd ⟨hp.1,hpm⟩ pl) (.inl (by rw [YF,YF]))⟩
omit hC in
theorem QqW {p:Nat} {x:Int} (hr:r.length=96) (hd:d.do_=0) (hp:1 <= p /\ p <= g.m) (pl:d.place=p):Nx g cs d ⟨73,3,r⟩ [x]:=by
 refine .inr ⟨[],⟨fun own=>?_,okCC hr (.inr ⟨_,rfl,by decide⟩) (.inr (.inl ⟨rfl,by decide⟩)),by simp⟩,⟨fun _=>by omega,fun h=>by omega,fun h=>by omega⟩⟩
 rw [Qav];unfold QX;rw [if_neg (by decide),if_neg (by decide),if_neg (by decide)]
 rfl
omit hC in
theorem QqX {f:Frame} {got:List Int} (e:∀ own,(nCh own f got).a=⟨7,0,0,0,0,[],[0,0]⟩) (ok:∀ own,okCh own f got) (hd:d.do_=2) (hp:Zt f got=0):Nx g cs d f got :=
 .inr ⟨[0,0],⟨e,ok,by simp⟩,⟨fun h=>by omega,fun h=>by omega,fun _=>⟨rfl,by rw [hp];rfl,.inl rfl⟩⟩⟩
theorem QqY (hr:r.length=96) (hd:d.do_=2) (h0:r.getD 0 0=d.place) (h1:r.getD 1 0=d.key) (hk:0 <= d.key /\ d.key < 24) (he:0 <= d.place /\ d.place <= g.ct d.key):Nx g cs d ⟨74,0,r⟩ []:=by
 obtain ⟨e1,e2⟩:=hC.head hk;refine .inl ⟨_,_,_,_,Jm (i:=21+d.key.toNat) hC (p:=74) (n:=1) (r:=r) (a:=21+d.key) (gn:=0) (fun own=>?_) (okCC hr (.inl ⟨rfl,rfl⟩) (.inr (.inr ⟨rfl,by decide,fun h=>absurd h (by decide)⟩))) (by omega) (by omega) (by omega) (by omega) ?_ (by rw [pend74 _ _ (by decide) (by decide),pend74 _ _ (by decide) (by decide)])⟩
 · rw [YK];unfold QH;rw [if_pos rfl,h1,ZC own 74 r hk]
 · rw [e1];exact .cut1 hr hd h0 h1 hk he e2 (prevK_key _ _ _)
theorem Qgd {q:Nat} {k:Int} {got:List Int} (hr:r.length=96) (hd:d.do_=2) (h0:r.getD 0 0=d.place) (h1:r.getD 1 0=d.key) (hk:0 <= d.key /\ d.key < 24) (he:0 <= d.place /\ d.place <= g.ct d.key)
 (hq:q <= g.m) (kq:q=0 \/ g.K q=d.key) (hok:∀ own,okCh own ⟨74,k,r⟩ got) (hp:Zt ⟨74,k,r⟩ got=0) (e:∀ own,nCh own ⟨74,k,r⟩ got=QY own k r (wP q)):Nx g cs d ⟨74,k,r⟩ got:=by
 have n100:=hC.n100;have mn:=hC.mn;have hw:wh (wP q)=wP q:=Kj (by omega)
 by_cases q0:q=0
 · subst q0;refine QqX (fun own=>?_) hok hd hp;rw [e];unfold QY;rw [if_pos (.inl rfl)];rfl
 · have q1:1 <= q:=by omega
   have hcw:cellO (255+(q:Int)) 1 true=289+3 * (q:Int):=by rw [Q0 q1 (by omega) (by omega) (by omega)];omega
   have hb:=ZM q1 (show q <= 100 by omega)
   have hgt:=Qat q1;obtain ⟨b,b1,b2⟩:=hC.next q1 hq;refine .inl ⟨_,_,_,_,Jm (i:=289+3 * q) hC (p:=74) (n:=2) (r:=r.set 2 (wP q)) (a:=289+3 * (q:Int)) (gn:=255+(q:Int)) (fun own=>?_) hok (by omega) (by omega) (by omega) (by omega) ?_ (by rw [pend74 _ _ (by decide) (by decide),hp])⟩
   · rw [e];unfold QY;simp only [hw,hb,hcw];rw [if_neg (by omega)]
   · rw [b1];exact .cut2 (by rw [List.length_set];exact hr) hd (by rw [rset hr 2 _ (by omega)];exact h0) (by rw [rset hr 2 _ (by omega)];exact h1) hk he ⟨q1,hq⟩ (kq.resolve_left q0) (by rw [rset hr 2 _ (by omega),if_pos rfl]) (by rw [<- kq.resolve_left q0];exact b2)
theorem QqZ {q:Nat} (hr:r.length=96) (hd:d.do_=2) (h0:r.getD 0 0=d.place) (h1:r.getD 1 0=d.key) (hk:0 <= d.key /\ d.key < 24) (he:0 <= d.place /\ d.place <= g.ct d.key)
 (hq:q <= g.m) (kq:q=0 \/ g.K q=d.key):Nx g cs d ⟨74,1,r⟩ [wP q] :=
 Qgd hC hr hd h0 h1 hk he hq kq (okCC hr (.inr ⟨_,rfl,by decide⟩) (.inr (.inr ⟨rfl,by decide,fun h=>absurd h (by decide)⟩))) (pend74 _ _ (by decide) (by decide)) (fun own=>by
  rw [YK];unfold QH;rw [if_neg (by decide),if_pos rfl];rfl)
theorem Qds {a y:Nat} {k:Int} {got:List Int} {r':List Int} (hr:r'.length=96) (hd:d.do_=2) (h0:r'.getD 0 0=d.place) (h1:r'.getD 1 0=d.key) (hk:0 <= d.key /\ d.key < 24) (he:0 <= d.place /\ d.place <= g.ct d.key)
 (ha:1 <= a /\ a <= g.m) (ka:g.K a=d.key) (h2:r'.getD 2 0=wP a) (ae:(a:Int) <= d.place) (hy:y=0 \/ y=prevK g.K d.key a) (hok:∀ own,okCh own ⟨74,k,r⟩ got) (hp:Zt ⟨74,k,r⟩ got=0)
 (e:∀ own,nCh own ⟨74,k,r⟩ got=Qy own k r' (wP y)):Nx g cs d ⟨74,k,r⟩ got:=by
 have n100:=hC.n100;have mn:=hC.mn;have hle:=Qo g.K d.key a ha.1
 by_cases q0:y=0
 · subst q0;refine QqX (fun own=>?_) hok hd hp;rw [e];unfold Qy;rw [if_pos (.inl (by rw [wP_0];omega))];rfl
 · have q1:1 <= y:=by omega
   have hye:=hy.resolve_left q0;have hcw:cellO (255+(y:Int)) 1 true=289+3 * (y:Int):=by rw [Q0 q1 (by omega) (by omega) (by omega)];omega
   have hb:=ZM q1 (show y <= 100 by omega)
   have hgt:=Qat q1;have ky:g.K y=d.key:=by have:=prevK_key g.K d.key a;rw [<- hye] at this;exact this.resolve_left q0
   obtain ⟨z,z1,z2⟩:=hC.next q1 (by omega)
   refine .inl ⟨_,_,_,_,Jm (i:=289+3 * y) hC (p:=74) (n:=3) (r:=r'.set 3 (wP y)) (a:=289+3 * (y:Int)) (gn:=255+(y:Int)) (fun own=>?_) hok (by omega) (by omega) (by omega) (by omega) ?_ (by rw [pend74 _ _ (by decide) (by decide),hp])⟩
   · rw [e];unfold Qy;simp only [hb,hcw];rw [if_neg (by omega)]
   · rw [z1];exact .cut3 (by rw [List.length_set];exact hr) hd (by rw [rset hr 3 _ (by omega)];exact h0) (by rw [rset hr 3 _ (by omega)];exact h1) hk he ha ka (by rw [rset hr 3 _ (by omega)];exact h2) ae (by rw [rset hr 3 _ (by omega),if_pos rfl]) ⟨q1,hye⟩ (by rw [<- ky];exact z2)
theorem Qq0 {a b:Nat} (hr:r.length=96) (hd:d.do_=2) (h0:r.getD 0 0=d.place) (h1:r.getD 1 0=d.key) (hk:0 <= d.key /\ d.key < 24) (he:0 <= d.place /\ d.place <= g.ct d.key)
 (ha:1 <= a /\ a <= g.m) (ka:g.K a=d.key) (h2:r.getD 2 0=wP a) (hb:b=0 \/ b=prevK g.K d.key a):Nx g cs d ⟨74,2,r⟩ [wP b]:=by
 have n100:=hC.n100;have mn:=hC.mn;have hle:=Qo g.K d.key a ha.1;have hpl:plc (wP a)=a:=ZZ (by omega)
 have hok:∀ own,okCh own ⟨74,2,r⟩ [wP b]:=okCC hr (.inr ⟨_,rfl,by decide⟩) (.inr (.inr ⟨rfl,by decide,fun h=>absurd h (by decide)⟩))
 have e0:∀ own,nCh own ⟨74,2,r⟩ [wP b]=if d.place < (a:Int) then QY own 2 r (wP b) else Qy own 2 r (wP b):=fun own=>by
  rw [YK];unfold QH;rw [if_neg (by decide),if_neg (by decide),if_pos rfl,h0,h2,hpl];rfl
 by_cases hlt:d.place < (a:Int)
 · refine Qgd (q:=b) hC hr hd h0 h1 hk he (by rcases hb with h | h <;> omega) (by rcases hb with h | h;exact .inl h;exact h ▸ prevK_key g.K d.key a) hok (pend74 _ _ (by decide) (by decide)) (fun own=>by rw [e0,if_pos hlt])
 · exact Qds hC hr hd h0 h1 hk he ha ka h2 (by omega) hb hok (pend74 _ _ (by decide) (by decide)) (fun own=>by rw [e0,if_neg hlt])
theorem Qq1 {a y z:Nat} (hr:r.length=96) (hd:d.do_=2) (h0:r.getD 0 0=d.place) (h1:r.getD 1 0=d.key) (hk:0 <= d.key /\ d.key < 24) (he:0 <= d.place /\ d.place <= g.ct d.key)
 (ha:1 <= a /\ a <= g.m) (ka:g.K a=d.key) (h2:r.getD 2 0=wP a) (ae:(a:Int) <= d.place) (h3:r.getD 3 0=wP y) (hy:1 <= y /\ y=prevK g.K d.key a) (hz:z=0 \/ z=prevK g.K d.key y):Nx g cs d ⟨74,3,r⟩ [wP z]:=by
 have n100:=hC.n100;have mn:=hC.mn;have hl:=hC.len;have hle:=Qo g.K d.key a ha.1;have hpy:plc (wP y)=y:=ZZ (by omega)
 have ky:g.K y=d.key:=by have:=prevK_key g.K d.key a;rw [<- hy.2] at this;exact this.resolve_left (by omega)
 have hok:∀ own,okCh own ⟨74,3,r⟩ [wP z]:=okCC hr (.inr ⟨_,rfl,by decide⟩) (.inr (.inr ⟨rfl,by decide,fun _=>by rw [h3,h0,hpy];omega⟩))
 have e0:∀ own,nCh own ⟨74,3,r⟩ [wP z]=if 0 < wP z then Qy own 3 (r.set 2 (wP y)) (wP z) else naCs 74 4 r (289+3 * (a:Int)) (wP y) 0 (255+(a:Int)):=fun own=>by
  rw [YK];unfold QH;rw [if_neg (by decide),if_neg (by decide),if_neg (by decide),if_pos rfl,h2,h3,ZM ha.1 (by omega),Q0 ha.1 (by omega) (by omega) (by omega),show 288+3 * (a:Int)+1=289+3 * (a:Int) by omega];rfl
 by_cases z0:z=0
 · subst z0;have e:∀ own,nCh own ⟨74,3,r⟩ [wP 0]=naCs 74 4 r (289+3 * (a:Int)) (wP y) 0 (255+(a:Int)):=fun own=>by rw [e0,if_neg (by rw [wP_0];omega)]
   have hyr:=YE (show y <= 100 by omega)
   have hygt:=Qat hy.1
   by_cases hc:cs.getD (289+3 * a) 0=wP y
   · have hi:289+3 * a < cs.length:=by omega
     have hother:∀ j,j ≠ 289+3 * a->(cs.set (289+3 * a) 0).getD j 0=cs.getD j 0:=fun j hj=>by rw [gset _ _ hi,if_neg hj]
     have hself:(cs.set (289+3 * a) 0).getD (289+3 * a) 0=0:=by rw [gset _ _ hi,if_pos rfl]
     have hC':QB g (cs.set (289+3 * a) 0):=by
      refine ⟨by rw [List.length_set];exact hl,Zr hC.fits (by omega),n100,mn,hC.nm,hC.kr,hC.vr,fun k hk=>?_,fun p' a' b=>?_,fun p' a' b=>?_,fun p' a' b=>?_,fun h=>?_,fun p' a' b=>?_⟩
      · rw [hother _ (by omega)];exact hC.hd k hk
      · rw [hother _ (by omega)];exact hC.gen p' a' b
      · rw [hother _ (by omega)];exact hC.val p' a' b
      · by_cases h:p'=a
        · subst h;exact .inr ⟨hself,by rw [ka];omega⟩
        · rw [hother _ (by omega)];exact hC.nx p' a' b
      · rw [hother _ (by omega)];exact hC.nxn h
      · rw [hother _ (by omega)];exact hC.free p' a' b
     have hnt:¬ JH g cs y:=fun ⟨b,b1,b2,b3,b4⟩=>by
      have:b=a:=QnY b1 ha.1 hy.1 b3 (by rw [ka];exact hy.2.symm)
      subst this;rw [hc] at b4;omega
     have htk:JH g (cs.set (289+3 * a) 0) y:=⟨a,ha.1,ha.2,by rw [ka];exact hy.2.symm,hself⟩
     refine .inl ⟨_,g,_,1,step_cs (i:=289+3 * a) hC e hok (by omega) (by omega) (by omega) (by omega) (by omega) (by omega) (by omega) (by omega) (.inl ⟨hc,rfl,rfl⟩) hC' ⟨fun _ _ _=>rfl,Nat.le_refl _,Nat.le_refl _,mn,fun _=>Int.le_refl _,fun p' a' b hn'=>?_,fun p' a' b hz'=>?_⟩ rfl rfl rfl rfl (.cut4y hr hd ha ka ae h3 hy hself) (.inr ⟨pend74 _ _ (by decide) (by decide),y,?_,hy.1,by omega,hnt,htk⟩)⟩
     · by_cases h:p'=a
       · subst h;rw [hself];omega
       · rw [hother _ (by omega)];exact hn'
     · by_cases h:p'=a
       · subst h;exact hself
       · rw [hother _ (by omega)];exact hz'
     · unfold Zt;rw [if_pos ⟨rfl,.inl ⟨rfl,rfl⟩⟩];exact h3
   · exact .inl ⟨_,g,cs,0,step_cs (i:=289+3 * a) hC e hok (by omega) (by omega) (by omega) (by omega) (by omega) (by omega) (by omega) (by omega) (.inr ⟨hc,rfl,rfl⟩) hC (.refl hC) rfl rfl rfl rfl (.cut4n hr hd) (.inl (by
      rw [pend74 (k:=3) _ _ (by decide) (by decide)]
      exact if_neg (fun h=>h.2.elim (fun h=>by have:=h.2;simp at this) (fun h=>by have h:(4:Int)=5:=h;omega))))⟩
 · have z1:1 <= z:=by omega
   have hgt:=Qat z1;refine Qds hC (a:=y) (r':=r.set 2 (wP y)) (by rw [List.length_set];exact hr) hd (by rw [rset hr 2 _ (by omega)];exact h0) (by rw [rset hr 2 _ (by omega)];exact h1) hk he ⟨hy.1,by omega⟩ ky (by rw [rset hr 2 _ (by omega),if_pos rfl]) (by omega) hz hok (pend74 _ _ (by decide) (by decide)) (fun own=>by rw [e0,if_pos hgt])
omit hC in
theorem Qn0 (hr:r.length=96) (hd:d.do_=2):Nx g cs d ⟨74,4,r⟩ [0]:=by
 refine QqX (fun own=>?_) (okCC hr (.inr ⟨_,rfl,by decide⟩) (.inr (.inr ⟨rfl,by decide,fun h=>absurd h (by decide)⟩))) hd (if_neg (fun h=>h.2.elim (fun h=>by have:=h.2;simp at this) (fun h=>by have h:(4:Int)=5:=h;omega)))
 rw [YK];unfold QH;rw [if_neg (by decide),if_neg (by decide),if_neg (by decide),if_neg (by decide),if_pos rfl,if_pos (show ([0]:List Int).headD 0=0 from rfl)];rfl
theorem Qn1 {a y:Nat} (hr:r.length=96) (hd:d.do_=2) (ha:1 <= a /\ a <= g.m) (ka:g.K a=d.key) (ae:(a:Int) <= d.place) (h3:r.getD 3 0=wP y) (hy:1 <= y /\ y=prevK g.K d.key a) (hc:cs.getD (289+3 * a) 0=0):Nx g cs d ⟨74,4,r⟩ [1]:=by
 refine .inl ⟨_,_,_,_,Jm (i:=2) hC (p:=74) (n:=5) (r:=r) (a:=2) (gn:=0) (fun own=>?_) (okCC hr (.inr ⟨_,rfl,by decide⟩) (.inr (.inr ⟨rfl,by decide,fun h=>absurd h (by decide)⟩))) (by omega) (by omega) (by omega) (by omega) (.cut5 hr hd ha ka ae h3 hy hc) ?_⟩
 · rw [YK];unfold QH;rw [if_neg (by decide),if_neg (by decide),if_neg (by decide),if_neg (by decide),if_pos rfl,if_neg (by simp)]
 · unfold Zt;rw [if_pos ⟨rfl,.inr rfl⟩,if_pos ⟨rfl,.inl ⟨rfl,rfl⟩⟩]
theorem Qq2 {a y:Nat} {x:Int} (hr:r.length=96) (hd:d.do_=2) (ha:1 <= a /\ a <= g.m) (ka:g.K a=d.key) (ae:(a:Int) <= d.place) (h3:r.getD 3 0=wP y) (hy:1 <= y /\ y=prevK g.K d.key a) (hc:cs.getD (289+3 * a) 0=0):Nx g cs d ⟨74,5,r⟩ [x]:=by
 have n100:=hC.n100;have mn:=hC.mn;have hle:=Qo g.K d.key a ha.1;refine .inr ⟨[wP y,x],⟨fun own=>?_,okCC hr (.inr ⟨_,rfl,by decide⟩) (.inr (.inr ⟨rfl,by decide,fun h=>absurd h (by decide)⟩)),by simp⟩,⟨fun h=>by omega,fun h=>by omega,fun _=>⟨rfl,?_,.inr ?_⟩⟩⟩
 · rw [YK];unfold QH;rw [if_neg (by decide),if_neg (by decide),if_neg (by decide),if_neg (by decide),if_neg (by decide),h3];rfl
 · unfold Zt;rw [if_pos ⟨rfl,.inr rfl⟩];exact h3.symm
 · show plc (wP y) < d.place;rw [ZZ (by omega)];omega
theorem PhI.step {f:Frame} {got:List Int} (h:PhI g cs d f got):Nx g cs d f got:=by
 cases h with
 | get0 hr hd h0 h1 hk hs=>exact QqR hC hr hd h0 h1 hk hs
 | get1 hr hd h0 h1 hk hs hq kq nb=>exact QqS hC hr hd h0 h1 hk hs hq kq nb
 | ins0 hr hd hp h0 h1 h2 pl=>exact QqT hC hr hd hp h0 h1 h2 pl
 | ins1 hr hd hp h0 h1 h2 pl hq=>exact QqU hC hr hd hp h0 h1 h2 pl hq
 | ins2 hr hd hp h0 h1 h2 pl h3 hn=>exact QqV hC hr hd hp h0 h1 h2 pl h3 hn
 | ins3 hr hd hp pl=>exact QqW hr hd hp pl
 | cut0 hr hd h0 h1 hk he=>exact QqY hC hr hd h0 h1 hk he
 | cut1 hr hd h0 h1 hk he hq kq=>exact QqZ hC hr hd h0 h1 hk he hq kq
 | cut2 hr hd h0 h1 hk he ha ka h2 hb=>exact Qq0 hC hr hd h0 h1 hk he ha ka h2 hb
 | cut3 hr hd h0 h1 hk he ha ka h2 ae h3 hy hz=>exact Qq1 hC hr hd h0 h1 hk he ha ka h2 ae h3 hy hz
 | cut4n hr hd=>exact Qn0 hr hd
 | cut4y hr hd ha ka ae h3 hy hc=>exact Qn1 hC hr hd ha ka ae h3 hy hc
 | cut5 hr hd ha ka ae h3 hy hc=>exact Qq2 hC hr hd ha ka ae h3 hy hc
end
def tkOf (c:Nat) (f:Frame) (got:List Int):Task:=⟨c,[f],got,false⟩
theorem ZX {own:Bool} {c:Nat} {f:Frame} {got:List Int} {na:NA} (h:NxtP f got na):goT nCh own (tkOf c f got)=⟨[na.f],got,false,na.a,na.fl,true⟩:=by
 have hk:na.a.kind < 6:=by rcases h.kd with e | e <;> omega
 have e:nCh own (topF [f]) got=na:=h.e own;unfold goT tkOf;show goN (nCh own) (63+1) [f] got false=_;unfold goN;rw [if_neg (by simp),e,if_pos hk]
 unfold tkSt;rw [if_pos hk];rfl
theorem Vh {own:Bool} {c:Nat} {f:Frame} {got args:List Int} (h:EndC f got args):goT nCh own (tkOf c f got)=⟨[],args,false,act0,true,false⟩:=by
 have e:(nCh own (topF [f]) got).a=⟨7,0,0,0,0,[],args⟩:=h.e own;unfold goT tkOf;show goN (nCh own) (63+1) [f] got false=_;unfold goN;rw [if_neg (by simp),e,if_neg (by show ¬ (7:Int) < 6;omega)]
 show goN (nCh own) (62+1) [] args false=_;unfold goN;rw [if_pos rfl]
theorem QlI {own:Bool} {f:Frame} {got:List Int} {na:NA} (h:NxtP f got na):OkN (nCh own) (okCh own) 64 [f] got:=by
 have e:nCh own (topF [f]) got=na:=h.e own;refine .inr ⟨by simp,by simp,?_,h.ok own,?_,?_,?_,?_⟩
 · obtain ⟨_,hg,_⟩:=h.ok own;rcases hg with ⟨_,hg⟩ | ⟨x,hg,_⟩ <;> rw [hg] <;> simp
 · rw [e];exact h.may
 · rw [e];rcases h.kd with k | k <;> omega
 · rw [e];rcases h.kd with k | k <;> omega
 · rw [e];left;rcases h.kd with k | k <;> omega
theorem Qge {own:Bool} {f:Frame} {got args:List Int} (h:EndC f got args):OkN (nCh own) (okCh own) 64 [f] got:=by
 have e:(nCh own (topF [f]) got).a=⟨7,0,0,0,0,[],args⟩:=h.e own;have hl:=h.len;refine .inr ⟨by simp,by simp,?_,h.ok own,?_,?_,?_,?_⟩
 · obtain ⟨_,hg,_⟩:=h.ok own;rcases hg with ⟨_,hg⟩ | ⟨x,hg,_⟩ <;> rw [hg] <;> simp
 · rw [e];refine decide_eq_true (p:=MayA 7 0 0 0 0 0 args.length) ?_;unfold MayA;omega
 · rw [e];show (0:Int) <= 7;omega
 · rw [e];show (7:Int) <= 7;omega
 · rw [e];refine .inr ⟨fun h=>by have h:(7:Int)=6:=h;omega,.inl ?_⟩
   rfl
def Rdy (f:Frame) (got:List Int):Prop:=(∃ na,NxtP f got na) \/ ∃ args,EndC f got args
theorem Qgf {c:Nat} {f:Frame} {got:List Int} (h:Rdy f got):QhC nCh okCh (c:Int) (tkOf c f got) (tkOf c f got):=by
 rcases h with ⟨na,h⟩ | ⟨args,h⟩
 · refine ⟨⟨by simp [tkOf],QlI h,rfl,rfl⟩,⟨by simp [tkOf],QlI h,rfl,rfl⟩,?_,?_,?_⟩
   · rw [ZX h,ZX h]
   · rw [ZX h,ZX h];exact fun _=>⟨rfl,by show na.a.args.length <= 96;rw [h.tx.2];simp⟩
   · rw [ZX h];intro q;cases q
 · have hl:=h.len;refine ⟨⟨by simp [tkOf],Qge h,rfl,rfl⟩,⟨by simp [tkOf],Qge h,rfl,rfl⟩,?_,?_,?_⟩
   · rw [Vh h,Vh h]
   · rw [Vh h];intro q;cases q
   · rw [Vh h,Vh h];exact fun _=>⟨rfl,rfl,rfl,by show args.length <= 96;omega⟩
theorem Nx.rdy {g:CG} {cs:List Int} {d:Pick} {f:Frame} {got:List Int} (h:Nx g cs d f got):Rdy f got:=by
 rcases h with ⟨na,_,_,_,h⟩ | ⟨args,h,_⟩
 · exact .inl ⟨na,h.nx⟩
 · exact .inr ⟨args,h⟩
theorem QhP {c:Nat} {f:Frame} {got:List Int} {na:NA} (h:NxtP f got na) (cs:List Int) (own:Bool):gmX nCh cs (tkOf c f got)=doG4 cs na.a.kind na.a.a na.a.b /\ gmCs nCh cs (tkOf c f got)=doC4 cs na.a.kind na.a.a na.a.b na.a.v /\
 ∀ x,gmT nCh own x (tkOf c f got)=tkOf c na.f [x]:=by
 refine ⟨by unfold gmX;rw [ZX h],by unfold gmCs;rw [ZX h],fun x=>?_⟩
 unfold gmT;rw [ZX h];rfl
theorem Qdt {g g':CG} {cs cs':List Int} {d:Pick} {f:Frame} {got:List Int} {na:NA} {x:Int} {c:Nat} {now sure:List Sector} (hC:QB g cs) (h:Qau g cs d f got na g' cs' x) (d1:Qx now sure=true) (d2:Qr now=true) (d3:Qr sure=true) :
 Jh (c:Int) cs (tkOf c f got) (tkOf c f got) now sure:=by
 obtain ⟨e1,e2,e3⟩:=QhP (c:=c) h.nx cs false;obtain ⟨_,_,e4⟩:=QhP (c:=c) h.nx cs true;refine ⟨⟨Qgf (.inl ⟨na,h.nx⟩),?_,?_,?_,?_,?_,?_,hC.fits,d1,d2,d3,?_⟩,?_⟩
 · rw [ZX h.nx]
 · rw [ZX h.nx];refine ⟨by simp,?_⟩
   obtain ⟨_,hg,_⟩:=h.nx.ok false;rcases hg with ⟨_,hg⟩ | ⟨y,hg,_⟩ <;> rw [hg] <;> simp
 · rw [ZX h.nx];refine ⟨by simp,?_⟩
   obtain ⟨_,hg,_⟩:=h.nx.ok false;rcases hg with ⟨_,hg⟩ | ⟨y,hg,_⟩ <;> rw [hg] <;> simp
 · rw [ZX h.nx];exact h.nx.tx
 · rw [ZX h.nx];exact h.d4
 · rw [ZX h.nx];exact h.nx.gen
 · rw [e1,e3,e4,h.xe];exact Qgf (PhI.step h.C h.P).rdy
 · rw [ZX h.nx];exact h.nx.kd
def pendT (t:Task):Int:=Zt (topF t.stack) t.got
def tk0:Task:=⟨0,[],[],false⟩
def pk0:Pick:=⟨0,0,0,0,0,0⟩
def putK (K V:Nat->Int) (k:Int):Nat->List Item
 | 0=>[]
 | n+1=>if K (n+1)=k then ⟨k,((n+1:Nat):Int),V (n+1)⟩::putK K V k n else putK K V k n
theorem Qa8 {K V K' V':Nat->Int} {k:Int}:∀ {n:Nat},(∀ p,1 <= p->p <= n->K' p=K p /\ V' p=V p)->putK K' V' k n=putK K V k n
 | 0,_=>rfl
 | n+1,h=>by
  unfold putK;obtain ⟨h1,h2⟩:=h (n+1) (by omega) (by omega)
  rw [h1,h2,Qa8 fun p a b=>h p a (by omega)]
structure ClI (g:CG) (s:ChS) (c:Nat) (f:Frame) (got:List Int):Prop where
 t:s.ts.getD c tk0=tkOf c f got
 u:s.us.getD c tk0=tkOf c f got
 P:PhI g s.cs (s.does.getD c pk0) f got
 nx:∃ na,NxtP f got na
structure GI (s:ChS) (g:CG) (out:List Int):Prop where
 C:QB g s.cs
 L:s.Lens
 last:s.last=g.n
 dn:s.done=true->g.m=g.n
 key:1 <= g.n->s.key=g.K g.n
 cut:s.cut=g.cut
 cr:∀ k:Nat,k < 24->0 <= g.ct k /\ (g.ct k=0 \/ g.ct k < g.n)
 cl:∀ c,c < 4->s.busy.getD c false=true -> ∃ f got,ClI g s c f got
 p1:∀ c c',c < 4->c' < 4->c ≠ c'->s.busy.getD c false=true->s.busy.getD c' false=true->pendT (s.ts.getD c tk0) ≠ 0->pendT (s.ts.getD c tk0) ≠ pendT (s.ts.getD c' tk0)
 p2:∀ c,c < 4->s.busy.getD c false=true->pendT (s.ts.getD c tk0) ≠ 0->pendT (s.ts.getD c tk0) ∉ out
 o:∀ w ∈ out,w ≠ 0 -> ∃ y,1 <= y /\ y <= 100 /\ w=wP y /\ JH g s.cs y
theorem PhI.ctle {g:CG} {cs:List Int} {d:Pick} {f:Frame} {got:List Int} (h:PhI g cs d f got) (hd:d.do_=1):g.ct d.key <= d.place:=by
 cases h with
 | get0 hr hd' h0 h1 hk hs=>exact hs.1
 | get1 hr hd' h0 h1 hk hs hq kq nb=>exact hs.1
 | ins0 hr hd'=>omega
 | ins1 hr hd'=>omega
 | ins2 hr hd'=>omega
 | ins3 hr hd'=>omega
 | cut0 hr hd'=>omega
 | cut1 hr hd'=>omega
 | cut2 hr hd'=>omega
 | cut3 hr hd'=>omega
 | cut4n hr hd'=>omega
 | cut4y hr hd'=>omega
 | cut5 hr hd'=>omega
theorem PhI.taken {g:CG} {cs:List Int} {d:Pick} {f:Frame} {got:List Int} (h:PhI g cs d f got) (hC:QB g cs) (hp:Zt f got ≠ 0):∃ y,1 <= y /\ y <= 100 /\ Zt f got=wP y /\ JH g cs y:=by
 have n100:=hC.n100;have mn:=hC.mn;cases h with
 | get0 hr hd'=>exact absurd (Qa7 _ _ _) hp
 | get1 hr hd'=>exact absurd (Qa7 _ _ _) hp
 | ins0 hr hd'=>exact absurd (YF _ _ _) hp
 | ins1 hr hd'=>exact absurd (YF _ _ _) hp
 | ins2 hr hd'=>exact absurd (YF _ _ _) hp
 | ins3 hr hd'=>exact absurd (YF _ _ _) hp
 | cut0 hr hd'=>exact absurd (pend74 _ _ (by decide) (by decide)) hp
 | cut1 hr hd'=>exact absurd (pend74 _ _ (by decide) (by decide)) hp
 | cut2 hr hd'=>exact absurd (pend74 _ _ (by decide) (by decide)) hp
 | cut3 hr hd'=>exact absurd (pend74 _ _ (by decide) (by decide)) hp
 | cut4n hr hd'=>exact absurd (if_neg (fun h=>h.2.elim (fun h=>by have:=h.2;simp at this) (fun h=>by have h:(4:Int)=5:=h;omega))) hp
 | @cut4y r a y hr hd' ha ka ae h3 hy hc =>
  have:=Qo g.K d.key a ha.1;exact ⟨y,hy.1,by omega,by unfold Zt;rw [if_pos ⟨rfl,.inl ⟨rfl,rfl⟩⟩];exact h3,a,ha.1,ha.2,by rw [ka];exact hy.2.symm,hc⟩
 | @cut5 r a y x hr hd' ha ka ae h3 hy hc =>
  have:=Qo g.K d.key a ha.1;exact ⟨y,hy.1,by omega,by unfold Zt;rw [if_pos ⟨rfl,.inr rfl⟩];exact h3,a,ha.1,ha.2,by rw [ka];exact hy.2.symm,hc⟩
theorem JH.later {g g':CG} {cs cs':List Int} {y:Nat} (h:JH g cs y) (L:Jl g cs g' cs'):JH g' cs' y:=by
 obtain ⟨a,h1,h2,h3,h4⟩:=h;have mn:=L.mn;have hm:=L.m;exact ⟨a,h1,by omega,by rw [L.K a h1 (by omega),L.prev _ (by omega)];exact h3,L.off a h1 h2 h4⟩
theorem JY {f:Frame} {got args:List Int} {na:NA} (h:NxtP f got na) (k:EndC f got args):False:=by
 have h1:=h.e false;have h2:=k.e false;rw [h1] at h2;have h3:=congrArg Qb.kind h2;have h3:na.a.kind=7:=h3;rcases h.kd with e | e <;> omega
theorem VG (c:Nat) (f:Frame) (got:List Int):pendT (tkOf c f got)=Zt f got:=rfl
theorem ZD {α:Type} {l:List α} {n:Nat} (x d:α) (h:n < l.length) (j:Nat):(l.set n x).getD j d=if j=n then x else l.getD j d:=by
 by_cases e:j=n
 · subst e;simp [h]
 · rw [if_neg e];simp only [List.getD_eq_getElem?_getD];rw [List.getElem?_set_ne (fun q=>e q.symm)]
structure Qr1 (s:ChS) (g:CG) (out:List Int) (c:Nat) (f:Frame) (got:List Int) (na:NA) (g':CG) (cs':List Int) (x:Int):Prop where
 cl:ClI g s c f got
 st:Qau g s.cs (s.does.getD c pk0) f got na g' cs' x
 go:(∃ na',NxtP na.f [x] na')->GI { s with cs:=cs',ts:=s.ts.set c (tkOf c na.f [x]),us:=s.us.set c (tkOf c na.f [x]) } g' out
 en:∀ args,EndC na.f [x] args->QnX g' (s.does.getD c pk0) na.f [x] args /\
  GI { s with cs:=cs',ts:=s.ts.set c (tkOf c na.f [x]),us:=s.us.set c (tkOf c na.f [x]),busy:=s.busy.set c false } g' out /\
  ((s.does.getD c pk0).do_=2->(args.headD 0 ≠ 0->args.headD 0 ∉ out) /\ GI { s with cs:=cs',ts:=s.ts.set c (tkOf c na.f [x]),us:=s.us.set c (tkOf c na.f [x]),busy:=s.busy.set c false } g' (out++[args.headD 0]))
 or:(∃ na',NxtP na.f [x] na') \/ ∃ args,EndC na.f [x] args
theorem GI.step {s:ChS} {g:CG} {out:List Int} (h:GI s g out) {c:Nat} (hc:c < 4) (hb:s.busy.getD c false=true):∃ f got na g' cs' x,Qr1 s g out c f got na g' cs' x:=by
 obtain ⟨f,got,hcl⟩:=h.cl c hc hb;obtain ⟨na0,hna0⟩:=hcl.nx;rcases PhI.step h.C hcl.P with ⟨na,g',cs',x,st⟩ | ⟨args,he,_⟩;rotate_left
 · exact (JY hna0 he).elim
 have lt:=h.L.ts;have lu:=h.L.us;have lb:=h.L.busy;have hL':∀ b:List Bool,b.length=4->ChS.Lens { s with cs:=cs',ts:=s.ts.set c (tkOf c na.f [x]),us:=s.us.set c (tkOf c na.f [x]),busy:=b }:=fun b hb=>⟨by simp [lt],by simp [lu],hb,h.L.does,h.L.cut,st.C.len⟩
 -- who is asked for behind the step
 have tN:∀ j,(s.ts.set c (tkOf c na.f [x])).getD j tk0=if j=c then tkOf c na.f [x] else s.ts.getD j tk0:=fun j=>ZD _ _ (by omega) j
 have uN:∀ j,(s.us.set c (tkOf c na.f [x])).getD j tk0=if j=c then tkOf c na.f [x] else s.us.getD j tk0:=fun j=>ZD _ _ (by omega) j
 have hct:∀ k,g'.ct k=g.ct k:=fun k=>by unfold CG.ct;rw [st.cut]
 have other:∀ j,j < 4->j ≠ c->s.busy.getD j false=true -> ∀ b,∃ f got,ClI g' { s with cs:=cs',ts:=s.ts.set c (tkOf c na.f [x]),us:=s.us.set c (tkOf c na.f [x]),busy:=b } j f got:=by
  intro j hj hjc hbj b;obtain ⟨fj,gj,q⟩:=h.cl j hj hbj;refine ⟨fj,gj,?_,?_,?_,q.nx⟩
  · show (s.ts.set c _).getD j tk0=_;rw [tN,if_neg hjc];exact q.t
  · show (s.us.set c _).getD j tk0=_;rw [uN,if_neg hjc];exact q.u
  · exact q.P.later st.L fun hd=>by rw [hct];exact q.P.ctle hd
 -- what is pending of another
 have pO:∀ j,j < 4->s.busy.getD j false=true->pendT (s.ts.getD j tk0) ≠ 0 -> ∃ y,1 <= y /\ y <= 100 /\ pendT (s.ts.getD j tk0)=wP y /\ JH g s.cs y:=by
  intro j hj hbj hp;obtain ⟨fj,gj,q⟩:=h.cl j hj hbj;rw [q.t,VG] at hp ⊢;exact q.P.taken h.C hp
 have pS:pendT (s.ts.getD c tk0)=Zt f got:=by rw [hcl.t,VG]
 -- the step's own is none of the others'
 have p1':∀ j,j < 4->j ≠ c->s.busy.getD j false=true->Zt na.f [x] ≠ 0->Zt na.f [x] ≠ pendT (s.ts.getD j tk0):=by
  intro j hj hjc hbj hp he;rcases st.pd with e | ⟨_,y,e,y1,y2,hn,ht⟩
  · rw [e,<- pS] at hp he;exact h.p1 c j hc hj (fun q=>hjc q.symm) hb hbj hp he
  · rw [he] at hp;obtain ⟨z,z1,z2,z3,z4⟩:=pO j hj hbj hp;rw [e,z3] at he;have:=Qlm y2 z2 he;subst this;exact hn z4
 have p2':Zt na.f [x] ≠ 0->Zt na.f [x] ∉ out:=by
  intro hp hm;rcases st.pd with e | ⟨_,y,e,y1,y2,hn,ht⟩
  · rw [e,<- pS] at hp hm;exact h.p2 c hc hb hp hm
  · obtain ⟨z,z1,z2,z3,z4⟩:=h.o _ hm hp;rw [e] at z3;have:=Qlm y2 z2 z3;subst this;exact hn z4
 have o':∀ w ∈ out,w ≠ 0 -> ∃ y,1 <= y /\ y <= 100 /\ w=wP y /\ JH g' cs' y:=fun w hw h0=>by
  obtain ⟨y,y1,y2,y3,y4⟩:=h.o w hw h0;exact ⟨y,y1,y2,y3,y4.later st.L⟩
 have mm:=st.L.m;have mn':=st.C.mn;have nn:=st.n;have dn':s.done=true->g'.m=g'.n:=fun hd=>by have:=h.dn hd;omega
 have key':1 <= g'.n->s.key=g'.K g'.n:=fun hn=>by rw [st.K,st.n];exact h.key (by omega)
 have cr':∀ k:Nat,k < 24->0 <= g'.ct k /\ (g'.ct k=0 \/ g'.ct k < g'.n):=fun k hk=>by rw [hct,nn];exact h.cr k hk
 have base:∀ (b:List Bool) (o2:List Int),b.length=4->(∀ j,j < 4->b.getD j false=true->s.busy.getD j false=true)->(b.getD c false=true -> ∃ na',NxtP na.f [x] na') ->
  (∀ w ∈ o2,w ≠ 0 -> ∃ y,1 <= y /\ y <= 100 /\ w=wP y /\ JH g' cs' y)->(∀ j,j < 4->b.getD j false=true->pendT ((s.ts.set c (tkOf c na.f [x])).getD j tk0) ≠ 0->pendT ((s.ts.set c (tkOf c na.f [x])).getD j tk0) ∉ o2) ->
  GI { s with cs:=cs',ts:=s.ts.set c (tkOf c na.f [x]),us:=s.us.set c (tkOf c na.f [x]),busy:=b } g' o2:=by
  intro b o2 hlb hsub hown ho2 hp2;refine ⟨st.C,hL' b hlb,by rw [nn];exact h.last,dn',key',by rw [st.cut];exact h.cut,cr',?_,?_,hp2,ho2⟩
  · intro j hj hbj
    by_cases hjc:j=c
    · subst hjc;exact ⟨na.f,[x],by show (s.ts.set j _).getD j tk0=_;rw [tN,if_pos rfl],by show (s.us.set j _).getD j tk0=_;rw [uN,if_pos rfl],st.P,hown hbj⟩
    · exact other j hj hjc (hsub j hj hbj) b
  · intro j j' hj hj' hne hbj hbj' hp he;have hp:pendT ((s.ts.set c (tkOf c na.f [x])).getD j tk0) ≠ 0:=hp;have he:pendT ((s.ts.set c (tkOf c na.f [x])).getD j tk0)=pendT ((s.ts.set c (tkOf c na.f [x])).getD j' tk0):=he;rw [tN] at hp he;rw [tN] at he
    by_cases hjc:j=c
    · rw [if_pos hjc,VG] at hp he;rw [if_neg (fun q=>hne (hjc.trans q.symm))] at he;exact p1' j' hj' (fun q=>hne (hjc.trans q.symm)) (hsub j' hj' hbj') hp he
    · rw [if_neg hjc] at hp he
      by_cases hjc':j'=c
      · rw [if_pos hjc',VG] at he;rw [he] at hp;exact p1' j hj hjc (hsub j hj hbj) hp he.symm
      · rw [if_neg hjc'] at he;exact h.p1 j j' hj hj' hne (hsub j hj hbj) (hsub j' hj' hbj') hp he
 have pAll:∀ j,j < 4->s.busy.getD j false=true->pendT ((s.ts.set c (tkOf c na.f [x])).getD j tk0) ≠ 0->pendT ((s.ts.set c (tkOf c na.f [x])).getD j tk0) ∉ out:=by
  intro j hj hbj hp;rw [tN] at hp ⊢
  by_cases hjc:j=c
  · rw [if_pos hjc,VG] at hp ⊢;exact p2' hp
  · rw [if_neg hjc] at hp ⊢;exact h.p2 j hj hbj hp
 have bset:∀ j,(s.busy.set c false).getD j false=if j=c then false else s.busy.getD j false:=fun j=>ZD _ _ (by omega) j
 have bsub:∀ j,j < 4->(s.busy.set c false).getD j false=true->j ≠ c /\ s.busy.getD j false=true:=fun j _ hbj=>by
  rw [bset] at hbj
  by_cases hjc:j=c
  · rw [if_pos hjc] at hbj;cases hbj
  · rw [if_neg hjc] at hbj;exact ⟨hjc,hbj⟩
 refine ⟨f,got,na,g',cs',x,hcl,st,fun hna=>?_,fun args he=>?_,?_⟩
 · exact base s.busy out lb (fun _ _ h=>h) (fun _=>hna) o' pAll
 · have hans:QnX g' (s.does.getD c pk0) na.f [x] args:=by
    rcases PhI.step st.C st.P with ⟨na2,g2,cs2,x2,st2⟩ | ⟨args2,he2,ha2⟩
    · exact (JY st2.nx he).elim
    · have h1:=he.e false;rw [he2.e false] at h1;have h2:args2=args:=congrArg Qb.args h1;rw [<- h2];exact ha2
   refine ⟨hans,base _ out (by simp [lb]) (fun j hj hbj=>(bsub j hj hbj).2) (fun q=>by rw [bset,if_pos rfl] at q;cases q) o' (fun j hj hbj hp=>pAll j hj (bsub j hj hbj).2 hp),fun hd=>?_⟩
   obtain ⟨_,a2,_⟩:=hans.c hd;refine ⟨fun hne=>by rw [a2] at hne ⊢;exact p2' hne,base _ _ (by simp [lb]) (fun j hj hbj=>(bsub j hj hbj).2) (fun q=>by rw [bset,if_pos rfl] at q;cases q) ?_ ?_⟩
   · intro w hw h0;rcases List.mem_append.1 hw with hw | hw
     · exact o' w hw h0
     · rw [List.mem_singleton] at hw;subst hw;rw [a2] at h0 ⊢;exact st.P.taken st.C h0
   · intro j hj hbj hp hm;obtain ⟨hjc,hbj'⟩:=bsub j hj hbj;rcases List.mem_append.1 hm with hm | hm
     · exact pAll j hj hbj' hp hm
     · rw [List.mem_singleton,a2] at hm;rw [tN,if_neg hjc] at hp hm;rw [hm] at hp;exact p1' j hj hjc hbj' hp hm.symm
 · rcases PhI.step st.C st.P with ⟨na2,g2,cs2,x2,st2⟩ | ⟨args2,he2,ha2⟩
   · exact .inl ⟨na2,st2.nx⟩
   · exact .inr ⟨args2,he2⟩
theorem VH {ar:List Int} (h:ar.length <= 96):(regs1 ar).length=96:=by unfold regs1;simp;omega
theorem Za {ar:List Int} {j:Nat} (h:j < ar.length):(regs1 ar).getD j 0=ar.getD j 0:=by
 unfold regs1;simp only [List.getD_eq_getElem?_getD];rw [List.getElem?_append_left h]
theorem GI.beg {s:ChS} {g:CG} {out:List Int} (h:GI s g out) {c:Nat} (hc:c < 4) (hb:s.busy.getD c false=false) {p:Int} {ar:List Int} {d:Pick} (hP:PhI g s.cs d ⟨p,0,regs1 ar⟩ []) (hn:∃ na,NxtP ⟨p,0,regs1 ar⟩ [] na):GI (s.beg c p ar d) g out:=by
 have lt:=h.L.ts;have lu:=h.L.us;have lb:=h.L.busy;have ld:=h.L.does;have tN:∀ j,(s.ts.set c (begTask c p ar)).getD j tk0=if j=c then begTask c p ar else s.ts.getD j tk0:=fun j=>ZD _ _ (by omega) j
 have uN:∀ j,(s.us.set c (begTask c p ar)).getD j tk0=if j=c then begTask c p ar else s.us.getD j tk0:=fun j=>ZD _ _ (by omega) j
 have bN:∀ j,(s.busy.set c true).getD j false=if j=c then true else s.busy.getD j false:=fun j=>ZD _ _ (by omega) j
 have dN:∀ j,(s.does.set c d).getD j pk0=if j=c then d else s.does.getD j pk0:=fun j=>ZD _ _ (by omega) j
 have p0:pendT (begTask c p ar)=0:=if_neg (fun h=>h.2.elim (fun h=>by have h:(0:Int)=4:=h.1;omega) (fun h=>by have h:(0:Int)=5:=h;omega))
 refine ⟨h.C,h.L.beg c p ar d,h.last,h.dn,h.key,h.cut,h.cr,?_,?_,?_,h.o⟩
 · intro j hj hbj;have hbj:(s.busy.set c true).getD j false=true:=hbj;rw [bN] at hbj
   by_cases hjc:j=c
   · subst hjc;exact ⟨⟨p,0,regs1 ar⟩,[],by show (s.ts.set j _).getD j tk0=_;rw [tN,if_pos rfl];rfl,by show (s.us.set j _).getD j tk0=_;rw [uN,if_pos rfl];rfl,by show PhI g s.cs ((s.does.set j d).getD j pk0) _ _;rw [dN,if_pos rfl];exact hP,hn⟩
   · rw [if_neg hjc] at hbj;obtain ⟨f,got,q⟩:=h.cl j hj hbj;exact ⟨f,got,by show (s.ts.set c _).getD j tk0=_;rw [tN,if_neg hjc];exact q.t,by show (s.us.set c _).getD j tk0=_;rw [uN,if_neg hjc];exact q.u,by show PhI g s.cs ((s.does.set c d).getD j pk0) _ _;rw [dN,if_neg hjc];exact q.P,q.nx⟩
 · intro j j' hj hj' hne hbj hbj' hp he;have hbj:(s.busy.set c true).getD j false=true:=hbj;have hbj':(s.busy.set c true).getD j' false=true:=hbj';have hp:pendT ((s.ts.set c (begTask c p ar)).getD j tk0) ≠ 0:=hp;have he:pendT ((s.ts.set c (begTask c p ar)).getD j tk0)=pendT ((s.ts.set c (begTask c p ar)).getD j' tk0):=he;rw [tN] at hp he;rw [tN] at he;rw [bN] at hbj hbj'
   by_cases hjc:j=c
   · rw [if_pos hjc] at hp;exact hp p0
   · rw [if_neg hjc] at hp he hbj
     by_cases hjc':j'=c
     · rw [if_pos hjc',p0] at he;exact hp he
     · rw [if_neg hjc'] at he hbj';exact h.p1 j j' hj hj' hne hbj hbj' hp he
 · intro j hj hbj hp;have hbj:(s.busy.set c true).getD j false=true:=hbj;have hp:pendT ((s.ts.set c (begTask c p ar)).getD j tk0) ≠ 0:=hp;show pendT ((s.ts.set c (begTask c p ar)).getD j tk0) ∉ out;rw [tN] at hp ⊢;rw [bN] at hbj
   by_cases hjc:j=c
   · rw [if_pos hjc] at hp;exact absurd p0 hp
   · rw [if_neg hjc] at hp ⊢ hbj;exact h.p2 j hj hbj hp
theorem PhI.start {g:CG} {cs:List Int} {d:Pick} {p:Int} {r:List Int} (h:PhI g cs d ⟨p,0,r⟩ []) (hC:QB g cs):∃ na,NxtP ⟨p,0,r⟩ [] na:=by
 rcases PhI.step hC h with ⟨na,_,_,_,st⟩ | ⟨args,he,_⟩
 · exact ⟨na,st.nx⟩
 · exfalso;have e:=he.e false;cases h with
   | get0 hr hd h0 h1 hk hs =>
    rw [QnZ] at e;unfold Ze at e;rw [if_pos rfl,h1,ZC false 72 r hk] at e;have e:(0:Int)=7:=congrArg Qb.kind e;omega
   | ins0 hr hd hp h0 h1 h2 pl =>
    rw [Qav] at e;unfold QX at e;rw [if_pos rfl,h2,ZC false 73 r (hC.kr _ hp.1 hp.2)] at e;have e:(0:Int)=7:=congrArg Qb.kind e;omega
   | cut0 hr hd h0 h1 hk he' =>
    rw [YK] at e;unfold QH at e;rw [if_pos rfl,h1,ZC false 74 r hk] at e;have e:(0:Int)=7:=congrArg Qb.kind e;omega
def CG.new (g:CG) (k v:Int):CG:=⟨fun p=>if p=g.n+1 then k else g.K p,fun p=>if p=g.n+1 then v else g.V p,g.n+1,g.m,g.cut⟩
theorem GI.new {s:ChS} {g:CG} {out:List Int} (h:GI s g out) (hm:g.m=g.n) (hn:g.n < 100) {k v:Int} (hk:0 <= k /\ k < 24) (hv:0 <= v /\ v < 256):GI ⟨Q3 s.cs s.last k v,s.ts,s.us,s.busy,s.last+1,false,k,s.does,s.cut⟩ (g.new k v) out:=by
 have hl:=h.C.len;have hlast:=h.last
 have eN:Q3 s.cs s.last k v=(s.cs.set (288+3 * (g.n+1)) 3).set (290+3 * (g.n+1)) (k * 256+v):=by
  unfold Q3;rw [hlast,show (291+3 * (g.n:Int)).toNat=288+3 * (g.n+1) by omega,show (293+3 * (g.n:Int)).toNat=290+3 * (g.n+1) by omega]
 rw [eN]
 have hN:∀ j,((s.cs.set (288+3 * (g.n+1)) 3).set (290+3 * (g.n+1)) (k * 256+v)).getD j 0=if j=290+3 * (g.n+1) then k * 256+v else if j=288+3 * (g.n+1) then 3 else s.cs.getD j 0:=fun j=>by
  rw [gset _ _ (by rw [List.length_set];omega),gset _ _ (by omega)]
 generalize hcs:(s.cs.set (288+3 * (g.n+1)) 3).set (290+3 * (g.n+1)) (k * 256+v)=cs' at hN;have hlen':cs'.length=771:=by rw [<- hcs,List.length_set,List.length_set];exact hl
 have hnx:∀ p,cs'.getD (289+3 * p) 0=s.cs.getD (289+3 * p) 0:=fun p=>by rw [hN,if_neg (by omega),if_neg (by omega)]
 have hK:∀ p,p <= g.n->(g.new k v).K p=g.K p:=fun p hp=>if_neg (by omega)
 have hV:∀ p,p <= g.n->(g.new k v).V p=g.V p:=fun p hp=>if_neg (by omega)
 have hKn:(g.new k v).K (g.n+1)=k:=if_pos rfl;have hVn:(g.new k v).V (g.n+1)=v:=if_pos rfl;have hprev:∀ k' q,q <= g.n+1->prevK (g.new k v).K k' q=prevK g.K k' q:=fun k' q hq=>Jk fun p h1 h2=>hK p (by omega)
 have hct:∀ k',(g.new k v).ct k'=g.ct k':=fun _=>rfl
 have hC':QB (g.new k v) cs':=by
  refine ⟨hlen',by rw [<- hcs];exact Zr (Zr h.C.fits (by omega)) (by omega),by show g.n+1 <= 100;omega,by show g.m <= g.n+1;omega,by show g.n+1 <= g.m+1;omega,fun p a b=>?_,fun p a b=>?_,fun k' hk'=>?_,fun p a b=>?_,fun p a b=>?_,fun p a b=>?_,fun _=>?_,fun p a b=>?_⟩
  · by_cases e:p=g.n+1
    · rw [e,hKn];exact hk
    · have b:p <= g.n+1:=b;rw [hK p (by omega)];exact h.C.kr p a (by omega)
  · by_cases e:p=g.n+1
    · rw [e,hVn];exact hv
    · have b:p <= g.n+1:=b;rw [hV p (by omega)];exact h.C.vr p a (by omega)
  · rw [hN,if_neg (by omega),if_neg (by omega)]
    show _=wP (prevK (g.new k v).K k' (g.m+1));rw [hprev _ _ (by omega)];exact h.C.hd k' hk'
  · by_cases e:p=g.n+1
    · rw [e,hN,if_neg (by omega),if_pos rfl]
    · have b:p <= g.n+1:=b;rw [hN,if_neg (by omega),if_neg (by omega)];exact h.C.gen p a (by omega)
  · by_cases e:p=g.n+1
    · rw [e,hN,if_pos rfl,hKn,hVn]
    · have b:p <= g.n+1:=b;rw [hN,if_neg (by omega),if_neg (by omega),hK p (by omega),hV p (by omega)];exact h.C.val p a (by omega)
  · have b:p <= g.m:=b;rw [hnx,hK p (by omega),hprev _ _ (by omega)];exact h.C.nx p a b
  · show cs'.getD (289+3 * (g.n+1)) 0 = -1 \/ _;rw [hnx];exact .inl (h.C.free _ (by omega) (by omega))
  · have a:g.n+1 < p:=a;rw [hnx];exact h.C.free p (by omega) b
 have hLt:Jl g s.cs (g.new k v) cs':=⟨fun p a b=>hK p b,by show g.n <= g.n+1;omega,Nat.le_refl _,h.C.mn,fun _=>Int.le_refl _,fun p a b hn'=>by rw [hnx];exact hn',fun p a b hz=>by rw [hnx];exact hz⟩
 refine ⟨hC',⟨h.L.ts,h.L.us,h.L.busy,h.L.does,h.L.cut,hlen'⟩,by show s.last+1=((g.n+1:Nat):Int);omega,(fun q=>by cases q),fun _=>hKn.symm,h.cut,fun k' hk'=>?_,fun c hc hb=>?_,h.p1,h.p2,fun w hw h0=>?_⟩
 · obtain ⟨q1,q2⟩:=h.cr k' hk';exact ⟨q1,q2.imp id fun q=>by show g.ct k' < ((g.n+1:Nat):Int);omega⟩
 · obtain ⟨f,got,q⟩:=h.cl c hc hb;exact ⟨f,got,q.t,q.u,q.P.later hLt fun hd=>q.P.ctle hd,q.nx⟩
 · obtain ⟨y,y1,y2,y3,y4⟩:=h.o w hw h0;exact ⟨y,y1,y2,y3,y4.later hLt⟩
theorem GI.begAll {g:CG} {out:List Int} (cc many:Int) (hn:1 <= g.n):∀ (k i:Nat) (s:ChS),i+k <= 4->GI s g out->GI (begAll cc many [(g.n:Int),255+(g.n:Int),g.K g.n] ⟨0,0,0,0,(g.n:Int),0⟩ k i s) g out
 | 0,_,s,_,h=>h
 | k+1,i,s,hi,h=>by
  unfold Ev.begAll;refine GI.begAll cc many hn k (i+1) _ (by omega) ?_
  by_cases hw:s.busy.getD i false=false /\ ((i:Int)=cc \/ QbO many i=true)
  · rw [if_pos hw]
    have hP:PhI g s.cs ⟨0,0,0,0,(g.n:Int),0⟩ ⟨73,0,regs1 [(g.n:Int),255+(g.n:Int),g.K g.n]⟩ [] :=
     .ins0 (p:=g.n) (VH (by simp)) rfl ⟨hn,Nat.le_refl _⟩ (Za (by simp)) (Za (by simp)) (Za (by simp)) rfl
    exact h.beg (by omega) hw.1 hP (hP.start h.C)
  · rw [if_neg hw];exact h
theorem Qa9 {busy:List Bool} {does:List Pick} {k p:Int}:∀ {n i:Nat},Yq busy does k p n i=false -> ∀ j,i <= j->j < i+n->busy.getD j false=true->(does.getD j pk0).do_=1->(does.getD j pk0).key=k->p <= (does.getD j pk0).place
 | 0,i,_,j,h1,h2,_,_,_=>by omega
 | n+1,i,h,j,h1,h2,hb,hd,hk=>by
  unfold Yq at h;rw [Bool.or_eq_false_iff] at h
  by_cases e:j=i
  · subst e;have h3:=h.1;have hp0:(⟨0,0,0,0,0,0⟩:Pick)=pk0:=rfl;rw [hp0,hb,hd,hk] at h3;simp at h3;exact h3
  · exact Qa9 h.2 j (by omega) (by omega) hb hd hk
theorem Qq3 {cut:List Int} (hl:cut.length=24) {k:Int} (hk:0 <= k /\ k < 24) (x:Int) (j:Int) (hj:0 <= j):(cut.set k.toNat x).getD j.toNat 0=if j=k then x else cut.getD j.toNat 0:=by
 rw [gset _ _ (by omega)]
 by_cases e:j=k
 · rw [if_pos e,if_pos (by rw [e])]
 · rw [if_neg e,if_neg (by omega)]
theorem GI.b1 {s:ChS} {g:CG} {out:List Int} (h:GI s g out) (xc xd xk xv xp xm:Int):∃ g',GI (s.b1 xc xd xk xv xp xm) g' out /\
 ((s.b1 xc xd xk xv xp xm).last=s.last /\ g'.n=g.n /\ g'.K=g.K /\ g'.V=g.V /\ g'.m=g.m \/ (s.b1 xc xd xk xv xp xm).last=s.last+1 /\ g'=g.new (xk % 24) (xv % 256) /\ (s.b1 xc xd xk xv xp xm).key=xk % 24):=by
 have c0:=Int.emod_nonneg xc (show (4:Int) ≠ 0 by decide)
 have c1:=Int.emod_lt_of_pos xc (show (0:Int) < 4 by decide)
 have k0:=Int.emod_nonneg xk (show (24:Int) ≠ 0 by decide)
 have k1:=Int.emod_lt_of_pos xk (show (0:Int) < 24 by decide)
 have v0:=Int.emod_nonneg xv (show (256:Int) ≠ 0 by decide)
 have v1:=Int.emod_lt_of_pos xv (show (0:Int) < 256 by decide)
 have hlast:=h.last;have n100:=h.C.n100;have mn:=h.C.mn;have nm:=h.C.nm
 have same:∀ {t:ChS},t=s -> ∃ g',GI t g' out /\ (t.last=s.last /\ g'.n=g.n /\ g'.K=g.K /\ g'.V=g.V /\ g'.m=g.m \/ t.last=s.last+1 /\ g'=g.new (xk % 24) (xv % 256) /\ t.key=xk % 24):=fun e=>by
  subst e;exact ⟨g,h,.inl ⟨rfl,rfl,rfl,rfl,rfl⟩⟩
 obtain ⟨ct0,ct1⟩:=h.cr (xk % 24).toNat (by omega)
 have hk':(((xk % 24).toNat:Nat):Int)=xk % 24:=by omega
 rw [hk'] at ct0 ct1;have hcut:s.cut.getD (xk % 24).toNat 0=g.ct (xk % 24):=by rw [h.cut];rfl
 have hcn:(xc % 4).toNat < 4:=by omega
 unfold ChS.b1
 by_cases d0:xd=0
 · rw [if_pos d0]
   by_cases hq:0 < s.last /\ s.done=false \/ 100 <= s.last \/ s.busy.getD (xc % 4).toNat false=true
   · rw [if_pos hq];exact same rfl
   · rw [if_neg hq]
     have hm:g.m=g.n:=by
      rcases Nat.eq_zero_or_pos g.n with e | e
      · omega
      · exact h.dn (by cases hd:s.done;exact absurd (.inl ⟨by omega,hd⟩) hq;rfl)
     have hn:g.n < 100:=by
      rcases Nat.lt_or_ge g.n 100 with e | e
      · exact e
      · exact absurd (.inr (.inl (by omega))) hq
     have hnew:=h.new hm hn (k:=xk % 24) (v:=xv % 256) ⟨k0,k1⟩ ⟨v0,v1⟩;have hgn:(g.new (xk % 24) (xv % 256)).n=g.n+1:=rfl;have hgk:(g.new (xk % 24) (xv % 256)).K (g.n+1)=xk % 24:=if_pos rfl;have hall:=GI.begAll (xc % 4) xm (show 1 <= (g.new (xk % 24) (xv % 256)).n by rw [hgn];omega) 4 0 _ (by omega) hnew
     rw [hgn,hgk] at hall;have e1:((g.n+1:Nat):Int)=s.last+1:=by omega
     have e2:255+((g.n+1:Nat):Int)=256+s.last:=by omega
     rw [e2,e1] at hall;obtain ⟨b1,b2,b3,b4,b5⟩:=Vg (xc % 4) xm [s.last+1,256+s.last,xk % 24] ⟨0,0,0,0,s.last+1,0⟩ 4 0 ⟨Q3 s.cs s.last (xk % 24) (xv % 256),s.ts,s.us,s.busy,s.last+1,false,xk % 24,s.does,s.cut⟩;exact ⟨_,hall,.inr ⟨b2,rfl,b4⟩⟩
 rw [if_neg d0]
 by_cases d1:xd=1
 · rw [if_pos d1];cases hb:s.busy.getD (xc % 4).toNat false;rotate_left
   · rw [if_pos rfl];exact same rfl
   · rw [if_neg (by simp),hcut]
     have hfr:g.ct (xk % 24) <= s.front /\ s.front <= g.m:=by
      unfold ChS.front;cases hd:s.done
      · simp only [cond_false]
        split <;> omega
      · have:=h.dn hd;simp only [cond_true];omega
     have hpl:g.ct (xk % 24) <= V2 xp (g.ct (xk % 24)) s.front /\ V2 xp (g.ct (xk % 24)) s.front <= s.front:=by
      unfold V2
      split <;> split <;> omega
     generalize V2 xp (g.ct (xk % 24)) s.front=pl at hpl ⊢
     have hP:PhI g s.cs ⟨0,1,xk % 24,0,pl,0⟩ ⟨72,0,regs1 [pl,xk % 24]⟩ [] :=
      .get0 (VH (by simp)) rfl (Za (by simp)) (Za (by simp)) ⟨k0,k1⟩ ⟨hpl.1,by show 0 <= pl;omega,by show pl <= (g.m:Int);omega⟩
     exact ⟨g,h.beg hcn hb hP (hP.start h.C),.inl ⟨rfl,rfl,rfl,rfl,rfl⟩⟩
 rw [if_neg d1]
 by_cases d2:xd=2
 · rw [if_pos d2]
   by_cases hq:s.busy.getD (xc % 4).toNat false=false /\ 0 <= xp /\ xp < s.last
   rotate_left
   · rw [if_neg hq];exact same rfl
   rw [if_pos hq];obtain ⟨hb,x0,x1⟩:=hq;cases hg:Yq s.busy s.does (xk % 24) xp 4 0;rotate_left
   · rw [if_pos rfl];exact same rfl
   rw [if_neg (by simp),hcut]
   have hmax:xp <= (if g.ct (xk % 24) < xp then xp else g.ct (xk % 24)) /\ g.ct (xk % 24) <= (if g.ct (xk % 24) < xp then xp else g.ct (xk % 24)) /\ ((if g.ct (xk % 24) < xp then xp else g.ct (xk % 24))=xp \/ (if g.ct (xk % 24) < xp then xp else g.ct (xk % 24))=g.ct (xk % 24)):=by
    split <;> omega
   generalize (if g.ct (xk % 24) < xp then xp else g.ct (xk % 24))=mx at hmax ⊢
   have hcl:g.cut.length=24:=by rw [<- h.cut];exact h.L.cut
   have hct:∀ j,0 <= j->({ g with cut:=g.cut.set (xk % 24).toNat mx }:CG).ct j=if j=xk % 24 then mx else g.ct j:=fun j hj=>Qq3 hcl ⟨k0,k1⟩ mx j hj
   have hcle:∀ j,g.ct j <= ({ g with cut:=g.cut.set (xk % 24).toNat mx }:CG).ct j:=fun j=>by
    rcases Int.lt_or_le j 0 with e | e
    · have e2:({ g with cut:=g.cut.set (xk % 24).toNat mx }:CG).ct j=({ g with cut:=g.cut.set (xk % 24).toNat mx }:CG).ct 0:=by unfold CG.ct;rw [show j.toNat=(0:Int).toNat by omega]
      have e3:g.ct j=g.ct 0:=by unfold CG.ct;rw [show j.toNat=(0:Int).toNat by omega]
      rw [e2,e3,hct 0 (by omega)]
      split
      · rename_i q;rw [q];omega
      · omega
    · rw [hct j e]
      split
      · rename_i q;rw [q];omega
      · omega
   have hC2:QB { g with cut:=g.cut.set (xk % 24).toNat mx } s.cs :=
    ⟨h.C.len,h.C.fits,h.C.n100,h.C.mn,h.C.nm,h.C.kr,h.C.vr,h.C.hd,h.C.gen,h.C.val,fun p a b=>(h.C.nx p a b).imp id fun q=>⟨q.1,Int.le_trans q.2 (hcle _)⟩,h.C.nxn,h.C.free⟩
   have hLt:Jl g s.cs { g with cut:=g.cut.set (xk % 24).toNat mx } s.cs:=⟨fun _ _ _=>rfl,Nat.le_refl _,Nat.le_refl _,h.C.mn,hcle,fun _ _ _ q=>q,fun _ _ _ q=>q⟩
   have h2:GI { s with cut:=s.cut.set (xk % 24).toNat mx } { g with cut:=g.cut.set (xk % 24).toNat mx } out:=by
    refine ⟨hC2,⟨h.L.ts,h.L.us,h.L.busy,h.L.does,by show (s.cut.set _ _).length=24;rw [List.length_set];exact h.L.cut,h.L.cs⟩,h.last,h.dn,h.key,by show s.cut.set _ _=g.cut.set _ _;rw [h.cut],fun k hk=>?_,fun c hc hbc=>?_,h.p1,h.p2,fun w hw h0=>?_⟩
    · rw [hct _ (by omega)]
      obtain ⟨q1,q2⟩:=h.cr k hk
      split
      · show 0 <= mx /\ (mx=0 \/ mx < (g.n:Int));omega
      · exact ⟨q1,q2⟩
    · obtain ⟨f,got,q⟩:=h.cl c hc hbc;refine ⟨f,got,q.t,q.u,q.P.later hLt fun hd=>?_,q.nx⟩;have hle:=q.P.ctle hd
      have hkr:0 <= (s.does.getD c pk0).key:=by
       have:=q.P;cases this <;> first | omega | exact absurd hd (by omega)
      show ({ g with cut:=g.cut.set (xk % 24).toNat mx }:CG).ct (s.does.getD c pk0).key <= (s.does.getD c pk0).place;rw [hct _ hkr]
      split
      · rename_i hkk;have:=Qa9 hg c (by omega) (by omega) hbc hd hkk
        rw [hkk] at hle;omega
      · exact hle
    · obtain ⟨y,y1,y2,y3,y4⟩:=h.o w hw h0;exact ⟨y,y1,y2,y3,y4.later hLt⟩
   have hP:PhI { g with cut:=g.cut.set (xk % 24).toNat mx } s.cs ⟨0,2,xk % 24,0,xp,0⟩ ⟨74,0,regs1 [xp,xk % 24]⟩ [] :=
    .cut0 (VH (by simp)) rfl (Za (by simp)) (Za (by simp)) ⟨k0,k1⟩ ⟨x0,by rw [hct _ k0,if_pos rfl];exact hmax.1⟩
   exact ⟨_,h2.beg hcn hb hP (hP.start hC2),.inl ⟨rfl,rfl,rfl,rfl,rfl⟩⟩
 · rw [if_neg d2];exact same rfl
structure OnS where
 s:ChS
 put:List (List Item)
 out:List Int
structure OnI (o:OnS) (n:Nat) (now sure:List Sector):Prop where
 d1:Qx now sure=true
 d2:Qr now=true
 d3:Qr sure=true
 g:∃ g,GI o.s g o.out /\ ∀ k:Nat,k < 24->o.put.getD k []=putK g.K g.V k g.n
 pl:o.put.length=24
 on:o.out.length <= n
theorem Qgg (K V:Nat->Int) (k:Int):∀ n,(putK K V k n).length <= n
 | 0=>Nat.le_refl _
 | n+1=>by
  have:=Qgg K V k n;unfold putK
  split
  · simp;omega
  · omega
theorem Qdu (K V:Nat->Int) (k:Int) (P:Nat):∀ n,(putK K V k n).find? (fun x=>decide (x.place <= (P:Int)))=if prevK K k (min n P+1)=0 then none else some ⟨k,((prevK K k (min n P+1):Nat):Int),V (prevK K k (min n P+1))⟩
 | 0=>by
  have:prevK K k (min 0 P+1)=0:=by rw [Nat.zero_min];simp [prevK]
  rw [this,if_pos rfl];rfl
 | n+1=>by
  have ih:=Qdu K V k P n;unfold putK
  by_cases hk:K (n+1)=k
  · rw [if_pos hk]
    by_cases hp:n+1 <= P
    · have e:prevK K k (min (n+1) P+1)=n+1:=by
       rw [Nat.min_eq_left hp];unfold prevK;rw [if_pos ⟨by omega,hk⟩]
      rw [e,if_neg (by omega),List.find?_cons_of_pos (by simp;omega)]
    · have e:min (n+1) P=min n P:=by omega
      rw [e,<- ih,List.find?_cons_of_neg (by simp;omega)]
  · rw [if_neg hk,ih]
    by_cases hp:n+1 <= P
    · have e:prevK K k (min (n+1) P+1)=prevK K k (min n P+1):=by
       rw [Nat.min_eq_left hp,Nat.min_eq_left (by omega)]
       conv=>lhs;unfold prevK
       rw [if_neg (fun h=>hk h.2)]
      rw [e]
    · have e:min (n+1) P=min n P:=by omega
      rw [e]
theorem PhI.insn {g:CG} {cs:List Int} {d:Pick} {f:Frame} {got:List Int} (h:PhI g cs d f got) (hmn:g.m <= g.n) (hd:d.do_=0):1 <= g.n:=by
 cases h with
 | ins0 hr hd' hp=>omega
 | ins1 hr hd' hp=>omega
 | ins2 hr hd' hp=>omega
 | ins3 hr hd' hp=>omega
 | get0 hr hd'=>omega
 | get1 hr hd'=>omega
 | cut0 hr hd'=>omega
 | cut1 hr hd'=>omega
 | cut2 hr hd'=>omega
 | cut3 hr hd'=>omega
 | cut4n hr hd'=>omega
 | cut4y hr hd'=>omega
 | cut5 hr hd'=>omega
theorem PhI.do3 {g:CG} {cs:List Int} {d:Pick} {f:Frame} {got:List Int} (h:PhI g cs d f got):d.do_=0 \/ d.do_=1 /\ (0 <= d.key /\ d.key < 24) /\ 0 <= d.place /\ d.place <= g.m \/ d.do_=2:=by
 cases h with
 | ins0 hr hd' hp=>omega
 | ins1 hr hd' hp=>omega
 | ins2 hr hd' hp=>omega
 | ins3 hr hd' hp=>omega
 | get0 hr hd' h0 h1 hk hs=>omega
 | get1 hr hd' h0 h1 hk hs=>omega
 | cut0 hr hd'=>omega
 | cut1 hr hd'=>omega
 | cut2 hr hd'=>omega
 | cut3 hr hd'=>omega
 | cut4n hr hd'=>omega
 | cut4y hr hd'=>omega
 | cut5 hr hd'=>omega
def ChS.to (s:ChS) (c:Nat) (cs':List Int) (t1:Task) (b:List Bool):ChS:={ s with cs:=cs',ts:=s.ts.set c t1,us:=s.us.set c t1,busy:=b }
inductive QsI (o:OnS) (n:Nat) (now sure:List Sector) (c:Nat) (t1:Task) (cs':List Int):Prop
 | on (e:(goT nCh false t1).is=true) (I:OnI ⟨o.s.to c cs' t1 o.s.busy,o.put,o.out⟩ n now sure)
 | ins (e:(goT nCh false t1).is=false) (d:(o.s.does.getD c pk0).do_=0) (hp:(o.s.does.getD c pk0).place ≠ o.s.last) (I:OnI ⟨o.s.to c cs' t1 (o.s.busy.set c false),o.put,o.out⟩ n now sure)
 | insL (e:(goT nCh false t1).is=false) (d:(o.s.does.getD c pk0).do_=0) (hp:(o.s.does.getD c pk0).place=o.s.last) (rd:OkRd cs' o.s.key) (it:Item) (r1 r2:List Item)
  (e1:rdW cs' o.s.key 160 (wh (cs'.getD (21+o.s.key).toNat 0))=it::r1) (e2:o.put.getD o.s.key.toNat []=it::r2) (e3:r1=[] \/ ∃ y r,r1=y::r /\ y.place < o.s.last) (I:OnI ⟨{ o.s.to c cs' t1 (o.s.busy.set c false) with done:=true },o.put,o.out⟩ n now sure)
 | sel (e:(goT nCh false t1).is=false) (d:(o.s.does.getD c pk0).do_=1) (w:Int) (g:(goT nCh false t1).got=[w]) (k:0 <= (o.s.does.getD c pk0).key /\ (o.s.does.getD c pk0).key < 24)
  (fnd:(match (o.put.getD (o.s.does.getD c pk0).key.toNat []).find? (fun x=>decide (x.place <= (o.s.does.getD c pk0).place)) with | some x=>plc w == x.place | none=>w == 0)=true) (I:OnI ⟨o.s.to c cs' t1 (o.s.busy.set c false),o.put,o.out⟩ n now sure)
 | cut (e:(goT nCh false t1).is=false) (d:(o.s.does.getD c pk0).do_=2) (a b:Int) (g:(goT nCh false t1).got=[a,b]) (nb:a ≠ 0->a ∉ o.out) (pl:a=0 \/ plc a < (o.s.does.getD c pk0).place) (I:OnI ⟨o.s.to c cs' t1 (o.s.busy.set c false),o.put,o.out++[a]⟩ (n+1) now sure)
theorem Qq4 {g:CG} {cs:List Int} (hC:QB g cs) (hn:1 <= g.n) (hm:g.m=g.n):∃ r1,rdW cs (g.K g.n) 160 (wh (cs.getD (21+g.K g.n).toNat 0))=⟨g.K g.n,(g.n:Int),g.V g.n⟩::r1 /\ (r1=[] \/ ∃ y r,r1=y::r /\ y.place < (g.n:Int)):=by
 have n100:=hC.n100;obtain ⟨k0,k1⟩:=hC.kr g.n hn (Nat.le_refl _);obtain ⟨v0,v1⟩:=hC.vr g.n hn (Nat.le_refl _);obtain ⟨h1,_⟩:=hC.head ⟨k0,k1⟩;have e:prevK g.K (g.K g.n) (g.m+1)=g.n:=by rw [hm];unfold prevK;rw [if_pos ⟨hn,rfl⟩]
 have hR:=hC.rok;have hne:¬ wP g.n=0:=fun h=>by have:=Qdl h;omega
 have hv:valW cs (wP g.n)=g.K g.n * 256+g.V g.n:=by rw [hR.valw hn (by omega),hC.val g.n hn (Nat.le_refl _)]
 obtain ⟨q,q1,q2,q3⟩:=hR.nx g.n hn (by omega)
 rw [show (21+g.K g.n).toNat=21+(g.K g.n).toNat by omega,h1,e,Kj n100]
 unfold rdW;rw [if_neg hne,hv,ZZ n100,hR.nxt hn (by omega),q2,Kj (by omega),show (g.K g.n * 256+g.V g.n) % 256=g.V g.n by omega]
 refine ⟨_,rfl,?_⟩;show rdW cs (g.K g.n) (158+1) (wP q)=[] \/ _;unfold rdW
 by_cases hq:wP q=0
 · rw [if_pos hq];exact .inl rfl
 · rw [if_neg hq];exact .inr ⟨_,_,rfl,by show plc (wP q) < _;rw [ZZ (by omega)];omega⟩
theorem OnI.stp {o:OnS} {n:Nat} {now sure:List Sector} (h:OnI o n now sure) {c:Nat} (hc:c < 4) (hb:o.s.busy.getD c false=true):∃ t1 cs',Jh (c:Int) o.s.cs (o.s.ts.getD c tk0) (o.s.us.getD c tk0) now sure /\ gmCs nCh o.s.cs (o.s.ts.getD c tk0)=cs' /\
 gmT nCh false (gmX nCh o.s.cs (o.s.ts.getD c tk0)) (o.s.ts.getD c tk0)=t1 /\ gmT nCh true (gmX nCh o.s.cs (o.s.ts.getD c tk0)) (o.s.us.getD c tk0)=t1 /\ o.s.cs.length=cs'.length /\ OkRt cs' /\ QsI o n now sure c t1 cs':=by
 obtain ⟨d1,d2,d3,⟨g,hg,hput⟩,hpl,hon⟩:=h;obtain ⟨f,got,na,g',cs',x,st⟩:=hg.step hc hb;obtain ⟨e1,e2,e3⟩:=QhP (c:=c) st.st.nx o.s.cs false;obtain ⟨_,_,e4⟩:=QhP (c:=c) st.st.nx o.s.cs true;have hput':∀ k:Nat,k < 24->o.put.getD k []=putK g'.K g'.V k g'.n:=fun k hk=>by rw [st.st.K,st.st.V,st.st.n];exact hput k hk
 have mk:∀ {s:ChS} {out:List Int} {m:Nat},GI s g' out->out.length <= m->OnI ⟨s,o.put,out⟩ m now sure:=fun hI hl=>⟨d1,d2,d3,⟨g',hI,hput'⟩,hpl,hl⟩;have n100:=hg.C.n100;have nn:=st.st.n;have mn':=st.st.C.mn;refine ⟨tkOf c na.f [x],cs',?_,?_,?_,?_,?_,⟨_,_,st.st.C.rok⟩,?_⟩
 · rw [st.cl.t,st.cl.u];exact Qdt hg.C st.st d1 d2 d3
 · rw [st.cl.t,e2,st.st.ce]
 · rw [st.cl.t,e1,st.st.xe,e3]
 · rw [st.cl.t,st.cl.u,e1,st.st.xe,e4]
 · rw [hg.C.len,st.st.C.len]
 · rcases st.or with ⟨na',hn⟩ | ⟨args,he⟩
   · exact .on (by rw [ZX hn]) (mk (st.go ⟨na',hn⟩) hon)
   · have i0:(goT nCh false (tkOf c na.f [x])).is=false:=by rw [Vh he]
     have g0:(goT nCh false (tkOf c na.f [x])).got=args:=by rw [Vh he]
     obtain ⟨ans,hG,hcut⟩:=st.en args he;rcases st.cl.P.do3 with d | ⟨d,dk,dp⟩ | d
     · by_cases hp:(o.s.does.getD c pk0).place=o.s.last
       · have hi:=ans.i d;have hn:=st.cl.P.insn hg.C.mn d;have hl:=hg.last;have hm:g'.m=g'.n:=by omega
         have hk:o.s.key=g'.K g'.n:=by rw [st.st.K,nn];exact hg.key hn
         obtain ⟨r1,q1,q2⟩:=Qq4 st.st.C (by omega) hm
         obtain ⟨k0,k1⟩:=st.st.C.kr g'.n (by omega) (Nat.le_refl _)
         have hp2:=hput' o.s.key.toNat (by omega)
         obtain ⟨n',hn'⟩:∃ n',g'.n=n'+1:=⟨g'.n - 1,by omega⟩
         have hc2:((o.s.key.toNat:Nat):Int)=g'.K (n'+1):=by rw [<- hn'];omega
         rw [hn',hc2] at hp2;unfold putK at hp2;rw [if_pos rfl,<- hn'] at hp2;refine .insL i0 d hp ⟨⟨_,_,st.st.C.rok⟩,by omega,by omega⟩ _ r1 _ (by rw [hk];exact q1) hp2 ?_ (mk ⟨hG.C,⟨hG.L.ts,hG.L.us,hG.L.busy,hG.L.does,hG.L.cut,hG.L.cs⟩,hG.last,fun _=>hm,hG.key,hG.cut,hG.cr,(fun j hj hbj=>(hG.cl j hj hbj).imp fun _ q=>q.imp fun _ q=>⟨q.t,q.u,q.P,q.nx⟩),hG.p1,hG.p2,hG.o⟩ hon)
         rw [hl,<- nn];exact q2
       · exact .ins i0 d hp (mk hG hon)
     · have hs:=ans.s d;refine .sel i0 d _ (by rw [g0,hs]) dk ?_ (mk hG hon)
       have hp2:=hput' (o.s.does.getD c pk0).key.toNat (by omega)
       rw [show (((o.s.does.getD c pk0).key.toNat:Nat):Int)=(o.s.does.getD c pk0).key by omega] at hp2
       have hf:=Qdu g'.K g'.V (o.s.does.getD c pk0).key (o.s.does.getD c pk0).place.toNat g'.n;rw [show (((o.s.does.getD c pk0).place.toNat:Nat):Int)=(o.s.does.getD c pk0).place by omega] at hf
       have hm2:=st.st.L.m;rw [hp2,hf,Nat.min_eq_right (by omega)]
       by_cases hz:prevK g'.K (o.s.does.getD c pk0).key ((o.s.does.getD c pk0).place.toNat+1)=0
       · rw [if_pos hz,hz];rfl
       · rw [if_neg hz];have hle:=Qo g'.K (o.s.does.getD c pk0).key ((o.s.does.getD c pk0).place.toNat+1) (by omega)
         show (plc (wP _) == _)=true;rw [ZZ (by omega)]
         simp
     · obtain ⟨c1,c2,c3⟩:=ans.c d;obtain ⟨h1,h2⟩:=hcut d
       match args,c1,c3,h1,h2,g0 with
       | [a,b],_,c3,h1,h2,g0 =>
        exact .cut i0 d a b g0 h1 c3 (mk h2 (by simp;omega))
theorem OnI.okBeg {o:OnS} {n:Nat} {now sure:List Sector} (h:OnI o n now sure):Qed o.s:=by
 obtain ⟨d1,d2,d3,⟨g,hg,hput⟩,hpl,hon⟩:=h;have:=hg.last;have:=hg.C.n100;exact ⟨hg.L,by omega,by omega⟩
def putX (l0:Int) (b:ChS) (v:Int) (put:List (List Item)):List (List Item):=if l0 < b.last then put.set b.key.toNat ([⟨b.key,b.last,v⟩]++put.getD b.key.toNat []) else put
theorem OnI.beg {o:OnS} {n:Nat} {now sure:List Sector} (h:OnI o n now sure) (xc xd xk xv xp xm:Int):OnI ⟨o.s.b1 xc xd xk xv xp xm,putX o.s.last (o.s.b1 xc xd xk xv xp xm) (xv % 256) o.put,o.out⟩ n now sure /\
 (o.s.last < (o.s.b1 xc xd xk xv xp xm).last->0 <= (o.s.b1 xc xd xk xv xp xm).key /\ (o.s.b1 xc xd xk xv xp xm).key < 24 /\ (o.put.getD (o.s.b1 xc xd xk xv xp xm).key.toNat []).length <= 100):=by
 obtain ⟨d1,d2,d3,⟨g,hg,hput⟩,hpl,hon⟩:=h;have hl:=hg.last;have n100:=hg.C.n100;have k0:=Int.emod_nonneg xk (show (24:Int) ≠ 0 by decide)
 have k1:=Int.emod_lt_of_pos xk (show (0:Int) < 24 by decide)
 obtain ⟨g',hg',hc⟩:=hg.b1 xc xd xk xv xp xm;generalize o.s.b1 xc xd xk xv xp xm=b at hg' hc ⊢;rcases hc with ⟨e1,e2,e3,e4,e5⟩ | ⟨e1,e2,e3⟩
 · refine ⟨⟨d1,d2,d3,⟨g',hg',fun k hk=>?_⟩,?_,hon⟩,fun q=>by omega⟩
   · show (putX _ _ _ _).getD k []=_;unfold putX;rw [if_neg (by omega),e2,e3,e4];exact hput k hk
   · show (putX _ _ _ _).length=24;unfold putX;rw [if_neg (by omega)];exact hpl
 · subst e2;refine ⟨⟨d1,d2,d3,⟨_,hg',fun k hk=>?_⟩,?_,hon⟩,fun q=>⟨by omega,by omega,?_⟩⟩
   · show (putX _ _ _ _).getD k []=putK (g.new (xk % 24) (xv % 256)).K (g.new (xk % 24) (xv % 256)).V k (g.n+1);have hK:∀ p,p <= g.n->(g.new (xk % 24) (xv % 256)).K p=g.K p:=fun p hp=>if_neg (by omega)
     have hV:∀ p,p <= g.n->(g.new (xk % 24) (xv % 256)).V p=g.V p:=fun p hp=>if_neg (by omega)
     have hKn:(g.new (xk % 24) (xv % 256)).K (g.n+1)=xk % 24:=if_pos rfl;have hVn:(g.new (xk % 24) (xv % 256)).V (g.n+1)=xv % 256:=if_pos rfl;unfold putX putK;rw [if_pos (by omega),hKn,hVn,Qa8 fun p a b=>⟨hK p b,hV p b⟩,ZD _ _ (by omega),e3]
     by_cases hkk:k=(xk % 24).toNat
     · have:xk % 24=(k:Int):=by omega
       rw [if_pos hkk,if_pos this,hput _ (by omega),<- hkk,e1,hl,this];rfl
     · rw [if_neg hkk,if_neg (by omega)];exact hput k hk
   · show (putX _ _ _ _).length=24;unfold putX;rw [if_pos (by omega),List.length_set];exact hpl
   · rw [hput _ (by omega)]
     have:=Qgg g.K g.V ((b.key.toNat:Nat):Int) g.n;omega
theorem OnI.mono {o:OnS} {n:Nat} {now sure:List Sector} (h:OnI o n now sure):OnI o (n+1) now sure:=⟨h.d1,h.d2,h.d3,h.g,h.pl,by have:=h.on;omega⟩
theorem YG {α:Type} {b:Bool} {P:Prop} {x y:Option α} {Q:α->Prop} (hb:b=true) (h:P) (ha:Leaf x Q):Leaf (bif b && cdec P then x else y) Q:=by rw [QK h,hb];exact ha
theorem Yr {α:Type} {b:Bool} {x y:Option α} {Q:α->Prop} (hb:b=true) (ha:Leaf x Q):Leaf (bif b then x else y) Q:=by rw [hb];exact ha
theorem Kg {α:Type} {b:Bool} {x y:Option α} {Q:α->Prop} (hb:b=false) (ha:Leaf y Q):Leaf (bif b then x else y) Q:=by rw [hb];exact ha
open Go.Proofs
def nst:Nat->List Int
 | 0=>(List.replicate 771 0).set 1 1
 | i+1=>(nst i).set (292+3 * i) (-1)
theorem QlJ:∀ i,(nst i).length=771
 | 0=>by unfold nst;rw [List.length_set,List.length_replicate]
 | i+1=>by unfold nst;rw [List.length_set];exact QlJ i
theorem Qq5:nst 160=ZO:=by kernel_rfl
theorem Qr2:∃ l,l=ZO:=⟨ZO,rfl⟩
noncomputable def nC:List Int:=Classical.choose Qr2
theorem Qr3:nC=ZO:=Classical.choose_spec Qr2
structure QlK where
 i:Nat
 l:List Int
noncomputable def QlL (i:Nat) (l:List Int):Env RC:=[(1,.vs 0 771),(2,.int .i64 (i:Int))]
def Qba (i:Nat) (l:List Int):List (Obj RC):=[.vec .int true l]
noncomputable def QoV (i:Nat) (l:List Int):=rndO s18 um_3 16 4 60 1 [1,2] [] [.slot 1 0] (QlL i l) (Qba i l)
theorem Qq6 (i:Nat) (l:List Int):QoV i l=(let Z0:Int:=(↑i:Int);let Z1:Bool:=Nat.beq (771:Nat) l.length;let Z2:Int:=lField (291:Int) Z0 (1:Int) (160:Int) (3:Int);bif decide (Z0 < (160:Int)) then bif Z1 && decide ((0:Int) <= Z2 /\ Z2 < (↑l.length:Int)) then bif Z1 then some ((X.normal,[(1,D.vs 0 (771:Nat)),(2,D.int .i64 (IntKind.wrap .i64 (Z0+(1:Int))))]),[some (Obj.vec RTy.int true (List.set l Z2.toNat (-1:Int)))]) else none else none else some ((X.exit (0:Nat),[]),[some (Obj.vec RTy.int true l)])):=by kernel_rfl
noncomputable def Qgh (i:Nat) (l:List Int):RT RC:=.leaf (.exit 0) [] (Qba i nC)
def JI (i:Nat) (l:List Int):Prop:=i <= 160 /\ l=nst i
noncomputable def Qah:QV RC QlK where
 k:=1
 canon q:=QlL q.i q.l
 objs q:=Qba q.i q.l
 fin q:=Qgh q.i q.l
 Inv q:=JI q.i q.l
 μ q:=160 - q.i
theorem QhQ (i:Nat) (l:List Int) (hI:JI i l):Leaf (QoV i l) (LedR Qah ⟨i,l⟩):=by
 (rw [Qq6];conv=>zeta)
 unfold JI at hI;obtain ⟨h1,rfl⟩:=hI;have hl:=QlJ i
 by_cases hlt:i < 160
 · have v1:IntKind.i64.wrap ((i:Int)+1)=((i+1:Nat):Int):=by rw [Qq (by omega) (by omega)];simp
   have v4:lField 291 (i:Int) 1 160 3=292+3 * (i:Int):=by unfold lField;rw [if_pos ⟨by omega,by omega,by omega,by omega⟩];omega
   have v5:(292+3 * (i:Int)).toNat=292+3 * i:=by omega
   have d1:decide ((i:Int) < 160)=true:=decide_eq_true (by omega)
   have d2:decide (160 <= (i:Int))=false:=decide_eq_false (by omega)
   have d3:decide (291+3 * (i:Int) < 0)=false:=decide_eq_false (by omega)
   have d4:decide (0 <= 292+3 * (i:Int) /\ 292+3 * (i:Int) < ((nst i).length:Int))=true:=decide_eq_true ⟨by omega,by omega⟩
   have d5:Nat.beq 771 (nst i).length=true:=QcE hl.symm;simp only [v1,v4,v5,d1,d2,d3,d4,d5,Bool.and_self,cond_true,cond_false];exact QL (S:=Qah) (s:=⟨i,nst i⟩) ⟨i+1,nst (i+1)⟩ ⟨hlt,rfl⟩ (by simp only [Qah];omega) rfl rfl rfl
 · have e:i=160:=by omega
   have d1:decide ((i:Int) < 160)=false:=decide_eq_false (by omega)
   rw [d1];simp only [cond_false];exact QA (Qba i nC) rfl (by rw [e,Qq5,<- Qr3];rfl)
noncomputable def QlM (env:Env RC) (os:List (Obj RC)):Option (Bool × QlK):=match env,os with
 | [(1,.vs 0 771),(2,.int .i64 x0)],[.vec .int true l]=>QO (true) (decide (x0=0) && decide (l=nst 0),⟨0,l⟩)
 | _,_=>none
noncomputable def up_1:=um_3.addLoop 16 4 (sumR s18 [.slot 1 0] [1,2] Qah QlM)
theorem QlN:Qh Tryz.prog s18 up_1:=by
 refine QlH.addRoundsR Qc (by kernel_rfl) Qah 60 [1,2] [] [.slot 1 0] [1,2] QlM (fun q hI=>?_) ?_
 · obtain ⟨i,l⟩:=q;refine ⟨?_,?_,QhQ i l hI⟩
   · simp_all [Qj,Qah,QlL,Qba,JI,D.refs,Obj.refs,rEnc]
   · simp_all [Qah,Qgh,Qba,JI,RT.refsOK,Qj,D.refs,Obj.refs,rEnc]
 · intro env os b q hd_ hb;unfold QlM at hd_
   split at hd_
   · obtain ⟨hs,hd_⟩:=Qg hd_;cases hd_;simp only [Bool.and_eq_true,decide_eq_true_eq] at hb;obtain ⟨e0,e1⟩:=hb;subst e0;exact ⟨⟨Nat.zero_le _,e1⟩,rfl,rfl⟩
   · cases hd_
def phM (f:Frame):Nat :=
 if f.prog=74 then (if f.at'=0 then 400 else if f.at'=1 then 300 else if f.at'=2 then 120+(plc (f.r.getD 2 0)).toNat else if f.at'=3 then 10+(plc (f.r.getD 3 0)).toNat else if f.at'=4 then 5 else 4)
 else 10 - f.at'.toNat
theorem phM2 {r:List Int} {a:Nat} (h:r.getD 2 0=wP a) (ha:a <= 100):phM ⟨74,2,r⟩=120+a:=by
 show 120+(plc (r.getD 2 0)).toNat=_;rw [h,ZZ ha];omega
theorem phM3 {r:List Int} {a:Nat} (h:r.getD 3 0=wP a) (ha:a <= 100):phM ⟨74,3,r⟩=10+a:=by
 show 10+(plc (r.getD 3 0)).toNat=_;rw [h,ZZ ha];omega
theorem Qbb {p k:Int} {r l:List Int} {own:Bool} (h:(Q6 own p k r l).a.kind=0 \/ (Q6 own p k r l).a.kind=2):False:=by
 have e:(Q6 own p k r l).a.kind=7:=rfl;omega
theorem beh_less {r:List Int} {k:Int} {q:Nat} (hr:r.length=96) (hq:q <= 100) (hk:(QY false k r (wP q)).a.kind=0 \/ (QY false k r (wP q)).a.kind=2):phM (QY false k r (wP q)).f=120+q:=by
 unfold QY at hk ⊢;rw [Kj hq] at hk ⊢
 split at hk
 · exact (Qbb hk).elim
 · rename_i h;rw [if_neg h];exact phM2 (by rw [rset hr 2 _ (by omega),if_pos rfl]) hq
theorem last_less {r:List Int} {k:Int} {y:Nat} (hr:r.length=96) (hy:y <= 100) (hk:(Qy false k r (wP y)).a.kind=0 \/ (Qy false k r (wP y)).a.kind=2):phM (Qy false k r (wP y)).f=10+y:=by
 unfold Qy at hk ⊢
 split at hk
 · exact (Qbb hk).elim
 · rename_i h;rw [if_neg h];exact phM3 (by rw [rset hr 3 _ (by omega),if_pos rfl]) hy
theorem PhI.less {g:CG} {cs:List Int} {d:Pick} {f:Frame} {got:List Int} {na:NA} (hC:QB g cs) (h:PhI g cs d f got) (hd:d.do_ ≠ 1) (hn:NxtP f got na):phM na.f < phM f:=by
 have n100:=hC.n100;have mn:=hC.mn;have e:=hn.e false;have hk:=hn.kd;rw [<- e] at hk ⊢;clear e hn;cases h with
 | get0 hr hd'=>exact absurd hd' hd
 | get1 hr hd'=>exact absurd hd' hd
 | ins0 hr hd' hp h0 h1 h2 pl =>
  rw [Qav];unfold QX;rw [if_pos rfl,h2,ZC false 73 _ (hC.kr _ hp.1 hp.2)];show (10 - (1:Int).toNat) < (10 - (0:Int).toNat);decide
 | @ins1 r p q hr hd' hp h0 h1 h2 pl hq =>
  rw [Qav] at hk ⊢;unfold QX at hk ⊢;rw [if_neg (by decide),if_pos rfl] at hk ⊢
  split at hk
  · exact (Qbb hk).elim
  · rename_i h;rw [if_neg h];show (10 - (2:Int).toNat) < (10 - (1:Int).toNat);decide
 | ins2 hr hd' hp h0 h1 h2 pl h3 hn' =>
  rw [Qav];unfold QX;rw [if_neg (by decide),if_neg (by decide),if_pos rfl];show (10 - (3:Int).toNat) < (10 - (2:Int).toNat);decide
 | ins3 hr hd' hp pl =>
  rw [Qav] at hk;unfold QX at hk;rw [if_neg (by decide),if_neg (by decide),if_neg (by decide)] at hk;exact (Qbb hk).elim
 | cut0 hr hd' h0 h1 hk' he =>
  rw [YK];unfold QH;rw [if_pos rfl,h1,ZC false 74 _ hk'];show (300:Nat) < 400;decide
 | @cut1 r q hr hd' h0 h1 hk' he hq kq =>
  have ee:nCh false ⟨74,1,r⟩ [wP q]=QY false 1 r (wP q):=by rw [YK];unfold QH;rw [if_neg (by decide),if_pos rfl];rfl
  rw [ee] at hk ⊢;rw [beh_less hr (by omega) hk]
  show 120+q < 300;omega
 | @cut2 r a b hr hd' h0 h1 hk' he ha ka h2 hb =>
  have hle:=Qo g.K d.key a ha.1
  have ee:nCh false ⟨74,2,r⟩ [wP b]=if r.getD 0 0 < plc (r.getD 2 0) then QY false 2 r (wP b) else Qy false 2 r (wP b):=by
   rw [YK];unfold QH;rw [if_neg (by decide),if_neg (by decide),if_pos rfl];rfl
  rw [ee] at hk ⊢;rw [phM2 h2 (by omega)]
  split at hk
  · rename_i h;rw [if_pos h,beh_less hr (by omega) hk];omega
  · rename_i h;rw [if_neg h,last_less hr (by omega) hk];omega
 | @cut3 r a y z hr hd' h0 h1 hk' he ha ka h2 ae h3 hy hz =>
  have hle:=Qo g.K d.key a ha.1;have hle2:=Qo g.K d.key y hy.1
  have ee:nCh false ⟨74,3,r⟩ [wP z]=if 0 < wP z then Qy false 3 (r.set 2 (r.getD 3 0)) (wP z) else naCs 74 4 r (cellO (bare (r.getD 2 0)) 1 true) (r.getD 3 0) 0 (bare (r.getD 2 0)):=by
   rw [YK];unfold QH;rw [if_neg (by decide),if_neg (by decide),if_neg (by decide),if_pos rfl];rfl
  rw [ee] at hk ⊢;rw [phM3 h3 (by omega)]
  split at hk
  · rename_i h;rw [if_pos h,last_less (by rw [List.length_set];exact hr) (by omega) hk];omega
  · rename_i h;rw [if_neg h];show 5 < 10+y;omega
 | cut4n hr hd' =>
  rw [YK] at hk;unfold QH at hk;rw [if_neg (by decide),if_neg (by decide),if_neg (by decide),if_neg (by decide),if_pos rfl,if_pos (show ([0]:List Int).headD 0=0 from rfl)] at hk
  exact (Qbb hk).elim
 | cut4y hr hd' =>
  rw [YK];unfold QH;rw [if_neg (by decide),if_neg (by decide),if_neg (by decide),if_neg (by decide),if_pos rfl,if_neg (by simp)]
  show 4 < 5;decide
 | cut5 hr hd' =>
  rw [YK] at hk;unfold QH at hk;rw [if_neg (by decide),if_neg (by decide),if_neg (by decide),if_neg (by decide),if_neg (by decide)] at hk
  exact (Qbb hk).elim
inductive Tw (d:Pick):CG->List Int->Frame->List Int->CG->List Int->List Int->Prop
 | fin {g:CG} {cs:List Int} {f:Frame} {got args:List Int} (e:EndC f got args) (a:QnX g d f got args):Tw d g cs f got g cs args
 | stp {g:CG} {cs:List Int} {f:Frame} {got:List Int} {na:NA} {g':CG} {cs':List Int} {x:Int} {g2:CG} {cs2 args:List Int} (hC:QB g cs) (st:Qau g cs d f got na g' cs' x) (r:Tw d g' cs' na.f [x] g2 cs2 args):Tw d g cs f got g2 cs2 args
theorem Jl.trans {g g' g2:CG} {cs cs' cs2:List Int} (h:Jl g cs g' cs') (k:Jl g' cs' g2 cs2):Jl g cs g2 cs2:=by
 have hn:=h.n;have hm:=h.m;exact ⟨fun p a b=>by rw [k.K p a (by omega),h.K p a b],Nat.le_trans h.n k.n,Nat.le_trans h.m k.m,h.mn,fun j=>Int.le_trans (h.ct j) (k.ct j),fun p a b q=>k.lk p a (by omega) (h.lk p a b q),fun p a b q=>k.off p a (by omega) (h.off p a b q)⟩
structure TwR (d:Pick) (g:CG) (cs:List Int) (g2:CG) (cs2 args:List Int):Prop where
 C:QB g2 cs2
 L:Jl g cs g2 cs2
 K:g2.K=g.K
 V:g2.V=g.V
 n:g2.n=g.n
 cut:g2.cut=g.cut
 i:d.do_=0->d.place <= g2.m
theorem Tw.ex {d:Pick} (hd:d.do_ ≠ 1):∀ (n:Nat) {g:CG} {cs:List Int} {f:Frame} {got:List Int},phM f <= n->QB g cs->PhI g cs d f got -> ∃ g2 cs2 args,Tw d g cs f got g2 cs2 args /\ TwR d g cs g2 cs2 args:=by
 intro n
 induction n with
 | zero =>
  intro g cs f got hm hC hP;rcases PhI.step hC hP with ⟨na,g',cs',x,st⟩ | ⟨args,he,ha⟩
  · have:=PhI.less hC hP hd st.nx;omega
  · exact ⟨g,cs,args,.fin he ha,⟨hC,.refl hC,rfl,rfl,rfl,rfl,ha.i⟩⟩
 | succ n ih =>
  intro g cs f got hm hC hP;rcases PhI.step hC hP with ⟨na,g',cs',x,st⟩ | ⟨args,he,ha⟩
  · have hl:=PhI.less hC hP hd st.nx;obtain ⟨g2,cs2,args,t,r⟩:=ih (by omega) st.C st.P
    exact ⟨g2,cs2,args,.stp hC st t,⟨r.C,st.L.trans r.L,r.K.trans st.K,r.V.trans st.V,r.n.trans st.n,r.cut.trans st.cut,r.i⟩⟩
  · exact ⟨g,cs,args,.fin he ha,⟨hC,.refl hC,rfl,rfl,rfl,rfl,ha.i⟩⟩
def ChS.t0 (s:ChS):Task:=gmT nCh false (gmX nCh s.cs (s.ts.getD 0 tk0)) (s.ts.getD 0 tk0)
def ChS.st0 (s:ChS):ChS:=s.to 0 (gmCs nCh s.cs (s.ts.getD 0 tk0)) s.t0 (bif (goT nCh false s.t0).is then s.busy else s.busy.set 0 false)
def ChS.an0 (s:ChS):List Int:=bif (goT nCh false s.t0).is then [] else (goT nCh false s.t0).got
structure Ok0 (s:ChS) (now sure:List Sector):Prop where
 b:s.busy.getD 0 false=true
 ok:Jh 0 s.cs (s.ts.getD 0 tk0) (s.us.getD 0 tk0) now sure
 u:gmT nCh true (gmX nCh s.cs (s.ts.getD 0 tk0)) (s.us.getD 0 tk0)=s.t0
 len:s.cs.length=(gmCs nCh s.cs (s.ts.getD 0 tk0)).length
 L:s.Lens
def Ends (now sure:List Sector):Nat->ChS->Prop
 | 0,s=>s.busy.getD 0 false=false
 | n+1,s=>Ok0 s now sure /\ Ends now sure n s.st0
def runE:Nat->ChS->ChS
 | 0,s=>s
 | n+1,s=>runE n s.st0
def ansN:Nat->ChS->List Int->List Int
 | 0,_,a=>a
 | n+1,s,_=>ansN n s.st0 s.an0
theorem Ends.one {now sure:List Sector}:∀ {n m:Nat} {s:ChS},Ends now sure n s->Ends now sure m s->n=m
 | 0,0,_,_,_=>rfl
 | 0,m+1,s,h,k=>by have h:s.busy.getD 0 false=false:=h;have:=k.1.b;rw [h] at this;cases this
 | n+1,0,s,h,k=>by have k:s.busy.getD 0 false=false:=k;have:=h.1.b;rw [k] at this;cases this
 | n+1,m+1,s,h,k=>by rw [Ends.one h.2 k.2]
open Classical in
noncomputable def Qt (now sure:List Sector) (s:ChS):Nat:=if h:∃ n,Ends now sure n s then Classical.choose h else 0
theorem Yf {now sure:List Sector} {n:Nat} {s:ChS} (h:Ends now sure n s):Qt now sure s=n:=by
 have hx:∃ n,Ends now sure n s:=⟨n,h⟩;unfold Qt;rw [dif_pos hx];exact Ends.one (Classical.choose_spec hx) h
theorem QsJ (s:ChS) (c:Nat) (a a':List Int) (t t':Task) (b b':List Bool):(s.to c a t b).to c a' t' b'=s.to c a' t' b':=by
 unfold ChS.to;simp only [List.set_set]
theorem Tw.ends {d:Pick} {g:CG} {cs:List Int} {f:Frame} {got:List Int} {g2:CG} {cs2 args:List Int} {now sure:List Sector} (h:Tw d g cs f got g2 cs2 args) (d1:Qx now sure=true) (d2:Qr now=true) (d3:Qr sure=true) :
 ∀ (s:ChS),s.cs=cs->s.Lens->s.ts.getD 0 tk0=tkOf 0 f got->s.us.getD 0 tk0=tkOf 0 f got->s.busy.getD 0 false=true->(∃ na,NxtP f got na) -> ∃ n t,Ends now sure (n+1) s /\ (∀ a,ansN (n+1) s a=args) /\ runE (n+1) s=s.to 0 cs2 t (s.busy.set 0 false):=by
 induction h with
 | fin e a=>intro s _ _ _ _ _ hn;obtain ⟨na,hn⟩:=hn;exact (JY hn e).elim
 | @stp g cs f got na g' cs' x g2 cs2 args hC st r ih =>
  intro s hs hL ht hu hb _;subst hs;obtain ⟨e1,e2,e3⟩:=QhP (c:=0) st.nx s.cs false;obtain ⟨_,_,e4⟩:=QhP (c:=0) st.nx s.cs true;have c0:gmCs nCh s.cs (s.ts.getD 0 tk0)=cs':=by rw [ht,e2,st.ce]
  have t0:s.t0=tkOf 0 na.f [x]:=by unfold ChS.t0;rw [ht,e1,st.xe,e3]
  have lt:=hL.ts;have lu:=hL.us;have lb:=hL.busy;have hok:Ok0 s now sure:=⟨hb,by rw [ht,hu];exact Qdt (c:=0) hC st d1 d2 d3,by rw [t0,ht,hu,e1,st.xe,e4],by rw [c0,hC.len,st.C.len],hL⟩
  have hL':∀ b:List Bool,b.length=4->(s.to 0 cs' (tkOf 0 na.f [x]) b).Lens:=fun b hb=>⟨by show (s.ts.set 0 _).length=4;rw [List.length_set];exact lt,by show (s.us.set 0 _).length=4;rw [List.length_set];exact lu,hb,hL.does,hL.cut,st.C.len⟩
  cases r with
  | fin e a =>
   have i0:(goT nCh false (tkOf 0 na.f [x])).is=false:=by rw [Vh e]
   have g0:(goT nCh false (tkOf 0 na.f [x])).got=args:=by rw [Vh e]
   have st0:s.st0=s.to 0 cs' (tkOf 0 na.f [x]) (s.busy.set 0 false):=by unfold ChS.st0;rw [c0,t0,i0];rfl
   refine ⟨0,tkOf 0 na.f [x],⟨hok,?_⟩,fun a=>?_,st0⟩
   · show s.st0.busy.getD 0 false=false;rw [st0];show (s.busy.set 0 false).getD 0 false=false;rw [ZD _ _ (by omega),if_pos rfl]
   · show s.an0=args;unfold ChS.an0;rw [t0,i0,g0];rfl
  | stp hC2 st2 r2 =>
   have i0:(goT nCh false (tkOf 0 na.f [x])).is=true:=by rw [ZX st2.nx]
   have st0:s.st0=s.to 0 cs' (tkOf 0 na.f [x]) s.busy:=by unfold ChS.st0;rw [c0,t0,i0];rfl
   obtain ⟨n,t,h1,h2,h3⟩:=ih s.st0 (by rw [st0];rfl) (by rw [st0];exact hL' _ lb) (by rw [st0];show (s.ts.set 0 _).getD 0 tk0=_;rw [ZD _ _ (by omega),if_pos rfl]) (by rw [st0];show (s.us.set 0 _).getD 0 tk0=_;rw [ZD _ _ (by omega),if_pos rfl]) (by rw [st0];exact hb) ⟨_,st2.nx⟩
   refine ⟨n+1,t,⟨hok,h1⟩,fun a=>h2 s.an0,?_⟩;show runE (n+1) s.st0=_;rw [h3,st0,QsJ];rfl
end Go.Ev
