/-
  A part of the proof of a statement of this seat: the model is run over values by content, proved sound; what the functions come to. No condition beyond the given statements. (text 5)
-/
import Derived.Test.YtndenhihcjijaaaGreatP3
namespace Go.Ev
set_option linter.unusedVariables false
set_option linter.unusedSimpArgs false
theorem QfP {c m:Int} (h0:0 <= c) (h3:c <= 3) (m1:1 <= m) (m9:m <= 900):hnd c m=(m+1) * 256+c /\ 256 <= hnd c m /\ hnd c m <= 262143:=by
 have:m % 1000=m:=Int.emod_eq_of_lt (by omega) (by omega)
 unfold hnd;rw [this];omega
theorem Qd9 {c m c' m':Int} (h0:0 <= c) (h3:c <= 3) (m1:1 <= m) (m9:m <= 900) (h0':0 <= c') (h3':c' <= 3) (m1':1 <= m') (m9':m' <= 900) (h:hnd c m=hnd c' m'):c=c' /\ m=m':=by
 rw [(QfP h0 h3 m1 m9).1,(QfP h0' h3' m1' m9').1] at h;omega
structure RI (w:Int) (s:GS) (hs:List Int) (kk:Int):Prop where
 rw:RW w s.cs hs
 lt:s.ts.length=4
 lb:s.busy.length=4
 lh:s.has.length=4
 n0:0 <= s.n
 nk:s.n <= kk
 hk:(hs.length:Int) <= kk
 tk:(s.told.length:Int) <= kk
 hn:∀ d ∈ hs,∃ m c,1 <= m /\ m <= s.n /\ 0 <= c /\ c <= 3 /\ d=hnd c m
 cl:∀ c,0 <= c->c <= 3->Vi s c=true -> ∃ k r got m,tkC s.ts c=mkT c k r got /\ 1 <= m /\ m <= s.n /\ s.has.getD c.toNat 0=hnd c m /\ CI w (s.cs.getD 0 0) (s.cs.getD 1 0) (s.cs.getD 4 0) hs (s.has.getD c.toNat 0) k r got
 told1:∀ p ∈ s.told,1 <= p /\ p <= hs.length
 toldN:s.told.Nodup
 toldB:∀ p ∈ s.told,∀ c,0 <= c->c <= 3->Vi s c=true->hs.getD (p - 1).toNat 0 ≠ s.has.getD c.toNat 0
theorem RI.more {w:Int} {s:GS} {hs:List Int} {kk kk':Int} (h:RI w s hs kk) (hk:kk <= kk'):RI w s hs kk' :=
 ⟨h.rw,h.lt,h.lb,h.lh,h.n0,by have:=h.nk;omega,by have:=h.hk;omega,by have:=h.tk;omega,h.hn,h.cl,h.told1,h.toldN,h.toldB⟩
theorem RI.cells {w:Int} {s:GS} {hs:List Int} {kk:Int} (h:RI w s hs kk) {cs':List Int} (hrw:RW w cs' hs) (hf:s.cs.getD 0 0 <= cs'.getD 0 0) (ht:s.cs.getD 1 0 <= cs'.getD 1 0) (hq:s.cs.getD 4 0 <= cs'.getD 4 0):RI w { s with cs:=cs' } hs kk:=by
 refine ⟨hrw,h.lt,h.lb,h.lh,h.n0,h.nk,h.hk,h.tk,h.hn,fun c c0 c3 hb=>?_,h.told1,h.toldN,h.toldB⟩;obtain ⟨k,r,got,m,e1,e2,e3,e4,e5⟩:=h.cl c c0 c3 hb;refine ⟨k,r,got,m,e1,e2,e3,e4,?_⟩;have:=e5.mono (ext:=[]) hf ht hq (by simp)
 rwa [List.append_nil] at this
theorem Zs {ts:List Task} {c c':Int} {t:Task} (hl:ts.length=4) (c0:0 <= c) (c3:c <= 3) (d0:0 <= c'):tkC (ts.set c.toNat t) c'=if c=c' then t else tkC ts c':=by
 unfold tkC
 by_cases e:c=c'
 · subst e;rw [if_pos rfl,List.getD_eq_getElem?_getD,List.getElem?_set_self (by omega)];rfl
 · rw [if_neg e,List.getD_eq_getElem?_getD,List.getD_eq_getElem?_getD,List.getElem?_set_ne (by omega)]
theorem QbJ {bs:List Bool} {c c':Int} {b:Bool} (hl:bs.length=4) (c0:0 <= c) (c3:c <= 3) (d0:0 <= c'):(bs.set c.toNat b).getD c'.toNat false=if c=c' then b else bs.getD c'.toNat false:=by
 by_cases e:c=c'
 · subst e;rw [if_pos rfl,List.getD_eq_getElem?_getD,List.getElem?_set_self (by omega)];rfl
 · rw [if_neg e,List.getD_eq_getElem?_getD,List.getD_eq_getElem?_getD,List.getElem?_set_ne (by omega)]
theorem Qkp {hs:List Int} {c c':Int} {b:Int} (hl:hs.length=4) (c0:0 <= c) (c3:c <= 3) (d0:0 <= c'):(hs.set c.toNat b).getD c'.toNat 0=if c=c' then b else hs.getD c'.toNat 0:=by
 rw [YA _ _ _ _ _ (by omega)]
 by_cases e:c=c'
 · subst e;rw [if_pos rfl,if_pos rfl]
 · rw [if_neg (by omega),if_neg e]
theorem RI.begin {w:Int} {s:GS} {hs:List Int} {kk:Int} (h:RI w s hs kk) (hkk:kk < 900) {c:Int} (c0:0 <= c) (c3:c <= 3) (hb:Vi s c=false) :
 RI w (QcM w { s with n:=s.n+1,has:=s.has.set c.toNat (hnd c (s.n+1)) } c (hnd c (s.n+1))) hs (kk+1):=by
 have hn0:=h.n0;have hnk:=h.nk
 have hnew:hnd c (s.n+1) ∉ hs:=fun hm=>by
  obtain ⟨m,c',m1,m2,d0,d3,e⟩:=h.hn _ hm;have:=Qd9 c0 c3 (by omega) (by omega) d0 d3 m1 (by omega) e
  omega
 refine ⟨h.rw,by simp [QcM,h.lt],by simp [QcM,h.lb],by simp [QcM,h.lh],by show 0 <= s.n+1;omega,by show s.n+1 <= kk+1;omega,by have:=h.hk;omega,by have:=h.tk;show (s.told.length:Int) <= kk+1;omega,fun d hd=>?_,fun c' d0 d3 hb'=>?_,h.told1,h.toldN,fun p hp c' d0 d3 hb'=>?_⟩
 · obtain ⟨m,c',m1,m2,e⟩:=h.hn d hd;exact ⟨m,c',m1,by show m <= s.n+1;omega,e⟩
 · have e1:tkC (s.ts.set c.toNat ⟨c,[⟨68,0,regs' w (hnd c (s.n+1))⟩],[],false⟩) c'=_:=Zs h.lt c0 c3 d0;have e2:(s.busy.set c.toNat true).getD c'.toNat false=_:=QbJ h.lb c0 c3 d0;have e3:(s.has.set c.toNat (hnd c (s.n+1))).getD c'.toNat 0=_:=Qkp h.lh c0 c3 d0;show ∃ k r got m,tkC (s.ts.set c.toNat ⟨c,[⟨68,0,regs' w (hnd c (s.n+1))⟩],[],false⟩) c'=mkT c' k r got /\ 1 <= m /\ m <= s.n+1 /\ (s.has.set c.toNat (hnd c (s.n+1))).getD c'.toNat 0=hnd c' m /\ CI w (s.cs.getD 0 0) (s.cs.getD 1 0) (s.cs.getD 4 0) hs ((s.has.set c.toNat (hnd c (s.n+1))).getD c'.toNat 0) k r got;rw [e1,e3]
   by_cases e:c=c'
   · subst e;rw [if_pos rfl,if_pos rfl];exact ⟨0,regs' w (hnd c (s.n+1)),[],s.n+1,rfl,by omega,Int.le_refl _,rfl,rfl,rfl,rfl,Int.le_refl _,by have:=h.rw.t1;show (0:Int) <= _;omega,rfl,.inl ⟨rfl,rfl,hnew⟩⟩
   · rw [if_neg e,if_neg e]
     have hb2:Vi s c'=true:=by
      have:(s.busy.set c.toNat true).getD c'.toNat false=true:=hb';rw [e2,if_neg e] at this;exact this
     obtain ⟨k,r,got,m,q1,q2,q3,q4,q5⟩:=h.cl c' d0 d3 hb2;exact ⟨k,r,got,m,q1,q2,by omega,q4,q5⟩
 · have e2:(s.busy.set c.toNat true).getD c'.toNat false=_:=QbJ h.lb c0 c3 d0;have e3:(s.has.set c.toNat (hnd c (s.n+1))).getD c'.toNat 0=_:=Qkp h.lh c0 c3 d0;show hs.getD (p - 1).toNat 0 ≠ (s.has.set c.toNat (hnd c (s.n+1))).getD c'.toNat 0;rw [e3]
   by_cases e:c=c'
   · rw [if_pos e];intro q;obtain ⟨p1,p2⟩:=h.told1 p hp;have hlt:(p - 1).toNat < hs.length:=by omega
     rw [QiO hlt] at q;exact hnew (q ▸ List.getElem_mem hlt)
   · rw [if_neg e];have:(s.busy.set c.toNat true).getD c'.toNat false=true:=hb';rw [e2,if_neg e] at this;exact h.toldB p hp c' d0 d3 this
structure Qqt (w:Int) (s s':GS) (hs hs':List Int) (c:Int):Prop where
 fr:s'.cs.getD 0 0 <= hs.length
 ext:hs'=hs \/ ∃ d,hs'=hs++[d]
 told:s'.told=s.told \/ ∃ p:Int,s'.told=s.told++[p] /\ 1 <= p /\ p <= hs'.length /\ hs'.getD (p - 1).toNat 0=s'.has.getD c.toNat 0
theorem RI.stepOK {w:Int} {s:GS} {hs:List Int} {kk:Int} (h:RI w s hs kk) (hkk:kk < 900) {now sure:List Sector} (hd:Qx now sure=true) (hg1:Qr now=true) (hg2:Qr sure=true) {c:Int} (c0:0 <= c) (c3:c <= 3) (hb:Vi s c=true):Qe8 s.cs (tkC s.ts c) now sure:=by
 obtain ⟨k,r,got,m,q1,q2,q3,q4,q5⟩:=h.cl c c0 c3 hb;have hv:=QfP (c:=c) (m:=m) c0 c3 q2 (by have:=h.nk;omega)
 rw [<- q4] at hv;obtain ⟨ext,_,cs',t',E,e1,e2,e3,e4,e5,e6,e7,k',r',x',e8,e9,e10,_⟩:=h.rw.step c0 c3 hv.2 (by have:=h.hk;omega) q5
 rw [q1];refine ⟨e6,rfl,q5.2.2.2.2.2.1,e7,h.rw.cellsOK,hd,hg1,hg2,?_⟩;have ht:=e1.ht;rw [e8] at ht;have h1:(stG (mkT c k r got)).st=[⟨68,k',r'⟩]:=congrArg Task.stack ht;have h2:[stX s.cs (mkT c k r got)]=[x']:=congrArg Task.got ht;rw [h1,h2];exact e10
theorem RI.step {w:Int} {s:GS} {hs:List Int} {kk:Int} (h:RI w s hs kk) (hkk:kk < 900) {c:Int} (c0:0 <= c) (c3:c <= 3) (hb:Vi s c=true) :
 ∃ hs',RI w (QdZ s c) hs' (kk+1) /\ Qqt w s (QdZ s c) hs hs' c:=by
 obtain ⟨k,r,got,m,q1,q2,q3,q4,q5⟩:=h.cl c c0 c3 hb;have hnk:=h.nk;have hv:=QfP (c:=c) (m:=m) c0 c3 q2 (by omega)
 rw [<- q4] at hv;obtain ⟨ext,hext,cs',t',E,e1,e2,e3,e4,e5,e6,e7,k',r',x',e8,e9,e10,hcame⟩:=h.rw.step c0 c3 hv.2 (by have:=h.hk;omega) q5
 have hP:QdZ s c={ s with cs:=cs',ts:=s.ts.set c.toNat t',busy:=bif E.is then s.busy else s.busy.set c.toNat false,told:=s.told++Jg s c }:=by
  unfold QdZ;rw [if_pos hb];unfold QrD;rw [q1,e1.hcs,e1.ht,e1.hE]
 have hN:Jg s c=if E.is=false /\ E.got.length=2 /\ E.got.getD 0 0=0 then [E.got.getD 1 0] else []:=by
  unfold Jg;rw [q1,e1.hE]
 have hlen:(hs.length:Int) <= ((hs++ext).length:Int):=by rw [List.length_append];omega
 have hlen2:((hs++ext).length:Int) <= hs.length+1:=by
  rcases hext with rfl | ⟨rfl,_⟩
  · rw [List.append_nil];omega
  · rw [List.length_append];simp
 -- the others
 have hoth:∀ c',0 <= c'->c' <= 3->c ≠ c'->Vi s c'=true -> ∃ k r got m,tkC (s.ts.set c.toNat t') c'=mkT c' k r got /\ 1 <= m /\ m <= s.n /\ s.has.getD c'.toNat 0=hnd c' m /\ CI w (cs'.getD 0 0) (cs'.getD 1 0) (cs'.getD 4 0) (hs++ext) (s.has.getD c'.toNat 0) k r got:=by
  intro c' d0 d3 hne hb';obtain ⟨k2,r2,got2,m2,p1,p2,p3,p4,p5⟩:=h.cl c' d0 d3 hb';refine ⟨k2,r2,got2,m2,by rw [Zs h.lt c0 c3 d0,if_neg hne];exact p1,p2,p3,p4,p5.mono (by omega) e5 (by omega) ?_⟩
  rcases hext with rfl | ⟨rfl,_⟩
  · simp
  · intro hm;rw [List.mem_singleton,q4,p4] at hm;exact hne (Qd9 d0 d3 p2 (by omega) c0 c3 q2 (by omega) hm).1.symm
 have hhn:∀ d ∈ hs++ext,∃ m c,1 <= m /\ m <= s.n /\ 0 <= c /\ c <= 3 /\ d=hnd c m:=by
  intro d hd;rcases List.mem_append.1 hd with hd | hd
  · exact h.hn d hd
  · rcases hext with rfl | ⟨rfl,_⟩
    · simp at hd
    · rw [List.mem_singleton] at hd;subst hd;exact ⟨m,c,q2,q3,c0,c3,q4⟩
 have happ:∀ p ∈ s.told,(hs++ext).getD (p - 1).toNat 0=hs.getD (p - 1).toNat 0:=fun p hp=>Qbz (by have:=h.told1 p hp;omega)
 have hbt:∀ (bs:List Bool) (c':Int),0 <= c'->(bif E.is then s.busy else s.busy.set c.toNat false).getD c'.toNat false=true->s.busy.getD c'.toNat false=true /\ (c=c'->E.is=true):=by
  intro _ c' d0 hq;cases hE:E.is with
  | true=>rw [hE] at hq;exact ⟨hq,fun _=>rfl⟩
  | false =>
   rw [hE] at hq;simp only [cond_false] at hq;rw [QbJ h.lb c0 c3 d0] at hq
   by_cases e:c=c'
   · rw [if_pos e] at hq;cases hq
   · rw [if_neg e] at hq;exact ⟨hq,fun q=>(e q).elim⟩
 have base:∀ told':List Int,((told'=s.told /\ (E.is=true->CI w (cs'.getD 0 0) (cs'.getD 1 0) (cs'.getD 4 0) (hs++ext) (s.has.getD c.toNat 0) k' r' [x'])) \/ (E.is=false /\ ∃ p:Int,told'=s.told++[p] /\ 1 <= p /\ p <= (hs++ext).length /\ (hs++ext).getD (p - 1).toNat 0=s.has.getD c.toNat 0)) ->
  RI w { s with cs:=cs',ts:=s.ts.set c.toNat t',busy:=bif E.is then s.busy else s.busy.set c.toNat false,told:=told' } (hs++ext) (kk+1):=by
  intro told' ht;refine ⟨e2,by simp [h.lt],?_,h.lh,h.n0,by show s.n <= kk+1;omega,by have:=h.hk;omega,?_,hhn,fun c' d0 d3 hb'=>?_,?_,?_,?_⟩
  · show (bif E.is then s.busy else s.busy.set c.toNat false).length=4;cases E.is <;> simp [h.lb]
  · show (told'.length:Int) <= kk+1;have:=h.tk;rcases ht with ⟨rfl,_⟩ | ⟨_,p,rfl,_⟩
    · omega
    · rw [List.length_append];simp;omega
  · obtain ⟨hb1,hb2⟩:=hbt [] c' d0 hb'
    by_cases e:c=c'
    · subst e;have hi:=hb2 rfl;rcases ht with ⟨_,hci⟩ | ⟨hf,_⟩
      · refine ⟨k',r',[x'],m,?_,q2,q3,q4,hci hi⟩;show tkC (s.ts.set c.toNat t') c=_;rw [Zs h.lt c0 c3 c0,if_pos rfl,e8]
      · rw [hi] at hf;cases hf
    · exact hoth c' d0 d3 e hb1
  · intro p hp;rcases ht with ⟨rfl,_⟩ | ⟨_,p',rfl,p1,p2,_⟩
    · have:=h.told1 p hp;omega
    · rcases List.mem_append.1 hp with hp | hp
      · have:=h.told1 p hp;omega
      · rw [List.mem_singleton] at hp;subst hp;exact ⟨p1,p2⟩
  · show told'.Nodup;rcases ht with ⟨rfl,_⟩ | ⟨_,p',rfl,p1,p2,p3⟩
    · exact h.toldN
    · refine List.nodup_append.2 ⟨h.toldN,by simp,?_⟩
      intro a ha b hb2 hab;rw [List.mem_singleton] at hb2;subst hab;subst hb2;have:=h.toldB a ha c c0 c3 hb;rw [happ a ha] at p3;exact this p3
  · intro p hp c' d0 d3 hb';obtain ⟨hb1,hb2⟩:=hbt [] c' d0 hb'
    have hold:∀ p ∈ s.told,(hs++ext).getD (p - 1).toNat 0 ≠ s.has.getD c'.toNat 0:=fun p hp=>by
     rw [happ p hp];exact h.toldB p hp c' d0 d3 hb1
    rcases ht with ⟨rfl,_⟩ | ⟨hf,p',rfl,p1,p2,p3⟩
    · exact hold p hp
    · rcases List.mem_append.1 hp with hp | hp
      · exact hold p hp
      · rw [List.mem_singleton] at hp;subst hp;show (hs++ext).getD (p - 1).toNat 0 ≠ s.has.getD c'.toNat 0;rw [p3];intro q;have hne:c ≠ c':=fun e=>by rw [hb2 e] at hf;cases hf
        obtain ⟨_,_,_,m2,_,p2',p3',p4',_⟩:=h.cl c' d0 d3 hb1;rw [q4,p4'] at q;exact hne (Qd9 c0 c3 q2 (by omega) d0 d3 p2' (by omega) q).1
 have hx:hs++ext=hs \/ ∃ d,hs++ext=hs++[d]:=by
  rcases hext with rfl | ⟨rfl,_⟩
  · exact .inl (by simp)
  · exact .inr ⟨_,rfl⟩
 have hfr:cs'.getD 0 0 <= hs.length:=by rw [e3];exact h.rw.fT
 refine ⟨hs++ext,?_⟩;rw [hP];rcases hcame with ⟨hi,hci⟩ | ⟨hi,h1⟩ | ⟨hi,p,h1,h2,h3,h4⟩
 · have hn:Jg s c=[]:=by rw [hN,if_neg (fun q=>by rw [hi] at q;cases q.1)]
   rw [hn,List.append_nil];exact ⟨base s.told (.inl ⟨rfl,fun _=>hci⟩),hfr,hx,.inl rfl⟩
 · have hn:Jg s c=[]:=by rw [hN,if_neg (fun q=>by have:=q.2.1;omega)]
   rw [hn,List.append_nil];exact ⟨base s.told (.inl ⟨rfl,fun q=>by rw [hi] at q;cases q⟩),hfr,hx,.inl rfl⟩
 · have hn:Jg s c=[p]:=by
    rw [hN,if_pos ⟨hi,by rw [h1];rfl,by rw [h1];rfl⟩,h1];rfl
   rw [hn];exact ⟨base (s.told++[p]) (.inr ⟨hi,p,rfl,h2,h3,h4⟩),hfr,hx,.inr ⟨p,rfl,h2,h3,h4⟩⟩
theorem RI.pick {w:Int} {s:GS} {hs:List Int} {kk:Int} (h:RI w s hs kk) (hkk:kk < 900) (x dd:Int):∃ hs',RI w (QpD w s x dd) hs' (kk+1) /\ Qqt w s (QpD w s x dd) hs hs' (x % 4):=by
 have c0:0 <= x % 4:=Int.emod_nonneg _ (by decide)
 have c3:x % 4 <= 3:=by have:=Int.emod_lt_of_pos x (by decide:(0:Int) < 4);omega
 have same:Qqt w s s hs hs (x % 4):=⟨h.rw.fT,.inl rfl,.inl rfl⟩;unfold QpD
 split
 · unfold Qou;cases hb:Vi s (x % 4) with
   | true=>rw [if_pos rfl];exact ⟨hs,h.more (by omega),same⟩
   | false=>rw [if_neg (by simp)];exact ⟨hs,h.begin hkk c0 c3 hb,h.rw.fT,.inl rfl,.inl rfl⟩
 split
 · cases hb:Vi s (x % 4) with
   | true=>exact h.step hkk c0 c3 hb
   | false =>
    have:QdZ s (x % 4)=s:=by unfold QdZ;rw [if_neg (by rw [hb];simp)]
    rw [this];exact ⟨hs,h.more (by omega),same⟩
 have hl:=h.rw.lc
 split
 · unfold QrE
   split
   · rename_i hp;have g0:(s.cs.set 0 (frontG s+1)).getD 0 0=frontG s+1:=Qd (by omega)
     have hfr:=(h.rw.done hp).fT;refine ⟨hs,(h.cells (h.rw.done hp) (by rw [show s.cs.getD 0 0=frontG s from rfl,g0];omega) (by rw [Qa (by decide)];exact Int.le_refl _) (by rw [Qa (by decide)];exact Int.le_refl _)).more (by omega),hfr,.inl rfl,.inl rfl⟩
   · exact ⟨hs,h.more (by omega),same⟩
 split
 · have g4:(s.cs.set 4 (s.cs.getD 0 0)).getD 4 0=s.cs.getD 0 0:=Qd (by omega)
   refine ⟨hs,(h.cells h.rw.ckpt (by rw [Qa (by decide)];exact Int.le_refl _) (by rw [Qa (by decide)];exact Int.le_refl _) (by rw [g4];exact h.rw.qf)).more (by omega),h.rw.ckpt.fT,.inl rfl,.inl rfl⟩
 · exact ⟨hs,h.more (by omega),same⟩
theorem RI.ok {w:Int} {s:GS} {hs:List Int} {kk:Int} (h:RI w s hs kk) (hkk:kk < 900) {now sure:List Sector} (hd:Qx now sure=true) (hg1:Qr now=true) (hg2:Qr sure=true) (x:Int):QrF w s now sure (x % 4):=by
 have c0:0 <= x % 4:=Int.emod_nonneg _ (by decide)
 have c3:x % 4 <= 3:=by have:=Int.emod_lt_of_pos x (by decide:(0:Int) < 4);omega
 have h1:=h.nk;have h2:=h.tk;have h3:=h.rw.q0;have h4:=h.rw.qf;have h5:=h.rw.fT;have h6:=h.rw.Tk;exact ⟨h.rw.w0,h.rw.w1,h.lt,h.lb,h.lh,h.n0,by omega,h.rw.lc,by show 0 <= s.cs.getD 0 0;omega,by show s.cs.getD 0 0 <= _;omega,by omega,fun hb=>h.stepOK hkk hd hg1 hg2 c0 c3 hb⟩
def gA (t:Task):GoR4:=goO false t.stack t.got
def gB (t:Task):GoR4:=goO true t.stack t.got
def oX (cs:List Int) (t:Task):Int:=doG4 cs (gA t).kind (gA t).a (gA t).b
def oCs (cs:List Int) (t:Task):List Int:=doC4 cs (gA t).kind (gA t).a (gA t).b (gA t).v
def oT (cs:List Int) (t:Task):Task:=⟨t.client,(gA t).st,[oX cs t],(gA t).over⟩
def oU (cs:List Int) (t u:Task):Task:=⟨u.client,(gB u).st,[oX cs t],(gB u).over⟩
def oE (cs:List Int) (t:Task):GoR4:=goO false (gA t).st [oX cs t]
def oF (cs:List Int) (t u:Task):GoR4:=goO true (gB u).st [oX cs t]
structure Qkq (c:Int) (cs:List Int) (t u:Task) (now sure:List Sector):Prop where
 a1:okO false c t.stack t.got
 b1:okO true c u.stack u.got
 ct:t.client=c
 cu:u.client=c
 ot:t.over=false
 ou:u.over=false
 is:(gA t).is=true
 ab:QgQ (gA t) (gB u)
 hd:Vl cs (gA t).kind (gA t).a (gA t).b (gA t).v
 hg:0 <= (gA t).g
 hc:cellsOK cs=true
 d1:Qx now sure=true
 d2:Qr now=true
 d3:Qr sure=true
 a2:okO false c (gA t).st [oX cs t]
 b2:okO true c (gB u).st [oX cs t]
 ef:QgQ (oE cs t) (oF cs t u)
structure OS where
 cs:List Int
 ts:List Task
 us:List Task
 busy:List Bool
 kind:List Int
 opn:List Bool
 start:List Int
def Qnu (s:OS) (c:Int):Bool:=s.busy.getD c.toNat false
def Qkr (s:OS) (c:Int):Int:=s.kind.getD c.toNat 0
def endO (s:OS) (c:Int):GoR4:=oE s.cs (tkC s.ts c)
def stepO (s:OS) (c:Int):OS :=
 { s with cs:=oCs s.cs (tkC s.ts c),ts:=s.ts.set c.toNat (oT s.cs (tkC s.ts c)),us:=s.us.set c.toNat (oU s.cs (tkC s.ts c) (tkC s.us c)),busy:=bif (endO s c).is then s.busy else s.busy.set c.toNat false }
def Qda (s:OS) (c:Int):OS :=
 if (endO s c).is=false /\ Qkr s c=0 /\ (endO s c).got.length=1 then { stepO s c with opn:=s.opn.set c.toNat true,start:=s.start.set c.toNat ((endO s c).got.getD 0 0) } else stepO s c
def OCl (s:OS) (c:Int):Prop := ∃ k r q got,
 (Qkr s c=0 /\ tkC s.ts c=mkO c 92 k r got /\ tkC s.us c=mkO c 92 k r got /\ JB s.cs s.opn c k r got /\ (goO false [⟨92,k,r⟩] got).is=true) \/
 (Qkr s c=1 /\ tkC s.ts c=mkO c 93 k r got /\ tkC s.us c=mkO c 93 k q got /\ JM s.cs s.opn s.start k r q got /\ (goO false [⟨93,k,r⟩] got).is=true)
structure OI (s:OS) (most kk:Int):Prop where
 oc:OC s.cs
 fk:frC s.cs <= kk
 lt:s.ts.length=4
 lu:s.us.length=4
 lb:s.busy.length=4
 lk:s.kind.length=4
 lo:s.opn.length=4
 ls:s.start.length=4
 mm:most <= mkC s.cs
 op:∀ i,i < 4->opB s.opn i=true->scC s.cs i=stA s.start i+1 /\ most <= stA s.start i /\ 0 <= stA s.start i
 cl:∀ c:Int,0 <= c->c <= 3->Qnu s c=true->OCl s c
theorem bset {bs:List Bool} {i j:Nat} {b:Bool} (hl:bs.length=4) (hi:i < 4):(bs.set i b).getD j false=if i=j then b else bs.getD j false:=by
 by_cases e:i=j
 · subst e;rw [if_pos rfl,List.getD_eq_getElem?_getD,List.getElem?_set_self (by omega)];rfl
 · rw [if_neg e,List.getD_eq_getElem?_getD,List.getD_eq_getElem?_getD,List.getElem?_set_ne e]
theorem OI.more {s:OS} {most kk kk':Int} (h:OI s most kk) (hk:kk <= kk'):OI s most kk':=⟨h.oc,by have:=h.fk;omega,h.lt,h.lu,h.lb,h.lk,h.lo,h.ls,h.mm,h.op,h.cl⟩
structure StO (s:OS) (c p n:Int) (r' q':List Int) (x:Int) (cs':List Int):Prop where
 xx:oX s.cs (tkC s.ts c)=x
 cs:oCs s.cs (tkC s.ts c)=cs'
 t:oT s.cs (tkC s.ts c)=mkO c p n r' [x]
 u:oU s.cs (tkC s.ts c) (tkC s.us c)=mkO c p n q' [x]
 e:endO s c=goO false [⟨p,n,r'⟩] [x]
 ok:∀ now sure,Qx now sure=true->Qr now=true->Qr sure=true->Qkq c s.cs (tkC s.ts c) (tkC s.us c) now sure
theorem StO.of {s:OS} {c p k n kd a b v:Int} {r q r' q' got:List Int} (ht:tkC s.ts c=mkO c p k r got) (hu:tkC s.us c=mkO c p k q got) (hA:goO false [⟨p,k,r⟩] got=g4 p n r' got kd a b v 0) (hB:goO true [⟨p,k,q⟩] got=g4 p n q' got kd a b v 0)
 (hd:Vl s.cs kd a b v) (hc:cellsOK s.cs=true) (o1:okO false c [⟨p,k,r⟩] got) (o2:okO true c [⟨p,k,q⟩] got) (o3:okO false c [⟨p,n,r'⟩] [doG4 s.cs kd a b]) (o4:okO true c [⟨p,n,q'⟩] [doG4 s.cs kd a b])
 (hs:QgQ (goO false [⟨p,n,r'⟩] [doG4 s.cs kd a b]) (goO true [⟨p,n,q'⟩] [doG4 s.cs kd a b])):StO s c p n r' q' (doG4 s.cs kd a b) (doC4 s.cs kd a b v):=by
 have eA:gA (tkC s.ts c)=g4 p n r' got kd a b v 0:=by rw [ht];exact hA
 have eB:gB (tkC s.us c)=g4 p n q' got kd a b v 0:=by rw [hu];exact hB
 have ex:oX s.cs (tkC s.ts c)=doG4 s.cs kd a b:=by unfold oX;rw [eA];rfl
 refine ⟨ex,by unfold oCs;rw [eA];rfl,by unfold oT;rw [ex,eA,ht];rfl,by unfold oU;rw [ex,eB,hu];rfl,by unfold endO oE;rw [ex,eA];rfl,fun now sure d1 d2 d3=>?_⟩
 refine ⟨by rw [ht];exact o1,by rw [hu];exact o2,by rw [ht];rfl,by rw [hu];rfl,by rw [ht];rfl,by rw [hu];rfl,by rw [eA];rfl,by rw [eA,eB];exact VV,by rw [eA];exact hd,by rw [eA];exact Int.le_refl _,hc,d1,d2,d3,by rw [eA,ex];exact o3,by rw [eB,ex];exact o4,?_⟩
 unfold oE oF;rw [eA,eB,ex];exact hs
structure QsB (s:OS) (most kk:Int) (c:Int) (most':Int):Prop where
 ok:∀ now sure,Qx now sure=true->Qr now=true->Qr sure=true->Qkq c s.cs (tkC s.ts c) (tkC s.us c) now sure
 oi:OI (Qda s c) most' kk
 ans:(endO s c).is=true /\ most'=most \/ (endO s c).is=false /\ ∃ a,(endO s c).got=[a] /\ (Qkr s c=0 /\ most'=most \/ Qkr s c=1 /\ most'=max most a)
 mr:mkC s.cs <= mkC (Qda s c).cs
theorem OI.step {s:OS} {most kk:Int} (h:OI s most kk) {c:Int} (c0:0 <= c) (c3:c <= 3) (hb:Qnu s c=true):∃ most',QsB s most kk c most':=by
 have hoc:=h.oc;have hf:=hoc.fr;have hmk:=hoc.mr;have hcn:c.toNat < 4:=by omega
 obtain ⟨k,r,q,got,⟨hk,ht,hu,hJ,hi⟩ | ⟨hk,ht,hu,hJ,hi⟩⟩:=h.cl c c0 c3 hb
 · obtain ⟨n,r',kd,a,b,v,hA,hd,hC,hJ',hE⟩:=hJ.step hoc c0 c3 hi;have hoc':=hC.next hoc;have hf':=hoc'.fr
   have S:=StO.of ht hu (hA false) (hA true) hd hoc.ok (hJ.ok hf c0 c3 false) (hJ.ok hf c0 c3 true) (hJ'.ok hf' c0 c3 false) (hJ'.ok hf' c0 c3 true) (by
    have:∀ own,goO own [⟨92,n,r'⟩] [doG4 s.cs kd a b]=oBeg n r' [doG4 s.cs kd a b] (doG4 s.cs kd a b):=fun own=>rfl;rw [this,this];exact ⟨rfl,rfl,rfl,rfl,rfl,rfl,rfl⟩)
   generalize doC4 s.cs kd a b v=cs' at *
   generalize doG4 s.cs kd a b=x at *
   have hnop:opB s.opn c.toNat=false:=hJ.2.2.1
   have hS:stepO s c={ s with cs:=cs',ts:=s.ts.set c.toNat (mkO c 92 n r' [x]),us:=s.us.set c.toNat (mkO c 92 n r' [x]),busy:=bif (endO s c).is then s.busy else s.busy.set c.toNat false }:=by
    unfold stepO;rw [S.cs,S.t,S.u]
   -- the others,whatever becomes of this client
   have hoth:∀ (opn':List Bool) (start':List Int) (busy':List Bool),(∀ i,i ≠ c.toNat->opB opn' i=opB s.opn i /\ stA start' i=stA s.start i)->(opB opn' c.toNat=true->mkC s.cs <= stA start' c.toNat) ->
    ∀ c',0 <= c'->c' <= 3->c' ≠ c->Qnu s c'=true->OCl ⟨cs',s.ts.set c.toNat (mkO c 92 n r' [x]),s.us.set c.toNat (mkO c 92 n r' [x]),busy',s.kind,opn',start'⟩ c':=by
    intro opn' start' busy' ho1 ho2 c' d0 d3 hne hb';have hne':c'.toNat ≠ c.toNat:=by omega
    obtain ⟨k2,r2,q2,got2,⟨p0,p1,p2,p3,p4⟩ | ⟨p0,p1,p2,p3,p4⟩⟩:=h.cl c' d0 d3 hb'
    · refine ⟨k2,r2,q2,got2,.inl ⟨p0,by show tkC (s.ts.set c.toNat _) c'=_;rw [Zs h.lt c0 c3 d0,if_neg (fun e=>hne e.symm)];exact p1,by show tkC (s.us.set c.toNat _) c'=_;rw [Zs h.lu c0 c3 d0,if_neg (fun e=>hne e.symm)];exact p2,?_,p4⟩⟩
      exact p3.mono (by rw [hC.fr];exact Int.le_refl _) (hC.sc _ (.inl hne')) (ho1 _ hne').1
    · refine ⟨k2,r2,q2,got2,.inr ⟨p0,by show tkC (s.ts.set c.toNat _) c'=_;rw [Zs h.lt c0 c3 d0,if_neg (fun e=>hne e.symm)];exact p1,by show tkC (s.us.set c.toNat _) c'=_;rw [Zs h.lu c0 c3 d0,if_neg (fun e=>hne e.symm)];exact p2,?_,p4⟩⟩
      refine p3.mono (by rw [hC.fr];exact Int.le_refl _) hC.mr.1 fun i hi=>?_
      by_cases e:i=c.toNat
      · subst e;exact .inr (ho2 hi)
      · exact .inl ⟨by rw [<- (ho1 i e).1];exact hi,(ho1 i e).2⟩
   have hfk:frC cs' <= kk:=by rw [hC.fr];exact h.fk
   have hmm:most <= mkC cs':=by have:=h.mm;have:=hC.mr;omega
   cases hE2:(endO s c).is with
   | true =>
    have hQ:Qda s c=stepO s c:=by unfold Qda;rw [if_neg (fun q=>by rw [hE2] at q;cases q.1)]
    rw [hE2] at hS;refine ⟨most,S.ok,?_,.inl ⟨hE2,rfl⟩,by rw [hQ,hS];exact hC.mr.1⟩
    rw [hQ,hS];refine ⟨hoc',hfk,by simp [h.lt],by simp [h.lu],h.lb,h.lk,h.lo,h.ls,hmm,fun i hi ho=>?_,fun c' d0 d3 hb'=>?_⟩
    · have hne:i ≠ c.toNat:=fun e=>by subst e;rw [show opB s.opn c.toNat=true from ho] at hnop;cases hnop
      show scC cs' i=_ /\ _;rw [hC.sc i (.inl hne)];exact h.op i hi ho
    · by_cases e:c'=c
      · subst e;refine ⟨n,r',r',[x],.inl ⟨hk,by show tkC (s.ts.set c'.toNat _) c'=_;rw [Zs h.lt c0 c3 c0,if_pos rfl],by show tkC (s.us.set c'.toNat _) c'=_;rw [Zs h.lu c0 c3 c0,if_pos rfl],hJ',?_⟩⟩
        rw [<- S.e];exact hE2
      · exact hoth s.opn s.start _ (fun _ _=>⟨rfl,rfl⟩) (fun q=>by rw [hnop] at q;cases q) c' d0 d3 e hb'
   | false =>
    obtain ⟨w,e1,e2,e3,e4⟩:=hE (by rw [<- S.e];exact hE2)
    have hgot:(endO s c).got=[w]:=by rw [S.e,e1];rfl
    have hQ:Qda s c={ stepO s c with opn:=s.opn.set c.toNat true,start:=s.start.set c.toNat w }:=by
     unfold Qda;rw [if_pos ⟨hE2,hk,by rw [hgot];rfl⟩,hgot];rfl
    rw [hE2] at hS;refine ⟨most,S.ok,?_,.inr ⟨hE2,w,hgot,.inl ⟨hk,rfl⟩⟩,by rw [hQ,hS];exact hC.mr.1⟩
    rw [hQ,hS];have hop':∀ i,opB (s.opn.set c.toNat true) i=if c.toNat=i then true else opB s.opn i:=fun i=>bset h.lo hcn
    have hst':∀ i,stA (s.start.set c.toNat w) i=if c.toNat=i then w else stA s.start i:=fun i=>by unfold stA;rw [YA _ _ _ _ _ (by rw [h.ls];omega)]
    refine ⟨hoc',hfk,by simp [h.lt],by simp [h.lu],by simp [h.lb],h.lk,by simp [h.lo],by simp [h.ls],hmm,fun i hi ho=>?_,fun c' d0 d3 hb'=>?_⟩
    · show scC cs' i=stA (s.start.set c.toNat w) i+1 /\ most <= stA (s.start.set c.toNat w) i /\ 0 <= stA (s.start.set c.toNat w) i;rw [hst']
      by_cases e:c.toNat=i
      · rw [if_pos e,<- e];have:=hC.mr;have:=h.mm;exact ⟨e3,by omega,by omega⟩
      · rw [if_neg e,hC.sc i (.inl (fun q=>e q.symm))];have ho:opB (s.opn.set c.toNat true) i=true:=ho;rw [hop',if_neg e] at ho;exact h.op i hi ho
    · have hb':(s.busy.set c.toNat false).getD c'.toNat false=true:=hb';rw [bset h.lb hcn] at hb'
      by_cases e:c'=c
      · subst e;rw [if_pos rfl] at hb';cases hb'
      · rw [if_neg (by omega)] at hb'
        exact hoth _ _ _ (fun i hi=>⟨by rw [hop',if_neg (fun e=>hi e.symm)],by rw [hst',if_neg (fun e=>hi e.symm)]⟩) (fun _=>by rw [hst',if_pos rfl];have:=hC.mr;omega) c' d0 d3 e hb'
 · obtain ⟨n,r',q',kd,a,b,v,hA,hB,hd,hC,hJ',hE⟩:=hJ.step hoc (fun i hi ho=>by have:=h.op i hi ho;exact ⟨this.1,this.2.2⟩) hi
   have hoc':=hC.next hoc;have hf':=hoc'.fr;have ok1:=hJ.ok hf c0 c3;have ok2:=hJ'.ok hf' c0 c3;have S:=StO.of ht hu hA hB hd hoc.ok ok1.1 ok1.2.1 ok2.1 ok2.2.1 ok2.2.2;generalize doC4 s.cs kd a b v=cs' at *;generalize doG4 s.cs kd a b=x at *
   have hS:stepO s c={ s with cs:=cs',ts:=s.ts.set c.toNat (mkO c 93 n r' [x]),us:=s.us.set c.toNat (mkO c 93 n q' [x]),busy:=bif (endO s c).is then s.busy else s.busy.set c.toNat false }:=by
    unfold stepO;rw [S.cs,S.t,S.u]
   have hQ:Qda s c=stepO s c:=by unfold Qda;rw [if_neg (fun q=>by rw [hk] at q;exact absurd q.2.1 (by decide))]
   have hoth:∀ (busy':List Bool),∀ c',0 <= c'->c' <= 3->c' ≠ c->Qnu s c'=true->OCl ⟨cs',s.ts.set c.toNat (mkO c 93 n r' [x]),s.us.set c.toNat (mkO c 93 n q' [x]),busy',s.kind,s.opn,s.start⟩ c':=by
    intro busy' c' d0 d3 hne hb';have hne':c'.toNat ≠ c.toNat:=by omega
    obtain ⟨k2,r2,q2,got2,⟨p0,p1,p2,p3,p4⟩ | ⟨p0,p1,p2,p3,p4⟩⟩:=h.cl c' d0 d3 hb'
    · refine ⟨k2,r2,q2,got2,.inl ⟨p0,by show tkC (s.ts.set c.toNat _) c'=_;rw [Zs h.lt c0 c3 d0,if_neg (fun e=>hne e.symm)];exact p1,by show tkC (s.us.set c.toNat _) c'=_;rw [Zs h.lu c0 c3 d0,if_neg (fun e=>hne e.symm)];exact p2,?_,p4⟩⟩
      exact p3.mono (by rw [hC.fr];exact Int.le_refl _) (hC.sc _ (.inr rfl)) rfl
    · refine ⟨k2,r2,q2,got2,.inr ⟨p0,by show tkC (s.ts.set c.toNat _) c'=_;rw [Zs h.lt c0 c3 d0,if_neg (fun e=>hne e.symm)];exact p1,by show tkC (s.us.set c.toNat _) c'=_;rw [Zs h.lu c0 c3 d0,if_neg (fun e=>hne e.symm)];exact p2,?_,p4⟩⟩
      exact p3.mono (by rw [hC.fr];exact Int.le_refl _) hC.mr.1 fun i hi=>.inl ⟨hi,rfl⟩
   have hfk:frC cs' <= kk:=by rw [hC.fr];exact h.fk
   have hmm:most <= mkC cs':=by have:=h.mm;have:=hC.mr;omega
   cases hE2:(endO s c).is with
   | true =>
    rw [hE2] at hS;refine ⟨most,S.ok,?_,.inl ⟨hE2,rfl⟩,by rw [hQ,hS];exact hC.mr.1⟩
    rw [hQ,hS];refine ⟨hoc',hfk,by simp [h.lt],by simp [h.lu],h.lb,h.lk,h.lo,h.ls,hmm,fun i hi ho=>?_,fun c' d0 d3 hb'=>?_⟩
    · show scC cs' i=_ /\ _;rw [hC.sc i (.inr rfl)];exact h.op i hi ho
    · by_cases e:c'=c
      · subst e;refine ⟨n,r',q',[x],.inr ⟨hk,by show tkC (s.ts.set c'.toNat _) c'=_;rw [Zs h.lt c0 c3 c0,if_pos rfl],by show tkC (s.us.set c'.toNat _) c'=_;rw [Zs h.lu c0 c3 c0,if_pos rfl],hJ',?_⟩⟩
        rw [<- S.e];exact hE2
      · exact hoth _ c' d0 d3 e hb'
   | false =>
    obtain ⟨w,e1,e2,e3⟩:=hE (by rw [<- S.e];exact hE2)
    have hgot:(endO s c).got=[w]:=by rw [S.e,e1];rfl
    rw [hE2] at hS;refine ⟨max most w,S.ok,?_,.inr ⟨hE2,w,hgot,.inr ⟨hk,rfl⟩⟩,by rw [hQ,hS];exact hC.mr.1⟩
    rw [hQ,hS];refine ⟨hoc',hfk,by simp [h.lt],by simp [h.lu],by simp [h.lb],h.lk,h.lo,h.ls,by show max most w <= mkC cs';omega,fun i hi ho=>?_,fun c' d0 d3 hb'=>?_⟩
    · show scC cs' i=_ /\ _;rw [hC.sc i (.inr rfl)];have h3:=e3 i hi ho;have h4:=h.op i hi ho;exact ⟨h4.1,by show max most w <= stA s.start i;omega,h4.2.2⟩
    · have hb':(s.busy.set c.toNat false).getD c'.toNat false=true:=hb';rw [bset h.lb hcn] at hb'
      by_cases e:c'=c
      · subst e;rw [if_pos rfl] at hb';cases hb'
      · rw [if_neg (by omega)] at hb'
        exact hoth _ c' d0 d3 e hb'
section
variable (nx:Bool->Frame->List Int->NA) (ok:Bool->Frame->List Int->Prop)
def goT (own:Bool) (t:Task):GoM:=goN (nx own) 64 t.stack t.got false
def gmX (cs:List Int) (t:Task):Int:=doG4 cs (goT nx false t).a.kind (goT nx false t).a.a (goT nx false t).a.b
def gmCs (cs:List Int) (t:Task):List Int:=doC4 cs (goT nx false t).a.kind (goT nx false t).a.a (goT nx false t).a.b (goT nx false t).a.v
def gmT (own:Bool) (x:Int) (u:Task):Task:=⟨u.client,(goT nx own u).st,[x],decide ((goT nx own u).st=[])⟩
structure QoL (own:Bool) (c:Int) (t:Task):Prop where
 ne:t.stack ≠ []
 a1:OkN (nx own) (ok own) 64 t.stack t.got
 ct:t.client=c
 ot:t.over=false
structure QhC (c:Int) (t u:Task):Prop where
 ta:QoL nx ok false c t
 tb:QoL nx ok true c u
 is:(goT nx false t).is=(goT nx true u).is
 eg:(goT nx false t).is=true->(goT nx false t).a=(goT nx true u).a /\ (goT nx false t).a.args.length <= 96
 eh:(goT nx false t).is=false->(goT nx false t).st=[] /\ (goT nx true u).st=[] /\ (goT nx false t).got=(goT nx true u).got /\ (goT nx false t).got.length <= 96
structure Qqu (c:Int) (cs:List Int) (t u:Task) (now sure:List Sector):Prop where
 e1:QhC nx ok c t u
 is:(goT nx false t).is=true
 la:(goT nx false t).st.length <= 6 /\ (goT nx false t).got.length <= 96
 lb:(goT nx true u).st.length <= 6 /\ (goT nx true u).got.length <= 96
 tx:(goT nx false t).a.text=[] /\ (goT nx false t).a.args=[]
 hd:Vl cs (goT nx false t).a.kind (goT nx false t).a.a (goT nx false t).a.b (goT nx false t).a.v
 hg:0 <= (goT nx false t).a.gen
 hc:cellsOK cs=true
 d1:Qx now sure=true
 d2:Qr now=true
 d3:Qr sure=true
 e2:QhC nx ok c (gmT nx false (gmX nx cs t) t) (gmT nx true (gmX nx cs t) u)
end
theorem Qdb {nx:Frame->List Int->NA}:∀ {n:Nat} {st:List Frame} {got:List Int} {e:Bool},(goN nx n st got e).is=true->(goN nx n st got e).st ≠ []
 | 0,st,got,e,h=>by cases h
 | n+1,st,got,e,h=>by
  unfold goN at h ⊢
  split at h
  · cases h
  · rename_i h0;rw [if_neg h0]
    split at h
    · rename_i h6;rw [if_pos h6];simp only [tkSt,if_pos h6];simp
    · rename_i h6;rw [if_neg h6];exact Qdb h
section
variable {C:Cdc} {P:Program} {T:Tab C} {Φ:Fns C}
open Pg (Ex)
def limV (mv:Nat->Bool) (k:Nat):Lim:=⟨k,k,fun j=>mv j=true,fun _ h1 h2=>absurd h2 (by omega)⟩
theorem Qnv {mv:Nat->Bool} {k id:Nat} (h:old k (limV mv k) id):mv id=false:=by
 have:=h.2;simp only [limV] at this
 simpa using this
def QhD (mv:Nat->Bool) (os os':List (Obj C)) (f:Nat->Nat):Prop := ∀ j,j < os.length->mv j=true \/ f j=j \/ ∃ t own l own' l',os[j]? = some (.vec t own l) /\ os'[j]? = some (.vec t own' l') /\ l.length < l'.length
theorem Part.stepV {mv:Nat->Bool} {X X1:Cx} {h':Heap C} {nx':Nat} {os os':List (Obj C)} {f:Nat->Nat} (g:G T X (hpOf 0 os) os.length (lim0 os.length)) (g1:G T X1 h' nx' (lim0 nx')) (s:Step X os.length (lim0 nx') X1) (p:Part h' os' f) (hlen:os'.length=os.length) (hg:QhD mv os os' f) :
 Step X os.length (limV mv os.length) (X1.partM os.length f):=by
 refine ⟨s.O,s.os,s.tape,s.output,s.size,fun id ho=>?_,fun b o hb hm=>?_,s.cell,s.block,s.frz⟩
 · by_cases hid:id < os.length
   · simp only [Cx.partM,hid,if_true];rcases hg id hid with hm | hf | ⟨t,own,l,own',l',h1,h2,h3⟩
     · rw [Qnv ho] at hm;cases hm
     · rw [hf];exact s.ρ id ⟨.inl hid,fun h=>h⟩
     · obtain ⟨v,b,lo,hi,a1,a2⟩:=g.vec id t own l (by rw [Qw];exact h1)
       obtain ⟨v',b',lo',hi',c1,c2⟩:=g1.vec (f id) t own' l' (p.at' id _ h2);rw [a1,c1];have e1:=a2.lenV;have e2:=c2.lenV;exact ⟨rfl,by omega,fun h=>by omega⟩
   · simp only [Cx.partM,hid,if_false];cases X.ρ id <;> simp [Qf]
 · obtain ⟨j,l,hj,hl,ho⟩:=Cx.partM_mine.1 hm;exact s.mine b o hb ⟨f j,l,hl,ho⟩
theorem Part.backV (L:Laws T) {mv:Nat->Bool} {X:Cx} {h h':Heap C} {nx nx':Nat} {lim:Lim} (g:G T X h nx lim) {os os':List (Obj C)} {f f':Nat->Nat} (p:Part h os f) (hlen:os'.length=os.length) (hrefs:∀ o ∈ os',∀ r ∈ Obj.refs o,r < os.length)
 {X1:Cx} {lim1:Lim} (g1:G T X1 (hpOf 0 os') os.length lim1) (s1:Step (X.part os.length f) os.length (limV mv os.length) X1) (hn:nx <= nx') (hlim:nx' <= lim.top)
 (hinj:∀ i j,i < os.length->j < os.length->f' i=f' j->i=j) (hsame:∀ j,j < os.length->mv j=false->f' j=f j) (hnew:∀ j,j < os.length->mv j=true->nx <= f' j /\ f' j < nx')
 (hin:∀ j o,os'[j]? = some o->h'.get (f' j)=some (o.ren f')) (hgone:∀ j,j < os.length->(∀ i,i < os.length->f' i ≠ f j)->h'.get (f j)=none)
 (hout:∀ id,(∀ j,j < os.length->f' j ≠ id)->(∀ j,j < os.length->f j ≠ id)->h'.get id=h.get id) :
 ∃ X',X'.w=X1.w /\ G T X' h' nx' lim /\ Step X nx lim X' /\ (∀ j,j < os.length->X'.ρ (f' j)=X1.ρ j) /\ ∀ b o v,X1.w.cell? ⟨b,o,none⟩=some v->X1.free b o->X'.w.cell? ⟨b,o,none⟩=some v /\ X'.free b o:=by
 classical
 obtain ⟨fi,hfi⟩:=QaF hinj
 let X':Cx:=⟨X1.w,fun id=>if ∃ j,j < os.length /\ f' j=id then X1.ρ (fi id) else if ∃ j,j < os.length /\ f j=id then none else X.ρ id,X.O⟩
 have hρ1:∀ j,j < os.length->X'.ρ (f' j)=X1.ρ j:=fun j hj=>by
  have:∃ i,i < os.length /\ f' i=f' j:=⟨j,hj,rfl⟩;simp only [X',this,if_true,hfi j hj]
 have hρ0:∀ id,(∀ j,j < os.length->f' j ≠ id)->(∃ j,j < os.length /\ f j=id)->X'.ρ id=none:=fun id hid hex=>by
  have:¬ ∃ j,j < os.length /\ f' j=id:=fun ⟨j,hj,e⟩=>hid j hj e;simp only [X',this,hex,if_false,if_true]
 have hρ2:∀ id,(∀ j,j < os.length->f' j ≠ id)->(∀ j,j < os.length->f j ≠ id)->X'.ρ id=X.ρ id:=fun id hid hid2=>by
  have h1:¬ ∃ j,j < os.length /\ f' j=id:=fun ⟨j,hj,e⟩=>hid j hj e;have h2:¬ ∃ j,j < os.length /\ f j=id:=fun ⟨j,hj,e⟩=>hid2 j hj e;simp only [X',h1,h2,if_false]
 have hcase:∀ id,(∃ j,j < os.length /\ f' j=id) \/ ((∀ j,j < os.length->f' j ≠ id) /\ ∃ j,j < os.length /\ f j=id) \/ ((∀ j,j < os.length->f' j ≠ id) /\ ∀ j,j < os.length->f j ≠ id):=fun id=>by
  by_cases hq:∃ j,j < os.length /\ f' j=id
  · exact .inl hq
  · have hq':∀ j,j < os.length->f' j ≠ id:=fun j hj e=>hq ⟨j,hj,e⟩
    by_cases hr:∃ j,j < os.length /\ f j=id
    · exact .inr (.inl ⟨hq',hr⟩)
    · exact .inr (.inr ⟨hq',fun j hj e=>hr ⟨j,hj,e⟩⟩)
 -- what the others own
 have hA:∀ id l b o,(∀ j,j < os.length->f j ≠ id)->X.ρ id=some l->l.owns b o->b < X.w.heap.size /\ (X.part os.length f).O b o /\ ∀ o',¬ (X.part os.length f).mine b o':=by
  intro id l b o hid hl ho;have hno:∀ j,j < os.length -> ∀ l',X.ρ (f j)=some l' -> ∀ o',¬ l'.owns b o':=fun j hj l' hl' o' ho'=>hid j hj (g.apart _ _ _ _ _ _ _ hl' hl ho' ho);refine ⟨(g.outer b o ⟨id,l,hl,ho⟩).2,.inr ⟨⟨id,l,hl,ho⟩,fun j hj l' hl'=>hno j hj l' hl' o⟩,fun o' hm=>?_⟩;obtain ⟨j,l',hj,hl',ho'⟩:=Cx.part_mine.1 hm;exact hno j hj l' hl' o' ho'
 have hmine:∀ b o,X'.mine b o->X1.mine b o \/ ∃ id l,(∀ j,j < os.length->f j ≠ id) /\ X.ρ id=some l /\ l.owns b o:=by
  rintro b o ⟨id,l,h1,h2⟩
  rcases hcase id with ⟨j,hj,rfl⟩ | ⟨hid,hex⟩ | ⟨hid,hid2⟩
  · rw [hρ1 j hj] at h1;exact .inl ⟨j,l,h1,h2⟩
  · rw [hρ0 id hid hex] at h1;cases h1
  · rw [hρ2 id hid hid2] at h1;exact .inr ⟨id,l,hid2,h1,h2⟩
 have hB:∀ b o,X1.free b o->X'.free b o:=by
  rintro b o ⟨h1,h2⟩
  have hO:X1.O=(X.part os.length f).O:=s1.O;refine ⟨fun h3=>h1 (by rw [hO];exact .inl h3),fun hm=>?_⟩
  rcases hmine b o hm with h3 | ⟨id,l,h3,h4,h5⟩
  · exact h2 h3
  · exact h1 (by rw [hO];exact (hA id l b o h3 h4 h5).2.1)
 have hBB:∀ b o v,X1.w.cell? ⟨b,o,none⟩=some v->X1.free b o->X'.w.cell? ⟨b,o,none⟩=some v /\ X'.free b o:=fun b o v h1 h2=>⟨h1,hB b o h2⟩
 have hC:∀ b o v,X.w.cell? ⟨b,o,none⟩=some v->X.free b o->X'.w.cell? ⟨b,o,none⟩=some v /\ X'.free b o:=by
  intro b o v h1 h2;have:=s1.keeps.cell b o v h1 (Cx.part_free.2 h2);exact hBB b o v this.1 this.2
 have hnotnew:∀ id,old nx lim id -> ∀ j,j < os.length->mv j=true->f' j ≠ id:=fun id ho j hj hm e=>by
  obtain ⟨h1,h2⟩:=hnew j hj hm;have h3:=ho.1;omega
 have hD:∀ id,old nx lim id->Qf (X.ρ id) (X'.ρ id):=by
  intro id ho;rcases hcase id with ⟨j,hj,e⟩ | ⟨hid,hex⟩ | ⟨hid,hid2⟩
  · cases hm:mv j with
    | true=>exact (hnotnew id ho j hj hm e).elim
    | false =>
     have e2:f j=id:=by rw [<- hsame j hj hm];exact e
     rw [<- e,hρ1 j hj];have:=s1.ρ j ⟨.inl hj,by simp [limV,hm]⟩
     simp only [Cx.part,hj,if_true] at this;rw [e,<- e2];exact this
  · rw [hρ0 id hid hex];cases X.ρ id <;> simp [Qf]
  · rw [hρ2 id hid hid2];exact .refl _
 have hblk:∀ id l b o,(∀ j,j < os.length->f j ≠ id)->X.ρ id=some l->l.owns b o->X'.w.heap[b]? = X.w.heap[b]? := fun id l b o h1 h2 h3=>by
  obtain ⟨a1,a2,a3⟩:=hA id l b o h1 h2 h3;exact s1.block b a1 a3
 have hsome:∀ j,j < os.length -> ∃ o,h.get (f j)=some o:=fun j hj=>⟨_,p.at' j os[j] (by simp [hj])⟩
 have hs:Step X nx lim X':=by
  refine ⟨rfl,s1.os,s1.tape,s1.output,s1.size,hD,?_,?_,?_,s1.frz⟩
  · intro b o hb hm;rcases hmine b o hm with h3 | ⟨id,l,h3,h4,h5⟩
    · obtain ⟨j,l,hj,hl,ho⟩:=Cx.part_mine.1 (s1.mine b o hb h3);exact ⟨f j,l,hl,ho⟩
    · exact ⟨id,l,h4,h5⟩
  · intro b o hb hm
    exact s1.cell b o hb fun hq=>by
     obtain ⟨j,l,hj,hl,ho⟩:=Cx.part_mine.1 hq;exact hm ⟨f j,l,hl,ho⟩
  · intro b hb hm
    exact s1.block b hb fun o hq=>by
     obtain ⟨j,l,hj,hl,ho⟩:=Cx.part_mine.1 hq;exact hm o ⟨f j,l,hl,ho⟩
 have holdf:∀ j,j < os.length->old nx' lim (f' j):=fun j hj=>by
  cases hm:mv j with
  | true =>
   obtain ⟨h1,h2⟩:=hnew j hj hm;exact ⟨.inl h2,lim.ok _ (Nat.le_trans g.low h1) (by omega)⟩
  | false =>
   rw [hsame j hj hm];obtain ⟨o,ho⟩:=hsome j hj;exact (g.nums _ _ ho).1.mono hn
 refine ⟨X',rfl,⟨?_,?_,?_,?_,?_,?_,?_,?_,Nat.le_trans g.low hn,g.pre.step hs⟩,hs,hρ1,hBB⟩
 · intro id t d ho;rcases hcase id with ⟨j,hj,rfl⟩ | ⟨hid,⟨j,hj,rfl⟩⟩ | ⟨hid,hid2⟩
   · have e1:os'[j]? = some os'[j]:=by simp [hlen,hj]
     have e2:=hin j _ e1;rw [ho] at e2
     have e3:∃ d0,os'[j]=.var t d0 /\ d=d0.ren f':=by
      cases hq:os'[j] with
      | var t0 d0=>rw [hq] at e2;simp [Obj.ren] at e2;exact ⟨d0,by rw [e2.1],e2.2⟩
      | vec t0 own0 l0=>rw [hq] at e2;simp [Obj.ren] at e2
      | map _ _ _=>rw [hq] at e2;simp [Obj.ren] at e2
     obtain ⟨d0,e4,rfl⟩:=e3;rw [e4] at e1;obtain ⟨b,c,h1,h2,h3,h4⟩:=g1.var j t d0 (by rw [Qw];exact e1)
     refine ⟨b,c,by rw [hρ1 j hj];exact h1,h2,?_,by rw [Vr];exact h4⟩
     refine h3.renE f' L.encOK hBB (ZN _ _ h4) fun r hr=>?_;rw [hρ1 r (hrefs _ (List.mem_of_getElem? e1) r hr)];exact .refl _
   · rw [hgone j hj hid] at ho;cases ho
   · rw [hout id hid hid2] at ho;obtain ⟨b,c,h1,h2,h3,h4⟩:=g.var id t d ho;refine ⟨b,c,by rw [hρ2 id hid hid2];exact h1,by rw [hblk id _ b 0 hid2 h1 rfl];exact h2,h3.monoG T (y:=false) L.encOK hC (fun h=>by cases h) (fun r hr=>hD r ((g.nums id _ ho).2 r hr)) (.inr (ZN _ _ h4)),h4⟩
 · intro id t own l ho;rcases hcase id with ⟨j,hj,rfl⟩ | ⟨hid,⟨j,hj,rfl⟩⟩ | ⟨hid,hid2⟩
   · have e1:os'[j]? = some os'[j]:=by simp [hlen,hj]
     have e2:=hin j _ e1;rw [ho] at e2
     have e3:os'[j]=.vec t own l:=by
      cases hq:os'[j] with
      | var t0 d0=>rw [hq] at e2;simp [Obj.ren] at e2
      | vec t0 own0 l0=>rw [hq] at e2;simp only [Obj.ren,Option.some.injEq] at e2;exact e2.symm
      | map _ _ _=>rw [hq] at e2;simp [Obj.ren] at e2
     rw [e3] at e1;obtain ⟨v,b,lo,hi,h1,h2⟩:=g1.vec j t own l (by rw [Qw];exact e1)
     exact ⟨v,b,lo,hi,by rw [hρ1 j hj];exact h1,h2.move L hBB (fun _=>rfl) (L.posE t)⟩
   · rw [hgone j hj hid] at ho;cases ho
   · rw [hout id hid hid2] at ho;obtain ⟨v,b,lo,hi,h1,h2⟩:=g.vec id t own l ho;exact ⟨v,b,lo,hi,by rw [hρ2 id hid hid2];exact h1,h2.move L hC (fun ⟨o,ho'⟩=>hblk id _ b o hid2 h1 ho') (L.posE t)⟩
 · intro id ck cv l ho;rcases hcase id with ⟨j,hj,rfl⟩ | ⟨hid,⟨j,hj,rfl⟩⟩ | ⟨hid,hid2⟩
   · have e1:os'[j]? = some os'[j]:=by simp [hlen,hj]
     have e2:=hin j _ e1;rw [ho] at e2
     have e3:os'[j]=.map ck cv l:=by
      cases hq:os'[j] with
      | var t0 d0=>rw [hq] at e2;simp [Obj.ren] at e2
      | vec t0 own0 l0=>rw [hq] at e2;simp [Obj.ren] at e2
      | map _ _ _=>rw [hq] at e2;simp only [Obj.ren,Option.some.injEq] at e2;exact e2.symm
     rw [e3] at e1;obtain ⟨b,es,k,h1,h2,h3⟩:=g1.map j ck cv l (by rw [Qw];exact e1)
     exact ⟨b,es,k,by rw [hρ1 j hj];exact h1,h2,h3.move L hBB⟩
   · rw [hgone j hj hid] at ho;cases ho
   · rw [hout id hid hid2] at ho;obtain ⟨b,es,k,h1,h2,h3⟩:=g.map id ck cv l ho;exact ⟨b,es,k,by rw [hρ2 id hid hid2];exact h1,by rw [hblk id _ b 0 hid2 h1 rfl];exact h2,h3.move L hC⟩
 · intro id l hr;rcases hcase id with ⟨j,hj,rfl⟩ | ⟨hid,hex⟩ | ⟨hid,hid2⟩
   · rw [hin j os'[j] (by simp [hlen,hj])];rfl
   · rw [hρ0 id hid hex] at hr;cases hr
   · rw [hρ2 id hid hid2] at hr;rw [hout id hid hid2];exact g.dom id l hr
 · intro id o ho;rcases hcase id with ⟨j,hj,rfl⟩ | ⟨hid,⟨j,hj,rfl⟩⟩ | ⟨hid,hid2⟩
   · have e1:os'[j]? = some os'[j]:=by simp [hlen,hj]
     have e2:=hin j _ e1;rw [ho] at e2;simp only [Option.some.injEq] at e2;refine ⟨holdf j hj,fun r hr=>?_⟩;rw [e2,Obj.ren_refs,List.mem_map] at hr;obtain ⟨r0,hr0,rfl⟩:=hr;exact holdf r0 (hrefs _ (List.mem_of_getElem? e1) r0 hr0)
   · rw [hgone j hj hid] at ho;cases ho
   · rw [hout id hid hid2] at ho;obtain ⟨n1,n2⟩:=g.nums id o ho;exact ⟨n1.mono hn,fun r hr=>(n2 r hr).mono hn⟩
 · intro i i' l l' b o o' h1 h2 h3 h4;rcases hcase i with ⟨j,hj,rfl⟩ | ⟨hid,hex⟩ | ⟨hid,hid2⟩
   · rcases hcase i' with ⟨j',hj',rfl⟩ | ⟨hid',hex'⟩ | ⟨hid',hid2'⟩
     · rw [hρ1 j hj] at h1;rw [hρ1 j' hj'] at h2;rw [g1.apart j j' l l' b o o' h1 h2 h3 h4]
     · rw [hρ0 i' hid' hex'] at h2;cases h2
     · rw [hρ1 j hj] at h1;rw [hρ2 i' hid' hid2'] at h2;obtain ⟨a1,a2,a3⟩:=hA i' l' b o' hid2' h2 h4;exact (a3 o (s1.mine b o a1 ⟨j,l,h1,h3⟩)).elim
   · rw [hρ0 i hid hex] at h1;cases h1
   · rcases hcase i' with ⟨j',hj',rfl⟩ | ⟨hid',hex'⟩ | ⟨hid',hid2'⟩
     · rw [hρ2 i hid hid2] at h1;rw [hρ1 j' hj'] at h2;obtain ⟨a1,a2,a3⟩:=hA i l b o hid2 h1 h3;exact (a3 o' (s1.mine b o' a1 ⟨j',l',h2,h4⟩)).elim
     · rw [hρ0 i' hid' hex'] at h2;cases h2
     · rw [hρ2 i hid hid2] at h1;rw [hρ2 i' hid' hid2'] at h2;exact g.apart i i' l l' b o o' h1 h2 h3 h4
 · intro b o hm;rcases hmine b o hm with h3 | ⟨id,l,h3,h4,h5⟩
   · have:=g1.outer b o h3;exact ⟨fun h=>this.1 (by rw [s1.O];exact .inl h),this.2⟩
   · have:=g.outer b o ⟨id,l,h4,h5⟩;exact ⟨this.1,Nat.lt_of_lt_of_le this.2 s1.size⟩
 · intro b o ho;exact Nat.lt_of_lt_of_le (g.outs b o ho) s1.size
def K3 {α:Type} (mv:Nat->Bool):Nat->List Nat->List (Obj C)->(List Nat->Pg C α)->Pg C α
 | _,[],[],k=>k []
 | n,id::r,o::os,k=>bif mv n then .dl id (.nw o fun id'=>K3 mv (n+1) r os fun l=>k (id'::l)) else K3 mv (n+1) r os fun l=>k (id::l)
 | _,_,_,_=>.fail
theorem K4 {α:Type} {mv:Nat->Bool} {e:Pg.Lv} {a:α} {h':Heap C} {nx':Nat}:∀ (ids:List Nat) (n:Nat) (os:List (Obj C)) (k:List Nat->Pg C α) (h:Heap C) (nx:Nat) (tr:Tr),(∀ id ∈ ids,id < nx \/ nx' <= id)->ids.Nodup->Ex e (K3 mv n ids os k) h nx a h' nx' tr ->
 ∃ ids' h1 nx1 tr1,nx <= nx1 /\ ids'.length=ids.length /\ os.length=ids.length /\ (∀ j,j < ids.length->mv (n+j)=false->ids'[j]? = ids[j]?) /\ (∀ j i,ids'[j]? = some i->mv (n+j)=true->nx <= i /\ i < nx1) /\ ids'.Nodup /\
  (∀ id,id < nx \/ nx1 <= id->h1.get id=none \/ h1.get id=h.get id) /\ (∀ id,(id < nx \/ nx1 <= id)->(∀ j,ids[j]? = some id->mv (n+j)=false)->h1.get id=h.get id) /\ (∀ id j,ids[j]? = some id->mv (n+j)=true->h1.get id=none) /\ (∀ id,nx <= id->id < nx1->id ∉ ids'->h1.get id=h.get id) /\ Ex e (k ids') h1 nx1 a h' nx' tr1
 | [],n,[],k,h,nx,tr,_,_,hx=>⟨[],h,nx,tr,Nat.le_refl _,rfl,rfl,by simp,by simp,List.nodup_nil,fun _ _=>.inr rfl,fun _ _ _=>rfl,by simp,fun _ _ _ _=>rfl,hx⟩
 | id::r,n,o::os,k,h,nx,tr,hid,hnd,hx=>by
  obtain ⟨hn1,hn2⟩:=List.nodup_cons.1 hnd;rw [K3] at hx;cases hm:mv n with
  | true =>
   rw [hm] at hx;simp only [cond_true] at hx;obtain ⟨o',t',ho,hx,_⟩:=Ex.dl hx;obtain ⟨t2,hx,_⟩:=Ex.nw hx;have hle:=hx.le;obtain ⟨ids',h1,nx1,tr1,q0,q1,q2,q3,q4,q5,q6,q7,q8,q9,q10⟩:=K4 r (n+1) os _ _ (nx+1) _ (fun i hi=>by have:=hid i (by simp [hi]);omega) hn2 hx
   have hle1:=q10.le;have hidn:id < nx \/ nx' <= id:=hid id (by simp)
   have hnew:nx ∉ ids':=by
    intro hin;obtain ⟨j,hj,e⟩:=List.getElem_of_mem hin;have ej:ids'[j]? = some nx:=by rw [List.getElem?_eq_getElem hj,e]
    cases hmj:mv (n+1+j) with
    | true=>have:=q4 j nx ej hmj;omega
    | false =>
     have:=q3 j (by rw [<- q1];exact hj) hmj
     rw [ej] at this;have:=hid nx (by simp;right;exact List.mem_of_getElem? this.symm)
     omega
   refine ⟨nx::ids',h1,nx1,tr1,by omega,by simp [q1],by simp [q2],?_,?_,List.nodup_cons.2 ⟨hnew,q5⟩,?_,?_,?_,?_,q10⟩
   · intro j hj hmj;cases j with
     | zero=>rw [Nat.add_zero,hm] at hmj;cases hmj
     | succ j=>simpa using q3 j (by simpa using hj) (by rw [<- hmj];congr 1;omega)
   · intro j i hj hmj;cases j with
     | zero=>simp at hj;omega
     | succ j=>have:=q4 j i (by simpa using hj) (by rw [<- hmj];congr 1;omega);omega
   · intro i hi;rcases q6 i (by omega) with h2 | h2
     · exact .inl h2
     · rw [Qn,Zg] at h2;have:i ≠ nx:=by omega
       by_cases hii:i=id
       · left;rw [h2,if_neg this,if_pos hii]
       · right;rw [h2,if_neg this,if_neg hii]
   · intro i hi hj;have hii:i ≠ id:=by rintro rfl;have:=hj 0 (by simp);rw [Nat.add_zero,hm] at this;cases this
     have:i ≠ nx:=by omega
     rw [q7 i (by omega) (fun j hj'=>by rw [<- hj (j+1) (by simpa using hj')];congr 1;omega),Qn,Zg]
     simp [this,hii]
   · intro i j hj hmj;cases j with
     | zero =>
      simp at hj;subst hj;have:id ≠ nx:=by omega
      rcases q6 id (by omega) with h2 | h2
      · exact h2
      · rw [h2,Qn,Zg];simp [this]
     | succ j=>exact q8 i j (by simpa using hj) (by rw [<- hmj];congr 1;omega)
   · intro i h1' h2' h3';simp only [List.mem_cons,not_or] at h3';rw [q9 i (by omega) h2' h3'.2,Qn,Zg]
     have:i ≠ id:=by omega
     simp [h3'.1,this]
  | false =>
   rw [hm] at hx;simp only [cond_false] at hx;obtain ⟨ids',h1,nx1,tr1,q0,q1,q2,q3,q4,q5,q6,q7,q8,q9,q10⟩:=K4 r (n+1) os _ _ nx _ (fun i hi=>hid i (by simp [hi])) hn2 hx
   have hle1:=q10.le;have hidn:id < nx \/ nx' <= id:=hid id (by simp)
   have hold:id ∉ ids':=by
    intro hin;obtain ⟨j,hj,e⟩:=List.getElem_of_mem hin;have ej:ids'[j]? = some id:=by rw [List.getElem?_eq_getElem hj,e]
    cases hmj:mv (n+1+j) with
    | true=>have:=q4 j id ej hmj;omega
    | false =>
     have:=q3 j (by rw [<- q1];exact hj) hmj
     rw [ej] at this;exact hn1 (List.mem_of_getElem? this.symm)
   refine ⟨id::ids',h1,nx1,tr1,q0,by simp [q1],by simp [q2],?_,?_,List.nodup_cons.2 ⟨hold,q5⟩,q6,?_,?_,?_,q10⟩
   · intro j hj hmj;cases j with
     | zero=>rfl
     | succ j=>simpa using q3 j (by simpa using hj) (by rw [<- hmj];congr 1;omega)
   · intro j i hj hmj;cases j with
     | zero=>rw [Nat.add_zero,hm] at hmj;cases hmj
     | succ j=>exact q4 j i (by simpa using hj) (by rw [<- hmj];congr 1;omega)
   · intro i hi hj;exact q7 i hi fun j hj'=>by rw [<- hj (j+1) (by simpa using hj')];congr 1;omega
   · intro i j hj hmj;cases j with
     | zero=>rw [Nat.add_zero,hm] at hmj;cases hmj
     | succ j=>exact q8 i j (by simpa using hj) (by rw [<- hmj];congr 1;omega)
   · intro i h1' h2' h3';simp only [List.mem_cons,not_or] at h3';exact q9 i h1' h2' h3'.2
 | [],n,_::_,_,_,_,_,_,_,hx=>(Ex.fail hx).elim
 | _::_,n,[],_,_,_,_,_,_,hx=>(Ex.fail hx).elim
def RT.pgV (mv:Nat->Bool) (ids:List Nat):RT C->Pg C (Ev.X × Env C)
 | .fail=>.fail
 | .leaf x env os=>K3 mv 0 ids os fun ids'=>QdW ids' (os.map (Obj.ren fun j=>ids'.getD j 0)) (.ret (x,renE (fun j=>ids'.getD j 0) env))
 | .br b l r=>.br b (l.pgV mv ids) (r.pgV mv ids)
theorem RT.pgV_ok {mv:Nat->Bool} {e:Pg.Lv} {a:Ev.X × Env C} {h h':Heap C} {nx nx':Nat} {ids:List Nat}:∀ (t:RT C) (tr:Tr),Ex e (t.pgV mv ids) h nx a h' nx' tr -> ∃ x env os tr',t.val=some ((x,env),os) /\ Ex e (K3 mv 0 ids os fun ids'=>QdW ids' (os.map (Obj.ren fun j=>ids'.getD j 0)) (.ret (x,renE (fun j=>ids'.getD j 0) env))) h nx a h' nx' tr'
 | .fail,tr,hx=>(Ex.fail hx).elim
 | .leaf x env os,tr,hx=>⟨x,env,os,_,rfl,hx⟩
 | .br b l r,tr,hx=>by
  rcases Ex.br hx with ⟨rfl,hx⟩ | ⟨rfl,hx⟩
  · exact RT.pgV_ok l _ hx
  · exact RT.pgV_ok r _ hx
end
section
variable {C:Cdc} {P:Program} {T:Tab C} {Φ:Fns C}
open Pg (Ex)
def mvOf (l:List Nat) (j:Nat):Bool:=l.any (Nat.beq j)
def QoM (T:Tab C) (Φ:Fns C) (mv:Nat->Bool) (g:FuncId) (b:Code) {σ:Type} (S:Qbu C σ):Prop :=
 ∀ s,S.Inv s->Qj S.k (S.canon s) (S.objs s) /\ Qj S.k (S.fin s).2 (S.fobjs s) /\ ∃ n x env' h' nx' tr,Ex (0,0) (evC T Φ n g b (S.canon s)) (hpOf 0 (S.objs s)) S.k (x,env') h' nx' tr /\
  ((x=.normal /\ ∃ s' f,S.Inv s' /\ S.μ s' < S.μ s /\ S.fin s'=S.fin s /\ S.fobjs s'=S.fobjs s /\ (∀ p ∈ S.canon s',eget env' p.1=p.2.ren f) /\ Part h' (S.objs s') f /\ QhD mv (S.objs s) (S.objs s') f) \/
   (x ≠ .normal /\ x=(S.fin s).1 /\ ∃ f,(∀ p ∈ (S.fin s).2,eget env' p.1=p.2.ren f) /\ Part h' (S.fobjs s) f /\ QhD mv (S.objs s) (S.fobjs s) f))
theorem QhE (K:QU P T) (F:Qh P T Φ) {mv:Nat->Bool} {g:FuncId} {fn:Func} {body b:Code} {σ:Type} {S:Qbu C σ} (hr:QoM T Φ mv g b S) (hf:Φ.fn g=some fn) (hb:fn.body=some body) (hcb:ZH fn.ntmps b=true) (hl:∀ b' ∈ QN b,b' ∈ QN body) {B:Nat->Bool} (hB:QaD B b)
 {Q:Exit->Act->World->Prop}:∀ (m:Nat) (s:σ) (X:Cx) (a:Act),S.Inv s->S.μ s < m->G T X (hpOf 0 (S.objs s)) S.k (lim0 S.k)->Qi T X S.k (lim0 S.k) (S.canon s) a.tmps->fn.ntmps <= a.tmps.size ->
  (∀ a' X',G T X' (hpOf 0 (S.fobjs s)) S.k (lim0 S.k)->Step X S.k (limV mv S.k) X'->Qi T X' S.k (lim0 S.k) (S.fin s).2 a'.tmps->a'.tmps.size=a.tmps.size->ZU X X' a'.defers a.defers->Kp B a.tmps a'.tmps->Q (Qap (S.fin s).1) a' X'.w)->Code.rounds P b Q m a X.w:=by
 intro m
 induction m with
 | zero=>intro s X a _ hm;omega
 | succ m ih =>
  intro s X a hI hm hg he hsz hk;obtain ⟨hr1,hr2,n,x,env',h',nx',tr,hx,hcase⟩:=hr s hI;rw [rounds_succ];have hle:S.k <= nx':=hx.le;have g0:G T X (hpOf 0 (S.objs s)) S.k (lim0 nx'):=hg.relim2 (YN hr1.1 hr1.2.2) (Nat.le_refl _) (Nat.zero_le _) (fun _ h=>h)
  have e0:Qi T X S.k (lim0 nx') (S.canon s) a.tmps:=fun t=>⟨(he t).1,fun r hh=>⟨.inl (by
   rcases eget_mem (S.canon s) t with h | h
   · rw [h] at hh;simp [D.refs] at hh
   · exact hr1.2.1 _ h r hh),fun h=>h⟩⟩
  refine (wpIn_wide (n:=0)).1 ((QdS K F n).1 none 0 g fn.ntmps b (.inr ⟨rfl,fn,body,hf,rfl,hb,hl⟩) hcb B hB X (hpOf 0 (S.objs s)) S.k (lim0 nx') (0,0) (S.canon s) x env' h' nx' tr a _ g0 e0 (Nat.le_refl _) hsz hx ?_);intro a1 X1 g1 s1 e1 hs1 hd1 kp1
  have key:∀ (os:List (Obj C)) (env0:Env C) (f:Nat->Nat),Qj S.k env0 os->(∀ p ∈ env0,eget env' p.1=p.2.ren f)->Part h' os f->QhD mv (S.objs s) os f ->
   G T (X1.partM S.k f) (hpOf 0 os) S.k (lim0 S.k) /\ Step X S.k (limV mv S.k) (X1.partM S.k f) /\ Qi T (X1.partM S.k f) S.k (lim0 S.k) env0 a1.tmps /\ ZU X (X1.partM S.k f) a1.defers a.defers:=by
   intro os env0 f hrf hsub hpart hgrow;have hlen':os.length=(S.objs s).length:=by rw [hrf.1,hr1.1]
   have g2:=Part.ctxM K.base g1 hpart os.length;have e2:Qi T (X1.partM os.length f) os.length (lim0 os.length) env0 a1.tmps:=Qi.partM K.base e1 hpart.inj hsub (by rw [hrf.1];exact hrf.2.1)
   have s2:=Part.stepV (mv:=mv) (by rw [hr1.1];exact hg) g1 (by rw [hr1.1];exact s1) hpart hlen' hgrow
   rw [hrf.1] at g2 e2;rw [hr1.1] at s2;exact ⟨g2,s2,e2,hd1.sub (X2:=X1.partM S.k f) rfl fun b o _ hm=>by obtain ⟨j,q,_,hl,ho⟩:=Cx.partM_mine.1 hm;exact ⟨f j,q,hl,ho⟩⟩
  rcases hcase with ⟨rfl,s',f,hI',hmu,hfin,hfo,hsub,hpart,hgrow⟩ | ⟨hne,hxf,f,hsub,hpart,hgrow⟩
  · obtain ⟨hr1',_,_⟩:=hr s' hI';obtain ⟨g2,s2,e2,hd2⟩:=key _ _ f hr1' hsub hpart hgrow;refine ih s' (X1.partM S.k f) a1 hI' (by omega) g2 e2 (by omega) fun a3 X3 g3 s3 e3 hs3 hd3 kp3=>?_
    rw [hfin] at e3 ⊢;rw [hfo] at g3;exact hk a3 X3 g3 (s2.trans s3 (Nat.le_refl _)) e3 (by omega) (hd2.trans s2 s3 hd3) (kp1.trans kp3)
  · obtain ⟨g2,s2,e2,hd2⟩:=key _ _ f hr2 hsub hpart hgrow;have hfinal:Q (Qap (S.fin s).1) a1 (X1.partM S.k f).w:=hk a1 _ g2 s2 e2 hs1 hd2 kp1;rw [<- hxf] at hfinal;cases x with
    | normal=>exact (hne rfl).elim
    | exit id=>exact hfinal
    | ret=>exact hfinal
def sumV (T:Tab C) (mv:Nat->Bool) (fs:List Fnd) (slots:List Nat) (res:Env C->List (Obj C)->RT C) (env:Env C):Pg C (Ev.X × Env C) :=
 KU T fs env [] fun env ids=>bif YO ids then Qmz ids fun os =>
  bif inB ids (slots.flatMap fun t=>(eget env t).refs) && inB ids (os.flatMap Obj.refs) then
   (res (slots.map fun t=>(t,(eget env t).ren (idx ids))) (os.map (Obj.ren (idx ids)))).pgV mv ids
  else .fail
 else .fail
theorem QfQ (K:QU P T) {mv:Nat->Bool} {X1:Cx} {h1 h':Heap C} {nx1 nx':Nat} {lim:Lim} {e:Pg.Lv} {ids:List Nat} {os0 os':List (Obj C)} {x:Ev.X} {env0:Env C} {r:Ev.X × Env C} {tr:Tr} (g1:G T X1 h1 nx1 lim) (hlim:nx' <= lim.top)
 (hnodup:ids.Nodup) (part:Part h1 os0 fun j=>ids.getD j 0) (hlenO:os0.length=ids.length) (hlen':os'.length=os0.length) (hrefs':∀ o ∈ os',∀ r ∈ Obj.refs o,r < os0.length)
 {X':Cx} {lim1:Lim} (g':G T X' (hpOf 0 os') os0.length lim1) (s':Step (X1.part os0.length fun j=>ids.getD j 0) os0.length (limV mv os0.length) X')
 {tmps:Array Value} (e':Qi T X' os0.length lim1 env0 tmps) (hr2:∀ p ∈ env0,∀ r ∈ D.refs p.2,r < os0.length)
 (hx:Ex e (K3 mv 0 ids os' fun ids'=>QdW ids' (os'.map (Obj.ren fun j=>ids'.getD j 0)) (.ret (x,renE (fun j=>ids'.getD j 0) env0))) h1 nx1 r h' nx' tr) :
 ∃ env2 X2,r=(x,env2) /\ X2.w=X'.w /\ G T X2 h' nx' lim /\ Step X1 nx1 lim X2 /\ Qi T X2 nx' lim env2 tmps:=by
 have hids:∀ j,j < ids.length -> ∃ o,h1.get (ids.getD j 0)=some o:=fun j hj=>by
  have hj':j < os0.length:=by omega
  exact ⟨_,part.at' j os0[j] (by simp [hj'])⟩
 have hout:∀ id ∈ ids,id < nx1 \/ nx' <= id:=fun id hid=>by
  obtain ⟨j,hj,e⟩:=List.getElem_of_mem hid;obtain ⟨o,ho⟩:=hids j hj;have e2:ids.getD j 0=id:=by rw [List.getD_eq_getElem?_getD,List.getElem?_eq_getElem hj,e];rfl
  rw [e2] at ho;have:=(g1.nums _ _ ho).1.1;omega
 obtain ⟨ids',h2,nx2,tr2,q0,q1,q2,q3,q4,q5,q6,q7,q8,q9,q10⟩:=K4 ids 0 os' _ h1 nx1 _ hout hnodup hx;have hle2:=q10.le;obtain ⟨h3,tr3,hl3,hw1,hw2,hx4⟩:=Ks ids' _ h2 _ q5 q10;obtain ⟨hxx,eh,en,_⟩:=Ex.ret hx4;subst eh;subst en;have hff:∀ j,j < ids.length->ids[j]? = some (ids.getD j 0):=fun j hj=>by simp [hj]
 have hff':∀ j,j < ids'.length->ids'[j]? = some (ids'.getD j 0):=fun j hj=>by simp [hj]
 have hinj:∀ i j,i < os0.length->j < os0.length->ids'.getD i 0=ids'.getD j 0->i=j:=fun i j hi hj hij=>by
  rw [hlenO,<- q1] at hi hj;exact (List.getElem?_inj hi q5 (j:=j)).1 (by rw [hff' i hi,hff' j hj,hij])
 have hsame:∀ j,j < os0.length->mv j=false->ids'.getD j 0=ids.getD j 0:=fun j hj hm=>by
  have:=q3 j (by omega) (by simpa using hm)
  rw [List.getD_eq_getElem?_getD,List.getD_eq_getElem?_getD,this]
 have hnew:∀ j,j < os0.length->mv j=true->nx1 <= ids'.getD j 0 /\ ids'.getD j 0 < nx':=fun j hj hm=>q4 j _ (hff' j (by omega)) (by simpa using hm)
 obtain ⟨X2,w2,g3,s3,hρ,hB2⟩:=Part.backV K.base g1 part hlen' hrefs' g' s' q0 (by omega) hinj hsame hnew (h':=h')
  (fun j o hj=>by
   have hlt:j < ids'.length:=by rw [q1,<- hlenO,<- hlen'];exact (List.getElem?_eq_some_iff.1 hj).1
   exact hw1 j _ _ (hff' j hlt) (by rw [List.getElem?_map,hj];rfl))
  (fun j hj hno=>by
   have hni:ids.getD j 0 ∉ ids':=fun hm=>by
    obtain ⟨i,hi,e⟩:=List.getElem_of_mem hm;exact hno i (by rw [hlenO,<- q1];exact hi) (by rw [List.getD_eq_getElem?_getD,List.getElem?_eq_getElem hi,e];rfl)
   rw [hw2 _ hni];cases hm:mv j with
   | true=>exact q8 _ j (hff j (by omega)) (by simpa using hm)
   | false =>
    have:=hsame j hj hm;exact (hno j hj this).elim)
  (fun id hid hid2=>by
   have hni:id ∉ ids':=fun hm=>by
    obtain ⟨i,hi,e⟩:=List.getElem_of_mem hm;exact hid i (by rw [hlenO,<- q1];exact hi) (by rw [List.getD_eq_getElem?_getD,List.getElem?_eq_getElem hi,e];rfl)
   have hni2:∀ j,ids[j]? ≠ some id:=fun j hj=>by
    have hlt:=(List.getElem?_eq_some_iff.1 hj).1;exact hid2 j (by omega) (by rw [List.getD_eq_getElem?_getD,hj];rfl)
   rw [hw2 id hni]
   by_cases hr:id < nx1 \/ nx' <= id
   · exact q7 id hr fun j hj=>(hni2 j hj).elim
   · exact q9 id (by omega) (by omega) hni)
 refine ⟨_,X2,hxx,w2,g3,s3,?_⟩
 have hold:∀ j,j < os0.length->old nx' lim (ids'.getD j 0):=fun j hj=>by
  have hj':j < os'.length:=by omega
  have e1:h'.get (ids'.getD j 0)=some (os'[j].ren fun j=>ids'.getD j 0):=hw1 j _ _ (hff' j (by omega)) (by rw [List.getElem?_map,List.getElem?_eq_getElem hj'];rfl)
  exact (g3.nums _ _ e1).1
 exact Qi.back (nx:=nx') (lim:=lim) (f:=fun j=>ids'.getD j 0) K.base e' hr2 hρ ⟨hB2,fun l r h1 _=>⟨by rw [w2];exact h1,fun o ho=>g3.mine_loop ho (by rw [w2];exact h1)⟩⟩ hold
theorem Qnw (K:QU P T) (F:Qh P T Φ) {mv:Nat->Bool} {g key:Nat} {fs:List Fnd} {slots:List Nat} {res:Env C->List (Obj C)->RT C} {σ:Type} {S:Qbu C σ}
 (hr:∀ fn body b,Φ.fn g=some fn->fn.body=some body->b ∈ QN body->Qm b=key->QoM T Φ mv g b S)
 (hres:∀ env0 os x env' os',(res env0 os).val=some ((x,env'),os') -> ∃ q,S.Inv q /\ (∀ p ∈ S.canon q,p ∈ env0) /\ os=S.objs q /\ S.fin q=(x,env') /\ S.fobjs q=os'):QdU P T Φ g key (sumV T mv fs slots res):=by
 intro fn body b hf hb hbl hkey B hB X h nx lim e env x env' h' nx' tr a Q gg he hlim hsz hx hk;obtain ⟨f1,f2,f3⟩:=F.fn g fn hf;obtain ⟨c1,c2⟩:=Zd body (f3 body hb) b hbl;have hround:=hr fn body b hf hb hbl hkey;obtain ⟨X1,h1,nx1,env1,ids,tr1,w1,g1,s1,hn1,e1,hx1⟩:=Kq K hlim fs X h nx tr env [] gg he hx;cases hnd:YO ids with
 | false=>rw [hnd] at hx1;exact (Ex.fail hx1).elim
 | true =>
 rw [hnd] at hx1;simp only [cond_true] at hx1;have hnodup:=Zq hnd;obtain ⟨os,tr2,hlen,hos,hx2⟩:=Jw ids _ _ hx1;cases hin:inB ids (slots.flatMap fun t=>(eget env1 t).refs) && inB ids (os.flatMap Obj.refs) with
 | false=>rw [hin] at hx2;exact (Ex.fail hx2).elim
 | true =>
 rw [hin] at hx2;simp only [cond_true] at hx2;simp only [Bool.and_eq_true] at hin;have hin1:=Zm hin.1;have hin2:=Zm hin.2;obtain ⟨xx,ee,os',tr5,hq,hx3⟩:=RT.pgV_ok _ _ hx2;obtain ⟨q,hI,hsub,hobjs,hfin,hfo⟩:=hres _ _ _ _ _ hq;obtain ⟨hr1,hr2,_⟩:=hround q hI
 let f:Nat->Nat:=fun j=>ids.getD j 0
 have hfj:∀ j,j < ids.length->ids[j]? = some (f j):=fun j hj=>by simp [f,hj]
 have hk0:ids.length=S.k:=by rw [<- hr1.1,<- hobjs];simp [hlen]
 have hff:∀ r,r ∈ ids->f (idx ids r)=r:=fun r hr=>by
  have:=Yz ids r hr;simp only [f,List.getD_eq_getElem?_getD,this,Option.getD_some]
 have hlenO:(S.objs q).length=ids.length:=by rw [hr1.1,hk0]
 have part:Part h1 (S.objs q) f:=by
  refine ⟨fun j o ho=>?_,fun i j hi hj hij=>?_,fun o ho r hr=>by rw [hr1.1];exact hr1.2.2 o ho r hr⟩
  · rw [<- hobjs,List.getElem?_map] at ho;cases hoj:os[j]? with
    | none=>simp [hoj] at ho
    | some o0 =>
     simp only [hoj,Option.map_some,Option.some.injEq] at ho;have hj:j < ids.length:=by rw [<- hlen];exact (List.getElem?_eq_some_iff.1 hoj).1
     rw [hos j (f j) o0 (hfj j hj) hoj,<- ho,Obj.ren_ren];intro id hid;exact hff id (hin2 id (List.mem_flatMap.2 ⟨o0,List.mem_of_getElem? hoj,hid⟩))
  · rw [hlenO] at hi hj;have:=(List.getElem?_inj hi hnodup (j:=j)).1 (by rw [hfj i hi,hfj j hj];simp only [f] at hij ⊢;rw [hij])
    exact this
 have g2:=Part.ctx K.base g1 part (S.objs q).length
 have e2:Qi T (X1.part (S.objs q).length f) (S.objs q).length (lim0 (S.objs q).length) (S.canon q) a.tmps:=by
  refine Qi.part K.base e1 part.inj (fun p hp=>?_) (fun p hp r hr=>by rw [hr1.1];exact hr1.2.1 p hp r hr)
  have:=hsub p hp;simp only [List.mem_map] at this;obtain ⟨t,ht,rfl⟩:=this;simp only;rw [D.ren_ren];intro id hid;exact hff id (hin1 id (List.mem_flatMap.2 ⟨t,ht,hid⟩))
 rw [hr1.1] at g2 e2;rw [<- w1];show (Code.loop b).wp P Q a (X1.part S.k f).w;refine wp_loop_rounds (S.μ q+1) (QhE K F hround hf hb c1 c2 hB (S.μ q+1) q (X1.part S.k f) a hI (by omega) g2 e2 hsz fun a' X' g' s' e' hs' hd' kp'=>?_)
 rw [hfo] at g';rw [hfin] at e';have hlen':os'.length=(S.objs q).length:=by rw [<- hfo,hr2.1,hr1.1]
 have hrefs':∀ o ∈ os',∀ r ∈ Obj.refs o,r < (S.objs q).length:=fun o ho r hr=>by rw [hr1.1];exact hr2.2.2 o (by rw [hfo];exact ho) r hr
 obtain ⟨env2,X2,hxx,w2,g3,s3,e3⟩:=QfQ K g1 hlim hnodup part hlenO hlen' hrefs' (X':=X') (lim1:=lim0 S.k) (by rw [hr1.1];exact g') (by rw [hr1.1];exact s') (by rw [hr1.1];exact e') (fun p hp r hr=>by rw [hr1.1];exact hr2.2.1 p (by rw [hfin];exact hp) r hr) hx3
 obtain ⟨rfl,rfl⟩:=Prod.mk.inj hxx;have:=hk a' X2 g3 (s1.trans s3 hn1) e3 hs' (hd'.of_g g3 (by show X.w.heap.size <= X1.w.heap.size;rw [w1];exact Nat.le_refl _) w2) kp'
 rw [w2] at this;rw [hfin];exact this
def QbK {α:Type} (mv:Nat->Bool) (k:Option α):Nat->List Nat->List (Obj C)->List (Obj C)->Option α
 | _,[],_,_=>k
 | n,i::l,o::os,o'::os'=>bif mv n || Nat.beq i n then QbK mv k (n+1) l os os' else (match o,o' with
  | .vec t _ x,.vec t' _ x'=>bif decide (t'=t) then (bif Nat.blt x.length x'.length then QbK mv k (n+1) l os os' else none) else none
  | _,_=>none)
 | _,_,_,_=>none
theorem QaW {α:Type} {mv:Nat->Bool} {k:Option α} {a:α}:∀ (l:List Nat) (n:Nat) (os os':List (Obj C)),QbK mv k n l os os'=some a->k=some a /\ ∀ j,j < l.length->mv (n+j)=true \/ l.getD j 0=n+j \/ ∃ t own x own' x',os[j]? = some (.vec t own x) /\ os'[j]? = some (.vec t own' x') /\ x.length < x'.length
 | [],n,os,os',h=>⟨by simpa [QbK] using h,fun j hj=>by simp at hj⟩
 | i::l,n,[],_,h=>by simp [QbK] at h
 | i::l,n,o::os,[],h=>by simp [QbK] at h
 | i::l,n,o::os,o'::os',h=>by
  simp only [QbK] at h
  have step:QbK mv k (n+1) l os os'=some a->(mv n=true \/ i=n \/ ∃ t own x own' x',o=.vec t own x /\ o'=.vec t own' x' /\ x.length < x'.length)->k=some a /\ ∀ j,j < (i::l).length->mv (n+j)=true \/ (i::l).getD j 0=n+j \/ ∃ t own x own' x',(o::os)[j]? = some (.vec t own x) /\ (o'::os')[j]? = some (.vec t own' x') /\ x.length < x'.length:=by
   intro h1 h2;obtain ⟨h3,h4⟩:=QaW l (n+1) os os' h1;refine ⟨h3,fun j hj=>?_⟩;cases j with
   | zero=>simpa using h2
   | succ j =>
    have:=h4 j (by simpa using hj)
    simp only [List.getD_cons_succ,List.getElem?_cons_succ];rcases this with h5 | h5 | h5
    · left;rw [<- h5];congr 1;omega
    · right;left;omega
    · exact .inr (.inr h5)
  cases hb:mv n || Nat.beq i n with
  | true =>
   rw [hb] at h;rw [Bool.or_eq_true] at hb;exact step h (hb.imp id fun h=>.inl (Nat.eq_of_beq_eq_true h))
  | false =>
   rw [hb] at h;simp only [cond_false] at h;cases o with
   | var t d=>simp at h
   | map _ _ _=>simp at h
   | vec t own x =>
    cases o' with
    | var t d=>simp at h
    | map _ _ _=>simp at h
    | vec t' own' x' =>
     simp only at h;cases ht:decide (t'=t) with
     | false=>rw [ht] at h;cases h
     | true =>
      rw [ht] at h;have ht:t'=t:=by simpa using ht
      subst ht;cases hl:Nat.blt x.length x'.length with
      | false=>rw [hl] at h;cases h
      | true =>
       rw [hl] at h;exact step h (.inr (.inr ⟨t',own,x,own',x',rfl,rfl,by simpa [Nat.blt_eq] using hl⟩))
def JW {α:Type} (T:Tab C) (mv:Nat->Bool) (fs:List Fnd) (k:Nat) (os:List (Obj C)) (env:Env C) (h:Heap C) (rs:List Nat) (res:(Nat->Nat)->List (Obj C)->α):Option α :=
 match movP T env h fs [] with
 | none=>none
 | some ids=>bif YO ids && Nat.beq ids.length k && inB ids rs && inB ids (ids.flatMap fun i=>match h.get i with | some o=>o.refs | none=>[]) then (match Qbw h (idx ids) ids with
  | some os'=>QbK mv (some (res (idx ids) os')) 0 ids os os'
  | none=>none) else none
theorem VE {α:Type} {mv:Nat->Bool} {fs:List Fnd} {k:Nat} {os:List (Obj C)} {env:Env C} {h:Heap C} {rs:List Nat} {res:(Nat->Nat)->List (Obj C)->α} {r:α} (hr:JW T mv fs k os env h rs res=some r) (hos:os.length=k) :
 ∃ (gi f:Nat->Nat) (os':List (Obj C)),r=res gi os' /\ (∀ x ∈ rs,f (gi x)=x /\ gi x < k) /\ (os'.length=k /\ (∀ j o,os'[j]? = some o->h.get (f j)=some (o.ren f)) /\ (∀ i j,i < os'.length->j < os'.length->f i=f j->i=j) /\ ∀ o ∈ os',∀ r ∈ Obj.refs o,r < os'.length) /\ QhD mv os os' f:=by
 unfold JW at hr;cases hm:movP T env h fs [] with
 | none=>rw [hm] at hr;cases hr
 | some ids =>
  rw [hm] at hr;simp only at hr;cases hc:YO ids && Nat.beq ids.length k && inB ids rs && inB ids (ids.flatMap fun i=>match h.get i with | some o=>o.refs | none=>[]) with
  | false=>rw [hc] at hr;cases hr
  | true =>
   rw [hc] at hr;simp only [cond_true] at hr;simp only [Bool.and_eq_true] at hc;obtain ⟨⟨⟨c1,c2⟩,c3⟩,c4⟩:=hc;have c1:=Zq c1;have c2:=Nat.eq_of_beq_eq_true c2;have c3:=Zm c3;have c4:=Zm c4;cases ho:Qbw h (idx ids) ids with
   | none=>rw [ho] at hr;cases hr
   | some os' =>
    rw [ho] at hr;simp only at hr;obtain ⟨q1,q2⟩:=QaW _ _ _ _ hr;simp only [Option.some.injEq] at q1;obtain ⟨o1,o2⟩:=JT _ _ ho
    have hff:∀ x,x ∈ ids->ids.getD (idx ids x) 0=x:=fun x hx=>by
     have:=Yz ids x hx;simp only [List.getD_eq_getElem?_getD,this,Option.getD_some]
    have hlt:∀ x,x ∈ ids->idx ids x < k:=fun x hx=>by
     have:=Yz ids x hx;rw [<- c2];exact (List.getElem?_eq_some_iff.1 this).1
    refine ⟨idx ids,fun j=>ids.getD j 0,os',q1.symm,fun x hx=>⟨hff x (c3 x hx),hlt x (c3 x hx)⟩,⟨by rw [o1,c2],fun j o hj=>?_,fun i j hi hj hij=>?_,fun o ho' r hr'=>?_⟩,fun j hj=>?_⟩
    · have hjl:j < ids.length:=by rw [<- o1];exact (List.getElem?_eq_some_iff.1 hj).1
      obtain ⟨o0,a1,a2⟩:=o2 j (ids.getD j 0) (by simp [hjl])
      rw [hj] at a2;simp only [Option.some.injEq] at a2;rw [a1,a2,Obj.ren_ren];intro id hid;exact hff id (c4 id (List.mem_flatMap.2 ⟨ids.getD j 0,by rw [List.getD_eq_getElem?_getD];simp [hjl],by rw [a1];exact hid⟩))
    · rw [o1] at hi hj
      exact (List.getElem?_inj hi c1 (j:=j)).1 (by
       simp only [List.getD_eq_getElem?_getD] at hij;simp only [hi,hj,List.getElem?_eq_getElem,Option.getD_some] at hij ⊢;rw [hij])
    · obtain ⟨j,hj,e⟩:=List.getElem_of_mem ho';have hjl:j < ids.length:=by rw [<- o1];exact hj
      obtain ⟨o0,a1,a2⟩:=o2 j (ids.getD j 0) (by simp [hjl])
      rw [List.getElem?_eq_getElem hj,e] at a2;simp only [Option.some.injEq] at a2;rw [a2,Obj.ren_refs,List.mem_map] at hr';obtain ⟨r0,hr0,rfl⟩:=hr';rw [o1,c2];exact hlt r0 (c4 r0 (List.mem_flatMap.2 ⟨ids.getD j 0,by rw [List.getD_eq_getElem?_getD];simp [hjl],by rw [a1];exact hr0⟩))
    · have:=q2 j (by rw [c2,<- hos];exact hj)
      simpa using this
def rndV (T:Tab C) (Φ:Fns C) (mv:Nat->Bool) (g key n k:Nat) (kc kf:List Nat) (fs:List Fnd) (env:Env C) (os:List (Obj C)):Option ((Ev.X × Env C) × List (Option (Obj C))):=(evC T Φ n g (Qe5 Φ g key) env).run (0,0) (hpOf 0 os) k [] fun a h _ _=>match a.1 with
 | .normal=>JW T mv fs k os a.2 h ((sel kc a.2).flatMap fun p=>p.2.refs) fun gi os'=>((.normal,renE gi (sel kc a.2)),os'.map some)
 | x=>JW T mv fs k os a.2 h ((sel kf a.2).flatMap fun p=>p.2.refs) fun gi os'=>((x,renE gi (sel kf a.2)),os'.map some)
theorem QfR {gi f:Nat->Nat} {l:List Nat} {env:Env C} (h:∀ x ∈ ((sel l env).flatMap fun p=>p.2.refs),f (gi x)=x):∀ p ∈ renE gi (sel l env),eget env p.1=p.2.ren f:=by
 intro p hp;simp only [renE,List.mem_map] at hp;obtain ⟨p0,hp0,rfl⟩:=hp;simp only;rw [QiF l env p0 hp0,D.ren_ren];intro id hid;exact h id (List.mem_flatMap.2 ⟨p0,hp0,hid⟩)
theorem Qh.addRoundsV (K:QU P T) (F:Qh P T Φ) {mv:Nat->Bool} {g key:Nat} (hkeys:QdV (Je Φ g)=true) {σ:Type} (S:QV C σ) (n:Nat) (kc kf:List Nat) (fs:List Fnd) (slots:List Nat) (d:Env C->List (Obj C)->Option (Bool × σ))
 (hr:∀ q,S.Inv q->Qj S.k (S.canon q) (S.objs q) /\ (S.fin q).refsOK S.k /\ Leaf (rndV T Φ mv g key n S.k kc kf fs (S.canon q) (S.objs q)) (LedR S q))
 (hd:∀ env os b q,d env os=some (b,q)->b=true->S.Inv q /\ S.canon q=env /\ S.objs q=os):Qh P T (Φ.addLoop g key (sumV T mv fs slots (resR S d))):=by
 refine F.addLoop (Qnw K F (S:=S.toO) (fun fn body b hf hb hm hkey q hI=>?_) ?_)
 · obtain ⟨h1,h2,r,h3,h4⟩:=hr q hI;obtain ⟨x0,env0,os0,hv,hok⟩:=RT.refsOK_val h2;rw [rndV,QcC hkeys hf hb hm hkey] at h3;obtain ⟨⟨x,env'⟩,h',nx',tr,h5,h6⟩:=Pg.run_some h3;refine ⟨h1,by simp only [QV.toO,hv];exact hok,n,x,env',h',nx',tr,h5,?_⟩
   have fin:x ≠ .normal->JW T mv fs S.k (S.objs q) env' h' ((sel kf env').flatMap fun p=>p.2.refs) (fun gi os'=>((x,renE gi (sel kf env')),os'.map some))=some r->(x ≠ .normal /\ x=(S.toO.fin q).1 /\ ∃ f,(∀ p ∈ (S.toO.fin q).2,eget env' p.1=p.2.ren f) /\ Part h' (S.toO.fobjs q) f /\ QhD mv (S.objs q) (S.toO.fobjs q) f):=by
    intro hne h6;obtain ⟨gi,f,os',hs,e1,⟨f2,f3,f4,f5⟩,f6⟩:=VE h6 h1.1;subst hs;rcases h4 with ⟨a1,_⟩ | ⟨a1,os2,a2,a3⟩
    · exact (hne a1).elim
    · have a3:os'=os2:=List.map_inj_right (fun _ _ h=>Option.some.inj h) |>.1 a3;subst a3;refine ⟨hne,by simp only [QV.toO,a2],f,?_,?_,?_⟩
      · simp only [QV.toO,a2];exact QfR fun x hx=>(e1 x hx).1
      · simp only [QV.toO,a2];exact ⟨f3,f4,f5⟩
      · simp only [QV.toO,a2];exact f6
   cases x with
   | normal =>
    simp only at h6;obtain ⟨gi,f,os',hs,e1,⟨f2,f3,f4,f5⟩,f6⟩:=VE h6 h1.1;subst hs;rcases h4 with ⟨_,s',a1,a2,a3,a4,a5⟩ | ⟨a1,_⟩
    · simp only at a4 a5;have a5:os'=S.objs s':=List.map_inj_right (fun _ _ h=>Option.some.inj h) |>.1 a5;subst a5;exact .inl ⟨rfl,s',f,a1,a2,by simp only [QV.toO,a3],by simp only [QV.toO,a3],by rw [show S.toO.canon s'=S.canon s' from rfl,<- a4];exact QfR fun x hx=>(e1 x hx).1,⟨f3,f4,f5⟩,f6⟩
    · exact (a1 rfl).elim
   | exit id=>exact .inr (fin (by simp) h6)
   | ret=>exact .inr (fin (by simp) h6)
 · intro env0 os x env' os' h;unfold resR at h
   split at h
   · rename_i b q hq;cases b with
     | false=>simp [RT.val] at h
     | true =>
      obtain ⟨h1,h2,h3⟩:=hd _ _ _ _ hq rfl;simp only [RT.val,cond_true] at h;exact ⟨q,h1,fun p hp=>by rw [<- h2];exact hp,h3.symm,by simp only [QV.toO,h],by simp only [QV.toO,h]⟩
   · simp [RT.val] at h
def fnV (T:Tab C) (Φ:Fns C) (mv:Nat->Bool) (g n k:Nat) (fs:List Fnd) (args:List (D C)) (os:List (Obj C)):Option (D C × List (Option (Obj C))) :=
 (J7 T Φ (evC T Φ n) g args).run (0,0) (hpOf 0 os) k [] fun d h _ _=>JW T mv fs k os ((999,d)::eargs 0 args) h d.refs fun gi os'=>(d.ren gi,os'.map some)
def Qks (T:Tab C) (mv:Nat->Bool) (fs:List Fnd) (n:Nat) {σ:Type} (S:FunR C σ) (d:Env C->List (Obj C)->Option (Bool × σ)) (args:List (D C)):Pg C (D C) :=
 bif Nat.beq args.length n then .bind (sumV T mv fs (List.range n) (resF S d) (eargs 0 args)) fun r=>.ret (eget r.2 0) else .fail
theorem Qnx (K:QU P T) (F:Qh P T Φ) {mv:Nat->Bool} {g:Nat} {fs fs2:List Fnd} {m n:Nat} {σ:Type} {S:FunR C σ}
 (hr:∀ q,S.Inv q->Qj S.k (eargs 0 (S.args q)) (S.objs q) /\ (S.fin q).refsOK S.k /\ (S.args q).length=m /\ Leaf (fnV T Φ mv g n S.k fs2 (S.args q) (S.objs q)) (LedF S q))
 (d:Env C->List (Obj C)->Option (Bool × σ)) (hd:∀ env os b q,d env os=some (b,q)->b=true->S.Inv q /\ eargs 0 (S.args q)=env /\ S.objs q=os):QdT P T g (Qks T mv fs m S d):=by
 intro args vs X h nx lim e dd h' nx' tr gg hargs hrefs hlim hx;unfold Qks at hx;cases hm:Nat.beq args.length m with
 | false=>rw [hm] at hx;exact (Ex.fail hx).elim
 | true =>
 rw [hm] at hx;simp only [cond_true] at hx;have hm:=Nat.eq_of_beq_eq_true hm;obtain ⟨⟨x,env'⟩,h9,n9,t8,t9,hx0,hret,_⟩:=Ex.bind hx;obtain ⟨hdd,e1h,e1n,_⟩:=Ex.ret hret;subst e1h;subst e1n;have he:=Qi.args K hargs hrefs;unfold sumV at hx0;obtain ⟨X1,h1,nx1,env1,ids,tr1,w1,g1,s1,hn1,e1,hx1⟩:=Kq K hlim fs X h nx _ _ [] gg he hx0;cases hnd:YO ids with
 | false=>rw [hnd] at hx1;exact (Ex.fail hx1).elim
 | true =>
 rw [hnd] at hx1;simp only [cond_true] at hx1;have hnodup:=Zq hnd;obtain ⟨os,tr2,hlen,hos,hx2⟩:=Jw ids _ _ hx1;cases hin:inB ids ((List.range m).flatMap fun t=>(eget env1 t).refs) && inB ids (os.flatMap Obj.refs) with
 | false=>rw [hin] at hx2;exact (Ex.fail hx2).elim
 | true =>
 rw [hin] at hx2;simp only [cond_true] at hx2;simp only [Bool.and_eq_true] at hin;have hin1:=Zm hin.1;have hin2:=Zm hin.2;obtain ⟨xx,ee,os',tr5,hq,hx3⟩:=RT.pgV_ok _ _ hx2;unfold resF at hq
 split at hq
 · rename_i b q hdq;cases b with
   | false=>simp [RT.val] at hq
   | true =>
   simp only [RT.val,cond_true] at hq;obtain ⟨hI,hcan,hobjs⟩:=hd _ _ _ _ hdq rfl;obtain ⟨hr1,hr2,hlenA,r,hr3,hr4⟩:=hr q hI
   let f:Nat->Nat:=fun j=>ids.getD j 0
   have hfj:∀ j,j < ids.length->ids[j]? = some (f j):=fun j hj=>by simp [f,hj]
   have hk0:ids.length=S.k:=by rw [<- hr1.1,hobjs];simp [hlen]
   have hff:∀ r,r ∈ ids->f (idx ids r)=r:=fun r hr=>by
    have:=Yz ids r hr;simp only [f,List.getD_eq_getElem?_getD,this,Option.getD_some]
   have hlenO:(S.objs q).length=ids.length:=by rw [hr1.1,hk0]
   have part:Part h1 (S.objs q) f:=by
    refine ⟨fun j o ho=>?_,fun i j hi hj hij=>?_,fun o ho r hr=>by rw [hr1.1];exact hr1.2.2 o ho r hr⟩
    · rw [hobjs,List.getElem?_map] at ho;cases hoj:os[j]? with
      | none=>simp [hoj] at ho
      | some o0 =>
       simp only [hoj,Option.map_some,Option.some.injEq] at ho;have hj:j < ids.length:=by rw [<- hlen];exact (List.getElem?_eq_some_iff.1 hoj).1
       rw [hos j (f j) o0 (hfj j hj) hoj,<- ho,Obj.ren_ren];intro id hid;exact hff id (hin2 id (List.mem_flatMap.2 ⟨o0,List.mem_of_getElem? hoj,hid⟩))
    · rw [hlenO] at hi hj;have:=(List.getElem?_inj hi hnodup (j:=j)).1 (by rw [hfj i hi,hfj j hj];simp only [f] at hij ⊢;rw [hij])
      exact this
   have g2:=Part.ctx K.base g1 part (S.objs q).length
   have e2:Qi T (X1.part (S.objs q).length f) (S.objs q).length (lim0 (S.objs q).length) (eargs 0 (S.args q)) (⟨vs⟩:Array Value):=by
    refine Qi.part K.base e1 part.inj (fun p hp=>?_) (fun p hp r hr=>by rw [hr1.1];exact hr1.2.1 p hp r hr)
    rw [hcan] at hp;simp only [List.mem_map] at hp;obtain ⟨t,ht,rfl⟩:=hp;simp only;rw [D.ren_ren];intro id hid;exact hff id (hin1 id (List.mem_flatMap.2 ⟨t,ht,hid⟩))
   rw [hr1.1] at g2 e2;obtain ⟨d0,hh,nn,tt,hex,hsome⟩:=Pg.run_some hr3;obtain ⟨gi,fM,osM,hres,eM,⟨f2,f3,f4,f5⟩,f6⟩:=VE hsome hr1.1;subst hres;obtain ⟨os2,hv2,hg2⟩:=hr4;rw [hq] at hv2;simp only [Option.some.injEq,Prod.mk.injEq] at hv2;obtain ⟨⟨rfl,rfl⟩,rfl⟩:=hv2;have hosM:osM=os':=List.map_inj_right (fun _ _ h=>Option.some.inj h) |>.1 hg2;subst hosM;obtain ⟨x5,env5,os5,hv5,hok5⟩:=RT.refsOK_val hr2;rw [hq] at hv5;simp only [Option.some.injEq,Prod.mk.injEq] at hv5;obtain ⟨⟨rfl,rfl⟩,rfl⟩:=hv5;have hle:S.k <= nn:=hex.le;have g0:G T (X1.part S.k f) (hpOf 0 (S.objs q)) S.k (lim0 nn):=g2.relim2 (YN hr1.1 hr1.2.2) (Nat.le_refl _) (Nat.zero_le _) (fun _ h=>h);have hvs:RVs T (X1.part S.k f) (S.args q) vs:=RVs.of_env (by rw [hlenA,<- hm];exact RVs.length T hargs) e2
   have hrefs0:∀ a ∈ S.args q,∀ id ∈ D.refs a,old S.k (lim0 nn) id:=fun a ha id hid=>⟨.inl (by
    obtain ⟨i,hi,hia⟩:=List.getElem_of_mem ha;refine hr1.2.1 (0+i,a) ?_ id hid;rw [<- hia];exact K1 _ _ _ hi),fun h=>h⟩
   obtain ⟨c1,c2⟩:=Qbs K F n g (S.args q) vs (X1.part S.k f) (hpOf 0 (S.objs q)) S.k (lim0 nn) (0,0) d0 hh nn tt g0 hvs hrefs0 (Nat.le_refl _) hex;have hw:(X1.part S.k f).w=X.w:=w1;rw [hw] at c1 c2;refine ⟨c1,c2.mono fun en w9 hp=>?_⟩;obtain ⟨v,X2,rfl,hX2,g3,s3,ro3⟩:=hp;have pM:Part hh osM fM:=⟨f3,f4,f5⟩;have hlenM:osM.length=(S.objs q).length:=by rw [f2,hr1.1]
   have g4:=Part.ctxM K.base g3 pM S.k
   have e3:Qi T X2 nn (lim0 nn) [(0,d0)] (#[v]:Array Value):=fun t=>by
    rw [Ql]
    by_cases ht:t=0
    · subst ht;simpa using ro3
    · simp only [ht,if_false,eget];exact RO.mk (RV.top _ _ _) rfl
   have e4:Qi T (X2.partM osM.length fM) osM.length (lim0 S.k) [(0,d0.ren gi)] (#[v]:Array Value):=Qi.partM K.base e3 pM.inj (fun p hp=>by
    simp only [List.mem_singleton] at hp;subst hp;simp only [Ql,if_true];rw [D.ren_ren];exact fun x hx=>(eM x hx).1) (fun p hp r hr=>by rw [hok5.1];exact hok5.2.1 p hp r hr)
   have s4:=Part.stepV (mv:=mv) (by rw [hr1.1];exact g2) g3 (by rw [hr1.1];exact s3) pM hlenM f6
   rw [f2] at g4 e4;rw [hr1.1] at s4;have hrefs':∀ o ∈ osM,∀ r ∈ Obj.refs o,r < (S.objs q).length:=fun o ho r hr=>by rw [hr1.1];exact hok5.2.2 o ho r hr
   obtain ⟨env2,X4,hxx,w4,g5,s5,e5⟩:=QfQ K g1 hlim hnodup part hlenO hlenM hrefs' (X':=X2.partM S.k fM) (lim1:=lim0 S.k) (by rw [hr1.1];exact g4) (by rw [hr1.1];exact s4) (by rw [hr1.1];exact e4) (fun p hp r hr=>by rw [hr1.1];exact hok5.2.1 p hp r hr) hx3
   obtain ⟨rfl,rfl⟩:=Prod.mk.inj hxx;have ro5:=e5 0;refine ⟨v,X4,rfl,by rw [w4];exact hX2,g5,s1.trans s5 hn1,?_⟩
   rw [hdd];exact ro5
 · simp [RT.val] at hq
theorem Qh.addFunV (K:QU P T) (F:Qh P T Φ) {mv:Nat->Bool} {g:Nat} {σ:Type} (S:FunR C σ) (n m:Nat) (fs fs2:List Fnd) (d:Env C->List (Obj C)->Option (Bool × σ))
 (hr:∀ q,S.Inv q->Qj S.k (eargs 0 (S.args q)) (S.objs q) /\ (S.fin q).refsOK S.k /\ (S.args q).length=m /\ Leaf (fnV T Φ mv g n S.k fs2 (S.args q) (S.objs q)) (LedF S q))
 (hd:∀ env os b q,d env os=some (b,q)->b=true->S.Inv q /\ eargs 0 (S.args q)=env /\ S.objs q=os):Qh P T (Φ.addObj g (Qks T mv fs m S d)):=F.addObj (Qnx K F hr d hd)
end
def Jh (c:Int) (cs:List Int) (t u:Task) (now sure:List Sector):Prop:=Qqu nCh okCh c cs t u now sure /\ ((goT nCh false t).a.kind=0 \/ (goT nCh false t).a.kind=2)
open Go.Proofs
set_option maxRecDepth 100000
structure Qdc where
 c:Bool
 l:List Int
 a:Bool
 now:List Sector
 b:Bool
 sure:List Sector
 i:Nat
def Ku (c:Bool) (l:List Int) (a:Bool) (now:List Sector) (b:Bool) (sure:List Sector) (i:Nat):Env RC:=[(1,.ptr 0 []),(2,.int .i64 0),(3,.int .i64 (i:Int))]
def ZP (c:Bool) (l:List Int) (a:Bool) (now:List Sector) (b:Bool) (sure:List Sector) (i:Nat):List (Obj RC):=[.var 44 (.acons (.sl (C:=RC) .int c l) (.acons (.acons (.sl (C:=RC) .sector a now) (.acons (.sl (C:=RC) .sector b sure) .anil)) .anil))]
noncomputable def QfS (c:Bool) (l:List Int) (a:Bool) (now:List Sector) (b:Bool) (sure:List Sector) (i:Nat):=rndO s18 uf_5 76 4 40 1 [1,2,3] [2] [.slot 1 0] (Ku c l a now b sure i) (ZP c l a now b sure i)
theorem Qkt (c:Bool) (l:List Int) (a:Bool) (now:List Sector) (b:Bool) (sure:List Sector) (i:Nat):QfS c l a now b sure i=(let Z0:Int:=(↑i:Int);let Z1:Int:=List.getD l Z0.toNat (0:Int);let Z2:List (Option (Obj RC)):=[some (Obj.var 44 (.acons (D.sl RTy.int c l) (.acons (D.acons (D.sl RTy.sector a now) (.acons (D.sl RTy.sector b sure) .anil)) .anil)))];let Z3:Nat × D RC:=(2,D.int .i64 0);bif Qe l.length then bif decide (Z0 < (↑l.length:Int)) then bif decide ((0:Int) <= Z0 /\ Z0 < (↑l.length:Int)) then bif decide ((-1152921504606846976:Int) <= Z1) then bif !decide (Z1 <= (1152921504606846976:Int)) then some ((X.ret,[(2,D.int .i64 2)]),Z2) else some ((X.normal,[(1,D.ptr 0 []),Z3,(3,D.int .i64 (IntKind.wrap .i64 (Z0+(1:Int))))]),Z2) else some ((X.ret,[(2,D.int .i64 2)]),Z2) else none else some ((X.exit (0:Nat),[Z3]),Z2) else none):=by kernel_rfl
def YU (c:Bool) (l:List Int) (a:Bool) (now:List Sector) (b:Bool) (sure:List Sector) (i:Nat):RT RC:=.br ((l.drop i).all KY) (.leaf (.exit 0) [(2,.int .i64 0)] (ZP c l a now b sure i)) (.leaf .ret [(2,.int .i64 2)] (ZP c l a now b sure i))
def YV (c:Bool) (l:List Int) (a:Bool) (now:List Sector) (b:Bool) (sure:List Sector) (i:Nat):Prop:=i <= l.length /\ l.length <= 1024
def ZA:QV RC Qdc where
 k:=1
 canon q:=Ku q.c q.l q.a q.now q.b q.sure q.i
 objs q:=ZP q.c q.l q.a q.now q.b q.sure q.i
 fin q:=YU q.c q.l q.a q.now q.b q.sure q.i
 Inv q:=YV q.c q.l q.a q.now q.b q.sure q.i
 μ q:=q.l.length - q.i
theorem Qdd (c:Bool) (l:List Int) (a:Bool) (now:List Sector) (b:Bool) (sure:List Sector) (i:Nat) (hI:YV c l a now b sure i):Leaf (QfS c l a now b sure i) (LedR ZA ⟨c,l,a,now,b,sure,i⟩):=by
 (rw [Qkt];conv=>zeta)
 unfold YV at hI;obtain ⟨h1,h2⟩:=hI;have hlk:=Qu (n:=l.length) (by omega)
 by_cases hlt:i < l.length
 · have w_succ:IntKind.i64.wrap ((i:Int)+1)=((i+1:Nat):Int):=by rw [Qq (by omega) (by omega)];simp
   have d_lt:decide ((i:Int) < l.length)=true:=by simp;omega
   have d_in:decide (0 <= (i:Int) /\ (i:Int) < l.length)=true:=by simp;omega
   have t_nat:((i:Int)).toNat=i:=by simp
   simp only [w_succ,d_lt,d_in,t_nat,cond_true];have hst:=Vc l KY i hlt (0:Int);generalize l.getD i (0:Int)=x at hst ⊢;simp only [hlk,cond_true]
   have hgo:KY x=true->Leaf (some ((X.normal,Ku c l a now b sure (i+1)),(ZP c l a now b sure (i+1)).map some)) (LedR ZA ⟨c,l,a,now,b,sure,i⟩):=fun e =>
    QL ⟨c,l,a,now,b,sure,i+1⟩ ⟨hlt,h2⟩ (by simp only [ZA];omega) (by simp [ZA,YU,hst,e];rfl) rfl rfl
   have hno:KY x=false->Leaf (some ((X.ret,[(2,D.int .i64 2)]),(ZP c l a now b sure i).map some)) (LedR ZA ⟨c,l,a,now,b,sure,i⟩):=fun e=>Zy (ZP c l a now b sure i) (by simp [ZA,YU,hst,e,RT.val]) rfl
   have hm:KY x=(decide (-1152921504606846976 <= x) && decide (x <= 1152921504606846976)):=rfl;rw [hm] at hgo hno
   repeat' (refine QcB.2 ⟨fun hc_=>?_,fun hc_=>?_⟩)
   all_goals first | exact hno (by clear hgo hno hst hm;simp_all <;> omega) | exact hgo (by clear hgo hno hst hm;simp_all <;> omega)
 · have hi:i=l.length:=by omega
   have c1:decide ((i:Int) < l.length)=false:=by simp;omega
   rw [hlk,c1];exact QA (ZP c l a now b sure i) (by simp [ZA,YU,hi,RT.val]) rfl
def QbL (env:Env RC) (os:List (Obj RC)):Option (Bool × Qdc):=match env,os with
 | [(1,.ptr 0 []),(2,.int .i64 0),(3,.int .i64 x0)],[.var 44 (.acons (.sl .int c l) (.acons (.acons (.sl .sector a now) (.acons (.sl .sector b sure) .anil)) .anil))]=>QO (true) (decide (x0=0) && decide (l.length <= 1024),⟨c,l,a,now,b,sure,0⟩)
 | _,_=>none
noncomputable def ug_1:=uf_5.addLoop 76 4 (sumR s18 [.slot 1 0] [1,2,3] ZA QbL)
theorem Qku:Qh Tryz.prog s18 ug_1:=by
 refine Qkn.addRoundsR Qc (by kernel_rfl) ZA 40 [1,2,3] [2] [.slot 1 0] [1,2,3] QbL (fun q hI=>?_) ?_
 · obtain ⟨c,l,a,now,b,sure,i⟩:=q;refine ⟨?_,?_,Qdd c l a now b sure i hI⟩
   · simp_all [Qj,ZA,Ku,ZP,YV,D.refs,Obj.refs,rEnc]
   · simp_all [ZA,YU,ZP,YV,RT.refsOK,Qj,D.refs,Obj.refs,rEnc]
 · intro env os b q hd_ hb;unfold QbL at hd_
   split at hd_
   · obtain ⟨hs,hd_⟩:=Qg hd_;cases hd_;simp only [Bool.and_eq_true,decide_eq_true_eq] at hb;obtain ⟨rfl,hl⟩:=hb;exact ⟨⟨Nat.zero_le _,hl⟩,rfl,rfl⟩
   · cases hd_
def Qkv (c:Bool) (l:List Int) (a:Bool) (now:List Sector) (b:Bool) (sure:List Sector):Option (Bool × D RC):=some (Qe l.length && (Qr now && Qr sure),.int .i64 (bif cellsOK l && Qx now sure then 0 else 2))
def QfT:List (D RC)->Option (Bool × D RC)
 | [.acons (.sl .int c l) (.acons (.acons (.sl .sector a now) (.acons (.sl .sector b sure) .anil)) .anil)]=>Qkv c l a now b sure
 | _=>none
noncomputable def Qkw (c:Bool) (l:List Int) (a:Bool) (now:List Sector) (b:Bool) (sure:List Sector):=evF s18 ug_1 40 76 [.acons (.sl (C:=RC) .int c l) (.acons (.acons (.sl (C:=RC) .sector a now) (.acons (.sl (C:=RC) .sector b sure) .anil)) .anil)]
theorem Qny (c:Bool) (l:List Int) (a:Bool) (now:List Sector) (b:Bool) (sure:List Sector):Qkw c l a now b sure=(let Z0:Nat:=List.length l;let Z1:DO_:=some (D.int .i64 2);bif Qe Z0 then bif decide ((1024:Int) < (↑Z0:Int)) then Z1 else bif decide (Z0 <= (1024:Nat)) then bif List.all (List.drop (0:Nat) l) KY then bif Qr now && Qr sure then some (D.int .i64 (bif Qx now sure then (0:Int) else (2:Int))) else none else Z1 else none else none):=by kernel_rfl
theorem Qnz (c:Bool) (l:List Int) (a:Bool) (now:List Sector) (b:Bool) (sure:List Sector) (h:(Qe l.length && (Qr now && Qr sure))=true):Qkw c l a now b sure=some (.int .i64 (bif cellsOK l && Qx now sure then 0 else 2)):=by
 (rw [Qny];conv=>zeta)
 rw [Bool.and_eq_true] at h;obtain ⟨h1,h2⟩:=h;simp only [h1,h2,cond_true,List.drop_zero,cellsOK]
 by_cases hl:l.length <= 1024
 · have e1:decide ((1024:Int) < l.length)=false:=by simp;omega
   simp only [e1,decide_eq_true hl,cond_false,cond_true,Bool.true_and];cases l.all KY <;> rfl
 · have e1:decide ((1024:Int) < l.length)=true:=by simp;omega
   simp only [e1,decide_eq_false hl,cond_true,Bool.false_and,cond_false]
noncomputable def ug_2:=ug_1.addSpec 76 QfT
theorem Qkx:Qh Tryz.prog s18 ug_2:=Qku.addEv Qc fun args d h=>by
 unfold QfT at h
 split at h
 · unfold Qkv at h;have h1:=congrArg Prod.fst (Option.some.inj h);obtain rfl:_=d:=congrArg Prod.snd (Option.some.inj h);exact ⟨by simp [D.refs],40,Qnz _ _ _ _ _ _ h1⟩
 · cases h
def Qky :Option (Bool × D RC):=some (true,.acons (.sl (C:=RC) .sector false QP) (.acons (.sl (C:=RC) .sector false QP) .anil))
def QfU:List (D RC)->Option (Bool × D RC)
 | []=>Qky 
 | _=>none
noncomputable def Qqv  := evF s18 ug_2 40 21 []
theorem QnA  (h:(true)=true):Qqv  = some (.acons (.sl (C:=RC) .sector false QP) (.acons (.sl (C:=RC) .sector false QP) .anil)):=by
 kernel_rfl
noncomputable def ug_3:=ug_2.addSpec 21 QfU
theorem Qkz:Qh Tryz.prog s18 ug_3:=Qkx.addEv Qc fun args d h=>by
 unfold QfU at h
 split at h
 · unfold Qky at h;have h1:=congrArg Prod.fst (Option.some.inj h);obtain rfl:_=d:=congrArg Prod.snd (Option.some.inj h);exact ⟨by simp [D.refs],40,QnA  h1⟩
 · cases h
structure QoN where
 l:List Int
 a:Bool
 now:List Sector
 b:Bool
 sure:List Sector
 k:Int
 ad:Int
 bb:Int
 v:Int
 g:Int
 tx:List UInt8
 ca:Bool
 ar:List Int
def Qqw (l:List Int) (a:Bool) (now:List Sector) (b:Bool) (sure:List Sector) (k:Int) (ad:Int) (bb:Int) (v:Int) (g:Int) (tx:List UInt8) (ca:Bool) (ar:List Int):List (D RC):=[.acons (.vs 0 (l.length)) (.acons (.acons (.sl (C:=RC) .sector a now) (.acons (.sl (C:=RC) .sector b sure) .anil)) .anil),.acons (.int .i8 k) (.acons (.int .i64 ad) (.acons (.int .i64 bb) (.acons (.int .i64 v) (.acons (.int .i64 g) (.acons (.str tx) (.acons (.sl (C:=RC) .int ca ar) .anil))))))]
def QnB (l:List Int) (a:Bool) (now:List Sector) (b:Bool) (sure:List Sector) (k:Int) (ad:Int) (bb:Int) (v:Int) (g:Int) (tx:List UInt8) (ca:Bool) (ar:List Int):List (Obj RC):=[.vec .int true l]
noncomputable def Qqx (l:List Int) (a:Bool) (now:List Sector) (b:Bool) (sure:List Sector) (k:Int) (ad:Int) (bb:Int) (v:Int) (g:Int) (tx:List UInt8) (ca:Bool) (ar:List Int):=fnV s18 ug_3 (mvOf [0]) 26 80 1 [.slot 999 0] (Qqw l a now b sure k ad bb v g tx ca ar) (QnB l a now b sure k ad bb v g tx ca ar)
theorem Qqy (l:List Int) (a:Bool) (now:List Sector) (b:Bool) (sure:List Sector) (ad g:Int) (ca:Bool):Qqx l a now b sure 0 ad 0 0 g [] ca []=(let Z0:Nat:=List.length l;let Z1:Nat:=(0:Nat)+Z0;let Z2:List Int:=List.replicate (0:Nat) (0:Int)++l;let Z3:Bool:=Nat.beq Z1 Z2.length;bif Nat.beq Z0 Z0 then bif Qe Z0 && (Qr now && Qr sure) then bif (bif cellsOK l && Qx now sure then (0:Int) else (2:Int)) != (0:Int) then none else bif decide (g < (0:Int)) then none else bif decide (ad < (0:Int)) then none else bif Qe Z0 then bif decide ((↑Z0:Int) <= ad) then none else bif Nat.beq Z0 Z0 then bif Qs Z1 (8:Nat) then bif Z3 && decide ((0:Int) <= ad /\ ad < (↑Z2.length:Int)) then bif Z3 then some (D.tup (D.acons (D.acons (D.vs 0 Z1) (.acons (D.acons (D.sl RTy.sector a now) (.acons (D.sl RTy.sector b sure) .anil)) .anil)) (.acons (D.int .i64 (List.getD Z2 ad.toNat (0:Int))) (.acons (D.int .i64 0) .anil))),[some (Obj.vec RTy.int true Z2)]) else none else none else none else none else none else none else none):=by kernel_rfl
theorem Qqz (l:List Int) (a:Bool) (now:List Sector) (b:Bool) (sure:List Sector) (ad bb v g:Int) (ca:Bool):Qqx l a now b sure 2 ad bb v g [] ca []=(let Z0:Nat:=List.length l;let Z1:Option (D RC × List (Option (Obj RC))):=none;let Z2:Int:=(-1152921504606846976:Int);let Z3:Nat:=(0:Nat)+Z0;let Z4:List Int:=List.replicate (0:Nat) (0:Int)++l;let Z5:Bool:=Nat.beq Z3 Z4.length;let Z6:Bool:=Z5 && decide ((0:Int) <= ad /\ ad < (↑Z4.length:Int));let Z7:D RC:=D.acons (D.vs 0 Z3) (.acons (D.acons (D.sl RTy.sector a now) (.acons (D.sl RTy.sector b sure) .anil)) .anil);let Z8:D RC:=D.int .i64 0;bif Nat.beq Z0 Z0 then bif Qe Z0 && (Qr now && Qr sure) then bif (bif cellsOK l && Qx now sure then (0:Int) else (2:Int)) != (0:Int) then Z1 else bif decide (g < (0:Int)) then Z1 else bif decide (ad < (0:Int)) then Z1 else bif Qe Z0 then bif decide ((↑Z0:Int) <= ad) then Z1 else bif decide (Z2 <= bb) then bif !decide (bb <= (1152921504606846976:Int)) then Z1 else bif decide (Z2 <= v) then bif !decide (v <= (1152921504606846976:Int)) then Z1 else bif Nat.beq Z0 Z0 then bif Qs Z3 (8:Nat) then bif Z6 then bif Z5 then bif List.getD Z4 ad.toNat (0:Int) != bb then some (D.tup (D.acons Z7 (D.acons Z8 (D.acons Z8 .anil))),[some (Obj.vec RTy.int true Z4)]) else bif Z6 then bif Z5 then some (D.tup (D.acons Z7 (D.acons (D.int .i64 1) (.acons Z8 .anil))),[some (Obj.vec RTy.int true (List.set Z4 ad.toNat v))]) else Z1 else Z1 else Z1 else Z1 else Z1 else Z1 else Z1 else Z1 else Z1 else Z1 else Z1):=by kernel_rfl
noncomputable def doV_fin (l:List Int) (a:Bool) (now:List Sector) (b:Bool) (sure:List Sector) (k:Int) (ad:Int) (bb:Int) (v:Int) (g:Int) (tx:List UInt8) (ca:Bool) (ar:List Int):RT RC:=.leaf .ret [(0,.tup (.acons (.acons (.vs 0 l.length) (.acons (.acons (.sl (C:=RC) .sector a now) (.acons (.sl (C:=RC) .sector b sure) .anil)) .anil)) (.acons (.int .i64 (doG4 l k ad bb)) (.acons (.int .i64 0) .anil))))] [.vec .int true (doC4 l k ad bb v)]
def Qea (l:List Int) (a:Bool) (now:List Sector) (b:Bool) (sure:List Sector) (k:Int) (ad:Int) (bb:Int) (v:Int) (g:Int) (tx:List UInt8) (ca:Bool) (ar:List Int):Prop:=(tx=[] /\ ar=[] /\ Vl l k ad bb v /\ 0 <= g /\ (k=0 \/ k=2)) /\ cellsOK l=true /\ Qx now sure=true /\ Qr now=true /\ Qr sure=true
noncomputable def doV_S:FunR RC QoN where
 k:=1
 args q:=Qqw q.l q.a q.now q.b q.sure q.k q.ad q.bb q.v q.g q.tx q.ca q.ar
 objs q:=QnB q.l q.a q.now q.b q.sure q.k q.ad q.bb q.v q.g q.tx q.ca q.ar
 fin q:=doV_fin q.l q.a q.now q.b q.sure q.k q.ad q.bb q.v q.g q.tx q.ca q.ar
 Inv q:=Qea q.l q.a q.now q.b q.sure q.k q.ad q.bb q.v q.g q.tx q.ca q.ar
theorem QrP (l:List Int) (a:Bool) (now:List Sector) (b:Bool) (sure:List Sector) (k:Int) (ad:Int) (bb:Int) (v:Int) (g:Int) (tx:List UInt8) (ca:Bool) (ar:List Int) (hI:Qea l a now b sure k ad bb v g tx ca ar):Leaf (Qqx l a now b sure k ad bb v g tx ca ar) (LedF doV_S ⟨l,a,now,b,sure,k,ad,bb,v,g,tx,ca,ar⟩):=by
 unfold Qea at hI;obtain ⟨⟨rfl,rfl,ho9,g0,hk2⟩,hc,hd,hg1,hg2⟩:=hI;obtain ⟨hk,a0,a1,b0,b1,v0,v1⟩:=ho9
 have hlen:l.length <= 1024:=by
  simp only [cellsOK,Bool.and_eq_true,decide_eq_true_eq] at hc;exact hc.1
 have e1:Qe l.length=true:=Qu (by omega)
 have e4:decide (ad < 0)=false:=by simp;omega
 have e5:decide ((l.length:Int) <= ad)=false:=by simp;omega
 have e6:decide (0 <= ad /\ ad < (l.length:Int))=true:=by simp;omega
 have e7:Qs (0+l.length) 8=true:=QiH (by omega)
 have e8:Nat.beq (0+l.length) l.length=true:=QcE (by omega)
 have e9:decide (-1152921504606846976 <= bb)=true:=by simp;omega
 have f0:decide (bb <= 1152921504606846976)=true:=by simp;omega
 have f1:decide (-1152921504606846976 <= v)=true:=by simp;omega
 have f2:decide (v <= 1152921504606846976)=true:=by simp;omega
 have f3:decide (g < 0)=false:=by simp;omega
 have f4:Nat.beq l.length l.length=true:=QcE rfl;rcases hk2 with rfl | rfl
 · obtain ⟨rfl,rfl⟩:bb=0 /\ v=0:=by omega
   (rw [Qqy];conv=>zeta)
   simp only [List.replicate_zero,List.nil_append,List.length_set,e1,hg1,hg2,hc,hd,Bool.and_self,cond_true,cond_false,bne_self_eq_false,e4,e5,e6,e7,e8,e9,f0,f1,f2,f3,f4,Bool.not_true,decide_true];have q1:doC4 l 0 ad 0 0=l:=by simp [doC4]
   have q2:doG4 l 0 ad 0=l.getD ad.toNat 0:=by simp [doG4]
   rw [Nat.zero_add];exact QcQ [.vec .int true l] (by simp only [doV_S,doV_fin,RT.val,q1,q2]) rfl
 · (rw [Qqz];conv=>zeta)
   simp only [List.replicate_zero,List.nil_append,List.length_set,e1,hg1,hg2,hc,hd,Bool.and_self,cond_true,cond_false,bne_self_eq_false,e4,e5,e6,e7,e8,e9,f0,f1,f2,f3,f4,Bool.not_true,decide_true];rw [Nat.zero_add]
   by_cases hb:l.getD ad.toNat 0=bb
   · have q1:doC4 l 2 ad bb v=l.set ad.toNat v:=by unfold doC4;rw [if_pos (.inr ⟨rfl,hb⟩)]
     have q2:doG4 l 2 ad bb=1:=by unfold doG4;rw [if_neg (by omega),if_pos ⟨rfl,hb⟩]
     rw [QiG hb,cond_false];exact QcQ [.vec .int true (l.set ad.toNat v)] (by simp only [doV_S,doV_fin,RT.val,q1,q2]) rfl
   · have q1:doC4 l 2 ad bb v=l:=by unfold doC4;rw [if_neg (fun h=>h.elim (by omega) (fun h=>hb h.2)),if_neg (by omega)]
     have q2:doG4 l 2 ad bb=0:=by unfold doG4;rw [if_neg (by omega),if_neg (fun h=>hb h.2)]
     rw [QmB hb,cond_true];exact QcQ [.vec .int true l] (by simp only [doV_S,doV_fin,RT.val,q1,q2]) rfl
noncomputable def QqA (env:Env RC) (os:List (Obj RC)):Option (Bool × QoN):=match env,os with
 | [(0,.acons (.vs 0 x0) (.acons (.acons (.sl .sector a now) (.acons (.sl .sector b sure) .anil)) .anil)),(1,.acons (.int .i8 k) (.acons (.int .i64 ad) (.acons (.int .i64 bb) (.acons (.int .i64 v) (.acons (.int .i64 g) (.acons (.str tx) (.acons (.sl .int ca ar) .anil)))))))],[.vec .int true l]=>QO (true) (decide (x0=l.length) && cdec ((tx=[] /\ ar=[] /\ Vl l k ad bb v /\ 0 <= g /\ (k=0 \/ k=2)) /\ cellsOK l=true /\ Qx now sure=true /\ Qr now=true /\ Qr sure=true),⟨l,a,now,b,sure,k,ad,bb,v,g,tx,ca,ar⟩)
 | _,_=>none
noncomputable def ug_4:=ug_3.addObj 26 (Qks s18 (mvOf [0]) [.slot 0 0] 2 doV_S QqA)
theorem QkA:Qh Tryz.prog s18 ug_4:=by
 refine Qkz.addFunV (mv:=(mvOf [0])) Qc doV_S 80 2 [.slot 0 0] [.slot 999 0] QqA (fun q hI=>?_) ?_
 · obtain ⟨l,a,now,b,sure,k,ad,bb,v,g,tx,ca,ar⟩:=q;refine ⟨?_,?_,rfl,QrP l a now b sure k ad bb v g tx ca ar hI⟩
   · simp [Qj,doV_S,Qqw,QnB,eargs,D.refs,Obj.refs]
   · simp [doV_S,doV_fin,QnB,RT.refsOK,Qj,D.refs,Obj.refs]
 · intro env os b q hd_ hb;unfold QqA at hd_
   split at hd_
   · obtain ⟨hs,hd_⟩:=Qg hd_;cases hd_
     try simp only [Bool.and_eq_true,decide_eq_true_eq] at hb
     exact ⟨QG.1 hb.2,by rw [hb.1];rfl,rfl⟩
   · cases hd_
open Go.Proofs
structure QaX where
 c:Bool
 l:List Int
 d:Bool
 m:List Int
 i:Nat
def K5 (c:Bool) (l:List Int) (d:Bool) (m:List Int) (i:Nat):Env RC:=[(0,.sl (C:=RC) .int c l),(1,.sl (C:=RC) .int d m),(4,.bool false),(5,.int .i64 (i:Int))]
def Jz (c:Bool) (l:List Int) (d:Bool) (m:List Int) (i:Nat):List (Obj RC):=[]
noncomputable def Qde (c:Bool) (l:List Int) (d:Bool) (m:List Int) (i:Nat):=rndO s18 ug_4 25 4 40 0 [0,1,4,5] [4] [] (K5 c l d m i) (Jz c l d m i)
theorem QhF (c:Bool) (l:List Int) (d:Bool) (m:List Int) (i:Nat):Qde c l d m i=(let Z0:Int:=(↑i:Int);bif Qe l.length then bif decide (Z0 < (↑l.length:Int)) then bif decide ((0:Int) <= Z0 /\ Z0 < (↑l.length:Int)) then bif decide ((0:Int) <= Z0 /\ Z0 < (↑m.length:Int)) then bif List.getD l Z0.toNat (0:Int) != List.getD m Z0.toNat (0:Int) then some ((X.ret,[(4,D.bool false)]),[]) else some ((X.normal,[(0,D.sl RTy.int c l),(1,D.sl RTy.int d m),(4,D.bool false),(5,D.int .i64 (IntKind.wrap .i64 (Z0+(1:Int))))]),[]) else none else none else some ((X.exit (0:Nat),[(4,D.bool false)]),[]) else none):=by kernel_rfl
def Yo (c:Bool) (l:List Int) (d:Bool) (m:List Int) (i:Nat):RT RC:=.br (decide (l.drop i=m.drop i)) (.leaf (.exit 0) [(4,.bool false)] []) (.leaf .ret [(4,.bool false)] [])
def Yp (c:Bool) (l:List Int) (d:Bool) (m:List Int) (i:Nat):Prop:=i <= l.length /\ l.length <= 9223372036854775807 /\ l.length=m.length
def ZB:QV RC QaX where
 k:=0
 canon q:=K5 q.c q.l q.d q.m q.i
 objs q:=Jz q.c q.l q.d q.m q.i
 fin q:=Yo q.c q.l q.d q.m q.i
 Inv q:=Yp q.c q.l q.d q.m q.i
 μ q:=q.l.length - q.i
theorem QbM (c:Bool) (l:List Int) (d:Bool) (m:List Int) (i:Nat) (hI:Yp c l d m i):Leaf (Qde c l d m i) (LedR ZB ⟨c,l,d,m,i⟩):=by
 (rw [QhF];conv=>zeta)
 unfold Yp at hI;obtain ⟨h1,h2,h3⟩:=hI;have hlk:=Qu h2;rw [hlk];simp only [cond_true]
 by_cases hlt:i < l.length
 · have w_succ:IntKind.i64.wrap ((i:Int)+1)=((i+1:Nat):Int):=by rw [Qq (by omega) (by omega)];simp
   have d_lt:decide ((i:Int) < l.length)=true:=by simp;omega
   have d_in:decide (0 <= (i:Int) /\ (i:Int) < l.length)=true:=by simp;omega
   have t_nat:((i:Int)).toNat=i:=by simp
   simp only [w_succ,d_lt,d_in,t_nat,cond_true];have hlt':i < m.length:=by omega
   have d_in':decide (0 <= (i:Int) /\ (i:Int) < m.length)=true:=by simp;omega
   have hst:=QaL l m i (0:Int) hlt h3;simp only [d_in',cond_true];generalize l.getD i (0:Int)=x at hst ⊢;generalize m.getD i (0:Int)=y at hst ⊢
   by_cases hxy:x=y
   · simp only [QiG hxy,cond_false];exact QL ⟨c,l,d,m,i+1⟩ ⟨hlt,h2,h3⟩ (by simp only [ZB];omega) (by simp only [ZB,Yo,hst,hxy,decide_true,Bool.true_and]) rfl rfl
   · simp only [QmB hxy,cond_true];exact Zy [] (by simp [ZB,Yo,hst,hxy,RT.val]) rfl
 · have hi:i=l.length:=by omega
   have c1:decide ((i:Int) < l.length)=false:=by simp;omega
   simp only [c1,cond_false];exact QA [] (by simp only [ZB,Yo,QcG l m i (by omega) (by omega),RT.val,cond_true]) rfl
def K6 (env:Env RC) (os:List (Obj RC)):Option (Bool × QaX):=match env,os with
 | [(0,.sl .int c l),(1,.sl .int d m),(4,.bool false),(5,.int .i64 x0)],[]=>QO (true) (decide (x0=0) && decide (l.length <= 9223372036854775807 /\ l.length=m.length),⟨c,l,d,m,0⟩)
 | _,_=>none
noncomputable def uh_1:=ug_4.addLoop 25 4 (sumR s18 [] [0,1,4,5] ZB K6)
theorem QkB:Qh Tryz.prog s18 uh_1:=by
 refine QkA.addRoundsR Qc (by kernel_rfl) ZB 40 [0,1,4,5] [4] [] [0,1,4,5] K6 (fun q hI=>?_) ?_
 · obtain ⟨c,l,d,m,i⟩:=q;refine ⟨?_,?_,QbM c l d m i hI⟩
   · simp_all [Qj,ZB,K5,Jz,Yp,D.refs,Obj.refs,rEnc]
   · simp_all [ZB,Yo,Jz,Yp,RT.refsOK,Qj,D.refs,Obj.refs,rEnc]
 · intro env os b q hd_ hb;unfold K6 at hd_
   split at hd_
   · obtain ⟨hs,hd_⟩:=Qg hd_;cases hd_;simp only [Bool.and_eq_true,decide_eq_true_eq] at hb;obtain ⟨⟨rfl,rfl⟩,hl⟩:=hb;exact ⟨⟨Nat.zero_le _,hl.1,hl.2⟩,rfl,rfl⟩
   · cases hd_
def QfV (c:Bool) (l:List Int) (d:Bool) (m:List Int):Option (Bool × D RC):=some (Qe l.length && Qe m.length,.bool (decide (l=m)))
def Qdf:List (D RC)->Option (Bool × D RC)
 | [.sl .int c l,.sl .int d m]=>QfV c l d m
 | _=>none
noncomputable def QfW (c:Bool) (l:List Int) (d:Bool) (m:List Int):=evF s18 uh_1 40 25 [.sl (C:=RC) .int c l,.sl (C:=RC) .int d m]
theorem QkC (c:Bool) (l:List Int) (d:Bool) (m:List Int):QfW c l d m=(let Z0:Nat:=List.length l;let Z1:Nat:=List.length m;bif Qe Z0 then bif Qe Z1 then bif (↑Z0:Int) != (↑Z1:Int) then some (D.bool false) else bif decide (Z0 <= (9223372036854775807:Nat) /\ Z0=Z1) then bif decide (List.drop (0:Nat) l=List.drop (0:Nat) m) then some (D.bool true) else some (D.bool false) else none else none else none):=by kernel_rfl
theorem QkD (c:Bool) (l:List Int) (d:Bool) (m:List Int) (h:(Qe l.length && Qe m.length)=true):QfW c l d m=some (.bool (decide (l=m))):=by
 (rw [QkC];conv=>zeta)
 simp only [Bool.and_eq_true] at h;have h1:l.length <= 9223372036854775807:=Jo h.1;simp only [h.1,h.2,cond_true]
 by_cases hl:l.length=m.length
 · have e1:((l.length:Int) != (m.length:Int))=false:=by simp [hl]
   have e2:(l.length <= 9223372036854775807 /\ l.length=m.length):=⟨h1,hl⟩;rw [e1,decide_eq_true e2];simp only [cond_true,cond_false,List.drop_zero];cases decide (l=m) <;> rfl
 · have e1:((l.length:Int) != (m.length:Int))=true:=by simp;omega
   have:¬ l=m:=fun e=>hl (by rw [e])
   simp [e1,this]
noncomputable def uh_2:=uh_1.addSpec 25 Qdf
theorem QkE:Qh Tryz.prog s18 uh_2:=QkB.addEv Qc fun args d h=>by
 unfold Qdf at h
 split at h
 · unfold QfV at h;have h1:=congrArg Prod.fst (Option.some.inj h);obtain rfl:_=d:=congrArg Prod.snd (Option.some.inj h);exact ⟨by simp [D.refs],40,QkD _ _ _ _ h1⟩
 · cases h
open Go.Proofs
structure QfX where
 c:Int
 now:List Sector
 sure:List Sector
 cs:List Int
 ts:List Task
 us:List Task
 busy:List Bool
def Qeb (c:Int) (now:List Sector) (sure:List Sector) (cs:List Int) (ts:List Task) (us:List Task) (busy:List Bool):List (D RC):=[.ptr 0 [],.int .i64 c]
def QbN (c:Int) (now:List Sector) (sure:List Sector) (cs:List Int) (ts:List Task) (us:List Task) (busy:List Bool):List (Obj RC):=[.var 51 (.acons (.acons (.vs 1 (cs.length)) (.acons (.acons (.sl (C:=RC) .sector false now) (.acons (.sl (C:=RC) .sector false sure) .anil)) .anil)) (.acons (.arr (C:=RC) .task 4 ts) (.acons (.arr (C:=RC) .task 4 us) (.acons (.arr (C:=RC) .bool 4 busy) .anil)))),.vec .int true cs]
noncomputable def QkF (c:Int) (now:List Sector) (sure:List Sector) (cs:List Int) (ts:List Task) (us:List Task) (busy:List Bool):=fnV s18 uh_2 (mvOf [1]) 9 80 2 [.slot 0 0,.path 0 [0,0]] (Qeb c now sure cs ts us busy) (QbN c now sure cs ts us busy)
theorem QnC (c:Int) (now:List Sector) (sure:List Sector) (cs:List Int) (ts:List Task) (us:List Task) (busy:List Bool):QkF c now sure cs ts us busy=(let Z0:Bool:=decide ((0:Int) <= c /\ c < (4:Int));let Z1:Nat:=Int.toNat c;let Z2:Task:=Task.mk (0:Int) [] [] false;let Z3:Task:=List.getD ts Z1 Z2;let Z4:Int:=Task.client Z3;let Z5:Task:=List.getD us Z1 Z2;let Z6:Int:=Task.client Z5;let Z7:GoM:=goGo false (64:Nat) (Task.stack Z3) (Task.got Z3) false;let Z8:GoM:=goGo true (64:Nat) (Task.stack Z5) (Task.got Z5) false;let Z9:D RC:=D.bool false;let Z10:D RC:=.anil;let Z11:D RC:=D.tup (D.acons (D.sl RTy.int true []) (.acons Z9 (D.acons Z9 Z10)));let Z12:Nat:=List.length cs;let Z13:D RC:=D.acons (D.vs 1 Z12) (.acons (D.acons (D.sl RTy.sector false now) (.acons (D.sl RTy.sector false sure) Z10)) Z10);let Z14:D RC:=D.arr RTy.task (4:Nat) ts;let Z15:D RC:=D.arr RTy.task (4:Nat) us;let Z16:D RC:=D.acons (D.arr RTy.bool (4:Nat) busy) Z10;let Z17:Option (D RC × List (Option (Obj RC))):=some (Z11,[some (Obj.var 51 (.acons Z13 (D.acons Z14 (D.acons Z15 Z16)))),some (Obj.vec RTy.int true cs)]);let Z18:Qb:=GoM.a Z7;let Z19:List Int:=Qb.args Z18;let Z20:Qb:=GoM.a Z8;let Z21:Int:=Qb.kind Z18;let Z22:Int:=Qb.a Z18;let Z23:Int:=Qb.b Z18;let Z24:Int:=Qb.v Z18;let Z25:Nat:=List.length (GoM.st Z7);let Z26:Nat:=List.length (GoM.st Z8);let Z27:Nat:=List.length (GoM.got Z7);let Z28:Nat:=List.length (GoM.got Z8);let Z29:D RC:=D.sl RTy.int (GoM.gf Z7) (GoM.got Z7);let Z30:D RC:=D.bool true;let Z31:D RC:=D.acons (D.arr RTy.bool (4:Nat) (List.set busy Z1 false)) Z10;let Z32:List (Option (Obj RC)):=[some (Obj.var 51 (.acons Z13 (D.acons Z14 (D.acons Z15 Z31)))),some (Obj.vec RTy.int true cs)];let Z33:Option (D RC × List (Option (Obj RC))):=none;let Z34:D RC:=D.acons Z30 (D.acons Z9 Z10);let Z35:List Task:=List.set ts Z1 (Task.mk Z4 (GoM.st Z7) [doG4 cs Z21 Z22 Z23] (decide (GoM.st Z7=[])));let Z36:Task:=List.getD Z35 Z1 Z2;let Z37:List Task:=List.set us Z1 (Task.mk Z6 (GoM.st Z8) [doG4 cs Z21 Z22 Z23] (decide (GoM.st Z8=[])));let Z38:Task:=List.getD Z37 Z1 Z2;let Z39:GoM:=goGo false (64:Nat) (Task.stack Z36) (Task.got Z36) false;let Z40:GoM:=goGo true (64:Nat) (Task.stack Z38) (Task.got Z38) false;let Z41:D RC:=D.arr RTy.task (4:Nat) Z35;let Z42:D RC:=D.arr RTy.task (4:Nat) Z37;let Z43:List (Option (Obj RC)):=[some (Obj.vec RTy.int true (doC4 cs Z21 Z22 Z23 Z24))];let Z44:List (Option (Obj RC)):=some (Obj.var 51 (.acons Z13 (D.acons Z41 (D.acons Z42 Z16))))::Z43;let Z45:Qb:=GoM.a Z39;let Z46:Qb:=GoM.a Z40;let Z47:Nat:=List.length (GoM.st Z39);let Z48:Nat:=List.length (GoM.st Z40);let Z49:D RC:=D.sl RTy.int (GoM.gf Z39) (GoM.got Z39);let Z50:List (Option (Obj RC)):=some (Obj.var 51 (.acons Z13 (D.acons Z41 (D.acons Z42 Z31))))::Z43;let Z51:Option (D RC × List (Option (Obj RC))):=bif GoM.is Z39 then some (D.tup (D.acons (D.sl RTy.int true []) (.acons Z9 (D.acons Z30 Z10))),Z44) else bif Z0 then bif Qe Z47 then bif (↑Z47:Int) == (0:Int) then bif Qe Z48 then bif (↑Z48:Int) == (0:Int) then bif Qe (GoM.got Z39).length && Qe (GoM.got Z40).length then some (D.tup (D.acons Z49 (D.acons Z30 (D.acons (D.bool (decide (GoM.got Z39=GoM.got Z40))) Z10))),Z50) else Z33 else some (D.tup (D.acons Z49 Z34),Z50) else Z33 else some (D.tup (D.acons Z49 Z34),Z50) else Z33 else Z33;let Z52:Option (D RC × List (Option (Obj RC))):=bif !GoM.is Z7 then bif Z0 then bif Qe Z25 then bif (↑Z25:Int) == (0:Int) then bif Qe Z26 then bif (↑Z26:Int) == (0:Int) then bif Qe Z27 && Qe Z28 then some (D.tup (D.acons Z29 (D.acons Z30 (D.acons (D.bool (decide (GoM.got Z7=GoM.got Z8))) Z10))),Z32) else Z33 else some (D.tup (D.acons Z29 Z34),Z32) else Z33 else some (D.tup (D.acons Z29 Z34),Z32) else Z33 else Z33 else bif decide (Z12=Z12) && cdec ((Qb.text Z18=[] /\ Z19=[] /\ Vl cs Z21 Z22 Z23 Z24 /\ (0:Int) <= Qb.gen Z18 /\ (Z21=(0:Int) \/ Z21=(2:Int))) /\ cellsOK cs=true /\ Qx now sure=true /\ Qr now=true /\ Qr sure=true) then bif decide ((0:Int) <= Z4 /\ Z4 <= (3:Int) /\ Z27 <= (96:Nat) /\ (1:Nat) <= Z25 /\ Z25 <= (6:Nat)) && !decide (GoM.st Z7=[]) then bif Z0 then bif decide ((0:Int) <= Z6 /\ Z6 <= (3:Int) /\ Z28 <= (96:Nat) /\ (1:Nat) <= Z26 /\ Z26 <= (6:Nat)) && !decide (GoM.st Z8=[]) then bif Z0 then bif Z0 then bif cdec ((0:Int) <= Task.client Z36 /\ Task.client Z36 <= (3:Int) /\ Task.over Z36=decide (Task.stack Z36=[]) /\ (Task.stack Z36=[]->false=false) /\ okGo false (64:Nat) (Task.stack Z36) (Task.got Z36)) then bif Z0 then bif cdec ((0:Int) <= Task.client Z38 /\ Task.client Z38 <= (3:Int) /\ Task.over Z38=decide (Task.stack Z38=[]) /\ (Task.stack Z38=[]->false=false) /\ okGo true (64:Nat) (Task.stack Z38) (Task.got Z38)) then bif !GoM.is Z39 == GoM.is Z40 then some (Z11,Z44) else bif GoM.is Z39 then bif Qe (Qb.args Z45).length && Qe (Qb.args Z46).length then bif !decide (Qb.mk (Qb.kind Z45) (Qb.a Z45) (Qb.b Z45) (Qb.v Z45) (Qb.gen Z45) (Qb.text Z45) (Qb.args Z45)=Qb.mk (Qb.kind Z46) (Qb.a Z46) (Qb.b Z46) (Qb.v Z46) (Qb.gen Z46) (Qb.text Z46) (Qb.args Z46)) then some (Z11,Z44) else Z51 else Z33 else Z51 else Z33 else Z33 else Z33 else Z33 else Z33 else Z33 else Z33 else Z33 else Z33;bif Z0 then bif cdec ((0:Int) <= Z4 /\ Z4 <= (3:Int) /\ Task.over Z3=decide (Task.stack Z3=[]) /\ (Task.stack Z3=[]->false=false) /\ okGo false (64:Nat) (Task.stack Z3) (Task.got Z3)) then bif Z0 then bif cdec ((0:Int) <= Z6 /\ Z6 <= (3:Int) /\ Task.over Z5=decide (Task.stack Z5=[]) /\ (Task.stack Z5=[]->false=false) /\ okGo true (64:Nat) (Task.stack Z5) (Task.got Z5)) then bif !GoM.is Z7 == GoM.is Z8 then Z17 else bif GoM.is Z7 then bif Qe Z19.length && Qe (Qb.args Z20).length then bif !decide (Qb.mk Z21 Z22 Z23 Z24 (Qb.gen Z18) (Qb.text Z18) Z19=Qb.mk (Qb.kind Z20) (Qb.a Z20) (Qb.b Z20) (Qb.v Z20) (Qb.gen Z20) (Qb.text Z20) (Qb.args Z20)) then Z17 else Z52 else Z33 else Z52 else Z33 else Z33 else Z33 else Z33):=by kernel_rfl
noncomputable def YW (c:Int) (now:List Sector) (sure:List Sector) (cs:List Int) (ts:List Task) (us:List Task) (busy:List Bool):RT RC:=.leaf .ret [(0,.tup (.acons (.sl (C:=RC) .int (bif (goT nCh false (gmT nCh false (gmX nCh cs (tkC ts c)) (tkC ts c))).is then true else (goT nCh false (gmT nCh false (gmX nCh cs (tkC ts c)) (tkC ts c))).gf) (bif (goT nCh false (gmT nCh false (gmX nCh cs (tkC ts c)) (tkC ts c))).is then [] else (goT nCh false (gmT nCh false (gmX nCh cs (tkC ts c)) (tkC ts c))).got)) (.acons (.bool (!((goT nCh false (gmT nCh false (gmX nCh cs (tkC ts c)) (tkC ts c))).is))) (.acons (.bool true) .anil))))] [.var 51 (.acons (.acons (.vs 1 cs.length) (.acons (.acons (.sl (C:=RC) .sector false now) (.acons (.sl (C:=RC) .sector false sure) .anil)) .anil)) (.acons (.arr (C:=RC) .task 4 (ts.set c.toNat (gmT nCh false (gmX nCh cs (tkC ts c)) (tkC ts c)))) (.acons (.arr (C:=RC) .task 4 (us.set c.toNat (gmT nCh true (gmX nCh cs (tkC ts c)) (tkC us c)))) (.acons (.arr (C:=RC) .bool 4 (bif (goT nCh false (gmT nCh false (gmX nCh cs (tkC ts c)) (tkC ts c))).is then busy else busy.set c.toNat false)) .anil)))),.vec .int true (gmCs nCh cs (tkC ts c))]
def K7 (c:Int) (now:List Sector) (sure:List Sector) (cs:List Int) (ts:List Task) (us:List Task) (busy:List Bool):Prop:=0 <= c /\ c <= 3 /\ ts.length=4 /\ us.length=4 /\ Jh c cs (tkC ts c) (tkC us c) now sure
noncomputable def Ji:FunR RC QfX where
 k:=2
 args q:=Qeb q.c q.now q.sure q.cs q.ts q.us q.busy
 objs q:=QbN q.c q.now q.sure q.cs q.ts q.us q.busy
 fin q:=YW q.c q.now q.sure q.cs q.ts q.us q.busy
 Inv q:=K7 q.c q.now q.sure q.cs q.ts q.us q.busy
theorem QnD (c:Int) (now:List Sector) (sure:List Sector) (cs:List Int) (ts:List Task) (us:List Task) (busy:List Bool) (hI:K7 c now sure cs ts us busy):Leaf (QkF c now sure cs ts us busy) (LedF Ji ⟨c,now,sure,cs,ts,us,busy⟩):=by
 (rw [QnC];conv=>zeta)
 unfold K7 at hI;obtain ⟨c0,c3,lt,lu,hS,hk0⟩:=hI;have hc:decide ((0:Int) <= c /\ c < 4)=true:=decide_eq_true ⟨c0,by omega⟩
 have hset:∀ T' d:Task,(ts.set c.toNat T').getD c.toNat d=T':=fun T' d=>by
  rw [List.getD_eq_getElem?_getD,List.getElem?_set_self (by omega)];rfl
 have hset':∀ T' d:Task,(us.set c.toNat T').getD c.toNat d=T':=fun T' d=>by
  rw [List.getD_eq_getElem?_getD,List.getElem?_set_self (by omega)];rfl
 have hk:∀ T':Task,tkC (ts.set c.toNat T') c=T':=fun T'=>hset T' _;have hk':∀ T':Task,tkC (us.set c.toNat T') c=T':=fun T'=>hset' T' _;have lts:∀ T':Task,(ts.set c.toNat T').length=4:=fun T'=>by rw [List.length_set];exact lt
 have lus:∀ T':Task,(us.set c.toNat T').length=4:=fun T'=>by rw [List.length_set];exact lu
 have ht:tkC ts c=ts.getD c.toNat ⟨0,[],[],false⟩:=rfl;have hu:tkC us c=us.getD c.toNat ⟨0,[],[],false⟩:=rfl
 have hfin:∀ t u,tkC ts c=t->tkC us c=u->YW c now sure cs ts us busy=.leaf .ret [(0,.tup (.acons (.sl (C:=RC) .int (bif (goT nCh false (gmT nCh false (gmX nCh cs t) t)).is then true else (goT nCh false (gmT nCh false (gmX nCh cs t) t)).gf) (bif (goT nCh false (gmT nCh false (gmX nCh cs t) t)).is then [] else (goT nCh false (gmT nCh false (gmX nCh cs t) t)).got)) (.acons (.bool (!((goT nCh false (gmT nCh false (gmX nCh cs t) t)).is))) (.acons (.bool true) .anil))))] [.var 51 (.acons (.acons (.vs 1 cs.length) (.acons (.acons (.sl (C:=RC) .sector false now) (.acons (.sl (C:=RC) .sector false sure) .anil)) .anil)) (.acons (.arr (C:=RC) .task 4 (ts.set c.toNat (gmT nCh false (gmX nCh cs t) t))) (.acons (.arr (C:=RC) .task 4 (us.set c.toNat (gmT nCh true (gmX nCh cs t) u))) (.acons (.arr (C:=RC) .bool 4 (bif (goT nCh false (gmT nCh false (gmX nCh cs t) t)).is then busy else busy.set c.toNat false)) .anil)))),.vec .int true (gmCs nCh cs t)]:=fun t u ht hu=>by
  unfold YW;rw [ht,hu]
 generalize hts:ts.getD c.toNat ⟨0,[],[],false⟩=t at ht ⊢;generalize hus:us.getD c.toNat ⟨0,[],[],false⟩=u at hu ⊢;have hfin:=hfin t u ht hu;rw [ht] at hk0;rw [ht,hu] at hS;obtain ⟨⟨ta,tb,is,eg,eh⟩,isA,la,lb,tx,hd,hg,hcs,d1,d2,d3,e2⟩:=hS;have k1:cdec (0 <= t.client /\ t.client <= 3 /\ t.over=decide (t.stack=[]) /\ (t.stack=[]->True) /\ okGo false 64 t.stack t.got)=true:=QK ⟨by rw [ta.ct];exact c0,by rw [ta.ct];exact c3,by rw [ta.ot];exact (decide_eq_false ta.ne).symm,fun _=>trivial,ta.a1⟩
 have k2:cdec (0 <= u.client /\ u.client <= 3 /\ u.over=decide (u.stack=[]) /\ (u.stack=[]->True) /\ okGo true 64 u.stack u.got)=true:=QK ⟨by rw [tb.ct];exact c0,by rw [tb.ct];exact c3,by rw [tb.ot];exact (decide_eq_false tb.ne).symm,fun _=>trivial,tb.a1⟩
 have gA:∀ t:Task,goGo false 64 t.stack t.got false=goT nCh false t:=fun _=>rfl;have gB:∀ t:Task,goGo true 64 t.stack t.got false=goT nCh true t:=fun _=>rfl;have aeta:∀ a:Qb,Qb.mk a.kind a.a a.b a.v a.gen a.text a.args=a:=fun _=>rfl;have isB:(goT nCh true u).is=true:=is.symm.trans isA;obtain ⟨g1,g2⟩:=eg isA;have nA:(goT nCh false t).st ≠ []:=Qdb isA;have nB:(goT nCh true u).st ≠ []:=Qdb isB;have p1:1 <= (goT nCh false t).st.length:=List.length_pos_iff.2 nA;have p2:1 <= (goT nCh true u).st.length:=List.length_pos_iff.2 nB;have o1:cdec (((goT nCh false t).a.text=[] /\ (goT nCh false t).a.args=[] /\ Vl cs (goT nCh false t).a.kind (goT nCh false t).a.a (goT nCh false t).a.b (goT nCh false t).a.v /\ 0 <= (goT nCh false t).a.gen /\ ((goT nCh false t).a.kind=0 \/ (goT nCh false t).a.kind=2)) /\ cellsOK cs=true /\ Qx now sure=true /\ Qr now=true /\ Qr sure=true)=true:=QK ⟨⟨tx.1,tx.2,hd,hg,hk0⟩,hcs,d1,d2,d3⟩;have q1:decide (0 <= t.client /\ t.client <= 3 /\ (goT nCh false t).got.length <= 96 /\ 1 <= (goT nCh false t).st.length /\ (goT nCh false t).st.length <= 6)=true:=decide_eq_true ⟨by rw [ta.ct];exact c0,by rw [ta.ct];exact c3,la.2,p1,la.1⟩
 have q2:decide (0 <= u.client /\ u.client <= 3 /\ (goT nCh true u).got.length <= 96 /\ 1 <= (goT nCh true u).st.length /\ (goT nCh true u).st.length <= 6)=true:=decide_eq_true ⟨by rw [tb.ct];exact c0,by rw [tb.ct];exact c3,lb.2,p2,lb.1⟩
 have q3:decide ((goT nCh false t).st=[])=false:=decide_eq_false nA;have q4:decide ((goT nCh true u).st=[])=false:=decide_eq_false nB;have l1:Qe (goT nCh false t).a.args.length=true:=Qu (by omega)
 have q0:(!(true == true))=false:=rfl;have hX:doG4 cs (goT nCh false t).a.kind (goT nCh false t).a.a (goT nCh false t).a.b=gmX nCh cs t:=rfl;have hC:doC4 cs (goT nCh false t).a.kind (goT nCh false t).a.a (goT nCh false t).a.b (goT nCh false t).a.v=gmCs nCh cs t:=rfl;have m1:Task.mk t.client (goT nCh false t).st [gmX nCh cs t] (decide ((goT nCh false t).st=[]))=gmT nCh false (gmX nCh cs t) t:=rfl;have m2:Task.mk u.client (goT nCh true u).st [gmX nCh cs t] (decide ((goT nCh true u).st=[]))=gmT nCh true (gmX nCh cs t) u:=rfl;simp only [gA,gB,aeta,hX,hC];simp only [<- g1];simp only [hX,hC,m1,m2,hset,hset',gA,gB,aeta];clear gA gB m1 m2 hX hC hset hset' hk hk';simp only [hc,k1,k2,isA,isB,o1,q1,q2,q3,q4,l1,q0,decide_true,Bool.and_self,Bool.not_true,Bool.not_false,cond_true,cond_false];generalize gmT nCh false (gmX nCh cs t) t=t1 at e2 hfin ⊢;generalize gmT nCh true (gmX nCh cs t) u=u1 at e2 hfin ⊢;generalize gmCs nCh cs t=cs1 at hfin ⊢;clear k1 k2 o1 q1 q2 q3 q4 l1 is eg eh g1 g2 nA nB p1 p2 isA isB hd hg hk0 tx la lb ta tb;obtain ⟨ta,tb,is,eg,eh⟩:=e2;have k1:cdec (0 <= t1.client /\ t1.client <= 3 /\ t1.over=decide (t1.stack=[]) /\ (t1.stack=[]->True) /\ okGo false 64 t1.stack t1.got)=true:=QK ⟨by rw [ta.ct];exact c0,by rw [ta.ct];exact c3,by rw [ta.ot];exact (decide_eq_false ta.ne).symm,fun _=>trivial,ta.a1⟩
 have k2:cdec (0 <= u1.client /\ u1.client <= 3 /\ u1.over=decide (u1.stack=[]) /\ (u1.stack=[]->True) /\ okGo true 64 u1.stack u1.got)=true:=QK ⟨by rw [tb.ct];exact c0,by rw [tb.ct];exact c3,by rw [tb.ot];exact (decide_eq_false tb.ne).symm,fun _=>trivial,tb.a1⟩
 simp only [k1,k2,cond_true];clear k1 k2 ta tb;generalize goT nCh false t1=E at *;generalize goT nCh true u1=F at *;cases hi:E.is with
 | true =>
  rw [hi] at is;obtain ⟨g1,g2⟩:=eg hi;have l1:Qe E.a.args.length=true:=Qu (by omega)
  rw [<- g1,<- is];simp only [q0,l1,decide_true,Bool.and_self,Bool.not_true,cond_true,cond_false];refine QcQ (S:=Ji) (s:=⟨c,now,sure,cs,ts,us,busy⟩) [.var 51 (.acons (.acons (.vs 1 cs.length) (.acons (.acons (.sl (C:=RC) .sector false now) (.acons (.sl (C:=RC) .sector false sure) .anil)) .anil)) (.acons (.arr (C:=RC) .task 4 (ts.set c.toNat t1)) (.acons (.arr (C:=RC) .task 4 (us.set c.toNat u1)) (.acons (.arr (C:=RC) .bool 4 busy) .anil)))),.vec .int true cs1] ?_ rfl;show (YW c now sure cs ts us busy).val=_;rw [hfin];rw [hi];rfl
 | false =>
  rw [hi] at is;obtain ⟨g1,g2,g3,g4⟩:=eh hi;have l1:Qe E.got.length=true:=Qu (by omega)
  have l2:Qe ([]:List Frame).length=true:=rfl;have l3:(((([]:List Frame).length:Nat):Int) == 0)=true:=rfl;have q0:(!(false == false))=false:=rfl;rw [<- is,g1,g2,<- g3];simp only [q0,l1,l2,l3,decide_true,Bool.and_self,Bool.not_false,cond_true,cond_false];refine QcQ (S:=Ji) (s:=⟨c,now,sure,cs,ts,us,busy⟩) [.var 51 (.acons (.acons (.vs 1 cs.length) (.acons (.acons (.sl (C:=RC) .sector false now) (.acons (.sl (C:=RC) .sector false sure) .anil)) .anil)) (.acons (.arr (C:=RC) .task 4 (ts.set c.toNat t1)) (.acons (.arr (C:=RC) .task 4 (us.set c.toNat u1)) (.acons (.arr (C:=RC) .bool 4 (busy.set c.toNat false)) .anil)))),.vec .int true cs1] ?_ rfl;show (YW c now sure cs ts us busy).val=_;rw [hfin];rw [hi];rfl
noncomputable def Qec (env:Env RC) (os:List (Obj RC)):Option (Bool × QfX):=match env,os with
 | [(0,.ptr 0 []),(1,.int .i64 c)],[.var 51 (.acons (.acons (.vs 1 x0) (.acons (.acons (.sl .sector false now) (.acons (.sl .sector false sure) .anil)) .anil)) (.acons (.arr .task 4 ts) (.acons (.arr .task 4 us) (.acons (.arr .bool 4 busy) .anil)))),.vec .int true cs]=>QO (true) (decide (x0=cs.length) && cdec (0 <= c /\ c <= 3 /\ ts.length=4 /\ us.length=4 /\ Jh c cs (tkC ts c) (tkC us c) now sure),⟨c,now,sure,cs,ts,us,busy⟩)
 | _,_=>none
noncomputable def ui_1:=uh_2.addObj 9 (Qks s18 (mvOf [1]) [.slot 0 0,.path 0 [0,0]] 2 Ji Qec)
theorem QkG:Qh Tryz.prog s18 ui_1:=by
 refine QkE.addFunV (mv:=(mvOf [1])) Qc Ji 80 2 [.slot 0 0,.path 0 [0,0]] [.slot 0 0,.path 0 [0,0]] Qec (fun q hI=>?_) ?_
 · obtain ⟨c,now,sure,cs,ts,us,busy⟩:=q;refine ⟨?_,?_,rfl,QnD c now sure cs ts us busy hI⟩
   · simp [Qj,Ji,Qeb,QbN,eargs,D.refs,Obj.refs]
   · simp [Ji,YW,QbN,RT.refsOK,Qj,D.refs,Obj.refs]
 · intro env os b q hd_ hb;unfold Qec at hd_
   split at hd_
   · obtain ⟨hs,hd_⟩:=Qg hd_;cases hd_
     try simp only [Bool.and_eq_true,decide_eq_true_eq] at hb
     exact ⟨QG.1 hb.2,rfl,by rw [hb.1];rfl⟩
   · cases hd_
def begTask (c p:Int) (ar:List Int):Task:=⟨c,[⟨p,0,regs1 ar⟩],[],false⟩
structure ChS where
 cs:List Int
 ts:List Task
 us:List Task
 busy:List Bool
 last:Int
 done:Bool
 key:Int
 does:List Pick
 cut:List Int
def ChS.beg (s:ChS) (c:Nat) (p:Int) (ar:List Int) (d:Pick):ChS:={ s with ts:=s.ts.set c (begTask c p ar),us:=s.us.set c (begTask c p ar),busy:=s.busy.set c true,does:=s.does.set c d }
def QbO (m:Int) (i:Nat):Bool:=bits .i64 (fun _ u v=>u &&& v) (m.fdiv (2 ^ min i 64)) 1 == 1
def begAll (c many:Int) (ar:List Int) (d:Pick):Nat->Nat->ChS->ChS
 | 0,_,s=>s
 | k+1,i,s=>begAll c many ar d k (i+1) (if s.busy.getD i false=false /\ ((i:Int)=c \/ QbO many i=true) then s.beg i 73 ar d else s)
structure ChS.Lens (s:ChS):Prop where
 ts:s.ts.length=4
 us:s.us.length=4
 busy:s.busy.length=4
 does:s.does.length=4
 cut:s.cut.length=24
 cs:s.cs.length=771
theorem ChS.Lens.beg {s:ChS} (h:s.Lens) (c:Nat) (p:Int) (ar:List Int) (d:Pick):(s.beg c p ar d).Lens :=
 ⟨by simp [ChS.beg,h.ts],by simp [ChS.beg,h.us],by simp [ChS.beg,h.busy],by simp [ChS.beg,h.does],h.cut,h.cs⟩
theorem VF {α:Type} {P:Prop} {a b:Option α} {Q:α->Prop} (h:P) (ha:Leaf a Q):Leaf (bif cdec P then a else b) Q:=by rw [QK h];exact ha
def Yq (busy:List Bool) (does:List Pick) (k p:Int):Nat->Nat->Bool
 | 0,_=>false
 | n+1,i=>(busy.getD i false && ((does.getD i ⟨0,0,0,0,0,0⟩).do_ == 1) && ((does.getD i ⟨0,0,0,0,0,0⟩).key == k) && decide ((does.getD i ⟨0,0,0,0,0,0⟩).place < p)) || Yq busy does k p n (i+1)
structure Qed (s:ChS):Prop where
 L:s.Lens
 l0:0 <= s.last
 l1:s.last <= 100
theorem Qee (n:Int):bits .i64 (fun _ u v=>u &&& v) n 255=n % 256:=by
 unfold bits;rw [BitVec.toNat_and,Zu,Zu];have e:((255:Int) % 18446744073709551616).toNat=2 ^ 8 - 1:=by decide
 rw [e,Nat.and_two_pow_sub_one_eq_mod,Qq (by omega) (by omega)]
 omega
def V2 (xp ct fr:Int):Int:=if fr < (if xp < ct then ct else xp) then fr else (if xp < ct then ct else xp)
def ChS.front (s:ChS):Int:=bif s.done then s.last else (if s.last - 1 < 0 then 0 else s.last - 1)
def Q3 (cs:List Int) (v key val:Int):List Int:=(cs.set (291+3 * v).toNat 3).set (293+3 * v).toNat (key * 256+val)
def ChS.b1 (xc xd xk xv xp xm:Int) (s:ChS):ChS :=
 if xd=0 then (if 0 < s.last /\ s.done=false \/ 100 <= s.last \/ s.busy.getD (xc % 4).toNat false=true then s
  else begAll (xc % 4) xm [s.last+1,256+s.last,xk % 24] ⟨0,0,0,0,s.last+1,0⟩ 4 0 ⟨Q3 s.cs s.last (xk % 24) (xv % 256),s.ts,s.us,s.busy,s.last+1,false,xk % 24,s.does,s.cut⟩)
 else if xd=1 then (if s.busy.getD (xc % 4).toNat false=true then s
  else s.beg (xc % 4).toNat 72 [V2 xp (s.cut.getD (xk % 24).toNat 0) s.front,xk % 24] ⟨0,1,xk % 24,0,V2 xp (s.cut.getD (xk % 24).toNat 0) s.front,0⟩)
 else if xd=2 then (if s.busy.getD (xc % 4).toNat false=false /\ 0 <= xp /\ xp < s.last then (if Yq s.busy s.does (xk % 24) xp 4 0=true then s
  else ChS.beg { s with cut:=s.cut.set (xk % 24).toNat (if s.cut.getD (xk % 24).toNat 0 < xp then xp else s.cut.getD (xk % 24).toNat 0) } (xc % 4).toNat 74 [xp,xk % 24] ⟨0,2,xk % 24,0,xp,0⟩) else s)
 else s
theorem Jj {v f:Int} (h0:0 <= v) (h1:v < 160) (f0:0 <= f) (f1:f < 3):lField 291 v f 160 3=291+3 * v+f:=by
 unfold lField;rw [if_pos ⟨h0,h1,f0,f1⟩];omega
theorem Vg (c many:Int) (ar:List Int) (d:Pick):∀ (k i:Nat) (s:ChS),(begAll c many ar d k i s).cs=s.cs /\ (begAll c many ar d k i s).last=s.last /\ (begAll c many ar d k i s).done=s.done /\ (begAll c many ar d k i s).key=s.key /\ (begAll c many ar d k i s).cut=s.cut
 | 0,_,s=>⟨rfl,rfl,rfl,rfl,rfl⟩
 | k+1,i,s=>by
  unfold begAll
  by_cases hc:s.busy.getD i false=false /\ ((i:Int)=c \/ QbO many i=true)
  · rw [if_pos hc];exact Vg c many ar d k (i+1) (s.beg i 73 ar d)
  · rw [if_neg hc];exact Vg c many ar d k (i+1) s
open Go.Proofs
structure QfY where
 c:Int
 p:Int
 ca:Bool
 ar:List Int
 now:List Sector
 sure:List Sector
 cs:List Int
 ts:List Task
 us:List Task
 busy:List Bool
def Qef (c:Int) (p:Int) (ca:Bool) (ar:List Int) (now:List Sector) (sure:List Sector) (cs:List Int) (ts:List Task) (us:List Task) (busy:List Bool):List (D RC):=[.ptr 0 [],.int .i64 c,.int .i8 p,.sl (C:=RC) .int ca ar]
def QbP (c:Int) (p:Int) (ca:Bool) (ar:List Int) (now:List Sector) (sure:List Sector) (cs:List Int) (ts:List Task) (us:List Task) (busy:List Bool):List (Obj RC):=[.var 51 (.acons (.acons (.vs 1 (cs.length)) (.acons (.acons (.sl (C:=RC) .sector false now) (.acons (.sl (C:=RC) .sector false sure) .anil)) .anil)) (.acons (.arr (C:=RC) .task 4 ts) (.acons (.arr (C:=RC) .task 4 us) (.acons (.arr (C:=RC) .bool 4 busy) .anil)))),.vec .int true cs]
noncomputable def QkH (c:Int) (p:Int) (ca:Bool) (ar:List Int) (now:List Sector) (sure:List Sector) (cs:List Int) (ts:List Task) (us:List Task) (busy:List Bool):=fnO s18 ui_1 15 60 2 (Qef c p ca ar now sure cs ts us busy) (QbP c p ca ar now sure cs ts us busy)
theorem QnE (c:Int) (p:Int) (ca:Bool) (ar:List Int) (now:List Sector) (sure:List Sector) (cs:List Int) (ts:List Task) (us:List Task) (busy:List Bool):QkH c p ca ar now sure cs ts us busy=(let Z0:Bool:=decide ((0:Int) <= c /\ c < (4:Int));let Z1:Nat:=Int.toNat c;let Z2:D RC:=.anil;let Z3:D RC:=D.acons (D.vs 1 cs.length) (.acons (D.acons (D.sl RTy.sector false now) (.acons (D.sl RTy.sector false sure) Z2)) Z2);let Z4:Task:=Task.mk c [Frame.mk p (0:Int) (regs1 ar)] [] false;bif decide ((0:Int) <= c /\ c <= (3:Int) /\ (0:Int) <= p /\ List.length ar <= (96:Nat)) then bif Z0 then bif List.getD busy Z1 false then some (D.tup Z2,[some (Obj.var 51 (.acons Z3 (D.acons (D.arr RTy.task (4:Nat) ts) (.acons (D.arr RTy.task (4:Nat) us) (.acons (D.arr RTy.bool (4:Nat) busy) Z2))))),some (Obj.vec RTy.int true cs)]) else bif Z0 then bif Z0 then bif Z0 then some (D.tup Z2,[some (Obj.var 51 (.acons Z3 (D.acons (D.arr RTy.task (4:Nat) (List.set ts Z1 Z4)) (.acons (D.arr RTy.task (4:Nat) (List.set us Z1 Z4)) (.acons (D.arr RTy.bool (4:Nat) (List.set busy Z1 true)) Z2))))),some (Obj.vec RTy.int true cs)]) else none else none else none else none else none):=by kernel_rfl
noncomputable def Qdg (c:Int) (p:Int) (ca:Bool) (ar:List Int) (now:List Sector) (sure:List Sector) (cs:List Int) (ts:List Task) (us:List Task) (busy:List Bool):RT RC:=.leaf .ret [(0,.tup .anil)] [.var 51 (.acons (.acons (.vs 1 cs.length) (.acons (.acons (.sl (C:=RC) .sector false now) (.acons (.sl (C:=RC) .sector false sure) .anil)) .anil)) (.acons (.arr (C:=RC) .task 4 (ts.set c.toNat (begTask c p ar))) (.acons (.arr (C:=RC) .task 4 (us.set c.toNat (begTask c p ar))) (.acons (.arr (C:=RC) .bool 4 (busy.set c.toNat true)) .anil)))),.vec .int true cs]
def K8 (c:Int) (p:Int) (ca:Bool) (ar:List Int) (now:List Sector) (sure:List Sector) (cs:List Int) (ts:List Task) (us:List Task) (busy:List Bool):Prop:=0 <= c /\ c <= 3 /\ 0 <= p /\ ar.length <= 96 /\ ts.length=4 /\ us.length=4 /\ busy.length=4 /\ busy.getD c.toNat false=false
noncomputable def K9:FunR RC QfY where
 k:=2
 args q:=Qef q.c q.p q.ca q.ar q.now q.sure q.cs q.ts q.us q.busy
 objs q:=QbP q.c q.p q.ca q.ar q.now q.sure q.cs q.ts q.us q.busy
 fin q:=Qdg q.c q.p q.ca q.ar q.now q.sure q.cs q.ts q.us q.busy
 Inv q:=K8 q.c q.p q.ca q.ar q.now q.sure q.cs q.ts q.us q.busy
theorem QnF (c:Int) (p:Int) (ca:Bool) (ar:List Int) (now:List Sector) (sure:List Sector) (cs:List Int) (ts:List Task) (us:List Task) (busy:List Bool) (hI:K8 c p ca ar now sure cs ts us busy):Leaf (QkH c p ca ar now sure cs ts us busy) (LedF K9 ⟨c,p,ca,ar,now,sure,cs,ts,us,busy⟩):=by
 (rw [QnE];conv=>zeta)
 unfold K8 at hI;obtain ⟨h1,h2,h3,h4,h5,h6,h7,h8⟩:=hI;have e1:decide (0 <= c /\ c <= 3 /\ 0 <= p /\ ar.length <= 96)=true:=decide_eq_true ⟨h1,h2,h3,h4⟩;have e2:decide (0 <= c /\ c < 4)=true:=decide_eq_true ⟨h1,by omega⟩
 simp only [e1,e2,h8,cond_true,cond_false];exact QcQ _ rfl rfl
noncomputable def Qeg (env:Env RC) (os:List (Obj RC)):Option (Bool × QfY):=match env,os with
 | [(0,.ptr 0 []),(1,.int .i64 c),(2,.int .i8 p),(3,.sl .int ca ar)],[.var 51 (.acons (.acons (.vs 1 x0) (.acons (.acons (.sl .sector false now) (.acons (.sl .sector false sure) .anil)) .anil)) (.acons (.arr .task 4 ts) (.acons (.arr .task 4 us) (.acons (.arr .bool 4 busy) .anil)))),.vec .int true cs]=>QO (true) (decide (x0=cs.length) && cdec (0 <= c /\ c <= 3 /\ 0 <= p /\ ar.length <= 96 /\ ts.length=4 /\ us.length=4 /\ busy.length=4 /\ busy.getD c.toNat false=false),⟨c,p,ca,ar,now,sure,cs,ts,us,busy⟩)
 | _,_=>none
noncomputable def uj_1:=ui_1.addObj 15 (sumF s18 [.slot 0 0,.path 0 [0,0]] 4 K9 Qeg)
theorem QkI:Qh Tryz.prog s18 uj_1:=by
 refine QkG.addFun Qc K9 60 4 [.slot 0 0,.path 0 [0,0]] Qeg (fun q hI=>?_) ?_
 · obtain ⟨c,p,ca,ar,now,sure,cs,ts,us,busy⟩:=q;refine ⟨?_,?_,rfl,QnF c p ca ar now sure cs ts us busy hI⟩
   · simp [Qj,K9,Qef,QbP,eargs,D.refs,Obj.refs]
   · simp [K9,Qdg,QbP,RT.refsOK,Qj,D.refs,Obj.refs]
 · intro env os b q hd_ hb;unfold Qeg at hd_
   split at hd_
   · obtain ⟨hs,hd_⟩:=Qg hd_;cases hd_
     try simp only [Bool.and_eq_true,decide_eq_true_eq] at hb
     obtain ⟨rfl,hb⟩:=hb;exact ⟨QG.1 hb,rfl,rfl⟩
   · cases hd_
structure QoO where
 c:Int
 v:Int
 xc:Int
 xd:Int
 xk:Int
 xv:Int
 xp:Int
 xm:Int
 i:Nat
 now:List Sector
 sure:List Sector
 cs:List Int
 ts:List Task
 us:List Task
 busy:List Bool
 last:Int
 done:Bool
 key:Int
 does:List Pick
 cut:List Int
noncomputable def QkJ (c:Int) (v:Int) (xc:Int) (xd:Int) (xk:Int) (xv:Int) (xp:Int) (xm:Int) (i:Nat) (now:List Sector) (sure:List Sector) (cs:List Int) (ts:List Task) (us:List Task) (busy:List Bool) (last:Int) (done:Bool) (key:Int) (does:List Pick) (cut:List Int):Env RC:=[(0,.ptr 0 []),(3,.ptr 3 []),(4,.int .i64 c),(5,.int .i64 v),(6,.int .i64 (i:Int))]
def Qdh (c:Int) (v:Int) (xc:Int) (xd:Int) (xk:Int) (xv:Int) (xp:Int) (xm:Int) (i:Nat) (now:List Sector) (sure:List Sector) (cs:List Int) (ts:List Task) (us:List Task) (busy:List Bool) (last:Int) (done:Bool) (key:Int) (does:List Pick) (cut:List Int):List (Obj RC):=[.var 32 (.acons (.ptr 1 []) (.acons (.int .i64 last) (.acons (.bool done) (.acons (.int .i64 key) (.acons (.arr (C:=RC) .pick 4 does) (.acons (.arr (C:=RC) .int 24 cut) .anil)))))),.var 51 (.acons (.acons (.vs 2 (cs.length)) (.acons (.acons (.sl (C:=RC) .sector false now) (.acons (.sl (C:=RC) .sector false sure) .anil)) .anil)) (.acons (.arr (C:=RC) .task 4 ts) (.acons (.arr (C:=RC) .task 4 us) (.acons (.arr (C:=RC) .bool 4 busy) .anil)))),.vec .int true cs,.var 28 (.acons (.int .i64 xc) (.acons (.int .i64 xd) (.acons (.int .i64 xk) (.acons (.int .i64 xv) (.acons (.int .i64 xp) (.acons (.int .i64 xm) .anil))))))]
noncomputable def QrQ (c:Int) (v:Int) (xc:Int) (xd:Int) (xk:Int) (xv:Int) (xp:Int) (xm:Int) (i:Nat) (now:List Sector) (sure:List Sector) (cs:List Int) (ts:List Task) (us:List Task) (busy:List Bool) (last:Int) (done:Bool) (key:Int) (does:List Pick) (cut:List Int):=rndO s18 uj_1 8 13 60 4 [0,3,4,5,6] [] [.slot 0 0,.path 0 [0],.path 1 [0,0],.slot 3 0] (QkJ c v xc xd xk xv xp xm i now sure cs ts us busy last done key does cut) (Qdh c v xc xd xk xv xp xm i now sure cs ts us busy last done key does cut)
theorem QrR (c:Int) (v:Int) (xc:Int) (xd:Int) (xk:Int) (xv:Int) (xp:Int) (xm:Int) (i:Nat) (now:List Sector) (sure:List Sector) (cs:List Int) (ts:List Task) (us:List Task) (busy:List Bool) (last:Int) (done:Bool) (key:Int) (does:List Pick) (cut:List Int):QrQ c v xc xd xk xv xp xm i now sure cs ts us busy last done key does cut=(let Z0:Int:=(↑i:Int);let Z1:Bool:=decide ((0:Int) <= Z0 /\ Z0 < (4:Int));let Z2:Nat:=Int.toNat Z0;let Z3:Bool:=List.getD busy Z2 false;let Z4:Nat:=List.length cs;let Z5:List Int:=[last,IntKind.wrap .i64 ((256:Int)+v),key];let Z6:X × Env RC:=(X.normal,[(0,D.ptr 0 []),(3,D.ptr 3 []),(4,D.int .i64 c),(5,D.int .i64 v),(6,D.int .i64 (IntKind.wrap .i64 (Z0+(1:Int))))]);let Z7:D RC:=D.int .i64 last;let Z8:D RC:=D.int .i64 key;let Z9:D RC:=.anil;let Z10:D RC:=D.acons (D.arr RTy.int (24:Nat) cut) Z9;let Z11:D RC:=D.acons (D.vs 2 Z4) (.acons (D.acons (D.sl RTy.sector false now) (.acons (D.sl RTy.sector false sure) Z9)) Z9);let Z12:Task:=begTask Z0 (73:Int) Z5;let Z13:List (Option (Obj RC)):=[some (Obj.vec RTy.int true cs),some (Obj.var 28 (.acons (D.int .i64 xc) (.acons (D.int .i64 xd) (.acons (D.int .i64 xk) (.acons (D.int .i64 xv) (.acons (D.int .i64 xp) (.acons (D.int .i64 xm) Z9)))))))];let Z14:RO_:=bif decide (Z4=Z4) && cdec ((0:Int) <= Z0 /\ Z0 <= (3:Int) /\ (0:Int) <= (73:Int) /\ List.length Z5 <= (96:Nat) /\ List.length ts=(4:Nat) /\ List.length us=(4:Nat) /\ List.length busy=(4:Nat) /\ Z3=false) then bif Z1 then some (Z6,some (Obj.var 32 (.acons (D.ptr 1 []) (.acons Z7 (D.acons (D.bool done) (.acons Z8 (D.acons (D.arr RTy.pick (4:Nat) (List.set does Z2 (Pick.mk (0:Int) (0:Int) (0:Int) (0:Int) last (0:Int)))) Z10))))))::some (Obj.var 51 (.acons Z11 (D.acons (D.arr RTy.task (4:Nat) (List.set ts Z2 Z12)) (.acons (D.arr RTy.task (4:Nat) (List.set us Z2 Z12)) (.acons (D.arr RTy.bool (4:Nat) (List.set busy Z2 true)) Z9)))))::Z13) else none else none;let Z15:List (Option (Obj RC)):=some (Obj.var 32 (.acons (D.ptr 1 []) (.acons Z7 (D.acons (D.bool done) (.acons Z8 (D.acons (D.arr RTy.pick (4:Nat) does) Z10))))))::some (Obj.var 51 (.acons Z11 (D.acons (D.arr RTy.task (4:Nat) ts) (.acons (D.arr RTy.task (4:Nat) us) (.acons (D.arr RTy.bool (4:Nat) busy) Z9)))))::Z13;bif decide (Z0 < (4:Int)) then bif Z1 then bif !Z3 then bif Z0 == c then Z14 else bif bits .i64 (fun (x:Nat) (u v:BitVec x)=>u &&& v) (Int.fdiv xm ((2:Int) ^ min Z2 (64:Nat))) (1:Int) == (1:Int) then Z14 else some (Z6,Z15) else some (Z6,Z15) else none else some ((X.exit (1:Nat),[]),Z15)):=by kernel_rfl
noncomputable def QbQ (c:Int) (v:Int) (xc:Int) (xd:Int) (xk:Int) (xv:Int) (xp:Int) (xm:Int) (i:Nat) (now:List Sector) (sure:List Sector) (cs:List Int) (ts:List Task) (us:List Task) (busy:List Bool) (last:Int) (done:Bool) (key:Int) (does:List Pick) (cut:List Int):RT RC:=.leaf (.exit 1) [] (Qdh c v xc xd xk xv xp xm i now sure cs (begAll c xm [last,IntKind.i64.wrap (256+v),key] ⟨0,0,0,0,last,0⟩ (4 - i) i ⟨cs,ts,us,busy,last,done,key,does,cut⟩).ts (begAll c xm [last,IntKind.i64.wrap (256+v),key] ⟨0,0,0,0,last,0⟩ (4 - i) i ⟨cs,ts,us,busy,last,done,key,does,cut⟩).us (begAll c xm [last,IntKind.i64.wrap (256+v),key] ⟨0,0,0,0,last,0⟩ (4 - i) i ⟨cs,ts,us,busy,last,done,key,does,cut⟩).busy last done key (begAll c xm [last,IntKind.i64.wrap (256+v),key] ⟨0,0,0,0,last,0⟩ (4 - i) i ⟨cs,ts,us,busy,last,done,key,does,cut⟩).does cut)
def Qaa (c:Int) (v:Int) (xc:Int) (xd:Int) (xk:Int) (xv:Int) (xp:Int) (xm:Int) (i:Nat) (now:List Sector) (sure:List Sector) (cs:List Int) (ts:List Task) (us:List Task) (busy:List Bool) (last:Int) (done:Bool) (key:Int) (does:List Pick) (cut:List Int):Prop:=i <= 4 /\ ChS.Lens ⟨cs,ts,us,busy,last,done,key,does,cut⟩
noncomputable def Qab:QV RC QoO where
 k:=4
 canon q:=QkJ q.c q.v q.xc q.xd q.xk q.xv q.xp q.xm q.i q.now q.sure q.cs q.ts q.us q.busy q.last q.done q.key q.does q.cut
 objs q:=Qdh q.c q.v q.xc q.xd q.xk q.xv q.xp q.xm q.i q.now q.sure q.cs q.ts q.us q.busy q.last q.done q.key q.does q.cut
 fin q:=QbQ q.c q.v q.xc q.xd q.xk q.xv q.xp q.xm q.i q.now q.sure q.cs q.ts q.us q.busy q.last q.done q.key q.does q.cut
 Inv q:=Qaa q.c q.v q.xc q.xd q.xk q.xv q.xp q.xm q.i q.now q.sure q.cs q.ts q.us q.busy q.last q.done q.key q.does q.cut
 μ q:=4 - q.i
theorem QkK (c:Int) (v:Int) (xc:Int) (xd:Int) (xk:Int) (xv:Int) (xp:Int) (xm:Int) (i:Nat) (now:List Sector) (sure:List Sector) (cs:List Int) (ts:List Task) (us:List Task) (busy:List Bool) (last:Int) (done:Bool) (key:Int) (does:List Pick) (cut:List Int) (hI:Qaa c v xc xd xk xv xp xm i now sure cs ts us busy last done key does cut):Leaf (QrQ c v xc xd xk xv xp xm i now sure cs ts us busy last done key does cut) (LedR Qab ⟨c,v,xc,xd,xk,xv,xp,xm,i,now,sure,cs,ts,us,busy,last,done,key,does,cut⟩):=by
 (rw [QrR];conv=>zeta)
 unfold Qaa at hI;obtain ⟨h1,hL⟩:=hI
 by_cases hlt:i < 4
 · have d1:decide ((i:Int) < 4)=true:=decide_eq_true (by omega)
   have d2:decide (0 <= (i:Int) /\ (i:Int) < 4)=true:=decide_eq_true ⟨by omega,by omega⟩
   have w1:IntKind.i64.wrap ((i:Int)+1)=((i+1:Nat):Int):=by rw [Qq (by omega) (by omega)];simp
   have tn:((i:Int)).toNat=i:=by simp
   simp only [d1,d2,w1,tn,cond_true,decide_true,Bool.true_and]
   have hstep:∀ s:ChS,begAll c xm [last,IntKind.i64.wrap (256+v),key] ⟨0,0,0,0,last,0⟩ (4 - i) i s=begAll c xm [last,IntKind.i64.wrap (256+v),key] ⟨0,0,0,0,last,0⟩ (4 - (i+1)) (i+1) (if s.busy.getD i false=false /\ ((i:Int)=c \/ QbO xm i=true) then s.beg i 73 [last,IntKind.i64.wrap (256+v),key] ⟨0,0,0,0,last,0⟩ else s):=by
    intro s;rw [show 4 - i=(4 - (i+1))+1 by omega];rfl
   have hstep:=hstep ⟨cs,ts,us,busy,last,done,key,does,cut⟩
   have stay:¬ (busy.getD i false=false /\ ((i:Int)=c \/ QbO xm i=true))->Leaf (some ((X.normal,QkJ c v xc xd xk xv xp xm (i+1) now sure cs ts us busy last done key does cut),(Qdh c v xc xd xk xv xp xm (i+1) now sure cs ts us busy last done key does cut).map some)) (LedR Qab ⟨c,v,xc,xd,xk,xv,xp,xm,i,now,sure,cs,ts,us,busy,last,done,key,does,cut⟩):=by
    intro hn;rw [if_neg hn] at hstep;exact QL ⟨c,v,xc,xd,xk,xv,xp,xm,i+1,now,sure,cs,ts,us,busy,last,done,key,does,cut⟩ ⟨hlt,hL⟩ (by simp only [Qab];omega) (by simp only [Qab,QbQ];rw [hstep];rfl) rfl rfl
   have goes:busy.getD i false=false->((i:Int)=c \/ QbO xm i=true)->Leaf (
    some ((X.normal,QkJ c v xc xd xk xv xp xm (i+1) now sure cs (ts.set i (begTask i 73 [last,IntKind.i64.wrap (256+v),key])) (us.set i (begTask i 73 [last,IntKind.i64.wrap (256+v),key])) (busy.set i true) last done key (does.set i ⟨0,0,0,0,last,0⟩) cut),(Qdh c v xc xd xk xv xp xm (i+1) now sure cs (ts.set i (begTask i 73 [last,IntKind.i64.wrap (256+v),key])) (us.set i (begTask i 73 [last,IntKind.i64.wrap (256+v),key])) (busy.set i true) last done key (does.set i ⟨0,0,0,0,last,0⟩) cut).map some)) (LedR Qab ⟨c,v,xc,xd,xk,xv,xp,xm,i,now,sure,cs,ts,us,busy,last,done,key,does,cut⟩):=by
    intro hb hw;rw [if_pos ⟨hb,hw⟩] at hstep;exact QL ⟨c,v,xc,xd,xk,xv,xp,xm,i+1,now,sure,cs,ts.set i (begTask i 73 [last,IntKind.i64.wrap (256+v),key]),us.set i (begTask i 73 [last,IntKind.i64.wrap (256+v),key]),busy.set i true,last,done,key,does.set i ⟨0,0,0,0,last,0⟩,cut⟩ ⟨hlt,hL.beg i 73 _ _⟩ (by simp only [Qab];omega) (by simp only [Qab,QbQ];rw [hstep];rfl) rfl rfl
   cases hb:busy.getD i false
   · simp only [Bool.not_false,cond_true]
     by_cases hc:(i:Int)=c
     · have e:((i:Int) == c)=true:=by simp [hc]
       simp only [e,cond_true];exact VF (by simp [hL.ts,hL.us,hL.busy];omega) (goes hb (.inl hc))
     · have e:((i:Int) == c)=false:=by simp [hc]
       simp only [e,cond_false];cases hm:bits IntKind.i64 (fun x u v=>u &&& v) (xm.fdiv (2 ^ min i 64)) 1 == 1
       · exact stay (fun h=>h.2.elim hc (fun h=>by rw [QbO,hm] at h;cases h))
       · simp only [cond_true];exact VF (by simp [hL.ts,hL.us,hL.busy];omega) (goes hb (.inr hm))
   · simp only [Bool.not_true,cond_false];exact stay (fun h=>by rw [hb] at h;cases h.1)
 · have e:i=4:=by omega
   subst e;have d1:decide (((4:Nat):Int) < 4)=false:=by decide
   rw [d1];exact QA (Qdh c v xc xd xk xv xp xm 4 now sure cs ts us busy last done key does cut) rfl rfl
noncomputable def QqB (env:Env RC) (os:List (Obj RC)):Option (Bool × QoO):=match env,os with
 | [(0,.ptr 0 []),(3,.ptr 3 []),(4,.int .i64 c),(5,.int .i64 v),(6,.int .i64 x0)],[.var 32 (.acons (.ptr 1 []) (.acons (.int .i64 last) (.acons (.bool done) (.acons (.int .i64 key) (.acons (.arr .pick 4 does) (.acons (.arr .int 24 cut) .anil)))))),.var 51 (.acons (.acons (.vs 2 x1) (.acons (.acons (.sl .sector false now) (.acons (.sl .sector false sure) .anil)) .anil)) (.acons (.arr .task 4 ts) (.acons (.arr .task 4 us) (.acons (.arr .bool 4 busy) .anil)))),.vec .int true cs,.var 28 (.acons (.int .i64 xc) (.acons (.int .i64 xd) (.acons (.int .i64 xk) (.acons (.int .i64 xv) (.acons (.int .i64 xp) (.acons (.int .i64 xm) .anil))))))]=>QO (true) (decide (x0=0) && decide (x1=cs.length) && cdec (ChS.Lens ⟨cs,ts,us,busy,last,done,key,does,cut⟩),⟨c,v,xc,xd,xk,xv,xp,xm,0,now,sure,cs,ts,us,busy,last,done,key,does,cut⟩)
 | _,_=>none
noncomputable def uj_2:=uj_1.addLoop 8 13 (sumR s18 [.slot 0 0,.path 0 [0],.path 1 [0,0],.slot 3 0] [0,3,4,5,6] Qab QqB)
theorem QkL:Qh Tryz.prog s18 uj_2:=by
 refine QkI.addRoundsR Qc (by kernel_rfl) Qab 60 [0,3,4,5,6] [] [.slot 0 0,.path 0 [0],.path 1 [0,0],.slot 3 0] [0,3,4,5,6] QqB (fun q hI=>?_) ?_
 · obtain ⟨c,v,xc,xd,xk,xv,xp,xm,i,now,sure,cs,ts,us,busy,last,done,key,does,cut⟩:=q;refine ⟨?_,?_,QkK c v xc xd xk xv xp xm i now sure cs ts us busy last done key does cut hI⟩
   · simp_all [Qj,Qab,QkJ,Qdh,Qaa,D.refs,Obj.refs,rEnc]
   · simp_all [Qab,QbQ,Qdh,Qaa,RT.refsOK,Qj,D.refs,Obj.refs,rEnc]
 · intro env os b q hd_ hb;unfold QqB at hd_
   split at hd_
   · obtain ⟨hs,hd_⟩:=Qg hd_;cases hd_;simp only [Bool.and_eq_true,decide_eq_true_eq] at hb;obtain ⟨⟨rfl,rfl⟩,hb⟩:=hb;exact ⟨⟨Nat.zero_le _,QG.1 hb⟩,rfl,rfl⟩
   · cases hd_
open Go.Proofs
theorem QsC (x:Int):Int.tmod (IntKind.i64.wrap (Int.tmod x 24+24)) 24=x % 24:=by
 have h1:-24 < Int.tmod x 24:=Int.lt_tmod_of_pos _ (by decide)
 have h2:Int.tmod x 24 < 24:=Int.tmod_lt_of_pos _ (by decide)
 rw [Qq (by omega) (by omega),Int.tmod_eq_emod_of_nonneg (by omega)]
 have h3:x=24 * (x.tdiv 24)+x.tmod 24:=(Int.mul_tdiv_add_tmod x 24).symm;omega
def QkM (c:Int):Option (Bool × D RC):=some (true,.int .i64 (c % 4))
def QfZ:List (D RC)->Option (Bool × D RC)
 | [.int .i64 c]=>QkM c
 | _=>none
noncomputable def QkN (c:Int):=evF s18 uj_2 20 7 [.int .i64 c]
theorem QnG (c:Int):QkN c=(some (D.int .i64 (Int.tmod (IntKind.wrap .i64 (Int.tmod c (4:Int)+(4:Int))) (4:Int)))):=by kernel_rfl
theorem QnH (c:Int) (h:(true)=true):QkN c=some (.int .i64 (c % 4)):=by
 rw [QnG];exact congrArg some (congrArg (D.int IntKind.i64) (mod4 c))
noncomputable def uk_1:=uj_2.addSpec 7 QfZ
theorem QkO:Qh Tryz.prog s18 uk_1:=QkL.addEv Qc fun args d h=>by
 unfold QfZ at h
 split at h
 · unfold QkM at h;have h1:=congrArg Prod.fst (Option.some.inj h);obtain rfl:_=d:=congrArg Prod.snd (Option.some.inj h);exact ⟨by simp [D.refs],20,QnH _ h1⟩
 · cases h
def QkP (c:Int):Option (Bool × D RC):=some (true,.int .i64 (c % 24))
def Qf0:List (D RC)->Option (Bool × D RC)
 | [.int .i64 c]=>QkP c
 | _=>none
noncomputable def QkQ (c:Int):=evF s18 uk_1 20 14 [.int .i64 c]
theorem QnI (c:Int):QkQ c=(some (D.int .i64 (Int.tmod (IntKind.wrap .i64 (Int.tmod c (24:Int)+(24:Int))) (24:Int)))):=by kernel_rfl
theorem QnJ (c:Int) (h:(true)=true):QkQ c=some (.int .i64 (c % 24)):=by
 rw [QnI];exact congrArg some (congrArg (D.int IntKind.i64) (QsC c))
noncomputable def uk_2:=uk_1.addSpec 14 Qf0
theorem QkR:Qh Tryz.prog s18 uk_2:=QkO.addEv Qc fun args d h=>by
 unfold Qf0 at h
 split at h
 · unfold QkP at h;have h1:=congrArg Prod.fst (Option.some.inj h);obtain rfl:_=d:=congrArg Prod.snd (Option.some.inj h);exact ⟨by simp [D.refs],20,QnJ _ h1⟩
 · cases h
structure QoP where
 xc:Int
 xd:Int
 xk:Int
 xv:Int
 xp:Int
 xm:Int
 i:Nat
 now:List Sector
 sure:List Sector
 cs:List Int
 ts:List Task
 us:List Task
 busy:List Bool
 last:Int
 done:Bool
 key:Int
 does:List Pick
 cut:List Int
noncomputable def QnK (xc:Int) (xd:Int) (xk:Int) (xv:Int) (xp:Int) (xm:Int) (i:Nat) (now:List Sector) (sure:List Sector) (cs:List Int) (ts:List Task) (us:List Task) (busy:List Bool) (last:Int) (done:Bool) (key:Int) (does:List Pick) (cut:List Int):Env RC:=[(0,.ptr 0 []),(3,.ptr 3 []),(7,.int .i64 (i:Int))]
def Qar (xc:Int) (xd:Int) (xk:Int) (xv:Int) (xp:Int) (xm:Int) (i:Nat) (now:List Sector) (sure:List Sector) (cs:List Int) (ts:List Task) (us:List Task) (busy:List Bool) (last:Int) (done:Bool) (key:Int) (does:List Pick) (cut:List Int):List (Obj RC):=[.var 32 (.acons (.ptr 1 []) (.acons (.int .i64 last) (.acons (.bool done) (.acons (.int .i64 key) (.acons (.arr (C:=RC) .pick 4 does) (.acons (.arr (C:=RC) .int 24 cut) .anil)))))),.var 51 (.acons (.acons (.vs 2 (cs.length)) (.acons (.acons (.sl (C:=RC) .sector false now) (.acons (.sl (C:=RC) .sector false sure) .anil)) .anil)) (.acons (.arr (C:=RC) .task 4 ts) (.acons (.arr (C:=RC) .task 4 us) (.acons (.arr (C:=RC) .bool 4 busy) .anil)))),.vec .int true cs,.var 28 (.acons (.int .i64 xc) (.acons (.int .i64 xd) (.acons (.int .i64 xk) (.acons (.int .i64 xv) (.acons (.int .i64 xp) (.acons (.int .i64 xm) .anil))))))]
noncomputable def QrS (xc:Int) (xd:Int) (xk:Int) (xv:Int) (xp:Int) (xm:Int) (i:Nat) (now:List Sector) (sure:List Sector) (cs:List Int) (ts:List Task) (us:List Task) (busy:List Bool) (last:Int) (done:Bool) (key:Int) (does:List Pick) (cut:List Int):=rndO s18 uk_2 8 25 60 4 [0,3,7] [] [.slot 0 0,.path 0 [0],.path 1 [0,0],.slot 3 0] (QnK xc xd xk xv xp xm i now sure cs ts us busy last done key does cut) (Qar xc xd xk xv xp xm i now sure cs ts us busy last done key does cut)
theorem QrT (xc:Int) (xd:Int) (xk:Int) (xv:Int) (xp:Int) (xm:Int) (i:Nat) (now:List Sector) (sure:List Sector) (cs:List Int) (ts:List Task) (us:List Task) (busy:List Bool) (last:Int) (done:Bool) (key:Int) (does:List Pick) (cut:List Int):QrS xc xd xk xv xp xm i now sure cs ts us busy last done key does cut=(let Z0:Int:=(↑i:Int);let Z1:Bool:=decide ((0:Int) <= Z0 /\ Z0 < (4:Int));let Z2:Pick:=List.getD does Z0.toNat (Pick.mk (0:Int) (0:Int) (0:Int) (0:Int) (0:Int) (0:Int));let Z3:D RC:=.anil;let Z4:List (Option (Obj RC)):=[some (Obj.var 32 (.acons (D.ptr 1 []) (.acons (D.int .i64 last) (.acons (D.bool done) (.acons (D.int .i64 key) (.acons (D.arr RTy.pick (4:Nat) does) (.acons (D.arr RTy.int (24:Nat) cut) Z3))))))),some (Obj.var 51 (.acons (D.acons (D.vs 2 cs.length) (.acons (D.acons (D.sl RTy.sector false now) (.acons (D.sl RTy.sector false sure) Z3)) Z3)) (.acons (D.arr RTy.task (4:Nat) ts) (.acons (D.arr RTy.task (4:Nat) us) (.acons (D.arr RTy.bool (4:Nat) busy) Z3))))),some (Obj.vec RTy.int true cs),some (Obj.var 28 (.acons (D.int .i64 xc) (.acons (D.int .i64 xd) (.acons (D.int .i64 xk) (.acons (D.int .i64 xv) (.acons (D.int .i64 xp) (.acons (D.int .i64 xm) Z3)))))))];let Z5:RO_:=some ((X.normal,[(0,D.ptr 0 []),(3,D.ptr 3 []),(7,D.int .i64 (IntKind.wrap .i64 (Z0+(1:Int))))]),Z4);bif decide (Z0 < (4:Int)) then bif Z1 then bif List.getD busy Z0.toNat false then bif Z1 then bif Pick.do_ Z2 == (1:Int) then bif Z1 then bif Pick.key Z2 == xk % (24:Int) then bif Z1 then bif decide (Pick.place Z2 < xp) then some ((X.ret,[]),Z4) else Z5 else none else Z5 else none else Z5 else none else Z5 else none else some ((X.exit (3:Nat),[]),Z4)):=by kernel_rfl
noncomputable def QbR (xc:Int) (xd:Int) (xk:Int) (xv:Int) (xp:Int) (xm:Int) (i:Nat) (now:List Sector) (sure:List Sector) (cs:List Int) (ts:List Task) (us:List Task) (busy:List Bool) (last:Int) (done:Bool) (key:Int) (does:List Pick) (cut:List Int):RT RC:=.br (Yq busy does (xk % 24) xp (4 - i) i) (.leaf .ret [] (Qar xc xd xk xv xp xm i now sure cs ts us busy last done key does cut)) (.leaf (.exit 3) [] (Qar xc xd xk xv xp xm i now sure cs ts us busy last done key does cut))
def Qac (xc:Int) (xd:Int) (xk:Int) (xv:Int) (xp:Int) (xm:Int) (i:Nat) (now:List Sector) (sure:List Sector) (cs:List Int) (ts:List Task) (us:List Task) (busy:List Bool) (last:Int) (done:Bool) (key:Int) (does:List Pick) (cut:List Int):Prop:=i <= 4 /\ ChS.Lens ⟨cs,ts,us,busy,last,done,key,does,cut⟩
noncomputable def Qas:QV RC QoP where
 k:=4
 canon q:=QnK q.xc q.xd q.xk q.xv q.xp q.xm q.i q.now q.sure q.cs q.ts q.us q.busy q.last q.done q.key q.does q.cut
 objs q:=Qar q.xc q.xd q.xk q.xv q.xp q.xm q.i q.now q.sure q.cs q.ts q.us q.busy q.last q.done q.key q.does q.cut
 fin q:=QbR q.xc q.xd q.xk q.xv q.xp q.xm q.i q.now q.sure q.cs q.ts q.us q.busy q.last q.done q.key q.does q.cut
 Inv q:=Qac q.xc q.xd q.xk q.xv q.xp q.xm q.i q.now q.sure q.cs q.ts q.us q.busy q.last q.done q.key q.does q.cut
 μ q:=4 - q.i
theorem QkS (xc:Int) (xd:Int) (xk:Int) (xv:Int) (xp:Int) (xm:Int) (i:Nat) (now:List Sector) (sure:List Sector) (cs:List Int) (ts:List Task) (us:List Task) (busy:List Bool) (last:Int) (done:Bool) (key:Int) (does:List Pick) (cut:List Int) (hI:Qac xc xd xk xv xp xm i now sure cs ts us busy last done key does cut):Leaf (QrS xc xd xk xv xp xm i now sure cs ts us busy last done key does cut) (LedR Qas ⟨xc,xd,xk,xv,xp,xm,i,now,sure,cs,ts,us,busy,last,done,key,does,cut⟩):=by
 (rw [QrT];conv=>zeta)
 unfold Qac at hI;obtain ⟨h1,hL⟩:=hI
 by_cases hlt:i < 4
 · have d1:decide ((i:Int) < 4)=true:=decide_eq_true (by omega)
   have d2:decide (0 <= (i:Int) /\ (i:Int) < 4)=true:=decide_eq_true ⟨by omega,by omega⟩
   have w1:IntKind.i64.wrap ((i:Int)+1)=((i+1:Nat):Int):=by rw [Qq (by omega) (by omega)];simp
   have tn:((i:Int)).toNat=i:=by simp
   simp only [d1,d2,w1,tn,cond_true]
   have hstep:Yq busy does (xk % 24) xp (4 - i) i=((busy.getD i false && ((does.getD i ⟨0,0,0,0,0,0⟩).do_ == 1) && ((does.getD i ⟨0,0,0,0,0,0⟩).key == xk % 24) && decide ((does.getD i ⟨0,0,0,0,0,0⟩).place < xp)) || Yq busy does (xk % 24) xp (4 - (i+1)) (i+1)):=by
    rw [show 4 - i=(4 - (i+1))+1 by omega];rfl
   generalize does.getD i (⟨0,0,0,0,0,0⟩:Pick)=d at hstep ⊢;generalize busy.getD i false=b at hstep ⊢
   have hgo:(b && (d.do_ == 1) && (d.key == xk % 24) && decide (d.place < xp))=false->Leaf (some ((X.normal,QnK xc xd xk xv xp xm (i+1) now sure cs ts us busy last done key does cut),(Qar xc xd xk xv xp xm (i+1) now sure cs ts us busy last done key does cut).map some)) (LedR Qas ⟨xc,xd,xk,xv,xp,xm,i,now,sure,cs,ts,us,busy,last,done,key,does,cut⟩):=by
    intro hn;rw [hn,Bool.false_or] at hstep;exact QL ⟨xc,xd,xk,xv,xp,xm,i+1,now,sure,cs,ts,us,busy,last,done,key,does,cut⟩ ⟨hlt,hL⟩ (by simp only [Qas];omega) (by simp only [Qas,QbR];rw [hstep];rfl) rfl rfl
   have hno:(b && (d.do_ == 1) && (d.key == xk % 24) && decide (d.place < xp))=true->Leaf (some ((X.ret,[]),(Qar xc xd xk xv xp xm i now sure cs ts us busy last done key does cut).map some)) (LedR Qas ⟨xc,xd,xk,xv,xp,xm,i,now,sure,cs,ts,us,busy,last,done,key,does,cut⟩):=by
    intro hn;rw [hn,Bool.true_or] at hstep;exact Zy (Qar xc xd xk xv xp xm i now sure cs ts us busy last done key does cut) (by simp only [Qas,QbR,hstep,RT.val,cond_true]) rfl
   clear hstep;cases b
   · exact hgo rfl
   cases c1:d.do_ == 1
   · simp only [c1] at hgo;exact hgo rfl
   cases c2:d.key == xk % 24
   · simp only [c1,c2] at hgo;exact hgo rfl
   cases c3:decide (d.place < xp)
   · simp only [c1,c2,c3] at hgo;exact hgo rfl
   · simp only [c1,c2,c3] at hno;exact hno rfl
 · have e:i=4:=by omega
   subst e;have d1:decide (((4:Nat):Int) < 4)=false:=by decide
   rw [d1];exact QA (Qar xc xd xk xv xp xm 4 now sure cs ts us busy last done key does cut) rfl rfl
noncomputable def QqC (env:Env RC) (os:List (Obj RC)):Option (Bool × QoP):=match env,os with
 | [(0,.ptr 0 []),(3,.ptr 3 []),(7,.int .i64 x0)],[.var 32 (.acons (.ptr 1 []) (.acons (.int .i64 last) (.acons (.bool done) (.acons (.int .i64 key) (.acons (.arr .pick 4 does) (.acons (.arr .int 24 cut) .anil)))))),.var 51 (.acons (.acons (.vs 2 x1) (.acons (.acons (.sl .sector false now) (.acons (.sl .sector false sure) .anil)) .anil)) (.acons (.arr .task 4 ts) (.acons (.arr .task 4 us) (.acons (.arr .bool 4 busy) .anil)))),.vec .int true cs,.var 28 (.acons (.int .i64 xc) (.acons (.int .i64 xd) (.acons (.int .i64 xk) (.acons (.int .i64 xv) (.acons (.int .i64 xp) (.acons (.int .i64 xm) .anil))))))]=>QO (true) (decide (x0=0) && decide (x1=cs.length) && cdec (ChS.Lens ⟨cs,ts,us,busy,last,done,key,does,cut⟩),⟨xc,xd,xk,xv,xp,xm,0,now,sure,cs,ts,us,busy,last,done,key,does,cut⟩)
 | _,_=>none
noncomputable def uk_3:=uk_2.addLoop 8 25 (sumR s18 [.slot 0 0,.path 0 [0],.path 1 [0,0],.slot 3 0] [0,3,7] Qas QqC)
theorem QkT:Qh Tryz.prog s18 uk_3:=by
 refine QkR.addRoundsR Qc (by kernel_rfl) Qas 60 [0,3,7] [] [.slot 0 0,.path 0 [0],.path 1 [0,0],.slot 3 0] [0,3,7] QqC (fun q hI=>?_) ?_
 · obtain ⟨xc,xd,xk,xv,xp,xm,i,now,sure,cs,ts,us,busy,last,done,key,does,cut⟩:=q;refine ⟨?_,?_,QkS xc xd xk xv xp xm i now sure cs ts us busy last done key does cut hI⟩
   · simp_all [Qj,Qas,QnK,Qar,Qac,D.refs,Obj.refs,rEnc]
   · simp_all [Qas,QbR,Qar,Qac,RT.refsOK,Qj,D.refs,Obj.refs,rEnc]
 · intro env os b q hd_ hb;unfold QqC at hd_
   split at hd_
   · obtain ⟨hs,hd_⟩:=Qg hd_;cases hd_;simp only [Bool.and_eq_true,decide_eq_true_eq] at hb;obtain ⟨⟨rfl,rfl⟩,hb⟩:=hb;exact ⟨⟨Nat.zero_le _,QG.1 hb⟩,rfl,rfl⟩
   · cases hd_
def chO (now sure:List Sector) (s:ChS):List (Obj RC):=[.var 32 (.acons (.ptr 1 []) (.acons (.int .i64 s.last) (.acons (.bool s.done) (.acons (.int .i64 s.key) (.acons (.arr (C:=RC) .pick 4 s.does) (.acons (.arr (C:=RC) .int 24 s.cut) .anil)))))),
 .var 51 (.acons (.acons (.vs 2 s.cs.length) (.acons (.acons (.sl (C:=RC) .sector false now) (.acons (.sl (C:=RC) .sector false sure) .anil)) .anil)) (.acons (.arr (C:=RC) .task 4 s.ts) (.acons (.arr (C:=RC) .task 4 s.us) (.acons (.arr (C:=RC) .bool 4 s.busy) .anil)))),
 .vec .int true s.cs]
structure QkU where
 xc:Int
 xd:Int
 xk:Int
 xv:Int
 xp:Int
 xm:Int
 now:List Sector
 sure:List Sector
 cs:List Int
 ts:List Task
 us:List Task
 busy:List Bool
 last:Int
 done:Bool
 key:Int
 does:List Pick
 cut:List Int
def QkV (xc:Int) (xd:Int) (xk:Int) (xv:Int) (xp:Int) (xm:Int) (now:List Sector) (sure:List Sector) (cs:List Int) (ts:List Task) (us:List Task) (busy:List Bool) (last:Int) (done:Bool) (key:Int) (does:List Pick) (cut:List Int):List (D RC):=[.ptr 0 [],.acons (.int .i64 xc) (.acons (.int .i64 xd) (.acons (.int .i64 xk) (.acons (.int .i64 xv) (.acons (.int .i64 xp) (.acons (.int .i64 xm) .anil)))))]
def QkW (xc:Int) (xd:Int) (xk:Int) (xv:Int) (xp:Int) (xm:Int) (now:List Sector) (sure:List Sector) (cs:List Int) (ts:List Task) (us:List Task) (busy:List Bool) (last:Int) (done:Bool) (key:Int) (does:List Pick) (cut:List Int):List (Obj RC):=[.var 32 (.acons (.ptr 1 []) (.acons (.int .i64 last) (.acons (.bool done) (.acons (.int .i64 key) (.acons (.arr (C:=RC) .pick 4 does) (.acons (.arr (C:=RC) .int 24 cut) .anil)))))),.var 51 (.acons (.acons (.vs 2 (cs.length)) (.acons (.acons (.sl (C:=RC) .sector false now) (.acons (.sl (C:=RC) .sector false sure) .anil)) .anil)) (.acons (.arr (C:=RC) .task 4 ts) (.acons (.arr (C:=RC) .task 4 us) (.acons (.arr (C:=RC) .bool 4 busy) .anil)))),.vec .int true cs]
noncomputable def QoQ (xc:Int) (xd:Int) (xk:Int) (xv:Int) (xp:Int) (xm:Int) (now:List Sector) (sure:List Sector) (cs:List Int) (ts:List Task) (us:List Task) (busy:List Bool) (last:Int) (done:Bool) (key:Int) (does:List Pick) (cut:List Int):=fnO s18 uk_3 8 80 3 (QkV xc xd xk xv xp xm now sure cs ts us busy last done key does cut) (QkW xc xd xk xv xp xm now sure cs ts us busy last done key does cut)
theorem QqD (xc:Int) (xd:Int) (xk:Int) (xv:Int) (xp:Int) (xm:Int) (now:List Sector) (sure:List Sector) (cs:List Int) (ts:List Task) (us:List Task) (busy:List Bool) (last:Int) (done:Bool) (key:Int) (does:List Pick) (cut:List Int):QoQ xc xd xk xv xp xm now sure cs ts us busy last done key does cut=(let Z0:D RC:=.anil;let Z1:D RC:=D.tup Z0;let Z2:D RC:=D.ptr 1 [];let Z3:D RC:=D.int .i64 last;let Z4:D RC:=D.bool done;let Z5:D RC:=D.int .i64 key;let Z6:D RC:=D.acons (D.arr RTy.int (24:Nat) cut) Z0;let Z7:Nat:=List.length cs;let Z8:D RC:=D.acons (D.acons (D.sl RTy.sector false now) (.acons (D.sl RTy.sector false sure) Z0)) Z0;let Z9:D RC:=D.acons (D.vs 2 Z7) Z8;let Z10:List (Option (Obj RC)):=[some (Obj.vec RTy.int true cs)];let Z11:Option (D RC × List (Option (Obj RC))):=some (Z1,some (Obj.var 32 (.acons Z2 (D.acons Z3 (D.acons Z4 (D.acons Z5 (D.acons (D.arr RTy.pick (4:Nat) does) Z6))))))::some (Obj.var 51 (.acons Z9 (D.acons (D.arr RTy.task (4:Nat) ts) (.acons (D.arr RTy.task (4:Nat) us) (.acons (D.arr RTy.bool (4:Nat) busy) Z0)))))::Z10);let Z12:Int:=xc % (4:Int);let Z13:Bool:=decide ((0:Int) <= Z12 /\ Z12 < (4:Int));let Z14:Nat:=Int.toNat Z12;let Z15:Bool:=List.getD busy Z14 false;let Z16:Int:=IntKind.wrap .i64 (last+(1:Int));let Z17:Int:=IntKind.wrap .i64 (Z16 - (1:Int));let Z18:Int:=lField (291:Int) Z17 (0:Int) (160:Int) (3:Int);let Z19:List Int:=List.set cs Z18.toNat (3:Int);let Z20:Bool:=Nat.beq Z7 Z19.length;let Z21:Int:=lField (291:Int) Z17 (2:Int) (160:Int) (3:Int);let Z22:Int:=xk % (24:Int);let Z23:List Int:=List.set Z19 Z21.toNat (IntKind.wrap .i64 (IntKind.wrap .i64 (Z22 * (256:Int))+bits .i64 (fun (x:Nat) (u v:BitVec x)=>u &&& v) xv (255:Int)));let Z24:ChS:=ChS.mk Z23 ts us busy Z16 false Z22 does cut;let Z25:ChS:=begAll Z12 xm [Z16,IntKind.wrap .i64 ((256:Int)+Z17),Z22] (Pick.mk (0:Int) (0:Int) (0:Int) (0:Int) Z16 (0:Int)) (4:Nat) (0:Nat) Z24;let Z26:Option (D RC × List (Option (Obj RC))):=none;let Z27:Option (D RC × List (Option (Obj RC))):=bif decide ((100:Int) <= last) then Z11 else bif Z13 then bif Z15 then Z11 else bif Nat.beq Z7 Z7 && decide ((0:Int) <= Z18 /\ Z18 < (↑Z7:Int)) then bif Nat.beq Z7 Z7 then bif Z20 && decide ((0:Int) <= Z21 /\ Z21 < (↑Z19.length:Int)) then bif Z20 then bif decide (Z7=List.length Z23) && cdec (ChS.Lens Z24) then some (Z1,[some (Obj.var 32 (.acons Z2 (D.acons (D.int .i64 Z16) (.acons (D.bool false) (.acons (D.int .i64 Z22) (.acons (D.arr RTy.pick (4:Nat) (ChS.does Z25)) Z6)))))),some (Obj.var 51 (.acons (D.acons (D.vs 2 Z23.length) Z8) (.acons (D.arr RTy.task (4:Nat) (ChS.ts Z25)) (.acons (D.arr RTy.task (4:Nat) (ChS.us Z25)) (.acons (D.arr RTy.bool (4:Nat) (ChS.busy Z25)) Z0))))),some (Obj.vec RTy.int true Z23)]) else Z26 else Z26 else Z26 else Z26 else Z26 else Z26;let Z28:Bool:=decide ((0:Int) <= Z22 /\ Z22 < (24:Int));let Z29:Bool:=decide (Z7=Z7);let Z30:Int:=List.getD cut Z22.toNat (0:Int);let Z31:Int:=if xp < Z30 then Z30 else xp;let Z32:List Pick:=List.set does Z14 (Pick.mk (0:Int) (1:Int) Z22 (0:Int) (if last < Z31 then last else Z31) (0:Int));let Z33:Pick:=Pick.mk (0:Int) (0:Int) (0:Int) (0:Int) (0:Int) (0:Int);let Z34:List Int:=[Pick.place (List.getD Z32 Z14 Z33),Z22];let Z35:Task:=begTask Z12 (72:Int) Z34;let Z36:D RC:=D.acons (D.arr RTy.bool (4:Nat) (List.set busy Z14 true)) Z0;let Z37:Int:=IntKind.wrap .i64 (last - (1:Int));let Z38:Int:=if Z37 < (0:Int) then (0:Int) else Z37;let Z39:List Pick:=List.set does Z14 (Pick.mk (0:Int) (1:Int) Z22 (0:Int) (if Z38 < Z31 then Z38 else Z31) (0:Int));let Z40:List Int:=[Pick.place (List.getD Z39 Z14 Z33),Z22];let Z41:Task:=begTask Z12 (72:Int) Z40;let Z42:Task:=begTask Z12 (74:Int) [xp,Z22];bif xd == (0:Int) then bif decide ((0:Int) < last) then bif !done then Z11 else Z27 else Z27 else bif xd == (1:Int) then bif Z13 then bif !Z15 then bif Z28 then bif done then bif Z13 then bif Z13 then bif Z29 && cdec ((0:Int) <= Z12 /\ Z12 <= (3:Int) /\ (0:Int) <= (72:Int) /\ List.length Z34 <= (96:Nat) /\ List.length ts=(4:Nat) /\ List.length us=(4:Nat) /\ List.length busy=(4:Nat) /\ Z15=false) then some (Z1,some (Obj.var 32 (.acons Z2 (D.acons Z3 (D.acons Z4 (D.acons Z5 (D.acons (D.arr RTy.pick (4:Nat) Z32) Z6))))))::some (Obj.var 51 (.acons Z9 (D.acons (D.arr RTy.task (4:Nat) (List.set ts Z14 Z35)) (.acons (D.arr RTy.task (4:Nat) (List.set us Z14 Z35)) Z36))))::Z10) else Z26 else Z26 else Z26 else bif Z13 then bif Z13 then bif Z29 && cdec ((0:Int) <= Z12 /\ Z12 <= (3:Int) /\ (0:Int) <= (72:Int) /\ List.length Z40 <= (96:Nat) /\ List.length ts=(4:Nat) /\ List.length us=(4:Nat) /\ List.length busy=(4:Nat) /\ Z15=false) then some (Z1,some (Obj.var 32 (.acons Z2 (D.acons Z3 (D.acons Z4 (D.acons Z5 (D.acons (D.arr RTy.pick (4:Nat) Z39) Z6))))))::some (Obj.var 51 (.acons Z9 (D.acons (D.arr RTy.task (4:Nat) (List.set ts Z14 Z41)) (.acons (D.arr RTy.task (4:Nat) (List.set us Z14 Z41)) Z36))))::Z10) else Z26 else Z26 else Z26 else Z26 else Z11 else Z26 else bif xd == (2:Int) then bif Z13 then bif !Z15 then bif decide ((0:Int) <= xp) then bif decide (xp < last) then bif Z29 && cdec (ChS.Lens (ChS.mk cs ts us busy last done key does cut)) then bif Yq busy does Z22 xp (4:Nat) (0:Nat) then Z11 else bif Z13 then bif Z28 then bif Z28 then bif Z29 && cdec ((0:Int) <= Z12 /\ Z12 <= (3:Int) /\ (0:Int) <= (74:Int) /\ List.length [xp,Z22] <= (96:Nat) /\ List.length ts=(4:Nat) /\ List.length us=(4:Nat) /\ List.length busy=(4:Nat) /\ Z15=false) then some (Z1,some (Obj.var 32 (.acons Z2 (D.acons Z3 (D.acons Z4 (D.acons Z5 (D.acons (D.arr RTy.pick (4:Nat) (List.set does Z14 (Pick.mk (0:Int) (2:Int) Z22 (0:Int) xp (0:Int)))) (.acons (D.arr RTy.int (24:Nat) (List.set cut Z22.toNat (if Z30 < xp then xp else Z30))) Z0)))))))::some (Obj.var 51 (.acons Z9 (D.acons (D.arr RTy.task (4:Nat) (List.set ts Z14 Z42)) (.acons (D.arr RTy.task (4:Nat) (List.set us Z14 Z42)) Z36))))::Z10) else Z26 else Z26 else Z26 else Z26 else Z26 else Z11 else Z11 else Z11 else Z26 else Z11):=by kernel_rfl
noncomputable def QbS (xc:Int) (xd:Int) (xk:Int) (xv:Int) (xp:Int) (xm:Int) (now:List Sector) (sure:List Sector) (cs:List Int) (ts:List Task) (us:List Task) (busy:List Bool) (last:Int) (done:Bool) (key:Int) (does:List Pick) (cut:List Int):RT RC:=.leaf .ret [(0,.tup .anil)] (chO now sure (ChS.b1 xc xd xk xv xp xm ⟨cs,ts,us,busy,last,done,key,does,cut⟩))
def QbT (xc:Int) (xd:Int) (xk:Int) (xv:Int) (xp:Int) (xm:Int) (now:List Sector) (sure:List Sector) (cs:List Int) (ts:List Task) (us:List Task) (busy:List Bool) (last:Int) (done:Bool) (key:Int) (does:List Pick) (cut:List Int):Prop:=Qed ⟨cs,ts,us,busy,last,done,key,does,cut⟩
noncomputable def V3:FunR RC QkU where
 k:=3
 args q:=QkV q.xc q.xd q.xk q.xv q.xp q.xm q.now q.sure q.cs q.ts q.us q.busy q.last q.done q.key q.does q.cut
 objs q:=QkW q.xc q.xd q.xk q.xv q.xp q.xm q.now q.sure q.cs q.ts q.us q.busy q.last q.done q.key q.does q.cut
 fin q:=QbS q.xc q.xd q.xk q.xv q.xp q.xm q.now q.sure q.cs q.ts q.us q.busy q.last q.done q.key q.does q.cut
 Inv q:=QbT q.xc q.xd q.xk q.xv q.xp q.xm q.now q.sure q.cs q.ts q.us q.busy q.last q.done q.key q.does q.cut
theorem QqE (xc:Int) (xd:Int) (xk:Int) (xv:Int) (xp:Int) (xm:Int) (now:List Sector) (sure:List Sector) (cs:List Int) (ts:List Task) (us:List Task) (busy:List Bool) (last:Int) (done:Bool) (key:Int) (does:List Pick) (cut:List Int) (hI:QbT xc xd xk xv xp xm now sure cs ts us busy last done key does cut):Leaf (QoQ xc xd xk xv xp xm now sure cs ts us busy last done key does cut) (LedF V3 ⟨xc,xd,xk,xv,xp,xm,now,sure,cs,ts,us,busy,last,done,key,does,cut⟩):=by
 (rw [QqD];conv=>zeta)
 unfold QbT at hI;obtain ⟨hL,l0,l1⟩:=hI
 dsimp only at l0 l1
 have c0:=Int.emod_nonneg xc (show (4:Int) ≠ 0 by decide)
 have c1:=Int.emod_lt_of_pos xc (show (0:Int) < 4 by decide)
 have k0:=Int.emod_nonneg xk (show (24:Int) ≠ 0 by decide)
 have k1:=Int.emod_lt_of_pos xk (show (0:Int) < 24 by decide)
 have dc:decide (0 <= xc % 4 /\ xc % 4 < 4)=true:=decide_eq_true ⟨c0,c1⟩;have dk:decide (0 <= xk % 24 /\ xk % 24 < 24)=true:=decide_eq_true ⟨k0,k1⟩;have w1:IntKind.i64.wrap (last+1)=last+1:=Qq (by omega) (by omega)
 have w2:IntKind.i64.wrap (last+1 - 1)=last:=by rw [Qq (by omega) (by omega)];omega
 have w3:IntKind.i64.wrap (256+last)=256+last:=Qq (by omega) (by omega)
 have w4:IntKind.i64.wrap (xk % 24 * 256)=xk % 24 * 256:=Qq (by omega) (by omega)
 have v0:=Int.emod_nonneg xv (show (256:Int) ≠ 0 by decide)
 have v1:=Int.emod_lt_of_pos xv (show (0:Int) < 256 by decide)
 have w5:IntKind.i64.wrap (xk % 24 * 256+xv % 256)=xk % 24 * 256+xv % 256:=Qq (by omega) (by omega)
 have w6:IntKind.i64.wrap (last - 1)=last - 1:=Qq (by omega) (by omega)
 have hb:∀ n:Nat,Nat.beq n n=true:=fun n=>by simp
 have hcs:cs.length=771:=hL.cs;have hfin:∀ B,ChS.b1 xc xd xk xv xp xm ⟨cs,ts,us,busy,last,done,key,does,cut⟩=B->Leaf (some (D.tup D.anil,(chO now sure B).map some)) (LedF V3 ⟨xc,xd,xk,xv,xp,xm,now,sure,cs,ts,us,busy,last,done,key,does,cut⟩):=fun B hB=>QcQ (chO now sure B) (by simp only [V3,QbS,hB];rfl) rfl
 have same:ChS.b1 xc xd xk xv xp xm ⟨cs,ts,us,busy,last,done,key,does,cut⟩=⟨cs,ts,us,busy,last,done,key,does,cut⟩->Leaf (some (D.tup D.anil,(chO now sure ⟨cs,ts,us,busy,last,done,key,does,cut⟩).map some)) (LedF V3 ⟨xc,xd,xk,xv,xp,xm,now,sure,cs,ts,us,busy,last,done,key,does,cut⟩):=fun h=>hfin _ h
 by_cases d0:xd=0
 · have e0:(xd == 0)=true:=by simp [d0]
   rw [e0,cond_true]
   have stp:ChS.b1 xc xd xk xv xp xm ⟨cs,ts,us,busy,last,done,key,does,cut⟩=(if 0 < last /\ done=false \/ 100 <= last \/ busy.getD (xc % 4).toNat false=true then ⟨cs,ts,us,busy,last,done,key,does,cut⟩
    else begAll (xc % 4) xm [last+1,256+last,xk % 24] ⟨0,0,0,0,last+1,0⟩ 4 0 ⟨Q3 cs last (xk % 24) (xv % 256),ts,us,busy,last+1,false,xk % 24,does,cut⟩):=by unfold ChS.b1;rw [if_pos d0]
   have lv0:lField 291 last 0 160 3=291+3 * last:=by rw [Jj l0 (by omega) (by omega) (by omega)];omega
   have lv2:lField 291 last 2 160 3=293+3 * last:=by rw [Jj l0 (by omega) (by omega) (by omega)];omega
   have new:¬ (0 < last /\ done=false \/ 100 <= last \/ busy.getD (xc % 4).toNat false=true)->Leaf (some (D.tup D.anil,(chO now sure (begAll (xc % 4) xm [last+1,256+last,xk % 24] ⟨0,0,0,0,last+1,0⟩ 4 0 ⟨Q3 cs last (xk % 24) (xv % 256),ts,us,busy,last+1,false,xk % 24,does,cut⟩)).map some)) (LedF V3 ⟨xc,xd,xk,xv,xp,xm,now,sure,cs,ts,us,busy,last,done,key,does,cut⟩):=fun h=>hfin _ (by rw [stp,if_neg h])
   obtain ⟨b1,b2,b3,b4,b5⟩:=Vg (xc % 4) xm [last+1,256+last,xk % 24] ⟨0,0,0,0,last+1,0⟩ 4 0 ⟨Q3 cs last (xk % 24) (xv % 256),ts,us,busy,last+1,false,xk % 24,does,cut⟩
   dsimp only at b1 b2 b3 b4 b5
   have hLn:ChS.Lens ⟨Q3 cs last (xk % 24) (xv % 256),ts,us,busy,last+1,false,xk % 24,does,cut⟩:=⟨hL.ts,hL.us,hL.busy,hL.does,hL.cut,by simp [Q3,hcs]⟩
   have lset:∀ (n:Nat) (x:Int),(cs.set n x).length=771:=fun n x=>by rw [List.length_set,hcs]
   have lset2:∀ (n m:Nat) (x y:Int),((cs.set n x).set m y).length=771:=fun n m x y=>by rw [List.length_set,List.length_set,hcs]
   have nN:Q3 cs last (xk % 24) (xv % 256)=(cs.set (291+3 * last).toNat 3).set (293+3 * last).toNat (xk % 24 * 256+xv % 256):=rfl;have d1:decide (0 <= 291+3 * last /\ 291+3 * last < (771:Nat))=true:=decide_eq_true (by omega)
   have d2:decide (0 <= 293+3 * last /\ 293+3 * last < (771:Nat))=true:=decide_eq_true (by omega)
   have work:¬ (0 < last /\ done=false \/ 100 <= last \/ busy.getD (xc % 4).toNat false=true)->Leaf (some (D.tup D.anil,[some (Obj.var 32 ((D.ptr 1 []).acons ((D.int IntKind.i64 (last+1)).acons ((D.bool false).acons ((D.int IntKind.i64 (xk % 24)).acons ((D.arr RTy.pick 4 (begAll (xc % 4) xm [last+1,256+last,xk % 24] ⟨0,0,0,0,last+1,0⟩ 4 0 ⟨Q3 cs last (xk % 24) (xv % 256),ts,us,busy,last+1,false,xk % 24,does,cut⟩).does).acons ((D.arr RTy.int 24 cut).acons D.anil))))))),
    some (Obj.var 51 (((D.vs 2 771).acons (((D.sl RTy.sector false now).acons ((D.sl RTy.sector false sure).acons D.anil)).acons D.anil)).acons ((D.arr RTy.task 4 (begAll (xc % 4) xm [last+1,256+last,xk % 24] ⟨0,0,0,0,last+1,0⟩ 4 0 ⟨Q3 cs last (xk % 24) (xv % 256),ts,us,busy,last+1,false,xk % 24,does,cut⟩).ts).acons ((D.arr RTy.task 4 (begAll (xc % 4) xm [last+1,256+last,xk % 24] ⟨0,0,0,0,last+1,0⟩ 4 0 ⟨Q3 cs last (xk % 24) (xv % 256),ts,us,busy,last+1,false,xk % 24,does,cut⟩).us).acons ((D.arr RTy.bool 4 (begAll (xc % 4) xm [last+1,256+last,xk % 24] ⟨0,0,0,0,last+1,0⟩ 4 0 ⟨Q3 cs last (xk % 24) (xv % 256),ts,us,busy,last+1,false,xk % 24,does,cut⟩).busy).acons D.anil))))),
    some (Obj.vec RTy.int true (Q3 cs last (xk % 24) (xv % 256)))])) (LedF V3 ⟨xc,xd,xk,xv,xp,xm,now,sure,cs,ts,us,busy,last,done,key,does,cut⟩):=by
    intro h;have:=new h;simp only [chO,List.map_cons,List.map_nil,b1,b2,b3,b4,b5] at this;rw [show (Q3 cs last (xk % 24) (xv % 256)).length=771 by simp [Q3,hcs]] at this
    exact this
   rw [nN] at work hLn;cases p1:decide (0 < last)
   · have p1':=of_decide_eq_false p1;simp only [cond_false];cases p3:decide (100 <= last);rotate_left
     · exact same (by rw [stp,if_pos (.inr (.inl (of_decide_eq_true p3)))])
     have p3':=of_decide_eq_false p3;simp only [cond_false,dc,cond_true];cases p4:busy.getD (xc % 4).toNat false;rotate_left
     · exact same (by rw [stp,if_pos (.inr (.inr p4))])
     simp only [cond_false,w1,w2,w3,w4,Qee,w5,lv0,lv2,lset,lset2,hcs,hb,d1,d2,Bool.and_self,cond_true,decide_true,Bool.true_and];exact VF hLn (work (by rw [p4];simp;omega))
   · have p1':=of_decide_eq_true p1;simp only [cond_true];cases done
     · exact same (by rw [stp,if_pos (.inl ⟨p1',rfl⟩)])
     simp only [Bool.not_true,cond_false];cases p3:decide (100 <= last);rotate_left
     · exact same (by rw [stp,if_pos (.inr (.inl (of_decide_eq_true p3)))])
     have p3':=of_decide_eq_false p3;simp only [cond_false,dc,cond_true];cases p4:busy.getD (xc % 4).toNat false;rotate_left
     · exact same (by rw [stp,if_pos (.inr (.inr p4))])
     simp only [cond_false,w1,w2,w3,w4,Qee,w5,lv0,lv2,lset,lset2,hcs,hb,d1,d2,Bool.and_self,cond_true,decide_true,Bool.true_and];exact VF hLn (work (by rw [p4];simp;omega))
 have e0:(xd == 0)=false:=by simp [d0]
 rw [e0,cond_false]
 by_cases d1:xd=1
 · have e1:(xd == 1)=true:=by simp [d1]
   rw [e1,cond_true]
   have stp:ChS.b1 xc xd xk xv xp xm ⟨cs,ts,us,busy,last,done,key,does,cut⟩=(if busy.getD (xc % 4).toNat false=true then ⟨cs,ts,us,busy,last,done,key,does,cut⟩
    else ChS.beg ⟨cs,ts,us,busy,last,done,key,does,cut⟩ (xc % 4).toNat 72 [V2 xp (cut.getD (xk % 24).toNat 0) (ChS.front ⟨cs,ts,us,busy,last,done,key,does,cut⟩),xk % 24] ⟨0,1,xk % 24,0,V2 xp (cut.getD (xk % 24).toNat 0) (ChS.front ⟨cs,ts,us,busy,last,done,key,does,cut⟩),0⟩):=by unfold ChS.b1;rw [if_neg d0,if_pos d1]
   simp only [dc,cond_true];cases p4:busy.getD (xc % 4).toNat false;rotate_left
   · exact same (by rw [stp,if_pos p4])
   have hto:(((xc % 4).toNat:Nat):Int)=xc % 4:=by omega
   have hget:∀ d d0:Pick,(does.set (xc % 4).toNat d).getD (xc % 4).toNat d0=d:=fun d d0=>by
    have:=hL.does;rw [List.getD_eq_getElem?_getD,List.getElem?_set_self (by dsimp only at this;omega)];rfl
   rw [if_neg (by rw [p4];simp)] at stp
   simp only [Bool.not_false,cond_true,dk,dc,hget,decide_true,Bool.true_and];cases done
   · have ef:ChS.front ⟨cs,ts,us,busy,last,false,key,does,cut⟩=(if last - 1 < 0 then 0 else last - 1):=rfl
     rw [ef] at stp;have this:=hfin _ stp;simp only [chO,ChS.beg,hto,V2,List.map_cons,List.map_nil] at this;simp only [cond_false,w6];exact VF (by simp [hL.ts,hL.us,hL.busy];omega) this
   · have ef:ChS.front ⟨cs,ts,us,busy,last,true,key,does,cut⟩=last:=rfl;rw [ef] at stp;have this:=hfin _ stp;simp only [chO,ChS.beg,hto,V2,List.map_cons,List.map_nil] at this;simp only [cond_true];exact VF (by simp [hL.ts,hL.us,hL.busy];omega) this
 have e1:(xd == 1)=false:=by simp [d1]
 rw [e1,cond_false]
 by_cases d2:xd=2
 · have e2:(xd == 2)=true:=by simp [d2]
   rw [e2,cond_true];have stp:ChS.b1 xc xd xk xv xp xm ⟨cs,ts,us,busy,last,done,key,does,cut⟩=(if busy.getD (xc % 4).toNat false=false /\ 0 <= xp /\ xp < last then (if Yq busy does (xk % 24) xp 4 0=true then ⟨cs,ts,us,busy,last,done,key,does,cut⟩
   else ChS.beg ⟨cs,ts,us,busy,last,done,key,does,cut.set (xk % 24).toNat (if cut.getD (xk % 24).toNat 0 < xp then xp else cut.getD (xk % 24).toNat 0)⟩ (xc % 4).toNat 74 [xp,xk % 24] ⟨0,2,xk % 24,0,xp,0⟩) else ⟨cs,ts,us,busy,last,done,key,does,cut⟩):=by unfold ChS.b1;rw [if_neg d0,if_neg d1,if_pos d2]
   have hto:(((xc % 4).toNat:Nat):Int)=xc % 4:=by omega
   simp only [dc,dk,cond_true,decide_true,Bool.true_and];cases p4:busy.getD (xc % 4).toNat false;rotate_left
   · exact same (by rw [stp,if_neg (by rw [p4];simp)])
   simp only [Bool.not_false,cond_true];cases p5:decide (0 <= xp)
   · exact same (by rw [stp,if_neg (fun h=>by have:=of_decide_eq_false p5;omega)])
   simp only [cond_true];cases p6:decide (xp < last)
   · exact same (by rw [stp,if_neg (fun h=>by have:=of_decide_eq_false p6;omega)])
   simp only [cond_true];have p5':=of_decide_eq_true p5;have p6':=of_decide_eq_true p6;rw [if_pos ⟨p4,p5',p6'⟩] at stp;refine VF hL ?_;cases p7:Yq busy does (xk % 24) xp 4 0;rotate_left
   · exact same (by rw [stp,if_pos p7])
   rw [if_neg (by rw [p7];simp)] at stp
   have this:=hfin _ stp;simp only [chO,ChS.beg,hto,List.map_cons,List.map_nil] at this;simp only [cond_false];exact VF (by simp [hL.ts,hL.us,hL.busy];omega) this
 have e2:(xd == 2)=false:=by simp [d2]
 rw [e2,cond_false];exact same (by unfold ChS.b1;rw [if_neg d0,if_neg d1,if_neg d2])
noncomputable def QkX (env:Env RC) (os:List (Obj RC)):Option (Bool × QkU):=match env,os with
 | [(0,.ptr 0 []),(1,.acons (.int .i64 xc) (.acons (.int .i64 xd) (.acons (.int .i64 xk) (.acons (.int .i64 xv) (.acons (.int .i64 xp) (.acons (.int .i64 xm) .anil))))))],[.var 32 (.acons (.ptr 1 []) (.acons (.int .i64 last) (.acons (.bool done) (.acons (.int .i64 key) (.acons (.arr .pick 4 does) (.acons (.arr .int 24 cut) .anil)))))),.var 51 (.acons (.acons (.vs 2 x0) (.acons (.acons (.sl .sector false now) (.acons (.sl .sector false sure) .anil)) .anil)) (.acons (.arr .task 4 ts) (.acons (.arr .task 4 us) (.acons (.arr .bool 4 busy) .anil)))),.vec .int true cs]=>QO (true) (decide (x0=cs.length) && cdec (Qed ⟨cs,ts,us,busy,last,done,key,does,cut⟩),⟨xc,xd,xk,xv,xp,xm,now,sure,cs,ts,us,busy,last,done,key,does,cut⟩)
 | _,_=>none
noncomputable def uk_4:=uk_3.addObj 8 (sumF s18 [.slot 0 0,.path 0 [0],.path 1 [0,0]] 2 V3 QkX)
theorem QkY:Qh Tryz.prog s18 uk_4:=by
 refine QkT.addFun Qc V3 80 2 [.slot 0 0,.path 0 [0],.path 1 [0,0]] QkX (fun q hI=>?_) ?_
 · obtain ⟨xc,xd,xk,xv,xp,xm,now,sure,cs,ts,us,busy,last,done,key,does,cut⟩:=q;refine ⟨?_,?_,rfl,QqE xc xd xk xv xp xm now sure cs ts us busy last done key does cut hI⟩
   · simp [Qj,V3,QkV,QkW,eargs,D.refs,Obj.refs]
   · simp [V3,QbS,chO,RT.refsOK,Qj,D.refs,Obj.refs]
 · intro env os b q hd_ hb;unfold QkX at hd_
   split at hd_
   · obtain ⟨hs,hd_⟩:=Qg hd_;cases hd_
     try simp only [Bool.and_eq_true,decide_eq_true_eq] at hb
     obtain ⟨rfl,hb⟩:=hb;exact ⟨QG.1 hb,rfl,rfl⟩
   · cases hd_
def sQ (r:List Int):Int:=r.getD 2 0 / 8
def aPut (r:List Int):NA:=naCs 76 6 r (lStream (sQ r) (r.getD 4 0)) (r.getD 5 0) (QmI ⟨r.getD 4 0,r.getD 0 0,r.getD 1 0,r.getD 2 0 % 8,r.getD 3 0⟩) 0
def aCnt (r:List Int):NA:=naLd 76 1 r (lRow 45 (sQ r) 3) 0
def aCut (r:List Int):NA:=naLd 76 5 r (lRow 48 (sQ r) 3) 0
def aOn (n:Int) (r:List Int):NA:=naCs 76 n r (lRow 45 (sQ r) 3) (r.getD 4 0) (r.getD 4 0+1) 0
def nApp (k:Int) (r:List Int) (x:Int):NA :=
 if k=0 \/ k=3 then aCnt r
 else if k=1 then naLd 76 2 (r.set 4 x) (lStream (sQ r) x) 0
 else if k=2 then (if (QcP x).isSome=true /\ (Vw x).offset=r.getD 4 0 then aOn 3 (r.set 5 x)
  else if r.getD 4 0=0 then aPut (r.set 5 x)
  else naLd 76 4 (r.set 5 x) (lStream (sQ r) (r.getD 4 0 - 1)) 0)
 else if k=4 then (if r.getD 0 0 < (Vw x).place \/ (Vw x).place=r.getD 0 0 /\ r.getD 1 0 <= (Vw x).j then naEn 76 4 r [] true
  else if (QcP x).isSome=false \/ (Vw x).offset ≠ r.getD 4 0 - 1 then aCnt r
  else if r.getD 5 0=0 then aPut r
  else aCut r)
 else if k=5 then (if x < (Vw (r.getD 5 0)).place then naCs 76 8 r (lRow 48 (sQ r) 3) x (Vw (r.getD 5 0)).place 0 else aPut r)
 else if k=6 then (if x=0 then aCnt r else aOn 7 r)
 else if k=7 then naEn 76 7 r [] true
 else aCut r
def bigW:Int:=72057594037927936
def okAp (k:Int) (r got:List Int):Prop :=
 0 <= r.getD 2 0 /\ r.getD 2 0 <= 23 /\ (k=0 /\ got=[] \/ ∃ x,got=[x] /\ 1 <= k /\ k <= 8 /\ 0 <= x /\ x <= bigW /\ (k=1->x <= 1000000) /\ (2 <= k->0 <= r.getD 4 0 /\ r.getD 4 0 <= 1000000) /\ (3 <= k->0 <= r.getD 5 0 /\ r.getD 5 0 <= bigW))
def okFe (own:Bool) (k:Int) (r got:List Int):Prop :=
 0 <= r.getD 0 0 /\ r.getD 0 0 <= 2 /\ (k=0 /\ got=[] \/ ∃ x,got=[x] /\ 1 <= k /\ k <= 4 /\ 0 <= x /\ x <= bigW /\ (k=1->x <= 1000000) /\
  (k=2->bif own then 0 <= r.getD 3 0 /\ r.getD 3 0 <= 1000000 /\ 0 <= r.getD 4 0 /\ r.getD 4 0 <= 1000000 /\ 0 <= r.getD 5 0 /\ r.getD 5 0 <= 15 else 0 <= r.getD 3 0 /\ r.getD 3 0 <= 1000000 /\ 0 <= r.getD 4 0 /\ r.getD 4 0 <= 15) /\
  (k=3->bif own then 0 <= r.getD 5 0 /\ r.getD 5 0 <= 16 else 0 <= r.getD 4 0 /\ r.getD 4 0 <= 16))
def QsD (own:Bool) (f:Frame) (got:List Int):Prop :=
 f.r.length=96 /\ (∀ v ∈ f.r,v < 9223372036854775808) /\ (f.prog=76 /\ okAp f.at' f.r got \/ f.prog=77 /\ okFe own f.at' f.r got)
theorem Qad (l:Line):0 <= QmI l /\ QmI l <= bigW:=by
 unfold QmI bigW;cases h:QgO l
 · simp
 · obtain ⟨o,p,j,k,v⟩:=l;unfold QgO at h;rw [decide_eq_true_eq] at h;unfold QiR;simp only at h ⊢;simp only [cond_true];omega
structure Rd where
 c:Bool
 b:List UInt8
 bad:Bool
structure Rdr (σ:Type) where
 get:Nat->σ->Int × σ
 bad:σ->Bool
 rem:σ->List UInt8
structure QsE {σ:Type} (R:Rdr σ):Prop where
 ok:∀ w s,1 <= w->R.bad s=false->w <= (R.rem s).length->(R.get w s).1=(QrA ((R.rem s).take w):Int) /\ R.rem (R.get w s).2=(R.rem s).drop w /\ R.bad (R.get w s).2=false
 no:∀ w s,R.bad s=false->(R.rem s).length < w->R.bad (R.get w s).2=true
 stay:∀ w s,R.bad s=true->R.bad (R.get w s).2=true
section
variable {σ:Type} (R:Rdr σ)
variable {R} (K:QsE R)
include K
end
structure Rn where
 pos:Nat
 short:Bool
structure QS (σ:Type) where
 r:σ
 l0:List Line
 l1:List Line
 l2:List Line
 c0:Int
 c1:Int
 c2:Int
section
variable {σ:Type} (R:Rdr σ) (stop:Bool) (mark:σ->σ)
end
theorem QhG {r:Rec} (h:mayB r=true):(Qe7 r).length <= 13:=by
 obtain ⟨p,y,l⟩:=r;obtain ⟨hp,hl,hw⟩:=QiK h;simp only [Qe7,List.length_append,VU,QdX l QiJ 2 QgL];omega
theorem Qdi {l:List Sector} (h:YQ l=true):∀ s ∈ l,Zz s=true:=by
 simp only [YQ,Bool.and_eq_true] at h;exact List.all_eq_true.1 h.2
theorem QnL {l:List Sector} (h1:l.length=33) (h2:∀ s ∈ l,Zz s=true):YQ l=true:=by
 simp only [YQ,Bool.and_eq_true,decide_eq_true_eq];exact ⟨h1,List.all_eq_true.2 h2⟩
theorem QaY {l:List Sector} (h:YQ l=true):Qr l=true:=by
 have h1:=KW h;rw [Vv];refine ⟨by omega,fun s hs=>Qu ?_⟩
 have:=Qdi h s hs;simp only [Zz,Bool.and_eq_true,decide_eq_true_eq] at this;omega
theorem YB {now sure:List Sector} (h:Qx now sure=true):YQ now=true /\ YQ sure=true /\ Ki now sure 0=true:=by
 simp only [Qx,Bool.and_eq_true] at h;exact ⟨h.1.1,h.1.2,h.2⟩
theorem Qeh {now sure:List Sector} (hl:now.length=sure.length):Ki now sure 0=true ↔ ∀ i,i < now.length->(sure.getD i sec0).n <= (now.getD i sec0).n:=by
 unfold Ki;rw [List.drop_zero,List.all_eq_true];constructor
 · intro h i hi;have hz:i < (now.zip sure).length:=by simp;omega
   have h3:=h _ (List.getElem_mem hz);simp only [List.getElem_zip,decide_eq_true_eq] at h3;have hi2:i < sure.length:=by omega
   simpa [hi,hi2] using h3
 · intro h p hp;obtain ⟨i,hi,rfl⟩:=List.getElem_of_mem hp;have h1:i < now.length:=by simp at hi;omega
   have h2:i < sure.length:=by omega
   have:=h i h1;simp only [List.getElem_zip,decide_eq_true_eq]
   simpa [h1,h2] using this
theorem Qei {now sure:List Sector} (h:Qx now sure=true):Qr now=true /\ Qr sure=true :=
 ⟨QaY (YB h).1,QaY (YB h).2.1⟩
theorem putNow_mem {now:List Sector} {k:Nat} {n:Int} {b:List UInt8} {s:Sector} (h:s ∈ Vu now k n b):s ∈ now \/ s=⟨n,b⟩:=by
 unfold Vu at h
 split at h
 · exact List.mem_or_eq_of_mem_set h
 · exact .inl h
theorem QkZ {now:List Sector} {k:Nat} {n:Int} {b:List UInt8} (hk:k < now.length) (j:Nat):(Vu now k n b).getD j sec0=if j=k /\ (now.getD k sec0).n < n then ⟨n,b⟩ else now.getD j sec0:=by
 unfold Vu
 by_cases h:(now.getD k sec0).n < n
 · rw [if_pos h]
   by_cases hj:j=k
   · subst hj;rw [if_pos ⟨rfl,h⟩];simp [hk]
   · rw [if_neg (fun q=>hj q.1)];simp only [List.getD_eq_getElem?_getD];rw [List.getElem?_set_ne (fun q=>hj q.symm)]
 · rw [if_neg h,if_neg (fun q=>h q.2)]
theorem QhH {now sure:List Sector} {k n:Int} {b:List UInt8} (h:Yy now sure k n b=true):Qx (pNow now sure k n b) (QcH now sure k n b)=true:=by
 obtain ⟨hd,h0,h1,h2,h3,h4⟩:=KX h;obtain ⟨d1,d2,d3⟩:=YB hd;obtain ⟨l1,l2⟩:=QaM hd;simp only [pNow,QcH,h,cond_true,Qx,Bool.and_eq_true];have hk:k.toNat < now.length:=by omega
 refine ⟨⟨QnL (by rw [JU];exact l1) fun s hs=>?_,d2⟩,?_⟩
 · rcases putNow_mem hs with q | rfl
   · exact Qdi d1 s q
   · exact h4
 · rw [Qeh (by rw [JU];omega)]
   intro i hi;rw [JU] at hi;have:=(Qeh (by omega)).1 d3 i hi
   rw [QkZ hk]
   split
   · rename_i q;obtain ⟨rfl,q⟩:=q;have h5:(sure.getD k.toNat sec0).n <= (now.getD k.toNat sec0).n:=this;show (sure.getD k.toNat sec0).n <= n;omega
   · exact this
theorem Qej {l:List Sector} (h:YQ l=true):Qx l l=true:=by
 simp only [Qx,h,Bool.true_and];rw [Qeh rfl];intro i _;exact Int.le_refl _
def secI (p:Int):Int:=if p < 0 then 0 else p % 32
def entL (r:Rec):List UInt8:=bif mayB r then QiM r.place (Qe7 r) else []
def nIns (k:Int) (r:List Int) (x:Int):NA :=
 if k=0 \/ k=5 then naLd 68 1 r 1 0
 else if k=1 then naLd 68 2 (r.set 2 x) 0 0
 else if k=2 then (if x+r.getD 0 0 < r.getD 2 0 then naEn 68 2 r [170] true else if 1048575 < r.getD 2 0 then naEn 68 2 r [172] true else naLd 68 3 r 4 0)
 else if k=3 then (if x < r.getD 2 0 - 32 then naEn 68 3 r [171] true else naLd 68 4 r (lRing (r.getD 2 0) (r.getD 0 0)) 0)
 else if k=4 then (if plc x=r.getD 2 0 then naCs 68 5 (r.set 3 x) 1 (r.getD 2 0) (r.getD 2 0+1) 0 else if r.getD 2 0 < plc x then naLd 68 1 (r.set 3 x) 1 0
  else naCs 68 6 (r.set 3 x) (lRing (r.getD 2 0) (r.getD 0 0)) x (wordN (r.getD 2 0) (r.getD 1 0)) 0)
 else if k=6 then (if x=0 then naLd 68 1 r 1 0 else naCs 68 7 r 1 (r.getD 2 0) (r.getD 2 0+1) 0)
 else naEn 68 7 r [0,r.getD 2 0] true
def sCell (h f:Int):Int:=if h < 0 then -1 else lField 291 (h % 256) f 160 3
def nInr (own:Bool) (k:Int) (r:List Int) (x:Int):NA :=
 if k=0 then (if lRow 21 (r.getD 2 0) 24 < 0 then naEn 73 (bif own then 99 else 0) r [] true else naLd 73 1 r (lRow 21 (r.getD 2 0) 24) 0)
 else if k=1 then (if sCell (r.getD 1 0) 1 < 0 \/ r.getD 0 0 <= plc (max x 0) then naEn 73 (bif own then 99 else 1) (r.set 3 (max x 0)) [] true
  else naCs 73 2 (r.set 3 (max x 0)) (sCell (r.getD 1 0) 1) (-1) (max x 0) (r.getD 1 0))
 else if k=2 then naCs 73 3 r (lRow 21 (r.getD 2 0) 24) (r.getD 3 0) (wordN (r.getD 0 0) (r.getD 1 0)) 0
 else naEn 73 (bif own then 99 else 3) r [] true
def hDesc (d f:Int):Int:=lField 99 (Zv d % 256) f 16 12
def hKey (r:List Int) (j:Nat):Int:=r.getD (8+j) 0 / 256
def hVal (r:List Int) (j:Nat):Int:=r.getD (8+j) 0 % 256
def V0 (r:List Int):Nat:=(min (r.getD 5 0) 4).toNat
def hRec (r:List Int) (o:Int):Rec:=⟨r.getD 2 0+1,decide (o=1),if o=1 then (List.range (V0 r)).map fun j=>⟨hKey r j,hVal r j⟩ else []⟩
def hBeg (r:List Int):NA:=naLd 100 1 r 0 0
def hOf (k:Int) (r:List Int) (f:Int):NA:=naLd 100 k r (hDesc (r.getD 3 0) f) (r.getD 3 0)
def hWrs (r:List Int):NA:=if (r.getD 6 0).toNat < V0 r then hOf 5 r (4+r.getD 6 0) else hOf 7 r 1
def hDec (r:List Int) (o:Int):NA:=naCs 100 9 (r.set 7 o) (hDesc (r.getD 3 0) 1) 0 o (r.getD 3 0)
def hHds (r:List Int):NA:=if (r.getD 6 0).toNat < V0 r then naLd 100 8 r (lRow 21 (hKey r (r.getD 6 0).toNat) 24) 0 else hDec r 1
def hPut (r:List Int) (o:Int):NA:=naPt 100 11 (r.set 7 o) (bif mayB (hRec r o) then secI (r.getD 2 0+1) else 0) (r.getD 2 0+1) (entL (hRec r o))
def hApp (r:List Int):NA:=if r.getD 7 0=1 /\ (r.getD 6 0).toNat < V0 r then naCl 100 13 r 73 [r.getD 2 0+1,r.getD (12+(r.getD 6 0).toNat) 0,hKey r (r.getD 6 0).toNat]
 else naCs 100 15 r 0 (r.getD 2 0) (r.getD 2 0+1) 0
def nHlp (own:Bool) (k:Int) (r:List Int) (x:Int):NA :=
 if k=0 \/ k=15 then hBeg r
 else if k=1 then (if r.getD 0 0 <= x then naEn 100 1 (r.set 2 x) [] true else naLd 100 2 (r.set 2 x) (lRing (x+1) (r.getD 1 0)) 0)
 else if k=2 then (if plc x=r.getD 2 0+1 then hOf 3 (r.set 3 (bare x)) 2 else hBeg r)
 else if k=3 then hOf 4 (r.set 4 x) 3
 else if k=4 then hWrs ((r.set 5 x).set 6 0)
 else if k=5 then hOf 6 (r.set (8+(r.getD 6 0).toNat) x) (8+r.getD 6 0)
 else if k=6 then hWrs ((r.set (12+(r.getD 6 0).toNat) x).set 6 (r.getD 6 0+1))
 else if k=7 then (if x=0 then hHds (r.set 6 0) else hPut (r.set 6 0) x)
 else if k=8 then (if r.getD 4 0 < plc x then hDec r 2 else hHds (r.set 6 (r.getD 6 0+1)))
 else if k=9 then hOf 10 r 1
 else if k=10 then hPut (bif own then r else r.set 6 0) x
 else if k=11 then naSy 100 12 r
 else if k=12 then hApp (bif own then r.set 6 0 else r)
 else if k=13 then naCl 100 14 r 76 [r.getD 2 0+1,r.getD 6 0,hKey r (r.getD 6 0).toNat,hVal r (r.getD 6 0).toNat]
 else hApp (r.set 6 (r.getD 6 0+1))
def nHp (own:Bool) (f:Frame) (got:List Int):NA :=
 if f.prog=68 then nIns f.at' f.r (got.headD 0) else if f.prog=73 then nInr own f.at' f.r (got.headD 0) else if f.prog=76 then nApp f.at' f.r (got.headD 0) else nHlp own f.at' f.r (got.headD 0)
def QsF (k:Int) (r got:List Int):Prop:=k=0 /\ got=[] \/ ∃ x,got=[x] /\ 1 <= k /\ k <= 7 /\ 0 <= x /\ x <= bigW /\ (k=2->x <= 1048576) /\
 (2 <= k->0 <= r.getD 2 0 /\ r.getD 2 0 <= 1048576) /\ 2 <= r.getD 0 0 /\ r.getD 0 0 <= 8 /\ 256 <= r.getD 1 0 /\ r.getD 1 0 <= 300
def QsG (k:Int) (r got:List Int):Prop:=0 <= r.getD 2 0 /\ r.getD 2 0 <= 23 /\ (k=0 /\ got=[] \/ ∃ x,got=[x] /\ 1 <= k /\ k <= 3 /\ 0 <= x /\ x <= bigW /\ 256 <= r.getD 1 0 /\ r.getD 1 0 <= 400)
def okWs (m:Nat) (r:List Int):Prop := ∀ j,j < m->0 <= r.getD (8+j) 0 /\ r.getD (8+j) 0 <= 6143
def QqF (own:Bool) (k:Int) (r got:List Int):Prop :=
 2 <= r.getD 1 0 /\ r.getD 1 0 <= 8 /\ (k=0 /\ got=[] \/ (k=13 \/ k=14) /\ got=[] /\ 0 <= r.getD 2 0 /\ r.getD 2 0 <= 1048574 /\ 0 <= r.getD 5 0 /\ r.getD 5 0 <= 4 /\ 0 <= r.getD 6 0 /\ r.getD 6 0 < r.getD 5 0 /\ okWs (V0 r) r \/
 ∃ x,got=[x] /\ 1 <= k /\ k <= 15 /\ k ≠ 13 /\ k ≠ 14 /\ 0 <= x /\ x <= bigW /\ (k=1->x <= 1048575) /\ (2 <= k->k <= 14->0 <= r.getD 2 0 /\ r.getD 2 0 <= 1048574) /\
 (3 <= k->k <= 14->0 <= r.getD 3 0 /\ r.getD 3 0 <= bigW) /\
 (k=4->x <= 4) /\ (5 <= k->k <= 14->0 <= r.getD 5 0 /\ r.getD 5 0 <= 4) /\ ((k=5 \/ k=6 \/ k=8)->0 <= r.getD 6 0 /\ r.getD 6 0 < r.getD 5 0) /\
 (k=12->own=false->r.getD 6 0=0) /\ (7 <= k->k <= 14->okWs (V0 r) r))
def okHp (own:Bool) (f:Frame) (got:List Int):Prop :=
 f.r.length=96 /\ (∀ v ∈ f.r,v < 9223372036854775808) /\ (f.prog=68 /\ QsF f.at' f.r got \/ f.prog=73 /\ QsG f.at' f.r got \/ f.prog=76 /\ okAp f.at' f.r got \/ f.prog=100 /\ QqF own f.at' f.r got)
def TyS (n a v:Int):Prop:=0 <= v /\ (a <= 47->v <= n) /\ (48 <= a->a <= 50->v <= 1048575) /\ (51 <= a->v <= bigW)
def AtS (n:Int) (A:Qb):Prop:=A.gen=0 /\ A.text=[] /\ A.args=[] /\ 45 <= A.a /\ A.a <= 98 /\ (A.kind=0 /\ A.b=0 /\ A.v=0 \/ A.kind=2 /\ 0 <= A.b /\ A.b <= bigW /\ TyS (n+1) A.a A.v)
def RsS (n:Int) (A:Qb) (x:Int):Prop:=A.kind=0 /\ TyS n A.a x \/ A.kind=2 /\ (x=0 \/ x=1)
theorem TyS.big {n a v:Int} (h:TyS n a v) (h1:45 <= a) (h2:n <= 1000000):0 <= v /\ v <= bigW:=by
 obtain ⟨a1,a2,a3,a4⟩:=h;unfold bigW at *;refine ⟨a1,?_⟩
 by_cases q:a <= 47
 · have:=a2 q;omega
 · by_cases q2:a <= 50
   · have:=a3 (by omega) q2;omega
   · exact a4 (by omega)
theorem RsS.big {n:Int} {A:Qb} {x:Int} (h:RsS n A x) (h1:45 <= A.a) (h2:n <= 1000000):0 <= x /\ x <= bigW:=by
 rcases h with ⟨_,h⟩ | ⟨_,h⟩
 · exact h.big h1 h2
 · unfold bigW;omega
def bnd (r:List Int):Prop:=r.length=96 /\ ∀ v ∈ r,v < 9223372036854775808
theorem bnd.set {r:List Int} (h:bnd r) (i:Nat) {x:Int} (hx:x <= bigW):bnd (r.set i x):=by
 refine ⟨by rw [List.length_set];exact h.1,fun v hv=>?_⟩
 rcases List.mem_or_eq_of_mem_set hv with hv | rfl
 · exact h.2 v hv
 · unfold bigW at hx;omega
def K76 (n k:Int) (r got:List Int):Prop:=k=0 /\ got=[] \/ ∃ x,got=[x] /\ 1 <= k /\ k <= 8 /\ 0 <= x /\ x <= bigW /\ (k=1->x <= n) /\ (k=5->x <= 1048575) /\ (2 <= k->0 <= r.getD 4 0 /\ r.getD 4 0 <= n) /\ (3 <= k->0 <= r.getD 5 0 /\ r.getD 5 0 <= bigW)
def R76 (n k:Int) (r got:List Int):Prop:=bnd r /\ (0 <= r.getD 2 0 /\ r.getD 2 0 <= 23) /\ K76 n k r got
theorem R76.mk {n k x:Int} {r:List Int} (hb:bnd r) (hq:0 <= r.getD 2 0 /\ r.getD 2 0 <= 23) (k1:1 <= k) (k8:k <= 8) (hx:0 <= x /\ x <= bigW) (c1:k=1->x <= n) (c5:k=5->x <= 1048575)
 (c2:2 <= k->0 <= r.getD 4 0 /\ r.getD 4 0 <= n) (c3:3 <= k->0 <= r.getD 5 0 /\ r.getD 5 0 <= bigW):R76 n k r [x]:=⟨hb,hq,.inr ⟨x,rfl,k1,k8,hx.1,hx.2,c1,c5,c2,c3⟩⟩
theorem R76.ok {n k:Int} {r got:List Int} (h:R76 n k r got) (hn:n <= 1000000) (own:Bool):QsD own ⟨76,k,r⟩ got:=by
 obtain ⟨⟨h1,h2⟩,h3,h4⟩:=h;refine ⟨h1,h2,.inl ⟨rfl,h3.1,h3.2,?_⟩⟩;rcases h4 with h | ⟨x,e,a1,a2,a3,a4,a5,a6,a7,a8⟩
 · exact .inl h
 · exact .inr ⟨x,e,a1,a2,a3,a4,fun q=>by have:=a5 q;omega,fun q=>by have q:2 <= k:=q;have:=a7 q;exact ⟨this.1,by show r.getD 4 0 <= 1000000;omega⟩,a8⟩
theorem R76.mono {n n' k:Int} {r got:List Int} (h:R76 n k r got) (hn:n <= n'):R76 n' k r got:=by
 obtain ⟨h1,h3,h4⟩:=h;refine ⟨h1,h3,?_⟩;rcases h4 with h | ⟨x,e,a1,a2,a3,a4,a5,a6,a7,a8⟩
 · exact .inl h
 · exact .inr ⟨x,e,a1,a2,a3,a4,fun q=>by have:=a5 q;omega,a6,fun q=>by have:=a7 q;omega,a8⟩
theorem QbU {f q m:Int} (h0:0 <= q) (h1:q < m):lRow f q m=f+q:=by rw [lRow,if_pos ⟨h0,h1⟩]
theorem VX {q o:Int} (h0:0 <= q) (h1:q <= 2) (h2:0 <= o):51 <= lStream q o /\ lStream q o <= 98:=by
 rw [lStream,if_pos ⟨h0,h1,h2⟩];have:=Int.emod_nonneg o (show (16:Int) ≠ 0 by decide)
 have:=Int.emod_lt_of_pos o (show (0:Int) < 16 by decide)
 omega
theorem Qek (w:Int):0 <= (Vw w).place /\ (Vw w).place <= 1048575:=by
 unfold Vw;cases h:QcP w with
 | none=>exact ⟨Int.le_refl _,by decide⟩
 | some l =>
  have:=(QgP h).1;unfold QgO at this;rw [decide_eq_true_eq] at this;simp only [Option.getD_some];omega
def GoS (n:Int) (R:Int->List Int->List Int->Prop) (p:Int) (N:NA):Prop :=
 (N.a.kind=7 /\ N=naEn p N.f.at' N.f.r N.a.args N.fl) \/ (AtS n N.a /\ N.fl=true /\ N.f.prog=p /\ ∀ x,RsS n N.a x->R N.f.at' N.f.r [x])
theorem app_step {n k:Int} {r got:List Int} (h:R76 n k r got) (hn0:0 <= n) (hn:n <= 1000000):GoS n (R76 n) 76 (nApp k r (got.headD 0)) /\ ((nApp k r (got.headD 0)).a.kind=7->(nApp k r (got.headD 0)).a.args=[]):=by
 obtain ⟨hb,hq,hK⟩:=h;have hs0:0 <= sQ r:=by unfold sQ;omega
 have hs2:sQ r <= 2:=by unfold sQ;omega
 have cntA:lRow 45 (sQ r) 3=45+sQ r:=QbU hs0 (by omega)
 have cutA:lRow 48 (sQ r) 3=48+sQ r:=QbU hs0 (by omega)
 -- the actions
 have cnt:GoS n (R76 n) 76 (aCnt r):=by
  refine .inr ⟨⟨rfl,rfl,rfl,?_,?_,.inl ⟨rfl,rfl,rfl⟩⟩,rfl,rfl,fun x hx=>?_⟩
  · show 45 <= lRow 45 (sQ r) 3;omega
  · show lRow 45 (sQ r) 3 <= 98;omega
  · have hx1:=hx.big (by show 45 <= lRow 45 (sQ r) 3;omega) hn
    refine (R76.mk hb hq (by decide) (by decide) hx1 (fun _=>?_) (fun q=>by cases q) (fun q=>absurd q (by decide)) (fun q=>absurd q (by decide)):R76 n 1 r [x])
    rcases hx with ⟨_,hx⟩ | ⟨q,_⟩
    · exact hx.2.1 (by show lRow 45 (sQ r) 3 <= 47;omega)
    · cases q
 have put:∀ (h4:0 <= r.getD 4 0 /\ r.getD 4 0 <= n) (h5:0 <= r.getD 5 0 /\ r.getD 5 0 <= bigW),GoS n (R76 n) 76 (aPut r):=fun h4 h5=>by
  have hl:=VX hs0 hs2 h4.1;have hw:=Qad ⟨r.getD 4 0,r.getD 0 0,r.getD 1 0,r.getD 2 0 % 8,r.getD 3 0⟩;refine .inr ⟨⟨rfl,rfl,rfl,?_,?_,.inr ⟨rfl,h5.1,h5.2,hw.1,fun q=>?_,fun _ q=>?_,fun _=>hw.2⟩⟩,rfl,rfl,fun x hx=>?_⟩
  · show 45 <= lStream (sQ r) (r.getD 4 0);omega
  · show lStream (sQ r) (r.getD 4 0) <= 98;omega
  · have q:lStream (sQ r) (r.getD 4 0) <= 47:=q;omega
  · have q:lStream (sQ r) (r.getD 4 0) <= 50:=q;omega
  · have hx1:=hx.big (by show 45 <= lStream (sQ r) (r.getD 4 0);omega) hn
    exact (R76.mk hb hq (by decide) (by decide) hx1 (fun q=>by cases q) (fun q=>by cases q) (fun _=>h4) (fun _=>h5):R76 n 6 r [x])
 have cut:∀ (h4:0 <= r.getD 4 0 /\ r.getD 4 0 <= n) (h5:0 <= r.getD 5 0 /\ r.getD 5 0 <= bigW),GoS n (R76 n) 76 (aCut r):=fun h4 h5=>by
  refine .inr ⟨⟨rfl,rfl,rfl,?_,?_,.inl ⟨rfl,rfl,rfl⟩⟩,rfl,rfl,fun x hx=>?_⟩
  · show 45 <= lRow 48 (sQ r) 3;omega
  · show lRow 48 (sQ r) 3 <= 98;omega
  · have hx1:=hx.big (by show 45 <= lRow 48 (sQ r) 3;omega) hn
    refine (R76.mk hb hq (by decide) (by decide) hx1 (fun q=>by cases q) (fun _=>?_) (fun _=>h4) (fun _=>h5):R76 n 5 r [x])
    rcases hx with ⟨_,hx⟩ | ⟨q,_⟩
    · exact hx.2.2.1 (by show 48 <= lRow 48 (sQ r) 3;omega) (by show lRow 48 (sQ r) 3 <= 50;omega)
    · cases q
 have on:∀ (m:Int) (hm:m=3 \/ m=7) (h4:0 <= r.getD 4 0 /\ r.getD 4 0 <= n) (h5:0 <= r.getD 5 0 /\ r.getD 5 0 <= bigW),GoS n (R76 n) 76 (aOn m r):=fun m hm h4 h5=>by
  refine .inr ⟨⟨rfl,rfl,rfl,?_,?_,.inr ⟨rfl,h4.1,by show r.getD 4 0 <= bigW;unfold bigW;omega,?_,fun _=>?_,fun q=>?_,fun q=>?_⟩⟩,rfl,rfl,fun x hx=>?_⟩
  · show 45 <= lRow 45 (sQ r) 3;omega
  · show lRow 45 (sQ r) 3 <= 98;omega
  · show 0 <= r.getD 4 0+1;omega
  · show r.getD 4 0+1 <= n+1;omega
  · have q:48 <= lRow 45 (sQ r) 3:=q;omega
  · have q:51 <= lRow 45 (sQ r) 3:=q;omega
  · have hx1:=hx.big (by show 45 <= lRow 45 (sQ r) 3;omega) hn
    exact (R76.mk hb hq (by show 1 <= m;omega) (by show m <= 8;omega) hx1 (fun q=>by have q:m=1:=q;omega) (fun q=>by have q:m=5:=q;omega) (fun _=>h4) (fun _=>h5):R76 n m r [x])
 have en:∀ k',GoS n (R76 n) 76 (naEn 76 k' r [] true):=fun k'=>.inl ⟨rfl,rfl⟩;have kk:∀ N:NA,N.a.kind ≠ 7->(N.a.kind=7->N.a.args=[]):=fun N h1 h2=>absurd h2 h1;rcases hK with ⟨rfl,rfl⟩ | ⟨x,rfl,k1,k8,x0,x1,y1,y5,y2,y3⟩
 · exact ⟨cnt,fun q=>by cases q⟩
 simp only [List.headD_cons];have ks:k=1 \/ k=2 \/ k=3 \/ k=4 \/ k=5 \/ k=6 \/ k=7 \/ k=8:=by omega
 rcases ks with rfl | rfl | rfl | rfl | rfl | rfl | rfl | rfl
 · have e:nApp 1 r x=naLd 76 2 (r.set 4 x) (lStream (sQ r) x) 0:=rfl;have hl:=VX hs0 hs2 x0;rw [e];refine ⟨.inr ⟨⟨rfl,rfl,rfl,?_,?_,.inl ⟨rfl,rfl,rfl⟩⟩,rfl,rfl,fun y hy=>?_⟩,fun q=>by cases q⟩
   · show 45 <= lStream (sQ r) x;omega
   · show lStream (sQ r) x <= 98;omega
   · have hy1:=hy.big (by show 45 <= lStream (sQ r) x;omega) hn
     refine (R76.mk (hb.set 4 x1) ?_ (by decide) (by decide) hy1 (fun q=>by cases q) (fun q=>by cases q) (fun _=>?_) (fun q=>absurd q (by decide)):R76 n 2 (r.set 4 x) [y])
     · show 0 <= (r.set 4 x).getD 2 0 /\ (r.set 4 x).getD 2 0 <= 23;rw [Qa (by decide)];exact hq
     · show 0 <= (r.set 4 x).getD 4 0 /\ (r.set 4 x).getD 4 0 <= n;rw [Qd (by rw [hb.1];decide)];exact ⟨x0,y1 rfl⟩
 · have h4:=y2 (by decide)
   have e:nApp 2 r x=if (QcP x).isSome=true /\ (Vw x).offset=r.getD 4 0 then aOn 3 (r.set 5 x) else if r.getD 4 0=0 then aPut (r.set 5 x) else naLd 76 4 (r.set 5 x) (lStream (sQ r) (r.getD 4 0 - 1)) 0:=rfl
   have g2:(r.set 5 x).getD 2 0=r.getD 2 0:=Qa (by decide)
   have g4:(r.set 5 x).getD 4 0=r.getD 4 0:=Qa (by decide)
   have g5:(r.set 5 x).getD 5 0=x:=Qd (by rw [hb.1];decide)
   have gs:sQ (r.set 5 x)=sQ r:=by unfold sQ;rw [g2]
   have hb5:=hb.set 5 x1;rw [e]
   split
   · -- COUNT is raised
     refine ⟨.inr ⟨⟨rfl,rfl,rfl,?_,?_,.inr ⟨rfl,?_,?_,?_,fun _=>?_,fun q=>?_,fun q=>?_⟩⟩,rfl,rfl,fun y hy=>?_⟩,fun q=>by cases q⟩
     · show 45 <= lRow 45 (sQ (r.set 5 x)) 3;rw [gs];omega
     · show lRow 45 (sQ (r.set 5 x)) 3 <= 98;rw [gs];omega
     · show 0 <= (r.set 5 x).getD 4 0;rw [g4];exact h4.1
     · show (r.set 5 x).getD 4 0 <= bigW;rw [g4];unfold bigW;omega
     · show 0 <= (r.set 5 x).getD 4 0+1;rw [g4];omega
     · show (r.set 5 x).getD 4 0+1 <= n+1;rw [g4];omega
     · have q:48 <= lRow 45 (sQ (r.set 5 x)) 3:=q;rw [gs] at q;omega
     · have q:51 <= lRow 45 (sQ (r.set 5 x)) 3:=q;rw [gs] at q;omega
     · have hy1:=hy.big (by show 45 <= lRow 45 (sQ (r.set 5 x)) 3;rw [gs];omega) hn
       refine (R76.mk hb5 ?_ (by decide) (by decide) hy1 (fun q=>by cases q) (fun q=>by cases q) (fun _=>?_) (fun _=>?_):R76 n 3 (r.set 5 x) [y])
       · show 0 <= (r.set 5 x).getD 2 0 /\ (r.set 5 x).getD 2 0 <= 23;rw [g2];exact hq
       · show 0 <= (r.set 5 x).getD 4 0 /\ (r.set 5 x).getD 4 0 <= n;rw [g4];exact h4
       · show 0 <= (r.set 5 x).getD 5 0 /\ (r.set 5 x).getD 5 0 <= bigW;rw [g5];exact ⟨x0,x1⟩
   · split
     · -- put
       have hl:=VX hs0 hs2 h4.1;have hw:=Qad ⟨(r.set 5 x).getD 4 0,(r.set 5 x).getD 0 0,(r.set 5 x).getD 1 0,(r.set 5 x).getD 2 0 % 8,(r.set 5 x).getD 3 0⟩;refine ⟨.inr ⟨⟨rfl,rfl,rfl,?_,?_,.inr ⟨rfl,?_,?_,hw.1,fun q=>?_,fun _ q=>?_,fun _=>hw.2⟩⟩,rfl,rfl,fun y hy=>?_⟩,fun q=>by cases q⟩
       · show 45 <= lStream (sQ (r.set 5 x)) ((r.set 5 x).getD 4 0);rw [gs,g4];omega
       · show lStream (sQ (r.set 5 x)) ((r.set 5 x).getD 4 0) <= 98;rw [gs,g4];omega
       · show 0 <= (r.set 5 x).getD 5 0;rw [g5];exact x0
       · show (r.set 5 x).getD 5 0 <= bigW;rw [g5];exact x1
       · have q:lStream (sQ (r.set 5 x)) ((r.set 5 x).getD 4 0) <= 47:=q;rw [gs,g4] at q;omega
       · have q:lStream (sQ (r.set 5 x)) ((r.set 5 x).getD 4 0) <= 50:=q;rw [gs,g4] at q;omega
       · have hy1:=hy.big (by show 45 <= lStream (sQ (r.set 5 x)) ((r.set 5 x).getD 4 0);rw [gs,g4];omega) hn
         refine (R76.mk hb5 ?_ (by decide) (by decide) hy1 (fun q=>by cases q) (fun q=>by cases q) (fun _=>?_) (fun _=>?_):R76 n 6 (r.set 5 x) [y])
         · show 0 <= (r.set 5 x).getD 2 0 /\ (r.set 5 x).getD 2 0 <= 23;rw [g2];exact hq
         · show 0 <= (r.set 5 x).getD 4 0 /\ (r.set 5 x).getD 4 0 <= n;rw [g4];exact h4
         · show 0 <= (r.set 5 x).getD 5 0 /\ (r.set 5 x).getD 5 0 <= bigW;rw [g5];exact ⟨x0,x1⟩
     · rename_i hz;have hl:=VX hs0 hs2 (show 0 <= r.getD 4 0 - 1 by omega)
       refine ⟨.inr ⟨⟨rfl,rfl,rfl,?_,?_,.inl ⟨rfl,rfl,rfl⟩⟩,rfl,rfl,fun y hy=>?_⟩,fun q=>by cases q⟩
       · show 45 <= lStream (sQ r) (r.getD 4 0 - 1);omega
       · show lStream (sQ r) (r.getD 4 0 - 1) <= 98;omega
       · have hy1:=hy.big (by show 45 <= lStream (sQ r) (r.getD 4 0 - 1);omega) hn
         refine (R76.mk hb5 ?_ (by decide) (by decide) hy1 (fun q=>by cases q) (fun q=>by cases q) (fun _=>?_) (fun _=>?_):R76 n 4 (r.set 5 x) [y])
         · show 0 <= (r.set 5 x).getD 2 0 /\ (r.set 5 x).getD 2 0 <= 23;rw [g2];exact hq
         · show 0 <= (r.set 5 x).getD 4 0 /\ (r.set 5 x).getD 4 0 <= n;rw [g4];exact h4
         · show 0 <= (r.set 5 x).getD 5 0 /\ (r.set 5 x).getD 5 0 <= bigW;rw [g5];exact ⟨x0,x1⟩
 · exact ⟨cnt,fun q=>by cases q⟩
 · have h4:=y2 (by decide)
   have h5:=y3 (by decide)
   have e:nApp 4 r x=if r.getD 0 0 < (Vw x).place \/ (Vw x).place=r.getD 0 0 /\ r.getD 1 0 <= (Vw x).j then naEn 76 4 r [] true
    else if (QcP x).isSome=false \/ (Vw x).offset ≠ r.getD 4 0 - 1 then aCnt r else if r.getD 5 0=0 then aPut r else aCut r:=rfl
   rw [e]
   split
   · exact ⟨en 4,fun _=>rfl⟩
   · split
     · exact ⟨cnt,fun q=>by cases q⟩
     · split
       · exact ⟨put h4 h5,fun q=>by cases q⟩
       · exact ⟨cut h4 h5,fun q=>by cases q⟩
 · have h4:=y2 (by decide)
   have h5:=y3 (by decide)
   have e:nApp 5 r x=if x < (Vw (r.getD 5 0)).place then naCs 76 8 r (lRow 48 (sQ r) 3) x (Vw (r.getD 5 0)).place 0 else aPut r:=rfl
   rw [e]
   split
   · have hp:=Qek (r.getD 5 0);refine ⟨.inr ⟨⟨rfl,rfl,rfl,?_,?_,.inr ⟨rfl,x0,x1,hp.1,fun q=>?_,fun _ _=>hp.2,fun q=>?_⟩⟩,rfl,rfl,fun y hy=>?_⟩,fun q=>by cases q⟩
     · show 45 <= lRow 48 (sQ r) 3;omega
     · show lRow 48 (sQ r) 3 <= 98;omega
     · have q:lRow 48 (sQ r) 3 <= 47:=q;omega
     · have q:51 <= lRow 48 (sQ r) 3:=q;omega
     · have hy1:=hy.big (by show 45 <= lRow 48 (sQ r) 3;omega) hn
       exact (R76.mk hb hq (by decide) (by decide) hy1 (fun q=>by cases q) (fun q=>by cases q) (fun _=>h4) (fun _=>h5):R76 n 8 r [y])
   · exact ⟨put h4 h5,fun q=>by cases q⟩
 · have h4:=y2 (by decide)
   have h5:=y3 (by decide)
   have e:nApp 6 r x=if x=0 then aCnt r else aOn 7 r:=rfl
   rw [e]
   split
   · exact ⟨cnt,fun q=>by cases q⟩
   · exact ⟨on 7 (.inr rfl) h4 h5,fun q=>by cases q⟩
 · exact ⟨en 7,fun _=>rfl⟩
 · have h4:=y2 (by decide)
   have h5:=y3 (by decide)
   exact ⟨cut h4 h5,fun q=>by cases q⟩
def wrH:Zb:=⟨0,0⟩
structure HD where
 start:Int
 ws:List Zb
 base:Int
def hd0:HD:=⟨0,[],0⟩
def HD.w (d:HD) (j:Nat):Int:=(d.ws.getD j wrH).key * 256+(d.ws.getD j wrH).value
def HD.nd (d:HD) (j:Nat):Int:=256+d.base+j
structure OkD (d:HD):Prop where
 st:0 <= d.start /\ d.start <= 1048575
 ws:Zn d.ws=true
 nb:0 <= d.base /\ d.base+d.ws.length <= 60
def OkDs (ds:List HD):Prop:=ds.length <= 16 /\ ∀ s,s < ds.length->OkD (ds.getD s hd0)
def hD (ds:List HD) (h:Int):HD:=ds.getD (h - 256).toNat hd0
def OkH (ds:List HD) (h:Int):Prop:=256 <= h /\ h < 256+ds.length
theorem Qk0 {l:List Zb} (h:Zn l=true) {i:Nat} (hi:i < l.length):(0 <= (l.getD i wrH).key /\ (l.getD i wrH).key <= 23) /\ 0 <= (l.getD i wrH).value /\ (l.getD i wrH).value <= 255:=by
 unfold Zn at h;rw [Bool.and_eq_true] at h;have:=List.all_eq_true.1 (QaK h.2) _ (List.getElem_mem hi);have e:l.getD i wrH=l[i]:=by simp [hi]
 rw [e];unfold QmC at this;simp only [Bool.and_eq_true,Q8] at this;exact this
theorem OkD.len {d:HD} (h:OkD d):d.ws.length <= 4:=by
 have:=h.ws;unfold Zn at this;rw [Bool.and_eq_true,decide_eq_true_eq] at this;exact this.1
theorem OkD.wr {d:HD} (h:OkD d) {j:Nat} (hj:j < d.ws.length):0 <= d.w j /\ d.w j <= 6143 /\ d.w j / 256=(d.ws.getD j wrH).key /\ d.w j % 256=(d.ws.getD j wrH).value:=by
 have:=Qk0 h.ws hj;unfold HD.w;omega
theorem OkDs.at {ds:List HD} (h:OkDs ds) {x:Int} (hx:OkH ds x):OkD (hD ds x):=h.2 _ (by unfold OkH at hx;omega)
def TyD (d:HD) (f v:Int):Prop:=(f=2->v=d.start) /\ (f=3->v=d.ws.length) /\ (4 <= f->f < 4+d.ws.length->v=d.w (f - 4).toNat) /\ (8 <= f->f < 8+d.ws.length->v=d.nd (f - 8).toNat)
structure TyH (ds:List HD) (n a v:Int):Prop where
 t0:a=0->0 <= v /\ v <= 1048575
 t1:a=1->1 <= v /\ v <= 1048576
 t2:2 <= a->a <= 12->0 <= v /\ v <= bigW
 t3:13 <= a->a <= 20->(0 <= v /\ v <= bigW) /\ (v=0 \/ OkH ds (bare v))
 t4:21 <= a->a <= 44->0 <= v /\ v <= bigW
 t5:45 <= a->a <= 98->TyS n a v
 t6:∀ s f:Int,0 <= s->s < ds.length->0 <= f->f < 12->a=99+s * 12+f->TyD (ds.getD s.toNat hd0) f v
 t7:∀ s:Int,0 <= s->s < 16->a=99+s * 12+1->0 <= v /\ v <= 2
def AtH (ds:List HD) (n:Int) (A:Qb):Prop:=A.args=[] /\ 0 <= A.gen /\ A.gen <= bigW /\
 ((A.kind=0 /\ A.text=[] /\ A.b=0 /\ A.v=0 /\ 0 <= A.a /\ A.a <= 770) \/
  (A.kind=2 /\ A.text=[] /\ 0 <= A.a /\ A.a <= 770 /\ -1 <= A.b /\ A.b <= bigW /\ 0 <= A.v /\ A.v <= bigW /\ TyH ds (n+1) A.a A.v) \/
  (A.kind=4 /\ A.gen=0 /\ A.v=0 /\ 0 <= A.a /\ A.a < 33 /\ 1 <= A.b /\ A.b <= 1048575 /\ A.text ≠ [] /\ A.text.length <= 640) \/
  (A.kind=5 /\ A.gen=0 /\ A.text=[] /\ A.a=0 /\ A.b=0 /\ A.v=0))
def RsH (ds:List HD) (n:Int) (A:Qb) (x:Int):Prop:=A.kind=0 /\ TyH ds n A.a x \/ A.kind=2 /\ (x=0 \/ x=1) \/ (A.kind=4 \/ A.kind=5) /\ x=0
theorem TyH.low {ds:List HD} {n a v:Int} (h:a <= 98 \/ 291 <= a) (hs:ds.length <= 16) (h0:a=0->0 <= v /\ v <= 1048575) (h1:a=1->1 <= v /\ v <= 1048576) (h2:2 <= a->a <= 12->0 <= v /\ v <= bigW)
 (h3:13 <= a->a <= 20->(0 <= v /\ v <= bigW) /\ (v=0 \/ OkH ds (bare v))) (h4:21 <= a->a <= 44->0 <= v /\ v <= bigW) (h5:45 <= a->a <= 98->TyS n a v):TyH ds n a v :=
 ⟨h0,h1,h2,h3,h4,h5,fun s f s0 s1 f0 f1 e=>by omega,fun s s0 s1 e=>by omega⟩
theorem QnM {ds:List HD} {n v:Int} (hs:ds.length <= 16) (h:0 <= v /\ v <= 1048575):TyH ds n 0 v:=TyH.low (.inl (by decide)) hs (fun _=>h) (fun q=>absurd q (by decide)) (fun q=>absurd q (by decide)) (fun q=>absurd q (by decide)) (fun q=>absurd q (by decide)) (fun q=>absurd q (by decide))
theorem QqG {ds:List HD} {n v:Int} (hs:ds.length <= 16) (h:1 <= v /\ v <= 1048576):TyH ds n 1 v:=TyH.low (.inl (by decide)) hs (fun q=>absurd q (by decide)) (fun _=>h) (fun q=>absurd q (by decide)) (fun q=>absurd q (by decide)) (fun q=>absurd q (by decide)) (fun q=>absurd q (by decide))
theorem QqH {ds:List HD} {n a v:Int} (hs:ds.length <= 16) (ha:13 <= a /\ a <= 20) (h:(0 <= v /\ v <= bigW) /\ (v=0 \/ OkH ds (bare v))):TyH ds n a v :=
 TyH.low (.inl (by omega)) hs (fun q=>by omega) (fun q=>by omega) (fun _ q=>by omega) (fun _ _=>h) (fun q=>by omega) (fun q=>by omega)
theorem QqI {ds:List HD} {n a v:Int} (hs:ds.length <= 16) (ha:21 <= a /\ a <= 44) (h:0 <= v /\ v <= bigW):TyH ds n a v :=
 TyH.low (.inl (by omega)) hs (fun q=>by omega) (fun q=>by omega) (fun _ q=>by omega) (fun _ q=>by omega) (fun _ _=>h) (fun q=>by omega)
theorem QqJ {ds:List HD} {n a v:Int} (hs:ds.length <= 16) (ha:45 <= a /\ a <= 98) (h:TyS n a v):TyH ds n a v :=
 TyH.low (.inl (by omega)) hs (fun q=>by omega) (fun q=>by omega) (fun _ q=>by omega) (fun _ q=>by omega) (fun _ q=>by omega) (fun _ _=>h)
theorem Qk1 {ds:List HD} {n a v:Int} (hs:ds.length <= 16) (ha:291 <= a):TyH ds n a v :=
 TyH.low (.inr ha) hs (fun q=>by omega) (fun q=>by omega) (fun _ q=>by omega) (fun _ q=>by omega) (fun _ q=>by omega) (fun _ q=>by omega)
theorem QrU {ds:List HD} {n s v:Int} (hs:ds.length <= 16) (s0:0 <= s) (s1:s < 16) (h:0 <= v /\ v <= 2):TyH ds n (99+s * 12+1) v :=
 ⟨fun q=>by omega,fun q=>by omega,fun _ q=>by omega,fun _ q=>by omega,fun _ q=>by omega,fun _ q=>by omega,fun s' f s0' s1' f0 f1 e=>by
  have:f=1:=by omega
  subst this;exact ⟨fun q=>by omega,fun q=>by omega,fun q=>by omega,fun q=>by omega⟩,fun _ _ _ _=>h⟩
theorem YC {ds:List HD} (hs:ds.length <= 16) {h f:Int} (hh:OkH ds h) (f0:0 <= f) (f1:f < 12):hDesc h f=99+(h - 256) * 12+f:=by
 unfold OkH at hh;have e:Zv h=h:=Q9 (by omega)
 unfold hDesc lField;rw [e,show h % 256=h - 256 by omega,if_pos (by omega)]
theorem QnN {v:Int} (h0:0 <= v) (h1:v < 60):sCell (256+v) 1=291+v * 3+1:=by
 unfold sCell lField;rw [if_neg (by omega),show (256+v) % 256=v by omega,if_pos (by omega)]
theorem QhI {p h:Int} (hp:0 <= p /\ p <= 1048575) (hh:256 <= h /\ h <= 262143):bare (wordN p h)=h /\ 0 <= wordN p h /\ wordN p h <= bigW:=by
 have hw:OkWord p h:=⟨hp.1,hp.2,.inl hh⟩;unfold wordN bare bigW;rw [if_pos hw,Q9 (by omega)]
 omega
theorem Qk2 (p h:Int):0 <= wordN p h /\ wordN p h <= bigW:=by
 have:=QmF p h;unfold bigW;omega
theorem QqK {w:Int}:0 <= bare w /\ bare w <= bigW:=by
 unfold bare bigW;have:=QcJ w;omega
theorem atLd {ds:List HD} {n p m c g:Int} {r:List Int} (hc:0 <= c /\ c <= 770) (hg:0 <= g /\ g <= bigW):AtH ds n (naLd p m r c g).a:=⟨rfl,hg.1,hg.2,.inl ⟨rfl,rfl,rfl,rfl,hc.1,hc.2⟩⟩
theorem atCs {ds:List HD} {n p m c b v g:Int} {r:List Int} (hc:0 <= c /\ c <= 770) (hb:-1 <= b /\ b <= bigW) (hv:0 <= v /\ v <= bigW) (hg:0 <= g /\ g <= bigW) (ty:TyH ds (n+1) c v):AtH ds n (naCs p m r c b v g).a :=
 ⟨rfl,hg.1,hg.2,.inr (.inl ⟨rfl,rfl,hc.1,hc.2,hb.1,hb.2,hv.1,hv.2,ty⟩)⟩
theorem g00:(0:Int) <= 0 /\ (0:Int) <= bigW:=by decide
def K68 (ds:List HD) (k:Int) (r got:List Int):Prop:=k=0 /\ got=[] \/ ∃ x,got=[x] /\ 1 <= k /\ k <= 7 /\ 0 <= x /\ x <= bigW /\ (k=1->1 <= x /\ x <= 1048576) /\ (k=2->x <= 1048575) /\
 (2 <= k->1 <= r.getD 2 0 /\ r.getD 2 0 <= 1048576) /\ (3 <= k->r.getD 2 0 <= 1048575)
def R68 (ds:List HD) (k:Int) (r got:List Int):Prop:=bnd r /\ (2 <= r.getD 0 0 /\ r.getD 0 0 <= 8) /\ OkH ds (r.getD 1 0) /\ K68 ds k r got
def EndI (l:List Int):Prop:=(∃ t,l=[0,t] /\ 1 <= t /\ t <= 1048575) \/ ∃ e,l=[e]
theorem R68.ok {ds:List HD} (hs:ds.length <= 16) {k:Int} {r got:List Int} (h:R68 ds k r got) (own:Bool):okHp own ⟨68,k,r⟩ got:=by
 obtain ⟨⟨h1,h2⟩,h3,h4,h5⟩:=h;unfold OkH at h4;refine ⟨h1,h2,.inl ⟨rfl,?_⟩⟩;rcases h5 with h | ⟨x,e,a1,a2,a3,a4,a5,a6,a7,a8⟩
 · exact .inl h
 · exact .inr ⟨x,e,a1,a2,a3,a4,fun q=>by have:=a6 q;omega,fun q=>by have:=a7 q;show 0 <= r.getD 2 0 /\ r.getD 2 0 <= 1048576;omega,h3.1,h3.2,h4.1,by show r.getD 1 0 <= 300;omega⟩
theorem RsH.big {ds:List HD} {n:Int} {A:Qb} {x:Int} (h:RsH ds n A x) (ha:A.kind=2):0 <= x /\ x <= bigW:=by
 rcases h with ⟨q,_⟩ | ⟨_,q⟩ | ⟨q,_⟩
 · omega
 · unfold bigW;omega
 · omega
theorem RsH.ty {ds:List HD} {n:Int} {A:Qb} {x:Int} (h:RsH ds n A x) (ha:A.kind=0):TyH ds n A.a x:=by
 rcases h with ⟨_,q⟩ | ⟨q,_⟩ | ⟨q,_⟩
 · exact q
 · omega
 · omega
theorem ins_step {ds:List HD} {n k:Int} {r got:List Int} (h:R68 ds k r got) (hs:ds.length <= 16) :
 ((nIns k r (got.headD 0)).a.kind=7 /\ nIns k r (got.headD 0)=naEn 68 (nIns k r (got.headD 0)).f.at' (nIns k r (got.headD 0)).f.r (nIns k r (got.headD 0)).a.args true /\ EndI (nIns k r (got.headD 0)).a.args) \/
 (AtH ds n (nIns k r (got.headD 0)).a /\ (nIns k r (got.headD 0)).f.prog=68 /\ ∀ x,RsH ds n (nIns k r (got.headD 0)).a x->R68 ds (nIns k r (got.headD 0)).f.at' (nIns k r (got.headD 0)).f.r [x]):=by
 obtain ⟨hb,hw,hd,hK⟩:=h;have hl:=hb.1;have hd':=hd;unfold OkH at hd';have big1:(1048576:Int) <= bigW:=by decide
 have tl:AtH ds n (naLd 68 1 r 1 0).a /\ (naLd 68 1 r 1 0).f.prog=68 /\ ∀ x,RsH ds n (naLd 68 1 r 1 0).a x->R68 ds 1 r [x]:=by
  refine ⟨atLd (by decide) g00,rfl,fun x hx=>?_⟩
  have:=(hx.ty rfl).t1 rfl;exact ⟨hb,hw,hd,.inr ⟨x,rfl,by decide,by decide,by omega,by omega,fun _=>this,fun q=>absurd q (by decide),fun q=>absurd q (by decide),fun q=>absurd q (by decide)⟩⟩
 have on:∀ m:Int,m=5 \/ m=7 -> ∀ r':List Int,bnd r'->r'.getD 0 0=r.getD 0 0->r'.getD 1 0=r.getD 1 0->r'.getD 2 0=r.getD 2 0->1 <= r.getD 2 0->r.getD 2 0 <= 1048575 ->
  AtH ds n (naCs 68 m r' 1 (r.getD 2 0) (r.getD 2 0+1) 0).a /\ (naCs 68 m r' 1 (r.getD 2 0) (r.getD 2 0+1) 0).f.prog=68 /\ ∀ x,RsH ds n (naCs 68 m r' 1 (r.getD 2 0) (r.getD 2 0+1) 0).a x->R68 ds m r' [x]:=fun m hm r' b' e0 e1 e2 g1 g2=>by
  refine ⟨atCs (by decide) (by omega) (by omega) g00 (QqG hs (by omega)),rfl,fun x hx=>?_⟩
  · have hx:=hx.big rfl;exact ⟨b',by rw [e0];exact hw,by rw [e1];exact hd,.inr ⟨x,rfl,by omega,by omega,hx.1,hx.2,fun q=>by omega,fun q=>by omega,fun _=>by rw [e2];omega,fun _=>by rw [e2];omega⟩⟩
 rcases hK with ⟨rfl,rfl⟩ | ⟨x,rfl,k1,k7,x0,x1,y1,y2,y3,y4⟩
 · exact .inr tl
 simp only [List.headD_cons];have ks:k=1 \/ k=2 \/ k=3 \/ k=4 \/ k=5 \/ k=6 \/ k=7:=by omega
 rcases ks with rfl | rfl | rfl | rfl | rfl | rfl | rfl
 · have e:nIns 1 r x=naLd 68 2 (r.set 2 x) 0 0:=rfl;have y:=y1 rfl;rw [e];refine .inr ⟨atLd (by decide) g00,rfl,fun z hz=>?_⟩
   have hz:=(hz.ty rfl).t0 rfl;refine (⟨hb.set 2 x1,?_,?_,.inr ⟨z,rfl,by decide,by decide,hz.1,by omega,fun q=>absurd q (by decide),fun _=>hz.2,fun _=>?_,fun q=>absurd q (by decide)⟩⟩:R68 ds 2 (r.set 2 x) [z])
   · rw [Qa (by decide)];exact hw
   · rw [Qa (by decide)];exact hd
   · rw [Qd (by omega)];exact y
 · have e:nIns 2 r x=if x+r.getD 0 0 < r.getD 2 0 then naEn 68 2 r [170] true else if 1048575 < r.getD 2 0 then naEn 68 2 r [172] true else naLd 68 3 r 4 0:=rfl
   have y:=y3 (by decide)
   rw [e]
   split
   · exact .inl ⟨rfl,rfl,.inr ⟨170,rfl⟩⟩
   · split
     · exact .inl ⟨rfl,rfl,.inr ⟨172,rfl⟩⟩
     · refine .inr ⟨atLd (by decide) g00,rfl,fun z hz=>?_⟩
       have hz:=(hz.ty rfl).t2 (by show (2:Int) <= 4;decide) (by show (4:Int) <= 12;decide)
       exact (⟨hb,hw,hd,.inr ⟨z,rfl,by decide,by decide,hz.1,hz.2,fun q=>absurd q (by decide),fun q=>absurd q (by decide),fun _=>y,fun _=>by omega⟩⟩:R68 ds 3 r [z])
 · have e:nIns 3 r x=if x < r.getD 2 0 - 32 then naEn 68 3 r [171] true else naLd 68 4 r (lRing (r.getD 2 0) (r.getD 0 0)) 0:=rfl
   have y:=y3 (by decide)
   have y':=y4 (by decide)
   rw [e]
   split
   · exact .inl ⟨rfl,rfl,.inr ⟨171,rfl⟩⟩
   · have hr:=Qby (p:=r.getD 2 0) (by omega) hw
     refine .inr ⟨atLd (by omega) g00,rfl,fun z hz=>?_⟩
     · have hz:=((hz.ty rfl).t3 (by show 13 <= lRing (r.getD 2 0) (r.getD 0 0);omega) (by show lRing (r.getD 2 0) (r.getD 0 0) <= 20;omega)).1
       exact (⟨hb,hw,hd,.inr ⟨z,rfl,by decide,by decide,hz.1,hz.2,fun q=>absurd q (by decide),fun q=>absurd q (by decide),fun _=>y,fun _=>y'⟩⟩:R68 ds 4 r [z])
 · have e:nIns 4 r x=if plc x=r.getD 2 0 then naCs 68 5 (r.set 3 x) 1 (r.getD 2 0) (r.getD 2 0+1) 0 else if r.getD 2 0 < plc x then naLd 68 1 (r.set 3 x) 1 0
    else naCs 68 6 (r.set 3 x) (lRing (r.getD 2 0) (r.getD 0 0)) x (wordN (r.getD 2 0) (r.getD 1 0)) 0:=rfl
   have y:=y3 (by decide)
   have y':=y4 (by decide)
   have b3:=hb.set 3 x1;have g0:(r.set 3 x).getD 0 0=r.getD 0 0:=Qa (by decide)
   have g1:(r.set 3 x).getD 1 0=r.getD 1 0:=Qa (by decide)
   have g2:(r.set 3 x).getD 2 0=r.getD 2 0:=Qa (by decide)
   rw [e]
   split
   · exact .inr (on 5 (.inl rfl) _ b3 g0 g1 g2 (by omega) y')
   · split
     · refine .inr ⟨atLd (by decide) g00,rfl,fun z hz=>?_⟩
       have hz:=(hz.ty rfl).t1 rfl;exact (⟨b3,by rw [g0];exact hw,by rw [g1];exact hd,.inr ⟨z,rfl,by decide,by decide,by omega,by omega,fun _=>hz,fun q=>absurd q (by decide),fun q=>absurd q (by decide),fun q=>absurd q (by decide)⟩⟩:R68 ds 1 (r.set 3 x) [z])
     · have hr:=Qby (p:=r.getD 2 0) (by omega) hw
       have hwN:=QhI (p:=r.getD 2 0) (h:=r.getD 1 0) (by omega) (by omega)
       refine .inr ⟨atCs (by omega) ⟨by omega,x1⟩ hwN.2 g00 (QqH hs (by omega) ?_),rfl,fun z hz=>?_⟩
       · refine ⟨hwN.2,.inr ?_⟩;show OkH ds (bare (wordN (r.getD 2 0) (r.getD 1 0)));rw [hwN.1];exact hd
       · have hz:=hz.big rfl;exact (⟨b3,by rw [g0];exact hw,by rw [g1];exact hd,.inr ⟨z,rfl,by decide,by decide,hz.1,hz.2,fun q=>absurd q (by decide),fun q=>absurd q (by decide),fun _=>by rw [g2];exact y,fun _=>by rw [g2];exact y'⟩⟩:R68 ds 6 (r.set 3 x) [z])
 · exact .inr tl
 · have e:nIns 6 r x=if x=0 then naLd 68 1 r 1 0 else naCs 68 7 r 1 (r.getD 2 0) (r.getD 2 0+1) 0:=rfl
   have y:=y3 (by decide)
   have y':=y4 (by decide)
   rw [e]
   split
   · exact .inr tl
   · exact .inr (on 7 (.inr rfl) r hb rfl rfl rfl (by omega) y')
 · have y:=y3 (by decide)
   have y':=y4 (by decide)
   exact .inl ⟨rfl,rfl,.inl ⟨r.getD 2 0,rfl,y.1,y'⟩⟩
def K73 (k:Int) (r got:List Int):Prop:=k=0 /\ got=[] \/ ∃ x,got=[x] /\ 1 <= k /\ k <= 3 /\ 0 <= x /\ x <= bigW /\ (k=2->0 <= r.getD 3 0 /\ r.getD 3 0 <= bigW)
def R73 (k:Int) (r got:List Int):Prop:=bnd r /\ (0 <= r.getD 2 0 /\ r.getD 2 0 <= 23) /\ (256 <= r.getD 1 0 /\ r.getD 1 0 < 316) /\ K73 k r got
theorem R73.ok {k:Int} {r got:List Int} (h:R73 k r got) (own:Bool):okHp own ⟨73,k,r⟩ got:=by
 obtain ⟨⟨h1,h2⟩,h3,h4,h5⟩:=h;refine ⟨h1,h2,.inr (.inl ⟨rfl,h3.1,h3.2,?_⟩)⟩;rcases h5 with h | ⟨x,e,a1,a2,a3,a4,a5⟩
 · exact .inl h
 · exact .inr ⟨x,e,a1,a2,a3,a4,h4.1,by show r.getD 1 0 <= 400;omega⟩
theorem inr_step {ds:List HD} {n k:Int} {r got:List Int} (h:R73 k r got) (hs:ds.length <= 16) :
 ((nInr false k r (got.headD 0)).a=⟨7,0,0,0,0,[],[]⟩ /\ (nInr true k r (got.headD 0)).a=⟨7,0,0,0,0,[],[]⟩ /\ k ≠ 0) \/
 (nInr true k r (got.headD 0)=nInr false k r (got.headD 0) /\ AtH ds n (nInr false k r (got.headD 0)).a /\ (nInr false k r (got.headD 0)).f.prog=73 /\ ∀ x,RsH ds n (nInr false k r (got.headD 0)).a x->R73 (nInr false k r (got.headD 0)).f.at' (nInr false k r (got.headD 0)).f.r [x]):=by
 obtain ⟨hb,hk,hn,hK⟩:=h;have hl:=hb.1;have hrow:lRow 21 (r.getD 2 0) 24=21+r.getD 2 0:=QbU hk.1 (by omega)
 rcases hK with ⟨rfl,rfl⟩ | ⟨x,rfl,k1,k3,x0,x1,y⟩
 · have e:∀ own,nInr own 0 r (([]:List Int).headD 0)=naLd 73 1 r (lRow 21 (r.getD 2 0) 24) 0:=fun own=>by
    show (if lRow 21 (r.getD 2 0) 24 < 0 then _ else _)=_
    rw [if_neg (by omega)]
   rw [e,e];refine .inr ⟨rfl,atLd (by omega) g00,rfl,fun z hz=>?_⟩
   · have hz:=(hz.ty rfl).t4 (by show 21 <= lRow 21 (r.getD 2 0) 24;omega) (by show lRow 21 (r.getD 2 0) 24 <= 44;omega)
     exact (⟨hb,hk,hn,.inr ⟨z,rfl,by decide,by decide,hz.1,hz.2,fun q=>absurd q (by decide)⟩⟩:R73 1 r [z])
 simp only [List.headD_cons];have ks:k=1 \/ k=2 \/ k=3:=by omega
 rcases ks with rfl | rfl | rfl
 · have e:∀ own,nInr own 1 r x=if sCell (r.getD 1 0) 1 < 0 \/ r.getD 0 0 <= plc (max x 0) then naEn 73 (bif own then 99 else 1) (r.set 3 (max x 0)) [] true
    else naCs 73 2 (r.set 3 (max x 0)) (sCell (r.getD 1 0) 1) (-1) (max x 0) (r.getD 1 0):=fun own=>rfl
   have hc:sCell (r.getD 1 0) 1=291+(r.getD 1 0 - 256) * 3+1:=by
    have:=QnN (v:=r.getD 1 0 - 256) (by omega) (by omega)
    rwa [show 256+(r.getD 1 0 - 256)=r.getD 1 0 by omega] at this
   have mx:max x 0=x:=by omega
   rw [e,e,mx]
   split
   · exact .inl ⟨rfl,rfl,by decide⟩
   · refine .inr ⟨rfl,atCs (by omega) (by decide) ⟨x0,x1⟩ ⟨by omega,by unfold bigW;omega⟩ (Qk1 hs (by omega)),rfl,fun z hz=>?_⟩
     · have hz:=hz.big rfl;refine (⟨hb.set 3 x1,?_,?_,.inr ⟨z,rfl,by decide,by decide,hz.1,hz.2,fun _=>?_⟩⟩:R73 2 (r.set 3 x) [z])
       · rw [Qa (by decide)];exact hk
       · rw [Qa (by decide)];exact hn
       · rw [Qd (by omega)];exact ⟨x0,x1⟩
 · have e:∀ own,nInr own 2 r x=naCs 73 3 r (lRow 21 (r.getD 2 0) 24) (r.getD 3 0) (wordN (r.getD 0 0) (r.getD 1 0)) 0:=fun own=>rfl;have y:=y rfl;have hw:=Qk2 (r.getD 0 0) (r.getD 1 0);rw [e,e];refine .inr ⟨rfl,atCs (by omega) ⟨by omega,y.2⟩ hw g00 (QqI hs (by omega) hw),rfl,fun z hz=>?_⟩
   · have hz:=hz.big rfl;exact (⟨hb,hk,hn,.inr ⟨z,rfl,by decide,by decide,hz.1,hz.2,fun q=>absurd q (by decide)⟩⟩:R73 3 r [z])
 · exact .inl ⟨rfl,rfl,by decide⟩
end Go.Ev
