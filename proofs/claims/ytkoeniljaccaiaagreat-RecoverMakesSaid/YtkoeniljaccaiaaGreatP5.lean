/-
  A part of the proof of a statement of this seat: the model is run over values by content, proved sound; what the functions come to. No condition beyond the given statements. (text 6)
-/
import Derived.Test.YtkoeniljaccaiaaGreatP4
import Derived.OpenShut
import Derived.ReadAgain
namespace Go.Ev
open Go.Proofs
set_option maxRecDepth 100000
set_option linter.unusedVariables false
set_option linter.unusedSimpArgs false
def stV (s:St):D RC:=.acons (.int .i64 s.place) (.acons (.sl (C:=RC) .item false s.items) (.acons (.acons (.sl (C:=RC) .line false s.l0) (.acons (.sl (C:=RC) .line false s.l1) (.acons (.sl (C:=RC) .line false s.l2) .anil))) (.acons (.arr (C:=RC) .int 3 [s.c0,s.c1,s.c2]) .anil)))
theorem Vk {a:Nat} (h:((a:Int) != 771)=false):a=771:=by
 have:((a:Int))=771:=by simpa using h
 omega
def Qbk (cs:List Int) (q o i:Int) (n:Nat):Prop:=cs.length=771 /\ rngI cs=true /\ 0 <= q /\ q <= 2 /\ 0 <= o /\ o <= 4194304 /\ max 0 (o - 16) - 1 <= i /\ i <= o - 1 /\ (n:Int) <= 1000
structure Qm4 where
 l:List Line
 i:Nat
 j:Int
noncomputable def Qer (l:List Line) (i:Nat) (j:Int):Env RC:=[(0,.vs 0 (l.length)),(2,.int .i64 (i:Int)),(3,.int .i64 j)]
def K8 (l:List Line) (i:Nat) (j:Int):List (Obj RC):=[.vec .line true l]
noncomputable def QpY (l:List Line) (i:Nat) (j:Int):=rndO s28 un_3 132 1 60 1 [0,2,3] [] [.slot 0 0] (Qer l i j) (K8 l i j)
theorem Qrt (l:List Line) (i:Nat) (j:Int):QpY l i j=(let Z0:Int:=(↑i:Int);let Z1:Nat:=List.length l;let Z2:Bool:=Nat.beq Z1 Z1;let Z3:Bool:=Z2 && decide ((0:Int) <= Z0 /\ Z0 < (↑Z1:Int));let Z4:Line:=Line.mk (0:Int) (0:Int) (0:Int) (0:Int) (0:Int);let Z5:Line:=List.getD l j.toNat Z4;let Z6:List Line:=List.set l Z0.toNat (Line.mk (Line.offset Z5) (Line.place Z5) (Line.j Z5) (Line.key Z5) (Line.value Z5));let Z7:Bool:=Nat.beq Z1 Z6.length;let Z8:Line:=List.getD l Z0.toNat Z4;bif decide (Z0 < j) then bif Z2 && decide ((0:Int) <= j /\ j < (↑Z1:Int)) then bif Z2 then bif Z3 then bif Z2 then bif Z3 then bif Z2 then bif Z7 && decide ((0:Int) <= j /\ j < (↑Z6.length:Int)) then bif Z7 then some ((X.normal,[(0,D.vs 0 Z1),(2,D.int .i64 (IntKind.wrap .i64 (Z0+(1:Int)))),(3,D.int .i64 (IntKind.wrap .i64 (j - (1:Int))))]),[some (Obj.vec RTy.line true (List.set Z6 j.toNat (Line.mk (Line.offset Z8) (Line.place Z8) (Line.j Z8) (Line.key Z8) (Line.value Z8))))]) else none else none else none else none else none else none else none else none else some ((X.exit (0:Nat),[]),[some (Obj.vec RTy.line true l)])):=by kernel_rfl
noncomputable def Kn (l:List Line) (i:Nat) (j:Int):RT RC:=.leaf (.exit 0) [] (K8 (revM l i) i j)
def Ko (l:List Line) (i:Nat) (j:Int):Prop:=l.length <= 1000 /\ j=(l.length:Int) - 1 - i
noncomputable def K9:QF RC Qm4 where
 k:=1
 canon q:=Qer q.l q.i q.j
 objs q:=K8 q.l q.i q.j
 fin q:=Kn q.l q.i q.j
 Inv q:=Ko q.l q.i q.j
 μ q:=q.l.length - q.i
theorem QiQ (l:List Line) (i:Nat) (j:Int) (hI:Ko l i j):Leaf (QpY l i j) (LedR K9 ⟨l,i,j⟩):=by
 (rw [Qrt];conv=>zeta)
 unfold Ko at hI;obtain ⟨h1,rfl⟩:=hI;have leta:∀ l:Line,Line.mk l.offset l.place l.j l.key l.value=l:=fun _=>rfl;have t2:(i:Int).toNat=i:=by simp
 simp only [leta,t2]
 by_cases hlt:2 * i+1 < l.length
 · have d1:decide ((i:Int) < (l.length:Int) - 1 - i)=true:=decide_eq_true (by omega)
   have t1:((l.length:Int) - 1 - i).toNat=l.length - 1 - i:=by omega
   have d2:decide (0 <= (l.length:Int) - 1 - i /\ (l.length:Int) - 1 - i < (l.length:Int))=true:=decide_eq_true ⟨by omega,by omega⟩
   have d3:decide (0 <= (i:Int) /\ (i:Int) < (l.length:Int))=true:=decide_eq_true ⟨by omega,by omega⟩
   have w1:IntKind.i64.wrap ((i:Int)+1)=((i+1:Nat):Int):=by rw [wrap_id (by omega) (by omega)];simp
   have w2:IntKind.i64.wrap ((l.length:Int) - 1 - i - 1)=(l.length:Int) - 1 - ((i+1:Nat):Int):=by rw [wrap_id (by omega) (by omega)];omega
   simp only [d1,d2,d3,t1,w1,w2,Vd rfl,List.length_set,Bool.and_self,Bool.true_and,cond_true];have hs:=Qm0 hlt;have hl:((l.set i (l.getD (l.length - 1 - i) ln0)).set (l.length - 1 - i) (l.getD i ln0)).length=l.length:=by simp
   refine Qt (S:=K9) (s:=⟨l,i,(l.length:Int) - 1 - i⟩) ⟨(l.set i (l.getD (l.length - 1 - i) ln0)).set (l.length - 1 - i) (l.getD i ln0),i+1,(l.length:Int) - 1 - ((i+1:Nat):Int)⟩ ⟨by rw [hl];exact h1,by rw [hl]⟩ (by simp only [K9,hl];omega) ?_ ?_ rfl
   · show (Kn _ (i+1) _).val=(Kn l i _).val;unfold Kn K8;rw [hs]
   · show _=Qer _ (i+1) _;unfold Qer;rw [hl]
 · have d1:decide ((i:Int) < (l.length:Int) - 1 - i)=false:=decide_eq_false (by omega)
   simp only [d1,cond_false];exact Qi (S:=K9) (s:=⟨l,i,(l.length:Int) - 1 - i⟩) (K8 (revM l i) i ((l.length:Int) - 1 - i)) rfl (by unfold K8;rw [Qo4 (by omega)];rfl)
noncomputable def Qm5 (env:Env RC) (os:List (Obj RC)):Option (Bool × Qm4):=match env,os with
 | [(0,.vs 0 x0),(2,.int .i64 x1),(3,.int .i64 j)],[.vec .line true l]=>Qz (true) (decide (x0=l.length) && decide (x1=0) && decide (l.length <= 1000 /\ j=(l.length:Int) - 1),⟨l,0,j⟩)
 | _,_=>none
noncomputable def uo_1:=un_3.addLoop 132 1 (sumR s28 [.slot 0 0] [0,2,3] K9 Qm5)
theorem Qm6:Qh Tryz.prog s28 uo_1:=by
 refine QmX.addRoundsR Qc (by kernel_rfl) K9 60 [0,2,3] [] [.slot 0 0] [0,2,3] Qm5 (fun q hI=>?_) ?_
 · obtain ⟨l,i,j⟩:=q;refine ⟨?_,?_,QiQ l i j hI⟩
   · simp_all [Qk,K9,Qer,K8,Ko,D.refs,Obj.refs,rEnc]
   · simp_all [K9,Kn,K8,Ko,RT.refsOK,Qk,D.refs,Obj.refs,rEnc]
 · intro env os b q hd_ hb;unfold Qm5 at hd_
   split at hd_
   · obtain ⟨hs,hd_⟩:=Qg hd_;cases hd_;simp only [Bool.and_eq_true,decide_eq_true_eq] at hb;obtain ⟨⟨e0,e1⟩,e2,e3⟩:=hb;subst e0;subst e1;exact ⟨⟨e2,by rw [e3];simp⟩,rfl,rfl⟩
   · cases hd_
structure Qm7 where
 l:List Line
def Qm8 (l:List Line):List (D RC):=[.vs 0 (l.length)]
def Qa2 (l:List Line):List (Obj RC):=[.vec .line true l]
noncomputable def QpZ (l:List Line):=fnO s28 uo_1 132 60 1 (Qm8 l) (Qa2 l)
theorem Qru (l:List Line):QpZ l=(let Z0:Nat:=List.length l;let Z1:Int:=(↑Z0:Int) - (1:Int);bif Qd Z0 then bif decide (Z0=Z0) && true && decide (Z0 <= (1000:Nat) /\ IntKind.wrap .i64 Z1=Z1) then some (D.tup .anil,[some (Obj.vec RTy.line true (revM l (0:Nat)))]) else none else none):=by kernel_rfl
noncomputable def Qhm (l:List Line):RT RC:=.leaf .ret [(0,.tup .anil)] (Qa2 l.reverse)
def QcH (l:List Line):Prop:=l.length <= 1000
noncomputable def QbZ:FunR RC Qm7 where
 k:=1
 args q:=Qm8 q.l
 objs q:=Qa2 q.l
 fin q:=Qhm q.l
 Inv q:=QcH q.l
theorem Qrv (l:List Line) (hI:QcH l):Leaf (QpZ l) (LedF QbZ ⟨l⟩):=by
 (rw [Qru];conv=>zeta)
 unfold QcH at hI;have l1:Qd l.length=true:=Ql (by omega)
 have w1:IntKind.i64.wrap ((l.length:Int) - 1)=(l.length:Int) - 1:=wrap_id (by omega) (by omega)
 have d1:decide (l.length <= 1000 /\ True)=true:=decide_eq_true ⟨hI,trivial⟩;simp only [l1,w1,d1,decide_true,Bool.and_self,cond_true];exact QsG (S:=QbZ) (s:=⟨l⟩) (Qa2 l.reverse) rfl (by unfold Qa2;rw [QmZ];rfl)
noncomputable def Qm9 (env:Env RC) (os:List (Obj RC)):Option (Bool × Qm7):=match env,os with
 | [(0,.vs 0 x0)],[.vec .line true l]=>Qz (true) (decide (x0=l.length) && decide (l.length <= 1000),⟨l⟩)
 | _,_=>none
noncomputable def uo_2:=uo_1.addObj 132 (sumF s28 [.slot 0 0] 1 QbZ Qm9)
theorem Qna:Qh Tryz.prog s28 uo_2:=by
 refine Qm6.addFun Qc QbZ 60 1 [.slot 0 0] Qm9 (fun q hI=>?_) ?_
 · obtain ⟨l⟩:=q;refine ⟨?_,?_,rfl,Qrv l hI⟩
   · simp [Qk,QbZ,Qm8,Qa2,eargs,D.refs,Obj.refs]
   · simp [QbZ,Qhm,Qa2,RT.refsOK,Qk,D.refs,Obj.refs]
 · intro env os b q hd_ hb;unfold Qm9 at hd_
   split at hd_
   · obtain ⟨hs,hd_⟩:=Qg hd_;cases hd_
     try simp only [Bool.and_eq_true,decide_eq_true_eq] at hb
     obtain ⟨e0,e1⟩:=hb;subst e0;exact ⟨e1,rfl,rfl⟩
   · cases hd_
structure Qnb where
 fc:Bool
 cs:List Int
 nf:Bool
 now:List Qa
 sf:Bool
 sure:List Qa
 q:Int
 o:Int
 i:Int
 l:List Line
noncomputable def Qes (fc:Bool) (cs:List Int) (nf:Bool) (now:List Qa) (sf:Bool) (sure:List Qa) (q:Int) (o:Int) (i:Int) (l:List Line):Env RC:=[(1,.int .i64 q),(2,.ptr 0 []),(4,.vs 1 (l.length)),(5,.int .i64 o),(6,.int .i64 i)]
def Kq (fc:Bool) (cs:List Int) (nf:Bool) (now:List Qa) (sf:Bool) (sure:List Qa) (q:Int) (o:Int) (i:Int) (l:List Line):List (Obj RC):=[.var 41 (.acons (.sl (C:=RC) .int fc cs) (.acons (.acons (.sl (C:=RC) .sector nf now) (.acons (.sl (C:=RC) .sector sf sure) .anil)) .anil)),.vec .line true l]
noncomputable def Qp0 (fc:Bool) (cs:List Int) (nf:Bool) (now:List Qa) (sf:Bool) (sure:List Qa) (q:Int) (o:Int) (i:Int) (l:List Line):=rndO s28 uo_2 73 7 80 2 [1,2,4,5,6] [4] [.slot 2 0,.slot 4 0] (Qes fc cs nf now sf sure q o i l) (Kq fc cs nf now sf sure q o i l)
theorem Qrw (fc:Bool) (cs:List Int) (nf:Bool) (now:List Qa) (sf:Bool) (sure:List Qa) (q:Int) (o:Int) (i:Int) (l:List Line):Qp0 fc cs nf now sf sure q o i l=(let Z0:Int:=IntKind.wrap .i64 (o - (16:Int));let Z1:Int:=lStream q i;let Z2:Int:=List.getD cs Z1.toNat (0:Int);let Z3:Nat:=List.length l;let Z4:Option (Obj RC):=some (Obj.var 41 (.acons (D.sl RTy.int fc cs) (.acons (D.acons (D.sl RTy.sector nf now) (.acons (D.sl RTy.sector sf sure) .anil)) .anil)));let Z5:RO_:=some ((X.exit (0:Nat),[(4,D.vs 1 Z3)]),[Z4,some (Obj.vec RTy.line true l)]);let Z6:Line:=readO Z2;let Z7:List Line:=[Line.mk (Line.offset Z6) (Line.place Z6) (Line.j Z6) (Line.key Z6) (Line.value Z6)];bif decide ((if (0:Int) < Z0 then Z0 else (0:Int)) <= i) then bif decide ((0:Int) <= Z1 /\ Z1 < (↑cs.length:Int)) then bif decide (Z2 < (9223372036854775808:Int)) then bif !Option.isSome (YO Z2) then Z5 else bif Line.offset Z6 != i then Z5 else bif Nat.beq Z3 Z3 && QW (Z3+List.length Z7) (40:Nat) then some ((X.normal,[(1,D.int .i64 q),(2,D.ptr 0 []),(4,D.vs 1 (Z3+List.length Z7)),(5,D.int .i64 o),(6,D.int .i64 (IntKind.wrap .i64 (i - (1:Int))))]),[Z4,some (Obj.vec RTy.line true (l++Z7))]) else none else none else none else Z5):=by kernel_rfl
noncomputable def Yl (fc:Bool) (cs:List Int) (nf:Bool) (now:List Qa) (sf:Bool) (sure:List Qa) (q:Int) (o:Int) (i:Int) (l:List Line):RT RC:=.leaf (.exit 0) [(4,.vs 1 (l++lnD cs q (i+1 - max 0 (o - 16)).toNat i).length)] (Kq fc cs nf now sf sure q o i (l++lnD cs q (i+1 - max 0 (o - 16)).toNat i))
def Kr (fc:Bool) (cs:List Int) (nf:Bool) (now:List Qa) (sf:Bool) (sure:List Qa) (q:Int) (o:Int) (i:Int) (l:List Line):Prop:=Qbk cs q o i (l.length+(i+1 - max 0 (o - 16)).toNat)
noncomputable def Ju:QF RC Qnb where
 k:=2
 canon q:=Qes q.fc q.cs q.nf q.now q.sf q.sure q.q q.o q.i q.l
 objs q:=Kq q.fc q.cs q.nf q.now q.sf q.sure q.q q.o q.i q.l
 fin q:=Yl q.fc q.cs q.nf q.now q.sf q.sure q.q q.o q.i q.l
 Inv q:=Kr q.fc q.cs q.nf q.now q.sf q.sure q.q q.o q.i q.l
 μ q:=(q.i+1).toNat
theorem QiR (fc:Bool) (cs:List Int) (nf:Bool) (now:List Qa) (sf:Bool) (sure:List Qa) (q:Int) (o:Int) (i:Int) (l:List Line) (hI:Kr fc cs nf now sf sure q o i l):Leaf (Qp0 fc cs nf now sf sure q o i l) (LedR Ju ⟨fc,cs,nf,now,sf,sure,q,o,i,l⟩):=by
 (rw [Qrw];conv=>zeta)
 unfold Kr at hI;obtain ⟨hl,hc,q0,q2,o0,o1,i0,i1,n1⟩:=hI;have leta:∀ l:Line,Line.mk l.offset l.place l.j l.key l.value=l:=fun _=>rfl;have w0:IntKind.i64.wrap (o - 16)=o - 16:=wrap_id (by omega) (by omega)
 have e0:(if 0 < o - 16 then o - 16 else 0)=max 0 (o - 16):=by split <;> omega
 simp only [leta,w0,e0]
 by_cases hi:max 0 (o - 16) <= i
 · obtain ⟨m,hm⟩:∃ m,(i+1 - max 0 (o - 16)).toNat=m+1:=⟨(i - max 0 (o - 16)).toNat,by omega⟩
   have hm2:(i - 1+1 - max 0 (o - 16)).toNat=m:=by omega
   have hs:=QbW q0 q2 (show 0 <= i by omega)
   have d2:decide (0 <= lStream q i /\ lStream q i < (cs.length:Int))=true:=decide_eq_true ⟨by omega,by omega⟩
   have hv:=Qm1 hc (lStream q i).toNat;have w2:IntKind.i64.wrap (i - 1)=i - 1:=wrap_id (by omega) (by omega)
   have hD:lnD cs q (m+1) i=if (YO (cs.getD (lStream q i).toNat 0)).isSome=true /\ (readO (cs.getD (lStream q i).toNat 0)).offset=i then readO (cs.getD (lStream q i).toNat 0)::lnD cs q m (i - 1) else []:=rfl
   rw [hm] at n1
   have hfin:∀ L:List Line,l++lnD cs q (m+1) i=L->(Yl fc cs nf now sf sure q o i l).val=some ((.exit 0,[(4,.vs 1 L.length)]),Kq fc cs nf now sf sure q o i L):=fun L hL=>by
    unfold Yl;rw [hm,hL];rfl
   generalize cs.getD (lStream q i).toNat 0=v at *
   have d3:decide (v < 9223372036854775808)=true:=decide_eq_true (by omega)
   simp only [decide_eq_true hi,d2,d3,w2,cond_true];cases hs2:(YO v).isSome
   · simp only [Bool.not_false,cond_true];refine Qi (S:=Ju) (s:=⟨fc,cs,nf,now,sf,sure,q,o,i,l⟩) (Kq fc cs nf now sf sure q o i l) (hfin l ?_) rfl;rw [hD,if_neg (by rw [hs2];simp),List.append_nil]
   · by_cases ho:(readO v).offset=i
     · have d4:QW (l.length+[readO v].length) 40=true:=QqJ (by simp only [List.length_cons,List.length_nil];omega)
       simp only [Bool.not_true,QqI ho,Vd rfl,d4,Bool.and_self,cond_true,cond_false];refine Qt (S:=Ju) (s:=⟨fc,cs,nf,now,sf,sure,q,o,i,l⟩) ⟨fc,cs,nf,now,sf,sure,q,o,i - 1,l++[readO v]⟩ ?_ (by simp only [Ju];omega) ?_ ?_ rfl
       · show Qbk cs q o (i - 1) _;refine ⟨hl,hc,q0,q2,o0,o1,by omega,by omega,?_⟩
         show (((l++[readO v]).length+(i - 1+1 - max 0 (o - 16)).toNat:Nat):Int) <= 1000;rw [hm2];simp only [List.length_append,List.length_cons,List.length_nil];omega
       · show (Yl fc cs nf now sf sure q o (i - 1) (l++[readO v])).val=(Yl fc cs nf now sf sure q o i l).val;rw [hfin (l++[readO v]++lnD cs q m (i - 1)) (by rw [hD,if_pos ⟨hs2,ho⟩];simp)]
         unfold Yl;rw [hm2];rfl
       · show _=Qes fc cs nf now sf sure q o (i - 1) (l++[readO v]);unfold Qes;simp
     · simp only [Bool.not_true,QqH ho,cond_true,cond_false];refine Qi (S:=Ju) (s:=⟨fc,cs,nf,now,sf,sure,q,o,i,l⟩) (Kq fc cs nf now sf sure q o i l) (hfin l ?_) rfl;rw [hD,if_neg (fun q=>ho q.2),List.append_nil]
 · have hm:(i+1 - max 0 (o - 16)).toNat=0:=by omega
   simp only [decide_eq_false hi,cond_false];refine Qi (S:=Ju) (s:=⟨fc,cs,nf,now,sf,sure,q,o,i,l⟩) (Kq fc cs nf now sf sure q o i l) ?_ rfl;show (Yl fc cs nf now sf sure q o i l).val=_;unfold Yl;rw [hm,show lnD cs q 0 i=[] from rfl,List.append_nil];rfl
noncomputable def Qnc (env:Env RC) (os:List (Obj RC)):Option (Bool × Qnb):=match env,os with
 | [(1,.int .i64 q),(2,.ptr 0 []),(4,.vs 1 x0),(5,.int .i64 o),(6,.int .i64 i)],[.var 41 (.acons (.sl .int fc cs) (.acons (.acons (.sl .sector nf now) (.acons (.sl .sector sf sure) .anil)) .anil)),.vec .line true l]=>Qz (true) (decide (x0=l.length) && cdec (Qbk cs q o i (l.length+(i+1 - max 0 (o - 16)).toNat)),⟨fc,cs,nf,now,sf,sure,q,o,i,l⟩)
 | _,_=>none
noncomputable def uo_3:=uo_2.addLoop 73 7 (sumR s28 [.slot 2 0,.slot 4 0] [1,2,4,5,6] Ju Qnc)
theorem Qnd:Qh Tryz.prog s28 uo_3:=by
 refine Qna.addRoundsR Qc (by kernel_rfl) Ju 80 [1,2,4,5,6] [4] [.slot 2 0,.slot 4 0] [1,2,4,5,6] Qnc (fun q hI=>?_) ?_
 · obtain ⟨fc,cs,nf,now,sf,sure,q,o,i,l⟩:=q;refine ⟨?_,?_,QiR fc cs nf now sf sure q o i l hI⟩
   · simp_all [Qk,Ju,Qes,Kq,Kr,D.refs,Obj.refs,rEnc]
   · simp_all [Ju,Yl,Kq,Kr,RT.refsOK,Qk,D.refs,Obj.refs,rEnc]
 · intro env os b q hd_ hb;unfold Qnc at hd_
   split at hd_
   · obtain ⟨hs,hd_⟩:=Qg hd_;cases hd_;simp only [Bool.and_eq_true,decide_eq_true_eq] at hb;obtain ⟨e0,e1⟩:=hb;subst e0;exact ⟨Yj.1 e1,rfl,rfl⟩
   · cases hd_
structure Qne where
 fc:Bool
 cs:List Int
 nf:Bool
 now:List Qa
 sf:Bool
 sure:List Qa
 q:Int
 o:Int
 i:Int
 w:Bool
 l:List Line
noncomputable def Qet (fc:Bool) (cs:List Int) (nf:Bool) (now:List Qa) (sf:Bool) (sure:List Qa) (q:Int) (o:Int) (i:Int) (w:Bool) (l:List Line):Env RC:=[(1,.int .i64 q),(2,.ptr 0 []),(5,.int .i64 o),(6,.vs 1 (l.length)),(7,.int .i64 i)]
def Jv (fc:Bool) (cs:List Int) (nf:Bool) (now:List Qa) (sf:Bool) (sure:List Qa) (q:Int) (o:Int) (i:Int) (w:Bool) (l:List Line):List (Obj RC):=[.var 41 (.acons (.sl (C:=RC) .int fc cs) (.acons (.acons (.sl (C:=RC) .sector nf now) (.acons (.sl (C:=RC) .sector sf sure) .anil)) .anil)),.vec .line w l]
noncomputable def Qp1 (fc:Bool) (cs:List Int) (nf:Bool) (now:List Qa) (sf:Bool) (sure:List Qa) (q:Int) (o:Int) (i:Int) (w:Bool) (l:List Line):=rndO s28 uo_3 76 8 80 2 [1,2,5,6,7] [6] [.slot 2 0,.slot 6 0] (Qet fc cs nf now sf sure q o i w l) (Jv fc cs nf now sf sure q o i w l)
theorem Qrx (fc:Bool) (cs:List Int) (nf:Bool) (now:List Qa) (sf:Bool) (sure:List Qa) (q:Int) (o:Int) (i:Int) (w:Bool) (l:List Line):Qp1 fc cs nf now sf sure q o i w l=(let Z0:Int:=lStream q i;let Z1:Int:=List.getD cs Z0.toNat (0:Int);let Z2:Nat:=List.length l;let Z3:Option (Obj RC):=some (Obj.var 41 (.acons (D.sl RTy.int fc cs) (.acons (D.acons (D.sl RTy.sector nf now) (.acons (D.sl RTy.sector sf sure) .anil)) .anil)));let Z4:RO_:=some ((X.exit (0:Nat),[(6,D.vs 1 Z2)]),[Z3,some (Obj.vec RTy.line w l)]);let Z5:Line:=readO Z1;let Z6:List Line:=[Line.mk (Line.offset Z5) (Line.place Z5) (Line.j Z5) (Line.key Z5) (Line.value Z5)];bif decide ((0:Int) <= i) then bif decide (IntKind.wrap .i64 (o - (16:Int)) <= i) then bif decide ((0:Int) <= Z0 /\ Z0 < (↑cs.length:Int)) then bif decide (Z1 < (9223372036854775808:Int)) then bif !Option.isSome (YO Z1) then Z4 else bif Line.offset Z5 != i then Z4 else bif Nat.beq Z2 Z2 then bif QW (List.length Z6+Z2) (40:Nat) then bif Nat.blt Z2 (Z6++l).length then some ((X.normal,[(1,D.int .i64 q),(2,D.ptr 0 []),(5,D.int .i64 o),(6,D.vs 1 (List.length Z6+Z2)),(7,D.int .i64 (IntKind.wrap .i64 (i - (1:Int))))]),[Z3,some (Obj.vec RTy.line (List.isEmpty Z6) (Z6++l))]) else none else none else none else none else none else Z4 else Z4):=by kernel_rfl
noncomputable def Ym (fc:Bool) (cs:List Int) (nf:Bool) (now:List Qa) (sf:Bool) (sure:List Qa) (q:Int) (o:Int) (i:Int) (w:Bool) (l:List Line):RT RC:=.leaf (.exit 0) [(6,.vs 1 ((lnD cs q (i+1 - max 0 (o - 16)).toNat i).reverse++l).length)] (Jv fc cs nf now sf sure q o i (bif (lnD cs q (i+1 - max 0 (o - 16)).toNat i).isEmpty then w else false) ((lnD cs q (i+1 - max 0 (o - 16)).toNat i).reverse++l))
def Ks (fc:Bool) (cs:List Int) (nf:Bool) (now:List Qa) (sf:Bool) (sure:List Qa) (q:Int) (o:Int) (i:Int) (w:Bool) (l:List Line):Prop:=Qbk cs q o i (l.length+(i+1 - max 0 (o - 16)).toNat)
noncomputable def V3:QF RC Qne where
 k:=2
 canon q:=Qet q.fc q.cs q.nf q.now q.sf q.sure q.q q.o q.i q.w q.l
 objs q:=Jv q.fc q.cs q.nf q.now q.sf q.sure q.q q.o q.i q.w q.l
 fin q:=Ym q.fc q.cs q.nf q.now q.sf q.sure q.q q.o q.i q.w q.l
 Inv q:=Ks q.fc q.cs q.nf q.now q.sf q.sure q.q q.o q.i q.w q.l
 μ q:=(q.i+1).toNat
theorem QiS (fc:Bool) (cs:List Int) (nf:Bool) (now:List Qa) (sf:Bool) (sure:List Qa) (q:Int) (o:Int) (i:Int) (w:Bool) (l:List Line) (hI:Ks fc cs nf now sf sure q o i w l):Leaf (Qp1 fc cs nf now sf sure q o i w l) (LedR V3 ⟨fc,cs,nf,now,sf,sure,q,o,i,w,l⟩):=by
 (rw [Qrx];conv=>zeta)
 unfold Ks at hI;obtain ⟨hl,hc,q0,q2,o0,o1,i0,i1,n1⟩:=hI;have leta:∀ l:Line,Line.mk l.offset l.place l.j l.key l.value=l:=fun _=>rfl;have w0:IntKind.i64.wrap (o - 16)=o - 16:=wrap_id (by omega) (by omega)
 simp only [leta,w0]
 by_cases hi:max 0 (o - 16) <= i
 · obtain ⟨m,hm⟩:∃ m,(i+1 - max 0 (o - 16)).toNat=m+1:=⟨(i - max 0 (o - 16)).toNat,by omega⟩
   have hm2:(i - 1+1 - max 0 (o - 16)).toNat=m:=by omega
   have hs:=QbW q0 q2 (show 0 <= i by omega)
   have d2:decide (0 <= lStream q i /\ lStream q i < (cs.length:Int))=true:=decide_eq_true ⟨by omega,by omega⟩
   have hv:=Qm1 hc (lStream q i).toNat;have w2:IntKind.i64.wrap (i - 1)=i - 1:=wrap_id (by omega) (by omega)
   have c1:decide (0 <= i)=true:=decide_eq_true (by omega)
   have c2:decide (o - 16 <= i)=true:=decide_eq_true (by omega)
   have hD:lnD cs q (m+1) i=if (YO (cs.getD (lStream q i).toNat 0)).isSome=true /\ (readO (cs.getD (lStream q i).toNat 0)).offset=i then readO (cs.getD (lStream q i).toNat 0)::lnD cs q m (i - 1) else []:=rfl
   rw [hm] at n1
   have hfin:∀ L:List Line,lnD cs q (m+1) i=L->(Ym fc cs nf now sf sure q o i w l).val=some ((.exit 0,[(6,.vs 1 (L.reverse++l).length)]),Jv fc cs nf now sf sure q o i (bif L.isEmpty then w else false) (L.reverse++l)):=fun L hL=>by
    unfold Ym;rw [hm,hL];rfl
   generalize cs.getD (lStream q i).toNat 0=v at *
   have d3:decide (v < 9223372036854775808)=true:=decide_eq_true (by omega)
   simp only [c1,c2,d2,d3,w2,cond_true];cases hs2:(YO v).isSome
   · simp only [Bool.not_false,cond_true];exact Qi (S:=V3) (s:=⟨fc,cs,nf,now,sf,sure,q,o,i,w,l⟩) (Jv fc cs nf now sf sure q o i w l) (hfin [] (by rw [hD,if_neg (by rw [hs2];simp)])) rfl
   · by_cases ho:(readO v).offset=i
     · have d4:QW ([readO v].length+l.length) 40=true:=QqJ (by simp only [List.length_cons,List.length_nil];omega)
       have d5:Nat.blt l.length ([readO v]++l).length=true:=by simp
       simp only [Bool.not_true,QqI ho,Vd rfl,d4,d5,cond_true,cond_false];refine Qt (S:=V3) (s:=⟨fc,cs,nf,now,sf,sure,q,o,i,w,l⟩) ⟨fc,cs,nf,now,sf,sure,q,o,i - 1,false,[readO v]++l⟩ ?_ (by simp only [V3];omega) ?_ ?_ rfl
       · show Qbk cs q o (i - 1) _;refine ⟨hl,hc,q0,q2,o0,o1,by omega,by omega,?_⟩
         show ((([readO v]++l).length+(i - 1+1 - max 0 (o - 16)).toNat:Nat):Int) <= 1000;rw [hm2];simp only [List.length_append,List.length_cons,List.length_nil];omega
       · show (Ym fc cs nf now sf sure q o (i - 1) false ([readO v]++l)).val=(Ym fc cs nf now sf sure q o i w l).val;rw [hfin (readO v::lnD cs q m (i - 1)) (by rw [hD,if_pos ⟨hs2,ho⟩])]
         unfold Ym;rw [hm2];have e1:(readO v::lnD cs q m (i - 1)).reverse++l=(lnD cs q m (i - 1)).reverse++([readO v]++l):=by simp
         rw [e1];cases (lnD cs q m (i - 1)).isEmpty <;> rfl
       · show _=Qet fc cs nf now sf sure q o (i - 1) false ([readO v]++l);unfold Qet;simp [Nat.add_comm]
     · simp only [Bool.not_true,QqH ho,cond_true,cond_false];exact Qi (S:=V3) (s:=⟨fc,cs,nf,now,sf,sure,q,o,i,w,l⟩) (Jv fc cs nf now sf sure q o i w l) (hfin [] (by rw [hD,if_neg (fun q=>ho q.2)])) rfl
 · have hm:(i+1 - max 0 (o - 16)).toNat=0:=by omega
   have hx:Leaf (some ((X.exit 0,[(6,D.vs 1 l.length)]),(Jv fc cs nf now sf sure q o i w l).map some)) (LedR V3 ⟨fc,cs,nf,now,sf,sure,q,o,i,w,l⟩):=by
    refine Qi (S:=V3) (s:=⟨fc,cs,nf,now,sf,sure,q,o,i,w,l⟩) (Jv fc cs nf now sf sure q o i w l) ?_ rfl;show (Ym fc cs nf now sf sure q o i w l).val=_;unfold Ym;rw [hm];rfl
   by_cases c1:0 <= i
   · have c2:decide (o - 16 <= i)=false:=decide_eq_false (by omega)
     simp only [decide_eq_true c1,c2,cond_true,cond_false];exact hx
   · simp only [decide_eq_false c1,cond_false];exact hx
noncomputable def Qnf (env:Env RC) (os:List (Obj RC)):Option (Bool × Qne):=match env,os with
 | [(1,.int .i64 q),(2,.ptr 0 []),(5,.int .i64 o),(6,.vs 1 x0),(7,.int .i64 i)],[.var 41 (.acons (.sl .int fc cs) (.acons (.acons (.sl .sector nf now) (.acons (.sl .sector sf sure) .anil)) .anil)),.vec .line w l]=>Qz (true) (decide (x0=l.length) && cdec (Qbk cs q o i (l.length+(i+1 - max 0 (o - 16)).toNat)),⟨fc,cs,nf,now,sf,sure,q,o,i,w,l⟩)
 | _,_=>none
noncomputable def uo_4:=uo_3.addLoop 76 8 (sumR s28 [.slot 2 0,.slot 6 0] [1,2,5,6,7] V3 Qnf)
theorem Qng:Qh Tryz.prog s28 uo_4:=by
 refine Qnd.addRoundsR Qc (by kernel_rfl) V3 80 [1,2,5,6,7] [6] [.slot 2 0,.slot 6 0] [1,2,5,6,7] Qnf (fun q hI=>?_) ?_
 · obtain ⟨fc,cs,nf,now,sf,sure,q,o,i,w,l⟩:=q;refine ⟨?_,?_,QiS fc cs nf now sf sure q o i w l hI⟩
   · simp_all [Qk,V3,Qet,Jv,Ks,D.refs,Obj.refs,rEnc]
   · simp_all [V3,Ym,Jv,Ks,RT.refsOK,Qk,D.refs,Obj.refs,rEnc]
 · intro env os b q hd_ hb;unfold Qnf at hd_
   split at hd_
   · obtain ⟨hs,hd_⟩:=Qg hd_;cases hd_;simp only [Bool.and_eq_true,decide_eq_true_eq] at hb;obtain ⟨e0,e1⟩:=hb;subst e0;exact ⟨Yj.1 e1,rfl,rfl⟩
   · cases hd_
noncomputable def Qeu (fc:Bool) (cs:List Int) (nf:Bool) (now:List Qa) (sf:Bool) (sure:List Qa) (q:Int):Option (Bool × D RC):=some (Qd cs.length && rngI cs,.sl (C:=RC) .line false (Zl cs q))
noncomputable def Qb0:List (D RC)->Option (Bool × D RC)
 | [.acons (.sl .int fc cs) (.acons (.acons (.sl .sector nf now) (.acons (.sl .sector sf sure) .anil)) .anil),.int .i64 q]=>Qeu fc cs nf now sf sure q
 | _=>none
noncomputable def Qev (fc:Bool) (cs:List Int) (nf:Bool) (now:List Qa) (sf:Bool) (sure:List Qa) (q:Int):=evFW s28 uo_4 80 73 [.acons (.sl (C:=RC) .int fc cs) (.acons (.acons (.sl (C:=RC) .sector nf now) (.acons (.sl (C:=RC) .sector sf sure) .anil)) .anil),.int .i64 q]
theorem QiT (fc:Bool) (cs:List Int) (nf:Bool) (now:List Qa) (sf:Bool) (sure:List Qa) (q:Int):Qev fc cs nf now sf sure q=(let Z0:Int:=(↑cs.length:Int);let Z1:DO_:=some (D.sl RTy.line false []);let Z2:Int:=lRow (45:Int) q (3:Int);let Z3:Int:=List.getD cs Z2.toNat (0:Int);let Z4:Int:=IntKind.wrap .i64 (Z3 - (1:Int));let Z5:Nat:=Int.toNat (Z4+(1:Int) - max (0:Int) (Z3 - (16:Int)));let Z6:Nat:=List.length ([]++lnD cs q Z5 Z4);let Z7:List Line:=List.reverse ([]++lnD cs q Z5 Z4);bif Qd cs.length then bif Z0 != (771:Int) then Z1 else bif decide (q < (0:Int)) then Z1 else bif decide ((3:Int) <= q) then Z1 else bif decide ((0:Int) <= Z2 /\ Z2 < Z0) then bif decide (Z3 < (0:Int)) then Z1 else bif decide ((4194304:Int) < Z3) then Z1 else bif cdec (Qbk cs q Z3 Z4 ((0:Nat)+Z5)) then bif decide (Z6=Z6) && decide (Z6 <= (1000:Nat)) then bif Nat.beq Z6 Z7.length then some (D.sl RTy.line false Z7) else none else none else none else none else none):=by kernel_rfl
theorem QiU (fc:Bool) (cs:List Int) (nf:Bool) (now:List Qa) (sf:Bool) (sure:List Qa) (q:Int) (h:(Qd cs.length && rngI cs)=true):Qev fc cs nf now sf sure q=some (.sl (C:=RC) .line false (Zl cs q)):=by
 (rw [QiT];conv=>zeta)
 rw [Bool.and_eq_true] at h;obtain ⟨l1,hc⟩:=h;have no:Zb cs q=false->some (D.sl (C:=RC) .line false [])=some (.sl (C:=RC) .line false (Zl cs q)):=fun e=>by simp only [Zl,e,cond_false]
 refine Qb l1 ?_;refine Qx (fun e=>no ?_) fun e0=>?_
 · have:¬ cs.length=771:=fun q=>by rw [q] at e;exact absurd e (by decide)
   unfold Zb;rw [decide_eq_false this];rfl
 have hl:cs.length=771:=by have:=Vk e0;omega
 refine Qx (fun e=>no ?_) fun e1=>?_
 · unfold Zb;rw [decide_eq_false (show ¬ 0 <= q by have:=of_decide_eq_true e;omega)];simp
 refine Qx (fun e=>no ?_) fun e2=>?_
 · unfold Zb;rw [decide_eq_false (show ¬ q < 3 by have:=of_decide_eq_true e;omega)];simp
 have e1:=of_decide_eq_false e1;have e2:=of_decide_eq_false e2;have eR:lRow 45 q 3=45+q:=QmY (by omega) (by omega)
 refine Qb (decide_eq_true ⟨by omega,by omega⟩) ?_
 have eC:cs.getD (lRow 45 q 3).toNat 0=cntL cs q:=rfl;simp only [eC];refine Qx (fun e=>no ?_) fun e3=>?_
 · unfold Zb;rw [decide_eq_false (show ¬ 0 <= cntL cs q by have:=of_decide_eq_true e;omega)];simp
 refine Qx (fun e=>no ?_) fun e4=>?_
 · unfold Zb;rw [decide_eq_false (show ¬ cntL cs q <= 4194304 by have:=of_decide_eq_true e;omega)];simp
 have e3:=of_decide_eq_false e3;have e4:=of_decide_eq_false e4
 have ok:Zb cs q=true:=by
  unfold Zb;rw [decide_eq_true hl,decide_eq_true (show 0 <= q by omega),decide_eq_true (show q < 3 by omega),decide_eq_true (show 0 <= cntL cs q by omega),decide_eq_true (show cntL cs q <= 4194304 by omega)];rfl
 simp only [Zl,ok,cond_true,Qhl];generalize cntL cs q=O at *;have w1:IntKind.i64.wrap (O - 1)=O - 1:=wrap_id (by omega) (by omega)
 have e5:O - 1+1 - max 0 (O - 16)=O - max 0 (O - 16):=by omega
 have hn:=QcG cs q (O - max 0 (O - 16)).toNat (O - 1);have k1:cdec (Qbk cs q O (O - 1) (0+(O - max 0 (O - 16)).toNat))=true:=ZC ⟨hl,hc,by omega,by omega,by omega,by omega,by omega,by omega,by omega⟩
 simp only [w1,e5,k1,List.nil_append,List.append_nil,cond_true];have k2:decide ((lnD cs q (O - max 0 (O - 16)).toNat (O - 1)).length <= 1000)=true:=decide_eq_true (by omega)
 simp only [k2,List.length_reverse,Vd rfl,decide_true,Bool.and_self,cond_true]
noncomputable def uo_5:=uo_4.addSpec 73 Qb0
theorem Qnh:Qh Tryz.prog s28 uo_5:=Qng.addEvW Qc fun args d h=>by
 unfold Qb0 at h
 split at h
 · unfold Qeu at h;have h1:=congrArg Prod.fst (Option.some.inj h);obtain rfl:_=d:=congrArg Prod.snd (Option.some.inj h);exact ⟨by simp [D.refs],80,QiU _ _ _ _ _ _ _ h1⟩
 · cases h
noncomputable def Qew (fc:Bool) (cs:List Int) (nf:Bool) (now:List Qa) (sf:Bool) (sure:List Qa) (q:Int):Option (Bool × D RC):=some (Qd cs.length && rngI cs,.sl (C:=RC) .line false (Zl cs q))
noncomputable def Qb1:List (D RC)->Option (Bool × D RC)
 | [.acons (.sl .int fc cs) (.acons (.acons (.sl .sector nf now) (.acons (.sl .sector sf sure) .anil)) .anil),.int .i64 q]=>Qew fc cs nf now sf sure q
 | _=>none
noncomputable def Qex (fc:Bool) (cs:List Int) (nf:Bool) (now:List Qa) (sf:Bool) (sure:List Qa) (q:Int):=evFW s28 uo_5 80 76 [.acons (.sl (C:=RC) .int fc cs) (.acons (.acons (.sl (C:=RC) .sector nf now) (.acons (.sl (C:=RC) .sector sf sure) .anil)) .anil),.int .i64 q]
theorem QiV (fc:Bool) (cs:List Int) (nf:Bool) (now:List Qa) (sf:Bool) (sure:List Qa) (q:Int):Qex fc cs nf now sf sure q=(let Z0:Int:=(↑cs.length:Int);let Z1:DO_:=some (D.sl RTy.line false []);let Z2:Int:=lRow (45:Int) q (3:Int);let Z3:Int:=List.getD cs Z2.toNat (0:Int);let Z4:Int:=IntKind.wrap .i64 (Z3 - (1:Int));let Z5:Nat:=Int.toNat (Z4+(1:Int) - max (0:Int) (Z3 - (16:Int)));let Z6:List Line:=List.reverse (lnD cs q Z5 Z4)++[];bif Qd cs.length then bif Z0 != (771:Int) then Z1 else bif decide (q < (0:Int)) then Z1 else bif decide ((3:Int) <= q) then Z1 else bif decide ((0:Int) <= Z2 /\ Z2 < Z0) then bif decide (Z3 < (0:Int)) then Z1 else bif decide ((4194304:Int) < Z3) then Z1 else bif cdec (Qbk cs q Z3 Z4 ((0:Nat)+Z5)) then bif Nat.beq Z6.length Z6.length then some (D.sl RTy.line false Z6) else none else none else none else none):=by kernel_rfl
theorem QiW (fc:Bool) (cs:List Int) (nf:Bool) (now:List Qa) (sf:Bool) (sure:List Qa) (q:Int) (h:(Qd cs.length && rngI cs)=true):Qex fc cs nf now sf sure q=some (.sl (C:=RC) .line false (Zl cs q)):=by
 (rw [QiV];conv=>zeta)
 rw [Bool.and_eq_true] at h;obtain ⟨l1,hc⟩:=h;have no:Zb cs q=false->some (D.sl (C:=RC) .line false [])=some (.sl (C:=RC) .line false (Zl cs q)):=fun e=>by simp only [Zl,e,cond_false]
 refine Qb l1 ?_;refine Qx (fun e=>no ?_) fun e0=>?_
 · have:¬ cs.length=771:=fun q=>by rw [q] at e;exact absurd e (by decide)
   unfold Zb;rw [decide_eq_false this];rfl
 have hl:cs.length=771:=by have:=Vk e0;omega
 refine Qx (fun e=>no ?_) fun e1=>?_
 · unfold Zb;rw [decide_eq_false (show ¬ 0 <= q by have:=of_decide_eq_true e;omega)];simp
 refine Qx (fun e=>no ?_) fun e2=>?_
 · unfold Zb;rw [decide_eq_false (show ¬ q < 3 by have:=of_decide_eq_true e;omega)];simp
 have e1:=of_decide_eq_false e1;have e2:=of_decide_eq_false e2;have eR:lRow 45 q 3=45+q:=QmY (by omega) (by omega)
 refine Qb (decide_eq_true ⟨by omega,by omega⟩) ?_
 have eC:cs.getD (lRow 45 q 3).toNat 0=cntL cs q:=rfl;simp only [eC];refine Qx (fun e=>no ?_) fun e3=>?_
 · unfold Zb;rw [decide_eq_false (show ¬ 0 <= cntL cs q by have:=of_decide_eq_true e;omega)];simp
 refine Qx (fun e=>no ?_) fun e4=>?_
 · unfold Zb;rw [decide_eq_false (show ¬ cntL cs q <= 4194304 by have:=of_decide_eq_true e;omega)];simp
 have e3:=of_decide_eq_false e3;have e4:=of_decide_eq_false e4
 have ok:Zb cs q=true:=by
  unfold Zb;rw [decide_eq_true hl,decide_eq_true (show 0 <= q by omega),decide_eq_true (show q < 3 by omega),decide_eq_true (show 0 <= cntL cs q by omega),decide_eq_true (show cntL cs q <= 4194304 by omega)];rfl
 simp only [Zl,ok,cond_true,Qhl];generalize cntL cs q=O at *;have w1:IntKind.i64.wrap (O - 1)=O - 1:=wrap_id (by omega) (by omega)
 have e5:O - 1+1 - max 0 (O - 16)=O - max 0 (O - 16):=by omega
 have hn:=QcG cs q (O - max 0 (O - 16)).toNat (O - 1);have k1:cdec (Qbk cs q O (O - 1) (0+(O - max 0 (O - 16)).toNat))=true:=ZC ⟨hl,hc,by omega,by omega,by omega,by omega,by omega,by omega,by omega⟩
 simp only [w1,e5,k1,List.nil_append,List.append_nil,cond_true];simp only [List.length_reverse,Vd rfl,cond_true]
noncomputable def uo_6:=uo_5.addSpec 76 Qb1
theorem Qni:Qh Tryz.prog s28 uo_6:=Qnh.addEvW Qc fun args d h=>by
 unfold Qb1 at h
 split at h
 · unfold Qew at h;have h1:=congrArg Prod.fst (Option.some.inj h);obtain rfl:_=d:=congrArg Prod.snd (Option.some.inj h);exact ⟨by simp [D.refs],80,QiW _ _ _ _ _ _ _ h1⟩
 · cases h
open Go.Proofs
noncomputable def redA:Code:=(rfF 130).1
noncomputable def redB:Code:=(rfF 130).2
def redO (key:Int) (c:Bool) (cs:List Int) (l:List Item):List (Obj RC):=[.var 39 (.sl (C:=RC) .int c cs),.var 3 (.int .i64 key),.var 39 (.sl (C:=RC) .int c cs),.var 3 (.int .i64 key),.var 29 (.vs 5 l.length),.vec .item true l,.ctl (.lp false false 0)]
structure Qhn where
 key:Int
 c:Bool
 cs:List Int
 l:List Item
 w:Int
 n:Nat
noncomputable def QfH (key:Int) (c:Bool) (cs:List Int) (l:List Item) (w:Int) (n:Nat):Env RC:=[(0,.yl 27 [4,3,2] [10] (redA) (redB) (.acons (.ptr 4 []) (.acons (.ptr 3 []) (.acons (.ptr 2 []) .anil))) 6),(1,.ptr 1 []),(2,.ptr 0 []),(5,.int .i64 w),(6,.int .i64 (n:Int))]
def QcI (key:Int) (c:Bool) (cs:List Int) (l:List Item) (w:Int) (n:Nat):List (Obj RC):=[.var 39 (.sl (C:=RC) .int c cs),.var 3 (.int .i64 key),.var 39 (.sl (C:=RC) .int ((c)) ((cs))),.var 3 (.int .i64 ((key))),.var 29 (.vs 5 (l.length)),.vec .item true l,.ctl (.lp false false 0)]
noncomputable def Qnj (key:Int) (c:Bool) (cs:List Int) (l:List Item) (w:Int) (n:Nat):=rndO s28 uo_6 194 4 60 7 [0,1,2,5,6] [] [.slot 2 0,.slot 1 0,.slot 0 2,.slot 0 1,.slot 0 0,.path 4 [],.slot 0 3] (QfH key c cs l w n) (QcI key c cs l w n)
theorem Qo5 (key:Int) (c:Bool) (cs:List Int) (l:List Item) (w:Int) (n:Nat):Qnj key c cs l w n=(let Z0:Int:=QO (bare w) (1:Int) true;let Z1:Option (Obj RC):=some (Obj.var 39 (D.sl RTy.int c cs));let Z2:Option (Obj RC):=some (Obj.var 3 (D.int .i64 key));let Z3:Nat:=List.length l;let Z4:List (Option (Obj RC)):=[some (Obj.ctl (Ctl.lp false false (0:Nat)))];let Z5:List (Option (Obj RC)):=Z1::Z2::Z1::Z2::some (Obj.var 29 (D.vs 5 Z3))::some (Obj.vec RTy.item true l)::Z4;let Z6:Int:=QO (bare w) (2:Int) true;let Z7:Int:=(↑cs.length:Int);let Z8:List Item:=[Item.mk key (plc w) (bits .i64 (fun (x:Nat) (u v:BitVec x)=>u &&& v) (List.getD cs Z6.toNat (0:Int)) (255:Int))];let Z9:Int:=List.getD cs Z0.toNat (0:Int);bif decide ((↑n:Int) < (160:Int)) then bif w != (0:Int) then bif decide (Z0 < (0:Int)) then some ((X.ret,[]),Z5) else bif decide ((0:Int) <= Z6 /\ Z6 < Z7) then bif Nat.beq Z3 Z3 && QW (Z3+List.length Z8) (24:Nat) then bif decide ((0:Int) <= Z0 /\ Z0 < Z7) then some ((X.normal,[(0,D.yl (27:Nat) [(4:Nat),(3:Nat),(2:Nat)] [(10:Nat)] redA redB (D.acons (D.ptr 4 []) (.acons (D.ptr 3 []) (.acons (D.ptr 2 []) .anil))) (6:Nat)),(1,D.ptr 1 []),(2,D.ptr 0 []),(5,D.int .i64 (if Z9 < (0:Int) then (0:Int) else Z9)),(6,D.int .i64 (IntKind.wrap .i64 ((↑n:Int)+(1:Int))))]),Z1::Z2::Z1::Z2::some (Obj.var 29 (D.vs 5 (Z3+List.length Z8)))::some (Obj.vec RTy.item true (l++Z8))::Z4) else none else none else none else some ((X.exit (0:Nat),[]),Z5) else some ((X.exit (0:Nat),[]),Z5)):=by kernel_rfl
noncomputable def Yz (key:Int) (c:Bool) (cs:List Int) (l:List Item) (w:Int) (n:Nat):RT RC:=.br (KP cs (160 - n) w) (.leaf .ret [] (redO key c cs (l++rdA cs key (160 - n) w))) (.leaf (.exit 0) [] (redO key c cs (l++rdA cs key (160 - n) w)))
def V4 (key:Int) (c:Bool) (cs:List Int) (l:List Item) (w:Int) (n:Nat):Prop:=cs.length=771 /\ n <= 160 /\ l.length <= n
noncomputable def KQ:QF RC Qhn where
 k:=7
 canon q:=QfH q.key q.c q.cs q.l q.w q.n
 objs q:=QcI q.key q.c q.cs q.l q.w q.n
 fin q:=Yz q.key q.c q.cs q.l q.w q.n
 Inv q:=V4 q.key q.c q.cs q.l q.w q.n
 μ q:=160 - q.n
theorem QfI (key:Int) (c:Bool) (cs:List Int) (l:List Item) (w:Int) (n:Nat) (hI:V4 key c cs l w n):Leaf (Qnj key c cs l w n) (LedR KQ ⟨key,c,cs,l,w,n⟩):=by
 (rw [Qo5];conv=>zeta)
 unfold V4 at hI;obtain ⟨hcs,hn,hl⟩:=hI
 have hfin:∀ (L:List Item) (b:Bool),KP cs (160 - n) w=b->l++rdA cs key (160 - n) w=L->(Yz key c cs l w n).val=some ((bif b then X.ret else X.exit 0,[]),redO key c cs L):=fun L b h1 h2=>by
  unfold Yz;simp only [RT.val,h1,h2];cases b <;> rfl
 by_cases h160:n < 160
 · have dn:decide ((n:Int) < 160)=true:=decide_eq_true (by omega)
   obtain ⟨m,hm⟩:∃ m,160 - n=m+1:=⟨159 - n,by omega⟩
   rw [hm] at hfin;rw [dn,cond_true]
   by_cases hw:w=0
   · have ew:(w != 0)=false:=by simp [hw]
     rw [ew,cond_false];subst hw;have h0 := @Qsd cs key (m+1);exact Qi (redO key c cs l) (hfin l false h0.2 (by rw [h0.1,List.append_nil])) rfl
   · have ew:(w != 0)=true:=by simp [hw]
     rw [ew,cond_true];rcases cellO_node w with ⟨b1,b2⟩ | ⟨b1,b2,b3⟩
     · have d1:decide (QO (bare w) 1 true < 0)=true:=decide_eq_true (by omega)
       rw [d1,cond_true];have h0 := @Qm3 cs key w hw (by omega) m
       exact QG (redO key c cs l) (hfin l true h0.2 (by rw [h0.1,List.append_nil])) rfl
     · have d1:decide (QO (bare w) 1 true < 0)=false:=decide_eq_false (by omega)
       have d2:decide (0 <= QO (bare w) 2 true /\ QO (bare w) 2 true < ((771:Nat):Int))=true:=decide_eq_true (by omega)
       have d3:decide (0 <= QO (bare w) 1 true /\ QO (bare w) 1 true < ((771:Nat):Int))=true:=decide_eq_true (by omega)
       have w1:IntKind.i64.wrap ((n:Int)+1)=((n+1:Nat):Int):=by rw [wrap_id (by omega) (by omega)];simp
       have h0 := @QpX cs key w hw (by omega) m
       have hb:∀ n:Nat,Nat.beq n n=true:=fun n=>by simp
       have e1:∀ x:Item,l.length+([x]:List Item).length=(l++[x]).length:=fun x=>by simp
       have s1:∀ x:Item,QW (l++[x]).length 24=true:=fun x=>by simp [QW];omega
       obtain ⟨x,hx⟩:∃ x:Item,x=Item.mk key (plc w) (cs.getD (QO (bare w) 2 true).toNat 0 % 256):=⟨_,rfl⟩;rw [<- hx] at h0;rw [hcs];simp only [d1,d2,d3,w1,and8,e1,s1,hb,Bool.and_self,cond_true,cond_false,<- hx];refine Qt (S:=KQ) (s:=⟨key,c,cs,l,w,n⟩) ⟨key,c,cs,l++[x],wh (cs.getD (QO (bare w) 1 true).toNat 0),n+1⟩ (show V4 key c cs (l++[x]) (wh (cs.getD (QO (bare w) 1 true).toNat 0)) (n+1) from ⟨hcs,by omega,by simp;omega⟩) (show 160 - (n+1) < 160 - n by omega) ?_ rfl rfl
       show (Yz key c cs (l++[x]) (wh (cs.getD (QO (bare w) 1 true).toNat 0)) (n+1)).val=(Yz key c cs l w n).val;rw [hfin _ _ h0.2 rfl,h0.1];unfold Yz;rw [show 160 - (n+1)=m by omega]
       simp only [RT.val,List.append_assoc,List.cons_append,List.nil_append];cases KP cs m (wh (cs.getD (QO (bare w) 1 true).toNat 0)) <;> rfl
 · have dn:decide ((n:Int) < 160)=false:=decide_eq_false (by omega)
   rw [dn,cond_false];have e:160 - n=0:=by omega
   rw [e] at hfin;exact Qi (redO key c cs l) (hfin l false rfl (by show l++[]=l;simp)) rfl
noncomputable def QfJ (env:Env RC) (os:List (Obj RC)):Option (Bool × Qhn):=match env,os with
 | [(0,.yl 27 [4,3,2] [10] x0 x1 (.acons (.ptr 4 []) (.acons (.ptr 3 []) (.acons (.ptr 2 []) .anil))) 6),(1,.ptr 1 []),(2,.ptr 0 []),(5,.int .i64 w),(6,.int .i64 x2)],[.var 39 (.sl .int c cs),.var 3 (.int .i64 key),.var 39 (.sl .int x3 x4),.var 3 (.int .i64 x5),.var 29 (.vs 5 x6),.vec .item true l,.ctl (.lp false false 0)]=>Qz (true) (cdec (x0=redA) && cdec (x1=redB) && decide (x2=0) && decide (x3=(c)) && decide (x4=(cs)) && decide (x5=(key)) && decide (x6=l.length) && decide (cs.length=771) && l.isEmpty,⟨key,c,cs,l,w,0⟩)
 | _,_=>none
noncomputable def up_1:=uo_6.addLoop 194 4 (sumR s28 [.slot 2 0,.slot 1 0,.slot 0 2,.slot 0 1,.slot 0 0,.path 4 [],.slot 0 3] [0,1,2,5,6] KQ QfJ)
theorem Qnk:Qh Tryz.prog s28 up_1:=by
 refine Qni.addRoundsR Qc (by kernel_rfl) KQ 60 [0,1,2,5,6] [] [.slot 2 0,.slot 1 0,.slot 0 2,.slot 0 1,.slot 0 0,.path 4 [],.slot 0 3] [0,1,2,5,6] QfJ (fun q hI=>?_) ?_
 · obtain ⟨key,c,cs,l,w,n⟩:=q;refine ⟨?_,?_,QfI key c cs l w n hI⟩
   · simp_all [Qk,KQ,QfH,QcI,V4,D.refs,Obj.refs,rEnc]
   · simp [KQ,Yz,QcI,redO,RT.refsOK,Qk,D.refs,Obj.refs]
 · intro env os b q hd_ hb;unfold QfJ at hd_
   split at hd_
   · obtain ⟨hs,hd_⟩:=Qg hd_;cases hd_;simp only [Bool.and_eq_true,decide_eq_true_eq] at hb;obtain ⟨⟨⟨⟨⟨⟨⟨⟨h1,h2⟩,rfl⟩,rfl⟩,rfl⟩,rfl⟩,rfl⟩,hA⟩,hl⟩:=hb;have h1:=Yj.1 h1;have h2:=Yj.1 h2;subst h1;subst h2;have hl:=List.isEmpty_iff.1 hl;subst hl;exact ⟨⟨hA,Nat.zero_le _,Nat.le_refl _⟩,rfl,rfl⟩
   · cases hd_
noncomputable def Qho (c:Bool) (cs:List Int) (key:Int):Option (Bool × D RC):=some (Qd cs.length,.sl (C:=RC) .item false (Q2 cs key))
noncomputable def Qey:List (D RC)->Option (Bool × D RC)
 | [.sl .int c cs,.int .i64 key]=>Qho c cs key
 | _=>none
noncomputable def Qhp (c:Bool) (cs:List Int) (key:Int):=evFW s28 up_1 80 130 [.sl (C:=RC) .int c cs,.int .i64 key]
theorem Qnl (c:Bool) (cs:List Int) (key:Int):Qhp c cs key=(let Z0:Nat:=List.length cs;let Z1:Int:=lRow (21:Int) key (24:Int);let Z2:Option (Nat × Bool):=none;let Z3:Op:=Op.move (Operand.tmp (5:Nat));let Z4:Edge:=Edge.mk (1:Nat) Ground.data;let Z5:Edge:=Edge.mk (2:Nat) Ground.data;let Z6:Edge:=Edge.mk (0:Nat) Ground.data;let Z7:Edge:=Edge.mk (3:Nat) Ground.data;let Z8:Array Edge := #[Edge.mk (4:Nat) Ground.data];let Z9:Edge:=Edge.mk (5:Nat) Ground.data;let Z10:Edge:=Edge.mk (3:Nat) Ground.chain;let Z11:Edge:=Edge.mk (0:Nat) Ground.phase;let Z12:Edge:=Edge.mk (1:Nat) Ground.phase;let Z13:Edge:=Edge.mk (2:Nat) Ground.phase;let Z14:Edge:=Edge.mk (3:Nat) Ground.phase;let Z15:Edge:=Edge.mk (4:Nat) Ground.phase;let Z16:Edge:=Edge.mk (5:Nat) Ground.phase;let Z17:Int:=List.getD cs Z1.toNat (0:Int);let Z18:Int:=if Z17 < (0:Int) then (0:Int) else Z17;let Z19:List Item:=[]++rdA cs key (160:Nat) Z18;let Z20:DO_:=bif Nat.beq Z19.length Z19.length then some (D.sl RTy.item false Z19) else none;bif Qd Z0 then bif (↑Z0:Int) != (771:Int) then some (D.sl RTy.item false []) else bif decide (Z1 < (0:Int)) then some (D.sl RTy.item false []) else bif decide ((0:Int) <= Z1 /\ Z1 < (↑Z0:Int)) then bif cdec (redA=redA) && cdec (redB=redB) && true && decide (c=c) && decide (cs=cs) && decide (key=key) && true && decide (Z0=(771:Nat)) && true then bif KP cs (160:Nat) Z18 then Z20 else Z20 else none else none else none):=by kernel_rfl
theorem Qnm (c:Bool) (cs:List Int) (key:Int) (h:(Qd cs.length)=true):Qhp c cs key=some (.sl (C:=RC) .item false (Q2 cs key)):=by
 (rw [Qnl];conv=>zeta)
 refine Qb h ?_;have no:Vt cs key=false->some (D.sl (C:=RC) .item false [])=some (.sl (C:=RC) .item false (Q2 cs key)):=fun e=>by simp only [Q2,e,cond_false]
 refine Qx (fun e=>no ?_) fun e0=>?_
 · have:¬ cs.length=771:=fun q=>by rw [q] at e;exact absurd e (by decide)
   unfold Vt;rw [decide_eq_false this];rfl
 have hl:cs.length=771:=Vk e0
 by_cases hk:0 <= key /\ key < 24
 · have lr:lRow 21 key 24=21+key:=by unfold lRow;rw [if_pos hk]
   rw [lr];have ok:Vt cs key=true:=by unfold Vt;rw [decide_eq_true hl,decide_eq_true hk.1,decide_eq_true hk.2];rfl
   have hw:(if cs.getD (21+key).toNat 0 < 0 then 0 else cs.getD (21+key).toNat 0)=wh (cs.getD (21+key).toNat 0):=rfl
   simp only [Q2,ok,cond_true,hw];refine Zh (decide_eq_false (by omega)) (Qb (decide_eq_true ⟨by omega,by omega⟩) ?_)
   refine Qb (andT (andT (andT (andT (andT (andT (andT (andT (ZC (by first | exact trivial | kernel_rfl)) (ZC (by first | exact trivial | kernel_rfl))) rfl) (by simp)) (by simp)) (by simp)) rfl) (decide_eq_true hl)) rfl) ?_
   cases KP cs 160 (wh (cs.getD (21+key).toNat 0))
   · exact Zh rfl (Qb (Vd rfl) rfl)
   · exact Qb rfl (Qb (Vd rfl) rfl)
 · have lr:lRow 21 key 24 = -1:=by unfold lRow;rw [if_neg hk]
   rw [lr];refine Qb rfl (no ?_);unfold Vt
   by_cases k0:0 <= key
   · rw [decide_eq_false (show ¬ key < 24 by omega)];simp
   · rw [decide_eq_false k0];simp
noncomputable def up_2:=up_1.addSpec 130 Qey
theorem Qnn:Qh Tryz.prog s28 up_2:=Qnk.addEvW Qc fun args d h=>by
 unfold Qey at h
 split at h
 · unfold Qho at h;have h1:=congrArg Prod.fst (Option.some.inj h);obtain rfl:_=d:=congrArg Prod.snd (Option.some.inj h);exact ⟨by simp [D.refs],80,Qnm _ _ _ h1⟩
 · cases h
structure Qb2 where
 p:Int
 c:Bool
 l:List Item
 i:Nat
noncomputable def Qa3 (p:Int) (c:Bool) (l:List Item) (i:Nat):Env RC:=[(2,.int .i64 p),(6,.ptr 0 []),(7,.bool false),(12,.sl (C:=RC) .item c l),(13,.int .i64 (l.length)),(14,.int .i64 (i:Int))]
def Kt (p:Int) (c:Bool) (l:List Item) (i:Nat):List (Obj RC):=[.var 56 (.acons (.int .i64 0) (.acons (.int .i64 0) (.acons (.int .i64 0) .anil)))]
noncomputable def Qez (p:Int) (c:Bool) (l:List Item) (i:Nat):=rndO s28 up_2 72 2 40 1 [2,6,7,12,13,14] [7] [.slot 6 0] (Qa3 p c l i) (Kt p c l i)
theorem QiX (p:Int) (c:Bool) (l:List Item) (i:Nat):Qez p c l i=(let Z0:Int:=(↑i:Int);let Z1:Int:=(↑l.length:Int);let Z2:Item:=List.getD l Z0.toNat (Item.mk (0:Int) (0:Int) (0:Int));let Z3:D RC:=D.int .i64 0;let Z4:List (Option (Obj RC)):=[some (Obj.var 56 (.acons Z3 (D.acons Z3 (D.acons Z3 .anil))))];bif decide (Z0 < Z1) then bif decide ((0:Int) <= Z0 /\ Z0 < Z1) then bif decide (Item.place Z2 <= p) then some ((X.exit (0:Nat),[(7,D.bool true)]),[some (Obj.var 56 (.acons (D.int .i64 (Item.key Z2)) (.acons (D.int .i64 (Item.place Z2)) (.acons (D.int .i64 (Item.value Z2)) .anil))))]) else some ((X.normal,[(2,D.int .i64 p),(6,D.ptr 0 []),(7,D.bool false),(12,D.sl RTy.item c l),(13,D.int .i64 Z1),(14,D.int .i64 (IntKind.wrap .i64 (Z0+(1:Int))))]),Z4) else none else some ((X.exit (0:Nat),[(7,D.bool false)]),Z4)):=by kernel_rfl
noncomputable def Vl (p:Int) (c:Bool) (l:List Item) (i:Nat):RT RC:=.leaf (.exit 0) [(7,.bool (Q1 p (l.drop i)).isSome)] [.var 56 (.acons (.int .i64 ((Q1 p (l.drop i)).getD ⟨0,0,0⟩).key) (.acons (.int .i64 ((Q1 p (l.drop i)).getD ⟨0,0,0⟩).place) (.acons (.int .i64 ((Q1 p (l.drop i)).getD ⟨0,0,0⟩).value) .anil)))]
def YA (p:Int) (c:Bool) (l:List Item) (i:Nat):Prop:=i <= l.length /\ l.length <= 1000
noncomputable def YB:QF RC Qb2 where
 k:=1
 canon q:=Qa3 q.p q.c q.l q.i
 objs q:=Kt q.p q.c q.l q.i
 fin q:=Vl q.p q.c q.l q.i
 Inv q:=YA q.p q.c q.l q.i
 μ q:=q.l.length - q.i
theorem QcJ (p:Int) (c:Bool) (l:List Item) (i:Nat) (hI:YA p c l i):Leaf (Qez p c l i) (LedR YB ⟨p,c,l,i⟩):=by
 (rw [QiX];conv=>zeta)
 unfold YA at hI;obtain ⟨h1,h2⟩:=hI;have hfin:∀ o:Option Item,Q1 p (l.drop i)=o->(Vl p c l i).val=some ((.exit 0,[(7,.bool o.isSome)]),[.var 56 (.acons (.int .i64 (o.getD ⟨0,0,0⟩).key) (.acons (.int .i64 (o.getD ⟨0,0,0⟩).place) (.acons (.int .i64 (o.getD ⟨0,0,0⟩).value) .anil)))]):=fun o ho=>by subst ho;rfl
 by_cases hlt:i < l.length
 · have w_succ:IntKind.i64.wrap ((i:Int)+1)=((i+1:Nat):Int):=by rw [wrap_id (by omega) (by omega)];simp
   have d_lt:decide ((i:Int) < l.length)=true:=by simp;omega
   have d_in:decide (0 <= (i:Int) /\ (i:Int) < l.length)=true:=by simp;omega
   have t_nat:((i:Int)).toNat=i:=by simp
   simp only [w_succ,d_lt,d_in,t_nat,cond_true];have hd:=QbX (p:=p) hlt
   by_cases q:(l.getD i ⟨0,0,0⟩).place <= p
   · rw [if_pos q] at hd;rw [decide_eq_true q,cond_true];exact Qi _ (hfin _ hd) rfl
   · rw [if_neg q] at hd;rw [decide_eq_false q,cond_false];exact Qt ⟨p,c,l,i+1⟩ ⟨hlt,h2⟩ (by simp only [YB];omega) (by simp only [YB,Vl,hd]) rfl rfl
 · have hi:i=l.length:=by omega
   subst hi;have c1:decide ((l.length:Int) < l.length)=false:=by simp
   simp only [c1,cond_false];exact Qi _ (hfin none Qeq) rfl
noncomputable def Qa4 (env:Env RC) (os:List (Obj RC)):Option (Bool × Qb2):=match env,os with
 | [(2,.int .i64 p),(6,.ptr 0 []),(7,.bool false),(12,.sl .item c l),(13,.int .i64 x0),(14,.int .i64 x1)],[.var 56 (.acons (.int .i64 0) (.acons (.int .i64 0) (.acons (.int .i64 0) .anil)))]=>Qz (true) (decide (x0=l.length) && decide (x1=0) && decide (l.length <= 1000),⟨p,c,l,0⟩)
 | _,_=>none
noncomputable def up_3:=up_2.addLoop 72 2 (sumR s28 [.slot 6 0] [2,6,7,12,13,14] YB Qa4)
theorem Qno:Qh Tryz.prog s28 up_3:=by
 refine Qnn.addRoundsR Qc (by kernel_rfl) YB 40 [2,6,7,12,13,14] [7] [.slot 6 0] [2,6,7,12,13,14] Qa4 (fun q hI=>?_) ?_
 · obtain ⟨p,c,l,i⟩:=q;refine ⟨?_,?_,QcJ p c l i hI⟩
   · simp_all [Qk,YB,Qa3,Kt,YA,D.refs,Obj.refs,rEnc]
   · simp_all [YB,Vl,Kt,YA,RT.refsOK,Qk,D.refs,Obj.refs,rEnc]
 · intro env os b q hd_ hb;unfold Qa4 at hd_
   split at hd_
   · obtain ⟨hs,hd_⟩:=Qg hd_;cases hd_;simp only [Bool.and_eq_true,decide_eq_true_eq] at hb;obtain ⟨⟨rfl,rfl⟩,hl⟩:=hb;exact ⟨⟨Nat.zero_le _,hl⟩,rfl,rfl⟩
   · cases hd_
noncomputable def Qhq (c:Bool) (cs:List Int) (key:Int) (p:Int):Option (Bool × D RC):=some (Qd cs.length,.tup (.acons (.acons (.int .i64 ((Q1 p (Q2 cs key)).getD ⟨0,0,0⟩).key) (.acons (.int .i64 ((Q1 p (Q2 cs key)).getD ⟨0,0,0⟩).place) (.acons (.int .i64 ((Q1 p (Q2 cs key)).getD ⟨0,0,0⟩).value) .anil))) (.acons (.bool (Q1 p (Q2 cs key)).isSome) .anil)))
noncomputable def QeA:List (D RC)->Option (Bool × D RC)
 | [.sl .int c cs,.int .i64 key,.int .i64 p]=>Qhq c cs key p
 | _=>none
noncomputable def Qhr (c:Bool) (cs:List Int) (key:Int) (p:Int):=evF s28 up_3 80 72 [.sl (C:=RC) .int c cs,.int .i64 key,.int .i64 p]
theorem Qnp (c:Bool) (cs:List Int) (key:Int) (p:Int):Qhr c cs key p=(let Z0:Nat:=List.length (Q2 cs key);let Z1:Option Item:=Q1 p (List.drop (0:Nat) (Q2 cs key));let Z2:Item:=Option.getD Z1 (Item.mk (0:Int) (0:Int) (0:Int));bif Qd cs.length then bif Qd Z0 then bif decide ((↑Z0:Int)=(↑Z0:Int)) && true && decide (Z0 <= (1000:Nat)) then some (D.tup (D.acons (D.acons (D.int .i64 (Item.key Z2)) (.acons (D.int .i64 (Item.place Z2)) (.acons (D.int .i64 (Item.value Z2)) .anil))) (.acons (D.bool (Option.isSome Z1)) .anil))) else none else none else none):=by kernel_rfl
theorem Qnq (c:Bool) (cs:List Int) (key:Int) (p:Int) (h:(Qd cs.length)=true):Qhr c cs key p=some (.tup (.acons (.acons (.int .i64 ((Q1 p (Q2 cs key)).getD ⟨0,0,0⟩).key) (.acons (.int .i64 ((Q1 p (Q2 cs key)).getD ⟨0,0,0⟩).place) (.acons (.int .i64 ((Q1 p (Q2 cs key)).getD ⟨0,0,0⟩).value) .anil))) (.acons (.bool (Q1 p (Q2 cs key)).isSome) .anil))):=by
 (rw [Qnp];conv=>zeta)
 have hr:=Qeo cs key;exact Qb h (Qb (Ql (by omega)) (Qb (by simp;omega) rfl))
noncomputable def up_4:=up_3.addSpec 72 QeA
theorem Qnr:Qh Tryz.prog s28 up_4:=Qno.addEv Qc fun args d h=>by
 unfold QeA at h
 split at h
 · unfold Qhq at h;have h1:=congrArg Prod.fst (Option.some.inj h);obtain rfl:_=d:=congrArg Prod.snd (Option.some.inj h);exact ⟨by simp [D.refs],80,Qnq _ _ _ _ h1⟩
 · cases h
structure Qb3 where
 c:Bool
 cs:List Int
 key:Int
 l:List Item
 w:Int
noncomputable def Qa5 (c:Bool) (cs:List Int) (key:Int) (l:List Item) (w:Int):Env RC:=[(0,.sl (C:=RC) .int c cs),(1,.int .i64 key),(6,.vs 0 (l.length)),(7,.int .i64 w)]
def Ku (c:Bool) (cs:List Int) (key:Int) (l:List Item) (w:Int):List (Obj RC):=[.vec .item true l]
noncomputable def QeB (c:Bool) (cs:List Int) (key:Int) (l:List Item) (w:Int):=rndO s28 up_4 134 6 60 1 [0,1,6,7] [6] [.slot 6 0] (Qa5 c cs key l w) (Ku c cs key l w)
theorem QiY (c:Bool) (cs:List Int) (key:Int) (l:List Item) (w:Int):QeB c cs key l w=(let Z0:Nat:=List.length l;let Z1:Int:=QO (bare w) (2:Int) true;let Z2:RO_:=some ((X.exit (0:Nat),[(6,D.vs 0 Z0)]),[some (Obj.vec RTy.item true l)]);let Z3:Int:=QO (bare w) (1:Int) true;let Z4:Int:=(↑cs.length:Int);let Z5:List Item:=[Item.mk key (plc w) (bits .i64 (fun (x:Nat) (u v:BitVec x)=>u &&& v) (List.getD cs Z1.toNat (0:Int)) (255:Int))];let Z6:Int:=List.getD cs Z3.toNat (0:Int);bif Qd Z0 then bif decide ((↑Z0:Int) < (160:Int)) then bif w != (0:Int) then bif decide (Z1 < (0:Int)) then Z2 else bif decide (Z3 < (0:Int)) then Z2 else bif decide ((0:Int) <= Z1 /\ Z1 < Z4) then bif Nat.beq Z0 Z0 && QW (Z0+List.length Z5) (24:Nat) then bif decide ((0:Int) <= Z3 /\ Z3 < Z4) then some ((X.normal,[(0,D.sl RTy.int c cs),(1,D.int .i64 key),(6,D.vs 0 (Z0+List.length Z5)),(7,D.int .i64 (if Z6 < (0:Int) then (0:Int) else Z6))]),[some (Obj.vec RTy.item true (l++Z5))]) else none else none else none else Z2 else Z2 else none):=by kernel_rfl
noncomputable def Zp (c:Bool) (cs:List Int) (key:Int) (l:List Item) (w:Int):RT RC:=.leaf (.exit 0) [(6,.vs 0 (l++rdA cs key (160 - l.length) w).length)] [.vec .item true (l++rdA cs key (160 - l.length) w)]
def YC (c:Bool) (cs:List Int) (key:Int) (l:List Item) (w:Int):Prop:=cs.length=771 /\ l.length <= 160
noncomputable def YD:QF RC Qb3 where
 k:=1
 canon q:=Qa5 q.c q.cs q.key q.l q.w
 objs q:=Ku q.c q.cs q.key q.l q.w
 fin q:=Zp q.c q.cs q.key q.l q.w
 Inv q:=YC q.c q.cs q.key q.l q.w
 μ q:=160 - q.l.length
theorem QcK (c:Bool) (cs:List Int) (key:Int) (l:List Item) (w:Int) (hI:YC c cs key l w):Leaf (QeB c cs key l w) (LedR YD ⟨c,cs,key,l,w⟩):=by
 (rw [QiY];conv=>zeta)
 unfold YC at hI;obtain ⟨hcs,hl⟩:=hI;have lk:Qd l.length=true:=Ql (by omega)
 have hfin:∀ L:List Item,l++rdA cs key (160 - l.length) w=L->(Zp c cs key l w).val=some ((.exit 0,[(6,.vs 0 L.length)]),[.vec .item true L]):=fun L h=>by
  unfold Zp;rw [h];rfl
 rw [lk,cond_true]
 by_cases h160:l.length < 160
 · have dn:decide ((l.length:Int) < 160)=true:=decide_eq_true (by omega)
   obtain ⟨m,hm⟩:∃ m,160 - l.length=m+1:=⟨159 - l.length,by omega⟩
   rw [hm] at hfin;rw [dn,cond_true]
   by_cases hw:w=0
   · have ew:(w != 0)=false:=by simp [hw]
     rw [ew,cond_false];subst hw;exact Qi _ (hfin l (by rw [(@Qsd cs key (m+1)).1,List.append_nil])) rfl
   · have ew:(w != 0)=true:=by simp [hw]
     rw [ew,cond_true];rcases cellO_node w with ⟨b1,b2⟩ | ⟨b1,b2,b3⟩
     · have d1:decide (QO (bare w) 2 true < 0)=true:=decide_eq_true (by omega)
       rw [d1,cond_true];exact Qi _ (hfin l (by rw [(@Qm3 cs key w hw (by omega) m).1,List.append_nil])) rfl
     · have d0:decide (QO (bare w) 2 true < 0)=false:=decide_eq_false (by omega)
       have d1:decide (QO (bare w) 1 true < 0)=false:=decide_eq_false (by omega)
       have d2:decide (0 <= QO (bare w) 2 true /\ QO (bare w) 2 true < ((771:Nat):Int))=true:=decide_eq_true (by omega)
       have d3:decide (0 <= QO (bare w) 1 true /\ QO (bare w) 1 true < ((771:Nat):Int))=true:=decide_eq_true (by omega)
       have h0:=(@QpX cs key w hw (by omega) m).1
       have hb:∀ n:Nat,Nat.beq n n=true:=fun n=>by simp
       have e1:∀ x:Item,l.length+([x]:List Item).length=(l++[x]).length:=fun x=>by simp
       have s1:∀ x:Item,QW (l++[x]).length 24=true:=fun x=>by simp [QW];omega
       obtain ⟨x,hx⟩:∃ x:Item,x=Item.mk key (plc w) (cs.getD (QO (bare w) 2 true).toNat 0 % 256):=⟨_,rfl⟩;rw [<- hx] at h0;rw [hcs];simp only [d0,d1,d2,d3,and8,e1,s1,hb,Bool.and_self,cond_true,cond_false,<- hx];refine Qt (S:=YD) (s:=⟨c,cs,key,l,w⟩) ⟨c,cs,key,l++[x],wh (cs.getD (QO (bare w) 1 true).toNat 0)⟩ ⟨hcs,by simp;omega⟩ (by simp only [YD,List.length_append,List.length_singleton];omega) ?_ rfl rfl
       show (Zp c cs key (l++[x]) (wh (cs.getD (QO (bare w) 1 true).toNat 0))).val=(Zp c cs key l w).val;rw [hfin _ rfl,h0];unfold Zp;rw [show 160 - (l++[x]).length=m by simp;omega]
       simp only [RT.val,List.append_assoc,List.cons_append,List.nil_append]
 · have dn:decide ((l.length:Int) < 160)=false:=decide_eq_false (by omega)
   rw [dn,cond_false];have e:160 - l.length=0:=by omega
   rw [e] at hfin;exact Qi _ (hfin l (by show l++[]=l;simp)) rfl
noncomputable def Qa6 (env:Env RC) (os:List (Obj RC)):Option (Bool × Qb3):=match env,os with
 | [(0,.sl .int c cs),(1,.int .i64 key),(6,.vs 0 x0),(7,.int .i64 w)],[.vec .item true l]=>Qz (true) (decide (x0=l.length) && decide (cs.length=771) && l.isEmpty,⟨c,cs,key,l,w⟩)
 | _,_=>none
noncomputable def up_5:=up_4.addLoop 134 6 (sumR s28 [.slot 6 0] [0,1,6,7] YD Qa6)
theorem Qns:Qh Tryz.prog s28 up_5:=by
 refine Qnr.addRoundsR Qc (by kernel_rfl) YD 60 [0,1,6,7] [6] [.slot 6 0] [0,1,6,7] Qa6 (fun q hI=>?_) ?_
 · obtain ⟨c,cs,key,l,w⟩:=q;refine ⟨?_,?_,QcK c cs key l w hI⟩
   · simp_all [Qk,YD,Qa5,Ku,YC,D.refs,Obj.refs,rEnc]
   · simp_all [YD,Zp,Ku,YC,RT.refsOK,Qk,D.refs,Obj.refs,rEnc]
 · intro env os b q hd_ hb;unfold Qa6 at hd_
   split at hd_
   · obtain ⟨hs,hd_⟩:=Qg hd_;cases hd_;simp only [Bool.and_eq_true,decide_eq_true_eq] at hb;obtain ⟨⟨rfl,hA⟩,hl⟩:=hb;have hl:=List.isEmpty_iff.1 hl;subst hl;exact ⟨⟨hA,Nat.zero_le _⟩,rfl,rfl⟩
   · cases hd_
noncomputable def Qhs (c:Bool) (cs:List Int) (key:Int):Option (Bool × D RC):=some (Qd cs.length,.sl (C:=RC) .item false (Q2 cs key))
noncomputable def QeC:List (D RC)->Option (Bool × D RC)
 | [.sl .int c cs,.int .i64 key]=>Qhs c cs key
 | _=>none
noncomputable def Qht (c:Bool) (cs:List Int) (key:Int):=evFW s28 up_5 80 134 [.sl (C:=RC) .int c cs,.int .i64 key]
theorem Qnt (c:Bool) (cs:List Int) (key:Int):Qht c cs key=(let Z0:Nat:=List.length cs;let Z1:Int:=lRow (21:Int) key (24:Int);let Z2:Int:=List.getD cs Z1.toNat (0:Int);let Z3:List Item:=[]++rdA cs key (160:Nat) (if Z2 < (0:Int) then (0:Int) else Z2);bif Qd Z0 then bif (↑Z0:Int) != (771:Int) then some (D.sl RTy.item false []) else bif decide (Z1 < (0:Int)) then some (D.sl RTy.item false []) else bif decide ((0:Int) <= Z1 /\ Z1 < (↑Z0:Int)) then bif decide (Z0=(771:Nat)) && true then bif Nat.beq Z3.length Z3.length then some (D.sl RTy.item false Z3) else none else none else none else none):=by kernel_rfl
theorem Qnu (c:Bool) (cs:List Int) (key:Int) (h:(Qd cs.length)=true):Qht c cs key=some (.sl (C:=RC) .item false (Q2 cs key)):=by
 (rw [Qnt];conv=>zeta)
 refine Qb h ?_;have no:Vt cs key=false->some (D.sl (C:=RC) .item false [])=some (.sl (C:=RC) .item false (Q2 cs key)):=fun e=>by simp only [Q2,e,cond_false]
 refine Qx (fun e=>no ?_) fun e0=>?_
 · have:¬ cs.length=771:=fun q=>by rw [q] at e;exact absurd e (by decide)
   unfold Vt;rw [decide_eq_false this];rfl
 have hl:cs.length=771:=Vk e0
 by_cases hk:0 <= key /\ key < 24
 · have lr:lRow 21 key 24=21+key:=by unfold lRow;rw [if_pos hk]
   rw [lr];have ok:Vt cs key=true:=by unfold Vt;rw [decide_eq_true hl,decide_eq_true hk.1,decide_eq_true hk.2];rfl
   have hw:(if cs.getD (21+key).toNat 0 < 0 then 0 else cs.getD (21+key).toNat 0)=wh (cs.getD (21+key).toNat 0):=rfl
   simp only [Q2,ok,cond_true,hw];refine Zh (decide_eq_false (by omega)) (Qb (decide_eq_true ⟨by omega,by omega⟩) ?_)
   exact Qb (andT (decide_eq_true hl) rfl) (Qb (Vd rfl) rfl)
 · have lr:lRow 21 key 24 = -1:=by unfold lRow;rw [if_neg hk]
   rw [lr];refine Qb rfl (no ?_);unfold Vt
   by_cases k0:0 <= key
   · rw [decide_eq_false (show ¬ key < 24 by omega)];simp
   · rw [decide_eq_false k0];simp
noncomputable def up_6:=up_5.addSpec 134 QeC
theorem Qnv:Qh Tryz.prog s28 up_6:=Qns.addEvW Qc fun args d h=>by
 unfold QeC at h
 split at h
 · unfold Qhs at h;have h1:=congrArg Prod.fst (Option.some.inj h);obtain rfl:_=d:=congrArg Prod.snd (Option.some.inj h);exact ⟨by simp [D.refs],80,Qnu _ _ _ h1⟩
 · cases h
structure Qb4 where
 p:Int
 c:Bool
 l:List Item
 i:Nat
noncomputable def Qa7 (p:Int) (c:Bool) (l:List Item) (i:Nat):Env RC:=[(2,.int .i64 p),(6,.ptr 0 []),(7,.bool false),(8,.sl (C:=RC) .item c l),(9,.int .i64 (i:Int))]
def Kv (p:Int) (c:Bool) (l:List Item) (i:Nat):List (Obj RC):=[.var 56 (.acons (.int .i64 0) (.acons (.int .i64 0) (.acons (.int .i64 0) .anil)))]
noncomputable def QeD (p:Int) (c:Bool) (l:List Item) (i:Nat):=rndO s28 up_6 75 3 40 1 [2,6,7,8,9] [7] [.slot 6 0] (Qa7 p c l i) (Kv p c l i)
theorem QiZ (p:Int) (c:Bool) (l:List Item) (i:Nat):QeD p c l i=(let Z0:Int:=(↑i:Int);let Z1:Bool:=decide ((0:Int) <= Z0 /\ Z0 < (↑l.length:Int));let Z2:Item:=List.getD l Z0.toNat (Item.mk (0:Int) (0:Int) (0:Int));let Z3:D RC:=D.int .i64 0;let Z4:List (Option (Obj RC)):=[some (Obj.var 56 (.acons Z3 (D.acons Z3 (D.acons Z3 .anil))))];bif Qd l.length then bif decide (Z0 < (↑l.length:Int)) then bif Z1 then bif decide (Item.place Z2 <= p) then bif Z1 then some ((X.ret,[(7,D.bool true)]),[some (Obj.var 56 (.acons (D.int .i64 (Item.key Z2)) (.acons (D.int .i64 (Item.place Z2)) (.acons (D.int .i64 (Item.value Z2)) .anil))))]) else none else some ((X.normal,[(2,D.int .i64 p),(6,D.ptr 0 []),(7,D.bool false),(8,D.sl RTy.item c l),(9,D.int .i64 (IntKind.wrap .i64 (Z0+(1:Int))))]),Z4) else none else some ((X.exit (0:Nat),[(7,D.bool false)]),Z4) else none):=by kernel_rfl
noncomputable def Vm (p:Int) (c:Bool) (l:List Item) (i:Nat):RT RC:=.br (Q1 p (l.drop i)).isSome (.leaf .ret [(7,.bool true)] [.var 56 (.acons (.int .i64 ((Q1 p (l.drop i)).getD ⟨0,0,0⟩).key) (.acons (.int .i64 ((Q1 p (l.drop i)).getD ⟨0,0,0⟩).place) (.acons (.int .i64 ((Q1 p (l.drop i)).getD ⟨0,0,0⟩).value) .anil)))]) (.leaf (.exit 0) [(7,.bool false)] [.var 56 (.acons (.int .i64 0) (.acons (.int .i64 0) (.acons (.int .i64 0) .anil)))])
def YE (p:Int) (c:Bool) (l:List Item) (i:Nat):Prop:=i <= l.length /\ l.length <= 1000
noncomputable def YF:QF RC Qb4 where
 k:=1
 canon q:=Qa7 q.p q.c q.l q.i
 objs q:=Kv q.p q.c q.l q.i
 fin q:=Vm q.p q.c q.l q.i
 Inv q:=YE q.p q.c q.l q.i
 μ q:=q.l.length - q.i
theorem QcL (p:Int) (c:Bool) (l:List Item) (i:Nat) (hI:YE p c l i):Leaf (QeD p c l i) (LedR YF ⟨p,c,l,i⟩):=by
 (rw [QiZ];conv=>zeta)
 unfold YE at hI;obtain ⟨h1,h2⟩:=hI;have lk:Qd l.length=true:=Ql (by omega)
 have hfin:∀ o:Option Item,Q1 p (l.drop i)=o->(Vm p c l i).val=bif o.isSome then some ((.ret,[(7,.bool true)]),[.var 56 (.acons (.int .i64 (o.getD ⟨0,0,0⟩).key) (.acons (.int .i64 (o.getD ⟨0,0,0⟩).place) (.acons (.int .i64 (o.getD ⟨0,0,0⟩).value) .anil)))]) else some ((.exit 0,[(7,.bool false)]),[.var 56 (.acons (.int .i64 0) (.acons (.int .i64 0) (.acons (.int .i64 0) .anil)))]):=fun o ho=>by subst ho;rfl
 rw [lk,cond_true]
 by_cases hlt:i < l.length
 · have w_succ:IntKind.i64.wrap ((i:Int)+1)=((i+1:Nat):Int):=by rw [wrap_id (by omega) (by omega)];simp
   have d_lt:decide ((i:Int) < l.length)=true:=by simp;omega
   have d_in:decide (0 <= (i:Int) /\ (i:Int) < l.length)=true:=by simp;omega
   have t_nat:((i:Int)).toNat=i:=by simp
   simp only [w_succ,d_lt,d_in,t_nat,cond_true];have hd:=QbX (p:=p) hlt
   by_cases q:(l.getD i ⟨0,0,0⟩).place <= p
   · rw [if_pos q] at hd;simp only [decide_eq_true q,cond_true];exact QG _ (hfin _ hd) rfl
   · rw [if_neg q] at hd;simp only [decide_eq_false q,cond_false];exact Qt ⟨p,c,l,i+1⟩ ⟨hlt,h2⟩ (by simp only [YF];omega) (by simp only [YF,Vm,hd]) rfl rfl
 · have hi:i=l.length:=by omega
   subst hi;have c1:decide ((l.length:Int) < l.length)=false:=by simp
   simp only [c1,cond_false];exact Qi _ (hfin none Qeq) rfl
noncomputable def Qa8 (env:Env RC) (os:List (Obj RC)):Option (Bool × Qb4):=match env,os with
 | [(2,.int .i64 p),(6,.ptr 0 []),(7,.bool false),(8,.sl .item c l),(9,.int .i64 x0)],[.var 56 (.acons (.int .i64 0) (.acons (.int .i64 0) (.acons (.int .i64 0) .anil)))]=>Qz (true) (decide (x0=0) && decide (l.length <= 1000),⟨p,c,l,0⟩)
 | _,_=>none
noncomputable def up_7:=up_6.addLoop 75 3 (sumR s28 [.slot 6 0] [2,6,7,8,9] YF Qa8)
theorem Qnw:Qh Tryz.prog s28 up_7:=by
 refine Qnv.addRoundsR Qc (by kernel_rfl) YF 40 [2,6,7,8,9] [7] [.slot 6 0] [2,6,7,8,9] Qa8 (fun q hI=>?_) ?_
 · obtain ⟨p,c,l,i⟩:=q;refine ⟨?_,?_,QcL p c l i hI⟩
   · simp_all [Qk,YF,Qa7,Kv,YE,D.refs,Obj.refs,rEnc]
   · simp_all [YF,Vm,Kv,YE,RT.refsOK,Qk,D.refs,Obj.refs,rEnc]
 · intro env os b q hd_ hb;unfold Qa8 at hd_
   split at hd_
   · obtain ⟨hs,hd_⟩:=Qg hd_;cases hd_;simp only [Bool.and_eq_true,decide_eq_true_eq] at hb;obtain ⟨rfl,hl⟩:=hb;exact ⟨⟨Nat.zero_le _,hl⟩,rfl,rfl⟩
   · cases hd_
noncomputable def Qhu (c:Bool) (cs:List Int) (key:Int) (p:Int):Option (Bool × D RC):=some (Qd cs.length,.tup (.acons (.acons (.int .i64 ((Q1 p (Q2 cs key)).getD ⟨0,0,0⟩).key) (.acons (.int .i64 ((Q1 p (Q2 cs key)).getD ⟨0,0,0⟩).place) (.acons (.int .i64 ((Q1 p (Q2 cs key)).getD ⟨0,0,0⟩).value) .anil))) (.acons (.bool (Q1 p (Q2 cs key)).isSome) .anil)))
noncomputable def QeE:List (D RC)->Option (Bool × D RC)
 | [.sl .int c cs,.int .i64 key,.int .i64 p]=>Qhu c cs key p
 | _=>none
noncomputable def Qhv (c:Bool) (cs:List Int) (key:Int) (p:Int):=evF s28 up_7 80 75 [.sl (C:=RC) .int c cs,.int .i64 key,.int .i64 p]
theorem Qnx (c:Bool) (cs:List Int) (key:Int) (p:Int):Qhv c cs key p=(let Z0:Option Item:=Q1 p (List.drop (0:Nat) (Q2 cs key));let Z1:Item:=Option.getD Z0 (Item.mk (0:Int) (0:Int) (0:Int));let Z2:D RC:=D.int .i64 0;bif Qd cs.length then bif decide (List.length (Q2 cs key) <= (1000:Nat)) then bif Option.isSome Z0 then some (D.tup (D.acons (D.acons (D.int .i64 (Item.key Z1)) (.acons (D.int .i64 (Item.place Z1)) (.acons (D.int .i64 (Item.value Z1)) .anil))) (.acons (D.bool true) .anil))) else some (D.tup (D.acons (D.acons Z2 (D.acons Z2 (D.acons Z2 .anil))) (.acons (D.bool false) .anil))) else none else none):=by kernel_rfl
theorem Qny (c:Bool) (cs:List Int) (key:Int) (p:Int) (h:(Qd cs.length)=true):Qhv c cs key p=some (.tup (.acons (.acons (.int .i64 ((Q1 p (Q2 cs key)).getD ⟨0,0,0⟩).key) (.acons (.int .i64 ((Q1 p (Q2 cs key)).getD ⟨0,0,0⟩).place) (.acons (.int .i64 ((Q1 p (Q2 cs key)).getD ⟨0,0,0⟩).value) .anil))) (.acons (.bool (Q1 p (Q2 cs key)).isSome) .anil))):=by
 (rw [Qnx];conv=>zeta)
 have hr:=Qeo cs key;refine Qb h (Qb (decide_eq_true (by omega)) ?_)
 rw [List.drop_zero];cases Q1 p (Q2 cs key) <;> rfl
noncomputable def up_8:=up_7.addSpec 75 QeE
theorem Qnz:Qh Tryz.prog s28 up_8:=Qnw.addEv Qc fun args d h=>by
 unfold QeE at h
 split at h
 · unfold Qhu at h;have h1:=congrArg Prod.fst (Option.some.inj h);obtain rfl:_=d:=congrArg Prod.snd (Option.some.inj h);exact ⟨by simp [D.refs],80,Qny _ _ _ _ h1⟩
 · cases h
open Go.Proofs
structure QeF where
 c:Bool
 cs:List Int
 a:Bool
 now:List Qa
 b:Bool
 sure:List Qa
 sp:Int
 l:List Item
 f0:Bool
 l0:List Line
 f1:Bool
 l1:List Line
 f2:Bool
 l2:List Line
 c0:Int
 c1:Int
 c2:Int
 k:Nat
noncomputable def QcM (c:Bool) (cs:List Int) (a:Bool) (now:List Qa) (b:Bool) (sure:List Qa) (sp:Int) (l:List Item) (f0:Bool) (l0:List Line) (f1:Bool) (l1:List Line) (f2:Bool) (l2:List Line) (c0:Int) (c1:Int) (c2:Int) (k:Nat):Env RC:=[(1,.ptr 0 []),(2,.ptr 1 []),(18,.int .i64 (k:Int))]
def Jm (c:Bool) (cs:List Int) (a:Bool) (now:List Qa) (b:Bool) (sure:List Qa) (sp:Int) (l:List Item) (f0:Bool) (l0:List Line) (f1:Bool) (l1:List Line) (f2:Bool) (l2:List Line) (c0:Int) (c1:Int) (c2:Int) (k:Nat):List (Obj RC):=[.var 41 (.acons (.sl (C:=RC) .int c cs) (.acons (.acons (.sl (C:=RC) .sector a now) (.acons (.sl (C:=RC) .sector b sure) .anil)) .anil)),.var 34 (.acons (.int .i64 sp) (.acons (.vs 2 (l.length)) (.acons (.acons (.sl (C:=RC) .line f0 l0) (.acons (.sl (C:=RC) .line f1 l1) (.acons (.sl (C:=RC) .line f2 l2) .anil))) (.acons (.arr (C:=RC) .int 3 [c0,c1,c2]) .anil)))),.vec .item true l]
noncomputable def Qhw (c:Bool) (cs:List Int) (a:Bool) (now:List Qa) (b:Bool) (sure:List Qa) (sp:Int) (l:List Item) (f0:Bool) (l0:List Line) (f1:Bool) (l1:List Line) (f2:Bool) (l2:List Line) (c0:Int) (c1:Int) (c2:Int) (k:Nat):=rndO s28 up_8 26 5 60 3 [1,2,18] [] [.slot 1 0,.slot 2 0,.path 1 [1]] (QcM c cs a now b sure sp l f0 l0 f1 l1 f2 l2 c0 c1 c2 k) (Jm c cs a now b sure sp l f0 l0 f1 l1 f2 l2 c0 c1 c2 k)
theorem QnA (c:Bool) (cs:List Int) (a:Bool) (now:List Qa) (b:Bool) (sure:List Qa) (sp:Int) (l:List Item) (f0:Bool) (l0:List Line) (f1:Bool) (l1:List Line) (f2:Bool) (l2:List Line) (c0:Int) (c1:Int) (c2:Int) (k:Nat):Qhw c cs a now b sure sp l f0 l0 f1 l1 f2 l2 c0 c1 c2 k=(let Z0:Int:=(↑k:Int);let Z1:Nat:=List.length l;let Z2:Item:=Option.getD (Q1 sp (Q2 cs Z0)) (Item.mk (0:Int) (0:Int) (0:Int));let Z3:List Item:=[Item.mk (Item.key Z2) (Item.place Z2) (Item.value Z2)];let Z4:X × Env RC:=(X.normal,[(1,D.ptr 0 []),(2,D.ptr 1 []),(18,D.int .i64 (IntKind.wrap .i64 (Z0+(1:Int))))]);let Z5:Option (Obj RC):=some (Obj.var 41 (.acons (D.sl RTy.int c cs) (.acons (D.acons (D.sl RTy.sector a now) (.acons (D.sl RTy.sector b sure) .anil)) .anil)));let Z6:D RC:=D.acons (D.acons (D.sl RTy.line f0 l0) (.acons (D.sl RTy.line f1 l1) (.acons (D.sl RTy.line f2 l2) .anil))) (.acons (D.arr RTy.int (3:Nat) [c0,c1,c2]) .anil);let Z7:List (Option (Obj RC)):=[Z5,some (Obj.var 34 (.acons (D.int .i64 sp) (.acons (D.vs 2 Z1) Z6))),some (Obj.vec RTy.item true l)];bif decide (Z0 < (24:Int)) then bif Qd cs.length then bif Option.isSome (Q1 sp (Q2 cs Z0)) then bif Nat.beq Z1 Z1 && QW (Z1+List.length Z3) (24:Nat) then some (Z4,[Z5,some (Obj.var 34 (.acons (D.int .i64 sp) (.acons (D.vs 2 (Z1+List.length Z3)) Z6))),some (Obj.vec RTy.item true (l++Z3))]) else none else some (Z4,Z7) else none else some ((X.exit (0:Nat),[]),Z7)):=by kernel_rfl
noncomputable def Zf (c:Bool) (cs:List Int) (a:Bool) (now:List Qa) (b:Bool) (sure:List Qa) (sp:Int) (l:List Item) (f0:Bool) (l0:List Line) (f1:Bool) (l1:List Line) (f2:Bool) (l2:List Line) (c0:Int) (c1:Int) (c2:Int) (k:Nat):RT RC:=.leaf (.exit 0) [] (Jm c cs a now b sure sp (l++Kl cs sp (24 - k) k) f0 l0 f1 l1 f2 l2 c0 c1 c2 k)
def ZO (c:Bool) (cs:List Int) (a:Bool) (now:List Qa) (b:Bool) (sure:List Qa) (sp:Int) (l:List Item) (f0:Bool) (l0:List Line) (f1:Bool) (l1:List Line) (f2:Bool) (l2:List Line) (c0:Int) (c1:Int) (c2:Int) (k:Nat):Prop:=k <= 24 /\ Qd cs.length=true /\ l.length <= k
noncomputable def Vn:QF RC QeF where
 k:=3
 canon q:=QcM q.c q.cs q.a q.now q.b q.sure q.sp q.l q.f0 q.l0 q.f1 q.l1 q.f2 q.l2 q.c0 q.c1 q.c2 q.k
 objs q:=Jm q.c q.cs q.a q.now q.b q.sure q.sp q.l q.f0 q.l0 q.f1 q.l1 q.f2 q.l2 q.c0 q.c1 q.c2 q.k
 fin q:=Zf q.c q.cs q.a q.now q.b q.sure q.sp q.l q.f0 q.l0 q.f1 q.l1 q.f2 q.l2 q.c0 q.c1 q.c2 q.k
 Inv q:=ZO q.c q.cs q.a q.now q.b q.sure q.sp q.l q.f0 q.l0 q.f1 q.l1 q.f2 q.l2 q.c0 q.c1 q.c2 q.k
 μ q:=24 - q.k
theorem QeG (c:Bool) (cs:List Int) (a:Bool) (now:List Qa) (b:Bool) (sure:List Qa) (sp:Int) (l:List Item) (f0:Bool) (l0:List Line) (f1:Bool) (l1:List Line) (f2:Bool) (l2:List Line) (c0:Int) (c1:Int) (c2:Int) (k:Nat) (hI:ZO c cs a now b sure sp l f0 l0 f1 l1 f2 l2 c0 c1 c2 k):Leaf (Qhw c cs a now b sure sp l f0 l0 f1 l1 f2 l2 c0 c1 c2 k) (LedR Vn ⟨c,cs,a,now,b,sure,sp,l,f0,l0,f1,l1,f2,l2,c0,c1,c2,k⟩):=by
 (rw [QnA];conv=>zeta)
 unfold ZO at hI;obtain ⟨hk,hc,hl⟩:=hI;have hfin:∀ L:List Item,l++Kl cs sp (24 - k) k=L->(Zf c cs a now b sure sp l f0 l0 f1 l1 f2 l2 c0 c1 c2 k).val=some ((.exit 0,[]),Jm c cs a now b sure sp L f0 l0 f1 l1 f2 l2 c0 c1 c2 k):=fun L h=>by subst h;rfl
 by_cases h24:k < 24
 · obtain ⟨m,hm⟩:∃ m,24 - k=m+1:=⟨23 - k,by omega⟩
   have hm2:24 - (k+1)=m:=by omega
   have w1:IntKind.i64.wrap ((k:Int)+1)=((k+1:Nat):Int):=by rw [wrap_id (by omega) (by omega)];simp
   have d1:decide ((k:Int) < 24)=true:=decide_eq_true (by omega)
   have hb:∀ n:Nat,Nat.beq n n=true:=fun n=>by simp
   have leta:∀ x:Item,Item.mk x.key x.place x.value=x:=fun _=>rfl;rw [hm,QbY] at hfin;simp only [d1,w1,hc,leta,cond_true];cases ho:Q1 sp (Q2 cs (k:Int)) with
   | none =>
    rw [ho] at hfin;simp only [Option.isSome_none,cond_false];refine Qt (S:=Vn) (s:=⟨c,cs,a,now,b,sure,sp,l,f0,l0,f1,l1,f2,l2,c0,c1,c2,k⟩) ⟨c,cs,a,now,b,sure,sp,l,f0,l0,f1,l1,f2,l2,c0,c1,c2,k+1⟩ (show ZO c cs a now b sure sp l f0 l0 f1 l1 f2 l2 c0 c1 c2 (k+1) from ⟨h24,hc,by omega⟩) (show 24 - (k+1) < 24 - k by omega) ?_ rfl rfl
    show (Zf c cs a now b sure sp l f0 l0 f1 l1 f2 l2 c0 c1 c2 (k+1)).val=(Zf c cs a now b sure sp l f0 l0 f1 l1 f2 l2 c0 c1 c2 k).val;rw [hfin _ rfl];unfold Zf;rw [hm2];rfl
   | some x =>
    rw [ho] at hfin;have e1:l.length+([x]:List Item).length=(l++[x]).length:=by simp
    have s1:QW (l++[x]).length 24=true:=by simp [QW];omega
    simp only [Option.isSome_some,Option.getD_some,e1,s1,hb,Bool.and_self,cond_true];refine Qt (S:=Vn) (s:=⟨c,cs,a,now,b,sure,sp,l,f0,l0,f1,l1,f2,l2,c0,c1,c2,k⟩) ⟨c,cs,a,now,b,sure,sp,l++[x],f0,l0,f1,l1,f2,l2,c0,c1,c2,k+1⟩ (show ZO c cs a now b sure sp (l++[x]) f0 l0 f1 l1 f2 l2 c0 c1 c2 (k+1) from ⟨h24,hc,by simp;omega⟩) (show 24 - (k+1) < 24 - k by omega) ?_ rfl rfl
    show (Zf c cs a now b sure sp (l++[x]) f0 l0 f1 l1 f2 l2 c0 c1 c2 (k+1)).val=(Zf c cs a now b sure sp l f0 l0 f1 l1 f2 l2 c0 c1 c2 k).val;rw [hfin (l++[x]++Kl cs sp m (k+1)) (by simp)]
    unfold Zf;rw [hm2];rfl
 · have d1:decide ((k:Int) < 24)=false:=decide_eq_false (by omega)
   rw [d1,cond_false];have e:24 - k=0:=by omega
   rw [e] at hfin;exact Qi _ (hfin l (by show l++[]=l;simp)) rfl
noncomputable def QcN (env:Env RC) (os:List (Obj RC)):Option (Bool × QeF):=match env,os with
 | [(1,.ptr 0 []),(2,.ptr 1 []),(18,.int .i64 x0)],[.var 41 (.acons (.sl .int c cs) (.acons (.acons (.sl .sector a now) (.acons (.sl .sector b sure) .anil)) .anil)),.var 34 (.acons (.int .i64 sp) (.acons (.vs 2 x1) (.acons (.acons (.sl .line f0 l0) (.acons (.sl .line f1 l1) (.acons (.sl .line f2 l2) .anil))) (.acons (.arr .int 3 [c0,c1,c2]) .anil)))),.vec .item true l]=>Qz (true) (decide (x0=0) && decide (x1=l.length) && Qd cs.length && l.isEmpty,⟨c,cs,a,now,b,sure,sp,l,f0,l0,f1,l1,f2,l2,c0,c1,c2,0⟩)
 | _,_=>none
noncomputable def uq_1:=up_8.addLoop 26 5 (sumR s28 [.slot 1 0,.slot 2 0,.path 1 [1]] [1,2,18] Vn QcN)
theorem QnB:Qh Tryz.prog s28 uq_1:=by
 refine Qnz.addRoundsR Qc (by kernel_rfl) Vn 60 [1,2,18] [] [.slot 1 0,.slot 2 0,.path 1 [1]] [1,2,18] QcN (fun q hI=>?_) ?_
 · obtain ⟨c,cs,a,now,b,sure,sp,l,f0,l0,f1,l1,f2,l2,c0,c1,c2,k⟩:=q;refine ⟨?_,?_,QeG c cs a now b sure sp l f0 l0 f1 l1 f2 l2 c0 c1 c2 k hI⟩
   · simp_all [Qk,Vn,QcM,Jm,ZO,D.refs,Obj.refs,rEnc]
   · simp_all [Vn,Zf,Jm,ZO,RT.refsOK,Qk,D.refs,Obj.refs,rEnc]
 · intro env os b q hd_ hb;unfold QcN at hd_
   split at hd_
   · obtain ⟨hs,hd_⟩:=Qg hd_;cases hd_;simp only [Bool.and_eq_true,decide_eq_true_eq] at hb;obtain ⟨⟨⟨h1,h2⟩,hA⟩,hl⟩:=hb;have hl:=List.isEmpty_iff.1 hl;subst h1;subst h2;subst hl;exact ⟨⟨Nat.zero_le _,hA,Nat.zero_le _⟩,rfl,rfl⟩
   · cases hd_
noncomputable def Qhx (c:Bool) (cs:List Int) (a:Bool) (now:List Qa) (b:Bool) (sure:List Qa):Option (Bool × D RC):=some (Qd cs.length && rngI cs,.tup (.acons (stV (Km cs)) (.acons (.int .i64 (Qbj cs)) .anil)))
noncomputable def QeH:List (D RC)->Option (Bool × D RC)
 | [.acons (.sl .int c cs) (.acons (.acons (.sl .sector a now) (.acons (.sl .sector b sure) .anil)) .anil)]=>Qhx c cs a now b sure
 | _=>none
noncomputable def Qhy (c:Bool) (cs:List Int) (a:Bool) (now:List Qa) (b:Bool) (sure:List Qa):=evFW s28 uq_1 120 26 [.acons (.sl (C:=RC) .int c cs) (.acons (.acons (.sl (C:=RC) .sector a now) (.acons (.sl (C:=RC) .sector b sure) .anil)) .anil)]
theorem QnC (c:Bool) (cs:List Int) (a:Bool) (now:List Qa) (b:Bool) (sure:List Qa):Qhy c cs a now b sure=(let Z0:Bool:=Qd cs.length;let Z1:Int:=(↑cs.length:Int);let Z2:D RC:=D.int .i64 0;let Z3:D RC:=D.sl RTy.line false [];let Z4:D RC:=.anil;let Z5:Bool:=Z0 && rngI cs;let Z6:Int:=List.getD cs (0:Nat) (0:Int);let Z7:List Item:=[]++Kl cs Z6 (24:Nat) (0:Nat);let Z8:DO_:=none;bif Z0 then bif Z1 != (771:Int) then some (D.tup (D.acons (D.acons Z2 (D.acons (D.sl RTy.item false []) (.acons (D.acons Z3 (D.acons Z3 (D.acons Z3 Z4))) (.acons (D.arr RTy.int (3:Nat) (List.replicate (3:Nat) (0:Int))) Z4)))) (.acons (D.int .i64 2) Z4))) else bif decide ((0:Int) <= (0:Int) /\ (0:Int) < Z1) then bif Z0 && true then bif Z5 then bif decide ((0:Int) <= (48:Int) /\ (48:Int) < Z1) then bif Z5 then bif decide ((0:Int) <= (49:Int) /\ (49:Int) < Z1) then bif Z5 then bif decide ((0:Int) <= (50:Int) /\ (50:Int) < Z1) then bif Nat.beq Z7.length Z7.length then some (D.tup (D.acons (D.acons (D.int .i64 Z6) (.acons (D.sl RTy.item false Z7) (.acons (D.acons (D.sl RTy.line false (Zl cs (0:Int))) (.acons (D.sl RTy.line false (Zl cs (1:Int))) (.acons (D.sl RTy.line false (Zl cs (2:Int))) Z4))) (.acons (D.arr RTy.int (3:Nat) [List.getD cs (48:Nat) (0:Int),List.getD cs (49:Nat) (0:Int),List.getD cs (50:Nat) (0:Int)]) Z4)))) (.acons Z2 Z4))) else Z8 else Z8 else Z8 else Z8 else Z8 else Z8 else Z8 else Z8 else Z8 else Z8):=by kernel_rfl
theorem QnD (c:Bool) (cs:List Int) (a:Bool) (now:List Qa) (b:Bool) (sure:List Qa) (h:(Qd cs.length && rngI cs)=true):Qhy c cs a now b sure=some (.tup (.acons (stV (Km cs)) (.acons (.int .i64 (Qbj cs)) .anil))):=by
 (rw [QnC];conv=>zeta)
 have hh:=h;rw [Bool.and_eq_true] at hh;refine Qb hh.1 ?_
 by_cases hl:cs.length=771
 · have z:∀ n:Int,0 <= n->n < 771->decide (0 <= n /\ n < (cs.length:Int))=true:=fun n h0 h1=>decide_eq_true ⟨h0,by omega⟩
   simp only [Km,Qbj,decide_eq_true hl,cond_true];exact Zh (by rw [hl];rfl) (Qb (z 0 (by decide) (by decide)) (Qb (andT hh.1 rfl) (Qb h (Qb (z 48 (by decide) (by decide)) (Qb h (Qb (z 49 (by decide) (by decide)) (Qb h (Qb (z 50 (by decide) (by decide)) (Qb (Vd rfl) rfl)))))))))
 · simp only [Km,Qbj,decide_eq_false hl,cond_false];exact Qb (by simp;omega) rfl
noncomputable def uq_2:=uq_1.addSpec 26 QeH
theorem QnE:Qh Tryz.prog s28 uq_2:=QnB.addEvW Qc fun args d h=>by
 unfold QeH at h
 split at h
 · unfold Qhx at h;have h1:=congrArg Prod.fst (Option.some.inj h);obtain rfl:_=d:=congrArg Prod.snd (Option.some.inj h);exact ⟨by simp [D.refs,stV],120,QnD _ _ _ _ _ _ h1⟩
 · cases h
structure QeI where
 c:Bool
 cs:List Int
 a:Bool
 now:List Qa
 b:Bool
 sure:List Qa
 sp:Int
 l:List Item
 f0:Bool
 l0:List Line
 f1:Bool
 l1:List Line
 f2:Bool
 l2:List Line
 c0:Int
 c1:Int
 c2:Int
 k:Nat
noncomputable def QcO (c:Bool) (cs:List Int) (a:Bool) (now:List Qa) (b:Bool) (sure:List Qa) (sp:Int) (l:List Item) (f0:Bool) (l0:List Line) (f1:Bool) (l1:List Line) (f2:Bool) (l2:List Line) (c0:Int) (c1:Int) (c2:Int) (k:Nat):Env RC:=[(1,.ptr 0 []),(4,.ptr 1 []),(5,.int .i64 (k:Int))]
def Jn (c:Bool) (cs:List Int) (a:Bool) (now:List Qa) (b:Bool) (sure:List Qa) (sp:Int) (l:List Item) (f0:Bool) (l0:List Line) (f1:Bool) (l1:List Line) (f2:Bool) (l2:List Line) (c0:Int) (c1:Int) (c2:Int) (k:Nat):List (Obj RC):=[.var 41 (.acons (.sl (C:=RC) .int c cs) (.acons (.acons (.sl (C:=RC) .sector a now) (.acons (.sl (C:=RC) .sector b sure) .anil)) .anil)),.var 34 (.acons (.int .i64 sp) (.acons (.vs 2 (l.length)) (.acons (.acons (.sl (C:=RC) .line f0 l0) (.acons (.sl (C:=RC) .line f1 l1) (.acons (.sl (C:=RC) .line f2 l2) .anil))) (.acons (.arr (C:=RC) .int 3 [c0,c1,c2]) .anil)))),.vec .item true l]
noncomputable def Qhz (c:Bool) (cs:List Int) (a:Bool) (now:List Qa) (b:Bool) (sure:List Qa) (sp:Int) (l:List Item) (f0:Bool) (l0:List Line) (f1:Bool) (l1:List Line) (f2:Bool) (l2:List Line) (c0:Int) (c1:Int) (c2:Int) (k:Nat):=rndO s28 uq_2 27 5 60 3 [1,4,5] [] [.slot 1 0,.slot 4 0,.path 1 [1]] (QcO c cs a now b sure sp l f0 l0 f1 l1 f2 l2 c0 c1 c2 k) (Jn c cs a now b sure sp l f0 l0 f1 l1 f2 l2 c0 c1 c2 k)
theorem QnF (c:Bool) (cs:List Int) (a:Bool) (now:List Qa) (b:Bool) (sure:List Qa) (sp:Int) (l:List Item) (f0:Bool) (l0:List Line) (f1:Bool) (l1:List Line) (f2:Bool) (l2:List Line) (c0:Int) (c1:Int) (c2:Int) (k:Nat):Qhz c cs a now b sure sp l f0 l0 f1 l1 f2 l2 c0 c1 c2 k=(let Z0:Int:=(↑k:Int);let Z1:Option Item:=Q1 (List.getD cs (0:Nat) (0:Int)) (Q2 cs Z0);let Z2:Nat:=List.length l;let Z3:Item:=Option.getD Z1 (Item.mk (0:Int) (0:Int) (0:Int));let Z4:List Item:=[Item.mk (Item.key Z3) (Item.place Z3) (Item.value Z3)];let Z5:X × Env RC:=(X.normal,[(1,D.ptr 0 []),(4,D.ptr 1 []),(5,D.int .i64 (IntKind.wrap .i64 (Z0+(1:Int))))]);let Z6:Option (Obj RC):=some (Obj.var 41 (.acons (D.sl RTy.int c cs) (.acons (D.acons (D.sl RTy.sector a now) (.acons (D.sl RTy.sector b sure) .anil)) .anil)));let Z7:D RC:=D.acons (D.acons (D.sl RTy.line f0 l0) (.acons (D.sl RTy.line f1 l1) (.acons (D.sl RTy.line f2 l2) .anil))) (.acons (D.arr RTy.int (3:Nat) [c0,c1,c2]) .anil);let Z8:List (Option (Obj RC)):=[Z6,some (Obj.var 34 (.acons (D.int .i64 sp) (.acons (D.vs 2 Z2) Z7))),some (Obj.vec RTy.item true l)];bif decide (Z0 < (24:Int)) then bif decide ((0:Int) <= (0:Int) /\ (0:Int) < (↑cs.length:Int)) then bif Qd cs.length then bif Option.isSome Z1 then bif Nat.beq Z2 Z2 && QW (Z2+List.length Z4) (24:Nat) then some (Z5,[Z6,some (Obj.var 34 (.acons (D.int .i64 sp) (.acons (D.vs 2 (Z2+List.length Z4)) Z7))),some (Obj.vec RTy.item true (l++Z4))]) else none else some (Z5,Z8) else none else none else some ((X.exit (0:Nat),[]),Z8)):=by kernel_rfl
noncomputable def Zg (c:Bool) (cs:List Int) (a:Bool) (now:List Qa) (b:Bool) (sure:List Qa) (sp:Int) (l:List Item) (f0:Bool) (l0:List Line) (f1:Bool) (l1:List Line) (f2:Bool) (l2:List Line) (c0:Int) (c1:Int) (c2:Int) (k:Nat):RT RC:=.leaf (.exit 0) [] (Jn c cs a now b sure sp (l++Kl cs (cs.getD 0 0) (24 - k) k) f0 l0 f1 l1 f2 l2 c0 c1 c2 k)
def ZP (c:Bool) (cs:List Int) (a:Bool) (now:List Qa) (b:Bool) (sure:List Qa) (sp:Int) (l:List Item) (f0:Bool) (l0:List Line) (f1:Bool) (l1:List Line) (f2:Bool) (l2:List Line) (c0:Int) (c1:Int) (c2:Int) (k:Nat):Prop:=k <= 24 /\ cs.length=771 /\ l.length <= k
noncomputable def Vo:QF RC QeI where
 k:=3
 canon q:=QcO q.c q.cs q.a q.now q.b q.sure q.sp q.l q.f0 q.l0 q.f1 q.l1 q.f2 q.l2 q.c0 q.c1 q.c2 q.k
 objs q:=Jn q.c q.cs q.a q.now q.b q.sure q.sp q.l q.f0 q.l0 q.f1 q.l1 q.f2 q.l2 q.c0 q.c1 q.c2 q.k
 fin q:=Zg q.c q.cs q.a q.now q.b q.sure q.sp q.l q.f0 q.l0 q.f1 q.l1 q.f2 q.l2 q.c0 q.c1 q.c2 q.k
 Inv q:=ZP q.c q.cs q.a q.now q.b q.sure q.sp q.l q.f0 q.l0 q.f1 q.l1 q.f2 q.l2 q.c0 q.c1 q.c2 q.k
 μ q:=24 - q.k
theorem QeJ (c:Bool) (cs:List Int) (a:Bool) (now:List Qa) (b:Bool) (sure:List Qa) (sp:Int) (l:List Item) (f0:Bool) (l0:List Line) (f1:Bool) (l1:List Line) (f2:Bool) (l2:List Line) (c0:Int) (c1:Int) (c2:Int) (k:Nat) (hI:ZP c cs a now b sure sp l f0 l0 f1 l1 f2 l2 c0 c1 c2 k):Leaf (Qhz c cs a now b sure sp l f0 l0 f1 l1 f2 l2 c0 c1 c2 k) (LedR Vo ⟨c,cs,a,now,b,sure,sp,l,f0,l0,f1,l1,f2,l2,c0,c1,c2,k⟩):=by
 (rw [QnF];conv=>zeta)
 unfold ZP at hI;obtain ⟨hk,hc,hl⟩:=hI;have z0:decide (0 <= (0:Int) /\ (0:Int) < (cs.length:Int))=true:=decide_eq_true ⟨Int.le_refl _,by omega⟩
 have z1:Qd cs.length=true:=Ql (by omega)
 have hfin:∀ L:List Item,l++Kl cs (cs.getD 0 0) (24 - k) k=L->(Zg c cs a now b sure sp l f0 l0 f1 l1 f2 l2 c0 c1 c2 k).val=some ((.exit 0,[]),Jn c cs a now b sure sp L f0 l0 f1 l1 f2 l2 c0 c1 c2 k):=fun L h=>by subst h;rfl
 by_cases h24:k < 24
 · obtain ⟨m,hm⟩:∃ m,24 - k=m+1:=⟨23 - k,by omega⟩
   have hm2:24 - (k+1)=m:=by omega
   have w1:IntKind.i64.wrap ((k:Int)+1)=((k+1:Nat):Int):=by rw [wrap_id (by omega) (by omega)];simp
   have d1:decide ((k:Int) < 24)=true:=decide_eq_true (by omega)
   have hb:∀ n:Nat,Nat.beq n n=true:=fun n=>by simp
   have leta:∀ x:Item,Item.mk x.key x.place x.value=x:=fun _=>rfl;rw [hm,QbY] at hfin;simp only [d1,w1,z0,z1,leta,cond_true];cases ho:Q1 (cs.getD 0 0) (Q2 cs (k:Int)) with
   | none =>
    rw [ho] at hfin;simp only [Option.isSome_none,cond_false];refine Qt (S:=Vo) (s:=⟨c,cs,a,now,b,sure,sp,l,f0,l0,f1,l1,f2,l2,c0,c1,c2,k⟩) ⟨c,cs,a,now,b,sure,sp,l,f0,l0,f1,l1,f2,l2,c0,c1,c2,k+1⟩ (show ZP c cs a now b sure sp l f0 l0 f1 l1 f2 l2 c0 c1 c2 (k+1) from ⟨h24,hc,by omega⟩) (show 24 - (k+1) < 24 - k by omega) ?_ rfl rfl
    show (Zg c cs a now b sure sp l f0 l0 f1 l1 f2 l2 c0 c1 c2 (k+1)).val=(Zg c cs a now b sure sp l f0 l0 f1 l1 f2 l2 c0 c1 c2 k).val;rw [hfin _ rfl];unfold Zg;rw [hm2];rfl
   | some x =>
    rw [ho] at hfin;have e1:l.length+([x]:List Item).length=(l++[x]).length:=by simp
    have s1:QW (l++[x]).length 24=true:=by simp [QW];omega
    simp only [Option.isSome_some,Option.getD_some,e1,s1,hb,Bool.and_self,cond_true];refine Qt (S:=Vo) (s:=⟨c,cs,a,now,b,sure,sp,l,f0,l0,f1,l1,f2,l2,c0,c1,c2,k⟩) ⟨c,cs,a,now,b,sure,sp,l++[x],f0,l0,f1,l1,f2,l2,c0,c1,c2,k+1⟩ (show ZP c cs a now b sure sp (l++[x]) f0 l0 f1 l1 f2 l2 c0 c1 c2 (k+1) from ⟨h24,hc,by simp;omega⟩) (show 24 - (k+1) < 24 - k by omega) ?_ rfl rfl
    show (Zg c cs a now b sure sp (l++[x]) f0 l0 f1 l1 f2 l2 c0 c1 c2 (k+1)).val=(Zg c cs a now b sure sp l f0 l0 f1 l1 f2 l2 c0 c1 c2 k).val;rw [hfin (l++[x]++Kl cs (cs.getD 0 0) m (k+1)) (by simp)]
    unfold Zg;rw [hm2];rfl
 · have d1:decide ((k:Int) < 24)=false:=decide_eq_false (by omega)
   rw [d1,cond_false];have e:24 - k=0:=by omega
   rw [e] at hfin;exact Qi _ (hfin l (by show l++[]=l;simp)) rfl
noncomputable def QcP (env:Env RC) (os:List (Obj RC)):Option (Bool × QeI):=match env,os with
 | [(1,.ptr 0 []),(4,.ptr 1 []),(5,.int .i64 x0)],[.var 41 (.acons (.sl .int c cs) (.acons (.acons (.sl .sector a now) (.acons (.sl .sector b sure) .anil)) .anil)),.var 34 (.acons (.int .i64 sp) (.acons (.vs 2 x1) (.acons (.acons (.sl .line f0 l0) (.acons (.sl .line f1 l1) (.acons (.sl .line f2 l2) .anil))) (.acons (.arr .int 3 [c0,c1,c2]) .anil)))),.vec .item true l]=>Qz (true) (decide (x0=0) && decide (x1=l.length) && decide (cs.length=771) && l.isEmpty,⟨c,cs,a,now,b,sure,sp,l,f0,l0,f1,l1,f2,l2,c0,c1,c2,0⟩)
 | _,_=>none
noncomputable def uq_3:=uq_2.addLoop 27 5 (sumR s28 [.slot 1 0,.slot 4 0,.path 1 [1]] [1,4,5] Vo QcP)
theorem QnG:Qh Tryz.prog s28 uq_3:=by
 refine QnE.addRoundsR Qc (by kernel_rfl) Vo 60 [1,4,5] [] [.slot 1 0,.slot 4 0,.path 1 [1]] [1,4,5] QcP (fun q hI=>?_) ?_
 · obtain ⟨c,cs,a,now,b,sure,sp,l,f0,l0,f1,l1,f2,l2,c0,c1,c2,k⟩:=q;refine ⟨?_,?_,QeJ c cs a now b sure sp l f0 l0 f1 l1 f2 l2 c0 c1 c2 k hI⟩
   · simp_all [Qk,Vo,QcO,Jn,ZP,D.refs,Obj.refs,rEnc]
   · simp_all [Vo,Zg,Jn,ZP,RT.refsOK,Qk,D.refs,Obj.refs,rEnc]
 · intro env os b q hd_ hb;unfold QcP at hd_
   split at hd_
   · obtain ⟨hs,hd_⟩:=Qg hd_;cases hd_;simp only [Bool.and_eq_true,decide_eq_true_eq] at hb;obtain ⟨⟨⟨h1,h2⟩,hA⟩,hl⟩:=hb;have hl:=List.isEmpty_iff.1 hl;subst h1;subst h2;subst hl;exact ⟨⟨Nat.zero_le _,hA,Nat.zero_le _⟩,rfl,rfl⟩
   · cases hd_
noncomputable def QhA (c:Bool) (cs:List Int) (a:Bool) (now:List Qa) (b:Bool) (sure:List Qa):Option (Bool × D RC):=some (Qd cs.length && rngI cs,.tup (.acons (stV (Km cs)) (.acons (.int .i64 (Qbj cs)) .anil)))
noncomputable def QeK:List (D RC)->Option (Bool × D RC)
 | [.acons (.sl .int c cs) (.acons (.acons (.sl .sector a now) (.acons (.sl .sector b sure) .anil)) .anil)]=>QhA c cs a now b sure
 | _=>none
noncomputable def QhB (c:Bool) (cs:List Int) (a:Bool) (now:List Qa) (b:Bool) (sure:List Qa):=evFW s28 uq_3 120 27 [.acons (.sl (C:=RC) .int c cs) (.acons (.acons (.sl (C:=RC) .sector a now) (.acons (.sl (C:=RC) .sector b sure) .anil)) .anil)]
theorem QnH (c:Bool) (cs:List Int) (a:Bool) (now:List Qa) (b:Bool) (sure:List Qa):QhB c cs a now b sure=(let Z0:Nat:=List.length cs;let Z1:Int:=(↑Z0:Int);let Z2:D RC:=D.int .i64 0;let Z3:D RC:=D.sl RTy.line false [];let Z4:D RC:=.anil;let Z5:Bool:=Qd Z0 && rngI cs;let Z6:Int:=List.getD cs (0:Nat) (0:Int);let Z7:List Item:=[]++Kl cs Z6 (24:Nat) (0:Nat);let Z8:DO_:=none;bif Qd Z0 then bif Z1 != (771:Int) then some (D.tup (D.acons (D.acons Z2 (D.acons (D.sl RTy.item false []) (.acons (D.acons Z3 (D.acons Z3 (D.acons Z3 Z4))) (.acons (D.arr RTy.int (3:Nat) (List.replicate (3:Nat) (0:Int))) Z4)))) (.acons (D.int .i64 2) Z4))) else bif decide ((0:Int) <= (0:Int) /\ (0:Int) < Z1) then bif decide (Z0=(771:Nat)) && true then bif Z5 then bif decide ((0:Int) <= (48:Int) /\ (48:Int) < Z1) then bif Z5 then bif decide ((0:Int) <= (49:Int) /\ (49:Int) < Z1) then bif Z5 then bif decide ((0:Int) <= (50:Int) /\ (50:Int) < Z1) then bif Nat.beq Z7.length Z7.length then some (D.tup (D.acons (D.acons (D.int .i64 Z6) (.acons (D.sl RTy.item false Z7) (.acons (D.acons (D.sl RTy.line false (Zl cs (0:Int))) (.acons (D.sl RTy.line false (Zl cs (1:Int))) (.acons (D.sl RTy.line false (Zl cs (2:Int))) Z4))) (.acons (D.arr RTy.int (3:Nat) [List.getD cs (48:Nat) (0:Int),List.getD cs (49:Nat) (0:Int),List.getD cs (50:Nat) (0:Int)]) Z4)))) (.acons Z2 Z4))) else Z8 else Z8 else Z8 else Z8 else Z8 else Z8 else Z8 else Z8 else Z8 else Z8):=by kernel_rfl
theorem QnI (c:Bool) (cs:List Int) (a:Bool) (now:List Qa) (b:Bool) (sure:List Qa) (h:(Qd cs.length && rngI cs)=true):QhB c cs a now b sure=some (.tup (.acons (stV (Km cs)) (.acons (.int .i64 (Qbj cs)) .anil))):=by
 (rw [QnH];conv=>zeta)
 have hh:=h;rw [Bool.and_eq_true] at hh;refine Qb hh.1 ?_
 by_cases hl:cs.length=771
 · have z:∀ n:Int,0 <= n->n < 771->decide (0 <= n /\ n < (cs.length:Int))=true:=fun n h0 h1=>decide_eq_true ⟨h0,by omega⟩
   simp only [Km,Qbj,decide_eq_true hl,cond_true];exact Zh (by rw [hl];rfl) (Qb (z 0 (by decide) (by decide)) (Qb rfl (Qb h (Qb (z 48 (by decide) (by decide)) (Qb h (Qb (z 49 (by decide) (by decide)) (Qb h (Qb (z 50 (by decide) (by decide)) (Qb (Vd rfl) rfl)))))))))
 · simp only [Km,Qbj,decide_eq_false hl,cond_false];exact Qb (by simp;omega) rfl
noncomputable def uq_4:=uq_3.addSpec 27 QeK
theorem QnJ:Qh Tryz.prog s28 uq_4:=QnG.addEvW Qc fun args d h=>by
 unfold QeK at h
 split at h
 · unfold QhA at h;have h1:=congrArg Prod.fst (Option.some.inj h);obtain rfl:_=d:=congrArg Prod.snd (Option.some.inj h);exact ⟨by simp [D.refs,stV],120,QnI _ _ _ _ _ _ h1⟩
 · cases h
open Go.Proofs
theorem QeL {l:List Qa} (h:QH l=true):Qd l.length=true:=Ql (QU.1 h).1
noncomputable def Qa9 (b0:Bool) (now:List Qa) (b1:Bool) (sure:List Qa) (c:Int) (w:Int) (d:Int) (k:Int) (sp:Int) (ci:Bool) (it:List Item) (f0:Bool) (l0:List Line) (f1:Bool) (l1:List Line) (f2:Bool) (l2:List Line) (c0:Int) (c1:Int) (c2:Int) (b2:Bool) (cs:List Int):=evF s28 uq_4 300 5 [.acons (.sl (C:=RC) .sector b0 now) (.acons (.sl (C:=RC) .sector b1 sure) .anil),.acons (.int .i64 c) (.acons (.int .i64 w) (.acons (.int .i64 d) (.acons (.int .i64 k) .anil))),.acons (.int .i64 sp) (.acons (.sl (C:=RC) .item ci it) (.acons (.acons (.sl (C:=RC) .line f0 l0) (.acons (.sl (C:=RC) .line f1 l1) (.acons (.sl (C:=RC) .line f2 l2) .anil))) (.acons (.arr (C:=RC) .int 3 [c0,c1,c2]) .anil))),.sl (C:=RC) .int b2 cs]
theorem Qi0 (b0:Bool) (now:List Qa) (b1:Bool) (sure:List Qa) (c:Int) (w:Int) (d:Int) (k:Int) (sp:Int) (ci:Bool) (it:List Item) (f0:Bool) (l0:List Line) (f1:Bool) (l1:List Line) (f2:Bool) (l2:List Line) (c0:Int) (c1:Int) (c2:Int) (b2:Bool) (cs:List Int):Qa9 b0 now b1 sure c w d k sp ci it f0 l0 f1 l1 f2 l2 c0 c1 c2 b2 cs=(let Z0:Bool:=QH now && QH sure;let Z1:DO_:=some (D.bool true);let Z2:Nat:=List.length it;let Z3:Nat:=List.length l0;let Z4:Nat:=List.length l1;let Z5:Nat:=List.length l2;let Z6:Bool:=Qd cs.length;let Z7:Bool:=Z0 && decide (Z2 <= (9223372036854775807:Nat) /\ Z3 <= (9223372036854775807:Nat) /\ Z4 <= (9223372036854775807:Nat) /\ Z5 <= (9223372036854775807:Nat));let Z8:St:=St.mk sp it l0 l1 l2 c0 c1 c2;let Z9:Int:=QX now sure c w d k Z8;let Z10:Bool:=Z9 == (0:Int);let Z11:List Int:=bif Z10 then VZ nC c k Z8 else [];let Z12:List Qa:=bif Z10 then now else [];let Z13:List Qa:=bif Z10 then sure else [];let Z14:St:=Km cs;let Z15:Bool:=Qd Z14.items.length;let Z16:Bool:=Qd Z14.l0.length;let Z17:Bool:=Qd Z14.l1.length;let Z18:Bool:=Qd Z14.l2.length;let Z19:St:=St.mk Z14.place Z14.items Z14.l0 Z14.l1 Z14.l2 Z14.c0 Z14.c1 Z14.c2;let Z20:DO_:=some (D.bool false);let Z21:DO_:=none;bif Z0 then bif Qgh now sure then Z1 else bif Qd Z2 then bif decide ((60:Int) < (↑Z2:Int)) then Z1 else bif Qd Z3 then bif decide ((40:Int) < (↑Z3:Int)) then Z1 else bif Qd Z4 then bif decide ((40:Int) < (↑Z4:Int)) then Z1 else bif Qd Z5 then bif decide ((40:Int) < (↑Z5:Int)) then Z1 else bif Z6 then bif decide ((4000:Int) < (↑cs.length:Int)) then Z1 else bif Z7 then bif Z7 then bif Z6 && rngI cs then bif Z6 && rngI cs then bif Qd Z11.length && Qd Z11.length && (Qd Z12.length && Qd Z12.length && (Qd Z13.length && Qd Z13.length)) then bif decide (Z11=Z11) && (decide (Z12=Z12) && decide (Z13=Z13)) then bif Z9 == Z9 then bif Z15 && Z15 && (Z16 && Z16) && (Z17 && Z17) && (Z18 && Z18) then bif decide (Z19=Z19) then bif Qbj cs == Qbj cs then Z1 else Z20 else Z20 else Z21 else Z20 else Z20 else Z21 else Z21 else Z21 else Z21 else Z21 else Z21 else Z21 else Z21 else Z21 else Z21 else Z21):=by kernel_rfl
theorem Qi1 (b0:Bool) (now:List Qa) (b1:Bool) (sure:List Qa) (c:Int) (w:Int) (d:Int) (k:Int) (sp:Int) (ci:Bool) (it:List Item) (f0:Bool) (l0:List Line) (f1:Bool) (l1:List Line) (f2:Bool) (l2:List Line) (c0:Int) (c1:Int) (c2:Int) (b2:Bool) (cs:List Int) (h:(QH now && QH sure && decide (it.length <= 9223372036854775807 /\ l0.length <= 9223372036854775807 /\ l1.length <= 9223372036854775807 /\ l2.length <= 9223372036854775807) && (Qd cs.length && rngI cs))=true):Qa9 b0 now b1 sure c w d k sp ci it f0 l0 f1 l1 f2 l2 c0 c1 c2 b2 cs=some (.bool true):=by
 (rw [Qi0];conv=>zeta)
 rw [Bool.and_eq_true,Bool.and_eq_true] at h;obtain ⟨⟨hg,hl⟩,hc⟩:=h;have hl2:=of_decide_eq_true hl;have hgg:=hg;rw [Bool.and_eq_true] at hgg;have hcc:=hc;rw [Bool.and_eq_true] at hcc;refine Qb hg (Qx (fun _=>rfl) fun _=>?_);refine Qb (Ql hl2.1) (Qx (fun _=>rfl) fun _=>?_);refine Qb (Ql hl2.2.1) (Qx (fun _=>rfl) fun _=>?_);refine Qb (Ql hl2.2.2.1) (Qx (fun _=>rfl) fun _=>?_);refine Qb (Ql hl2.2.2.2) (Qx (fun _=>rfl) fun _=>?_);refine Qb hcc.1 (Qx (fun _=>rfl) fun _=>?_);refine Qb (andT hg hl) (Qb (andT hg hl) (Qb hc (Qb hc ?_)))
 have m1:Qd (bif QX now sure c w d k ⟨sp,it,l0,l1,l2,c0,c1,c2⟩ == 0 then VZ nC c k ⟨sp,it,l0,l1,l2,c0,c1,c2⟩ else []).length=true:=by
  cases QX now sure c w d k ⟨sp,it,l0,l1,l2,c0,c1,c2⟩ == 0
  · rfl
  · exact Ql (by simp only [cond_true,Qek];omega)
 have m2:Qd (bif QX now sure c w d k ⟨sp,it,l0,l1,l2,c0,c1,c2⟩ == 0 then now else []).length=true:=by
  cases QX now sure c w d k ⟨sp,it,l0,l1,l2,c0,c1,c2⟩ == 0
  · rfl
  · exact QeL hgg.1
 have m3:Qd (bif QX now sure c w d k ⟨sp,it,l0,l1,l2,c0,c1,c2⟩ == 0 then sure else []).length=true:=by
  cases QX now sure c w d k ⟨sp,it,l0,l1,l2,c0,c1,c2⟩ == 0
  · rfl
  · exact QeL hgg.2
 have t1:(Km cs).items.length <= 24 /\ (Km cs).l0.length <= 24 /\ (Km cs).l1.length <= 24 /\ (Km cs).l2.length <= 24:=by
  have h0:=Qep cs (cs.getD 0 0) 24 0;have h1:=KO cs 0;have h2:=KO cs 1;have h3:=KO cs 2;unfold Km;cases decide (cs.length=771)
  · exact ⟨Nat.zero_le _,Nat.zero_le _,Nat.zero_le _,Nat.zero_le _⟩
  · exact ⟨h0,Nat.le_trans h1 (by decide),Nat.le_trans h2 (by decide),Nat.le_trans h3 (by decide)⟩
 have t4:∀ {a b c d:Nat},a <= 24->b <= 24->c <= 24->d <= 24->(Qd a && Qd a && (Qd b && Qd b) && (Qd c && Qd c) && (Qd d && Qd d))=true:=fun h1 h2 h3 h4=>by
  rw [Ql (show _ <= _ by omega),Ql (show _ <= _ by omega),Ql (show _ <= _ by omega),Ql (show _ <= _ by omega)];rfl
 refine Qb (andT (andT m1 m1) (andT (andT m2 m2) (andT m3 m3))) (Qb (andT (decide_eq_true rfl) (andT (decide_eq_true rfl) (decide_eq_true rfl))) (Qb (by simp) ?_))
 exact Qb (t4 t1.1 t1.2.1 t1.2.2.1 t1.2.2.2) (Qb (decide_eq_true rfl) (Qb (by simp) rfl))
open Go.ChangeShapes Go.WideShapes Go.RowKit
section
variable {C:Cdc}
def good (gA:(t:C.Ty)->C.A t->Prop):D C->Prop
 | .int k n=>k.min <= n /\ n <= k.max
 | .str s=>s.length <= maxLen
 | .acons d ds=>good gA d /\ good gA ds
 | .arr t n l=>l.length=n /\ ∀ x ∈ l,gA t x
 | .sl t _ l=>l.length <= maxLen /\ ∀ x ∈ l,gA t x
 | _=>True
def plainT (T:Tab C):Nat->TypeId->Bool
 | 0,_=>false
 | k+1,t=>match T.ty t with
  | .bool | .int _ | .str=>true
  | .struct _ fs=>fs.all (plainT T k)
  | .arr _ e _=>plainT T k e
  | .sl e _=>plainT T k e
  | _=>false
structure Dec (T:Tab C) (gA:(t:C.Ty)->C.A t->Prop):Prop where
 dec:∀ t d,fit T d (.inl (T.ety t))=true->d.refs=[]->good gA d->(∃ k u,T.ty u=T.ty (T.ety t) /\ plainT T k u=true) -> ∃ x,T.dec t d=some x /\ gA t x
variable {P:Program} {T:Tab C} {gA:(t:C.Ty)->C.A t->Prop}
def X0 (W:World):Cx:=⟨W,fun _=>none,fun _ _=>False⟩
theorem Qry (W:World) (b o:Nat):(X0 W).free b o:=⟨fun h=>h,fun ⟨_,_,h,_⟩=>by simp [X0] at h⟩
theorem Qse {X:Cx} (t:C.Ty) (sz:Nat):∀ (n:Nat) (cs:List Value),cs.length=n * sz->(∀ i,i < n -> ∃ x:C.A t,R T X false (T.enc t x) ((cs.drop (i * sz)).take sz) /\ gA t x) ->
 ∃ l:List (C.A t),R T X false (.arr t n l) cs /\ l.length=n /\ ∀ x ∈ l,gA t x
 | 0,cs,hl,_=>by
  obtain rfl:cs=[]:=by simpa using hl
  exact ⟨[],.arr0 _,rfl,by simp⟩
 | n+1,cs,hl,h=>by
  obtain ⟨x,hx,gx⟩:=h 0 (by omega)
  obtain ⟨l,hr,hn,gl⟩:=Qse t sz n (cs.drop sz) (by rw [List.length_drop,hl,Nat.succ_mul];omega) fun i hi=>by
   obtain ⟨y,hy,gy⟩:=h (i+1) (by omega)
   refine ⟨y,?_,gy⟩;rw [List.drop_drop];rw [show sz+i * sz=(i+1) * sz by rw [Nat.succ_mul];omega]
   exact hy
  refine ⟨x::l,?_,by simp [hn],by simpa using ⟨gx,gl⟩⟩
  have:=R.arrS hx hr
  simpa using this
theorem sl_R {W:World} (t:C.Ty) (b sz:Nat):∀ (n off:Nat),(∀ i,i < n -> ∃ (x:C.A t) (ci:List Value),R T (X0 W) false (T.enc t x) ci /\ ci.length=sz /\ (∀ j,j < sz->W.cell? ⟨b,off+i * sz+j,none⟩=ci[j]?) /\ gA t x) ->
 ∃ (l:List (C.A t)) (cs:List Value),R T (X0 W) false (.arr t n l) cs /\ l.length=n /\ (X0 W).at b off cs /\ ∀ x ∈ l,gA t x
 | 0,off,_=>⟨[],[],.arr0 _,rfl,fun j v h=>by simp at h,by simp⟩
 | n+1,off,h=>by
  obtain ⟨x,ci,hx,hlen,hc,gx⟩:=h 0 (by omega)
  obtain ⟨l,cs,hr,hn,hat,gl⟩:=sl_R t b sz n (off+sz) fun i hi=>by
   obtain ⟨y,c2,hy,h2,h3,gy⟩:=h (i+1) (by omega)
   refine ⟨y,c2,hy,h2,fun j hj=>?_,gy⟩;have:=h3 j hj
   rwa [show off+(i+1) * sz+j=off+sz+i * sz+j by rw [Nat.succ_mul];omega] at this
  refine ⟨x::l,ci++cs,.arrS hx hr,by simp [hn],fun j v hj=>⟨?_,Qry _ _ _⟩,by simpa using ⟨gx,gl⟩⟩
  by_cases hlt:j < ci.length
  · rw [List.getElem?_append_left hlt] at hj;have:=hc j (by omega)
    simp only [Nat.zero_mul,Nat.add_zero] at this;exact this.trans hj
  · rw [List.getElem?_append_right (by omega)] at hj
    have:=(hat _ _ hj).1
    rwa [show off+sz+(j - ci.length)=off+j by omega] at this
theorem st_R {X:Cx}:∀ (fs:List TypeId) (cs:List Value),(∀ i f,fs[i]? = some f -> ∃ d,R T X false d ((cs.drop (QL T (fs.take i))).take (T.size f)) /\ fit T d (.inl f)=true /\ good gA d /\ d.refs=[]) ->
 ∃ d,R T X false d (cs.take (QL T fs)) /\ fit T d (.inr fs)=true /\ good gA d /\ d.refs=[] /\ d.isRow=true /\ (∀ t a,T.ty t=.struct a fs->fit T d (.inl t)=true)
 | [],cs,_=>⟨.anil,by simpa [QL] using R.anil,rfl,trivial,rfl,rfl,fun t a ht=>by simp [fit,ht]⟩
 | f::fs,cs,h=>by
  obtain ⟨d,hd,fd,gd,rd⟩:=h 0 f rfl
  obtain ⟨ds,hr,fr,gr,rr,_,_⟩:=st_R fs (cs.drop (T.size f)) fun i g hg=>by
   obtain ⟨e,he,h2⟩:=h (i+1) g (by simpa using hg)
   refine ⟨e,?_,h2⟩
   simpa [QL,List.drop_drop] using he
  refine ⟨.acons d ds,?_,by simp [fit,fd,fr],⟨gd,gr⟩,by simp [D.refs,rd,rr],rfl,fun t a ht=>by simp [fit,ht,fd,fr]⟩
  have:=R.acons hd hr
  simpa [QL,List.take_add] using this
theorem Q4 {t:TypeId} {i:TypeInfo} (h:P.info? t=some i):P.cellsOf t=i.size:=by
 simp [Program.cellsOf,h]
theorem Qsf (K:QN P T) (hd:Dec T gA) {H:Type} {enc:TypeId × Value->H} {W:World}:∀ (k:Nat) (t:TypeId),plainT T k t=true -> ∀ (fuel:Nat) (cs:List Value) (x:DataW H × List MemPlace),DataW.trod enc P W 0 (fun _=>true) true fuel t cs=some x ->
 ∃ d,R T (X0 W) false d cs /\ fit T d (.inl t)=true /\ good gA d /\ d.refs=[]:=by
 intro k
 induction k with
 | zero=>intro t h;simp [plainT] at h
 | succ k ih =>
  intro t hp fuel cs x h;unfold plainT at hp
  split at hp
  · rename_i ht;obtain ⟨b,rfl,_⟩:=DataW.trod_bool (K.uBool t ht) h;exact ⟨.bool b,.bool b,by simp [fit,ht],trivial,rfl⟩
  · rename_i kd ht;obtain ⟨n,rfl,_,hw⟩:=DataW.trod_int (K.uInt t kd ht) h;have hw':kd.min <= n /\ n <= kd.max:=by simpa [Lit.wf] using hw
    exact ⟨.int kd n,.int hw',by simp [fit,ht],hw',rfl⟩
  · rename_i ht;obtain ⟨s,rfl,_,hs⟩:=DataW.trod_string (K.uStr t ht) h;exact ⟨.str s.data.toList,.str s.data.toList,by simp [fit,ht],by simpa [good] using hs,rfl⟩
  · rename_i isA fs ht;cases isA with
    | true =>
     obtain ⟨el,hu,hfs,hpos,inf,hi1,hi2⟩:=K.uRow t fs ht;obtain ⟨xs,m,_,_,hlen,hxs,hel⟩:=DataW.trod_array hu h
     have hget:∀ i f,fs[i]? = some f->f=el /\ i < fs.length:=fun i f hf=>by
      have:=(List.getElem?_eq_some_iff.1 hf).1;rw [hfs,List.getElem?_replicate] at hf;simp at hf;exact ⟨hf.2.symm,this⟩
     have hsum:∀ i,i <= fs.length->QL T (fs.take i)=i * T.size el:=by
      intro i hi;rw [hfs,List.take_replicate,Nat.min_eq_left hi];clear hi
      induction i with
      | zero=>simp [QL]
      | succ i ih=>simp only [List.replicate_succ,QL,ih];rw [Nat.succ_mul];omega
     obtain ⟨d,hr,_,gd,rd,_,hfit⟩:=st_R (T:=T) (X:=X0 W) (gA:=gA) fs cs fun i f hf=>by
      obtain ⟨rfl,hi⟩:=hget i f hf;have:=hel i hi;rw [Q4 hi1,hi2] at this;have hx:xs[i]? = some xs[i]:=by simp [hxs,hi]
      rw [hx] at this;obtain ⟨d,h1,h2,h3,h4⟩:=ih f (List.all_eq_true.1 hp _ (List.mem_of_getElem? hf)) m _ _ this;refine ⟨d,?_,h2,h3,h4⟩;rw [hsum i (by omega)];exact h1
     obtain ⟨inf,hi1,hi2⟩:=K.info t d (hfit t _ ht);rw [Q4 hi1,hi2,K.base.szStruct t _ fs ht] at hlen;rw [<- hlen,List.take_length] at hr;exact ⟨d,hr,hfit t _ ht,gd,rd⟩
    | false =>
     obtain ⟨fields,hu,hfs,hoff,_⟩:=K.uStruct t fs ht;obtain ⟨xs,n,_,_,hlen,hxs,hel⟩:=DataW.trod_struct hu h
     obtain ⟨d,hr,_,gd,rd,_,hfit⟩:=st_R (T:=T) (X:=X0 W) (gA:=gA) fs cs fun i f hf=>by
      rw [<- hfs,List.getElem?_map] at hf;cases hfi:fields.toList[i]? with
      | none=>simp [hfi] at hf
      | some fld =>
       simp only [hfi,Option.map_some,Option.some.injEq] at hf;have hfa:fields[i]? = some fld:=by rw [<- Array.getElem?_toList];exact hfi
       have:=hel i fld hfa
       have hx:∃ y,xs[i]? = some y:=by
        have:i < fields.size:=(Array.getElem?_eq_some_iff.1 hfa).1;exact ⟨xs[i],by simp [hxs,this]⟩
       obtain ⟨y,hy⟩:=hx;rw [hy] at this;subst hf;have hmem:fld.type ∈ fs:=by rw [<- hfs];exact List.mem_map.2 ⟨fld,by exact List.mem_of_getElem? hfi,rfl⟩
       obtain ⟨d,h1,h2,h3,h4⟩:=ih fld.type (List.all_eq_true.1 hp _ hmem) n _ _ this;obtain ⟨inf,hi1,hi2,_⟩:=K.uField t fs fld.type ht hmem;refine ⟨d,?_,h2,h3,h4⟩;rw [hoff i fld hfa,Q4 hi1,hi2] at h1;exact h1
     obtain ⟨inf,hi1,hi2⟩:=K.info t d (hfit t _ ht);rw [Q4 hi1,hi2,K.base.szStruct t _ fs ht] at hlen;rw [<- hlen,List.take_length] at hr;exact ⟨d,hr,hfit t _ ht,gd,rd⟩
  · rename_i n e ct ht;obtain ⟨hu,_⟩:=K.uArr t n e ct ht;obtain ⟨xs,m,_,_,hlen,hxs,hel⟩:=DataW.trod_array hu h;obtain ⟨inf,z,hi1,hi2,_⟩:=K.uElem t e ct (.inl ⟨n,ht⟩);obtain ⟨it,hj1,hj2⟩:=K.info t (.arr ct n []) (by simp [fit,ht])
    obtain ⟨hs1,hs2,hs3⟩:=K.base.szArr t n e ct ht;rw [Q4 hj1,hj2,hs1] at hlen
    obtain ⟨l,hr,hn,gl⟩:=Qse (T:=T) (X:=X0 W) (gA:=gA) ct (T.size e) n cs hlen fun i hi=>by
     have:=hel i hi;rw [Q4 hi1,hi2] at this;have hx:xs[i]? = some xs[i]:=by simp [hxs,hi]
     rw [hx] at this;obtain ⟨d,h1,h2,h3,h4⟩:=ih e hp m _ _ this;obtain ⟨x,h5,h6⟩:=hd.dec ct d (by rw [<- Zw hs2];exact h2) h4 h3 ⟨k,e,hs2,hp⟩
     exact ⟨x,K.base.decR _ _ _ _ _ h5 h1,h6⟩
    exact ⟨.arr ct n l,hr,by simp [fit,ht],⟨hn,gl⟩,rfl⟩
  · rename_i e ct ht;have hu:=K.uSl t e ct ht;obtain ⟨inf,z,hi1,hi2,_,_,hpos,_⟩:=K.uElem t e ct (.inr ht);obtain ⟨hs1,hs2,hs3⟩:=K.base.szSl t e ct ht;rcases DataW.trod_slice hu h with ⟨rfl,_⟩ | ⟨a,len,cap,elems,rest,m,_,rfl,_,_,hlc,hcm,hel,he,hrest,_⟩
    · exact ⟨.sl ct false [],.sl0 _ _ _,by simp [fit,ht],by simp [good],rfl⟩
    · by_cases hc0:cap=0
      · subst hc0;obtain rfl:len=0:=by omega
        exact ⟨.sl ct false [],.sl0 _ _ _,by simp [fit,ht],by simp [good],rfl⟩
      · have hspot:a.spot=none:=by
         have key:∀ i y,i=0->(W.cells? 0 (a.add (i * P.cellsOf e)) (P.cellsOf e)).bind (DataW.trod enc P W 0 (fun _=>true) true m e)=some y->a.spot=none:=by
          intro i y hi0 hy;subst hi0;rw [Q4 hi1,hi2] at hy;cases hcs:W.cells? 0 (a.add (0 * T.size e)) (T.size e) with
          | none=>rw [hcs] at hy;cases hy
          | some ci =>
           obtain ⟨_,h2,h3⟩:=World.cells?_some hcs;have h4:=h3 0 hpos;have h5:ci[0]? = some ci[0]:=by simp
           rw [h5] at h4;have:=World.cell?_spot h4
           simpa [Addr.add] using this
         by_cases hl0:0 < len
         · have:=he 0 hl0;have hx:elems[0]? = some elems[0]:=by simp
           exact key 0 _ rfl (this.trans hx)
         · have hr2:=hrest rfl;have:=hr2.2 0 (by omega)
           have h0:0 < rest.length:=by omega
           have hx:rest[0]? = some rest[0]:=by simp
           exact key _ _ (by omega) (this.trans hx)
        obtain ⟨b,off,sp⟩:=a;simp only at hspot;subst hspot
        obtain ⟨l,cs,hr,hn,hat,gl⟩:=sl_R (T:=T) (W:=W) (gA:=gA) ct b (T.size e) len off fun i hi=>by
         have:=he i hi;have hx:elems[i]? = some elems[i]:=by simp [hel,hi]
         rw [hx,Q4 hi1,hi2] at this;cases hcs:W.cells? 0 ((⟨b,off,none⟩:Addr).add (i * T.size e)) (T.size e) with
         | none=>simp [hcs] at this
         | some ci =>
          simp only [hcs,Option.bind_some] at this;obtain ⟨_,h2,h3⟩:=World.cells?_some hcs;obtain ⟨d,k1,k2,k3,k4⟩:=ih e hp m _ _ this;obtain ⟨x,k5,k6⟩:=hd.dec ct d (by rw [<- Zw hs2];exact k2) k4 k3 ⟨k,e,hs2,hp⟩
          refine ⟨x,ci,K.base.decR _ _ _ _ _ k5 k1,h2,fun j hj=>?_,k6⟩;have:=h3 j hj
          rwa [add_plain,add_plain] at this
        subst hn;exact ⟨.sl ct false l,.sl hat hr hlc (by simp),by simp [fit,ht],⟨by omega,gl⟩,rfl⟩
  · cases hp
theorem Qi2 (K:QN P T) {W:World} {r:Reach} {base:Nat} {t:TypeId} {v:Value} {d:D C} (hv:Value.okWide P W r base t v) (hp:∃ k,plainT T k t=true) (hf:fit T d (.inl t)=true) (hr:R T (X0 W) false d v.cells.toList) (hrf:d.refs=[]):RV T (X0 W) d v:=by
 obtain ⟨k,hp⟩:=hp;cases k with
 | zero=>simp [plainT] at hp
 | succ k =>
  unfold plainT at hp
  split at hp
  · rename_i ht;obtain ⟨b,rfl⟩:=okWide_bool (K.uBool t ht) hv;refine .inr ⟨?_,by simpa [Value.cells] using hr⟩
    cases d <;> simp [fit,ht] at hf <;> rfl
  · rename_i kd ht;obtain ⟨b,rfl⟩:=okWide_int (K.uInt t kd ht) hv;refine .inr ⟨?_,by simpa [Value.cells] using hr⟩
    cases d <;> simp [fit,ht] at hf <;> rfl
  · rename_i ht;obtain ⟨b,rfl⟩:=okWide_string (K.uStr t ht) hv;refine .inr ⟨?_,by simpa [Value.cells] using hr⟩
    cases d <;> simp [fit,ht] at hf <;> rfl
  · rename_i isA fs ht
    have:∃ cs,v=.agg cs:=by
     cases isA with
     | false =>
      obtain ⟨fields,hu,_⟩:=K.uStruct t fs ht;obtain ⟨cs,rfl,_⟩:=okWide_struct hu hv;exact ⟨cs,rfl⟩
     | true =>
      obtain ⟨el,hu,_⟩:=K.uRow t fs ht;simp only [Value.okWide,hu] at hv;obtain ⟨cs,rfl,_⟩:=hv;exact ⟨cs,rfl⟩
    obtain ⟨cs,rfl⟩:=this;refine .inl ⟨?_,cs.toList,by simpa [Value.cells] using hr,rfl⟩
    cases d <;> simp [fit,ht] at hf <;> rfl
  · rename_i n e ct ht;obtain ⟨hu,_⟩:=K.uArr t n e ct ht
    have:∃ cs,v=.agg cs:=by
     simp only [Value.okWide,hu] at hv;obtain ⟨cs,rfl,_⟩:=hv;exact ⟨cs,rfl⟩
    obtain ⟨cs,rfl⟩:=this;refine .inl ⟨?_,cs.toList,by simpa [Value.cells] using hr,rfl⟩
    cases d <;> simp [fit,ht] at hf <;> rfl
  · rename_i e ct ht;obtain ⟨a,len,cap,rfl⟩:=okWide_slice (K.uSl t e ct ht) hv;refine .inr ⟨?_,by simpa [Value.cells] using hr⟩
    cases d <;> simp [fit,ht] at hf <;> rfl
  · cases hp
inductive Fits (T:Tab C) (gA:(t:C.Ty)->C.A t->Prop):List TypeId->List (D C)->Prop
 | nil:Fits T gA [] []
 | cons {t:TypeId} {ts:List TypeId} {d:D C} {ds:List (D C)} (hf:fit T d (.inl t)=true) (hg:good gA d) (hr:d.refs=[]) (h:Fits T gA ts ds):Fits T gA (t::ts) (d::ds)
theorem Fits.refs {ts:List TypeId} {ds:List (D C)} (h:Fits T gA ts ds):∀ a ∈ ds,D.refs a=[]:=by
 induction h with
 | nil=>simp
 | cons _ _ hr _ ih=>simpa using ⟨hr,ih⟩
theorem QeM (K:QN P T) (hd:Dec T gA) {H:Type} {enc:TypeId × Value->H} {W:World} {r:Reach} {base:Nat}:∀ (ts:List TypeId) (vs:List Value) (ds:List (DataW H)) (ps:List MemPlace),(∀ t ∈ ts,∃ k,plainT T k t=true) ->
 (∀ (j:Nat) t v,ts[j]? = some t->vs[j]? = some v->Value.okWide P W r base t v)->DataW.TrodAll enc P W 0 (fun _=>true) true ts vs ds ps -> ∃ al,Fits T gA ts al /\ RVs T (X0 W) al vs
 | [],vs,ds,ps,_,_,h=>by
  obtain ⟨rfl,rfl,rfl⟩:=trodAll_nil h;exact ⟨[],.nil,.nil⟩
 | t::ts,vs,ds,ps,hp,hv,h=>by
  obtain ⟨v,vs1,d,ds1,p,q,rfl,rfl,rfl,⟨fuel,h1⟩,h2⟩:=trodAll_cons h;obtain ⟨al,f1,r1⟩:=QeM K hd ts vs1 ds1 q (fun t ht=>hp t (by simp [ht])) (fun j t v a b=>hv (j+1) t v (by simpa using a) (by simpa using b)) h2
  obtain ⟨k,hk⟩:=hp t (by simp)
  obtain ⟨a,k1,k2,k3,k4⟩:=Qsf K hd k t hk fuel _ _ h1;exact ⟨a::al,.cons k2 k3 k4 f1,.cons (Qi2 K (hv 0 t v rfl rfl) ⟨k,hk⟩ k2 k1 k4) r1⟩
theorem Qsg (hl:laidOutB P=true) {H:Type} {enc:TypeId × Value->H} {W W':World} {sp:Nat->Bool}:∀ (ts:List TypeId) (vs:List Value) (ds:List (DataW H)) (ps:List MemPlace),(∀ t ∈ ts,P.readableRec t=true /\ t < P.types.size) ->
 DataW.TrodAll enc P W 0 (fun _=>true) true ts vs ds ps->(∀ p ∈ ps,W.sameAt W' p)->(∀ p ∈ ps,sp p.block=true)->DataW.TrodAll enc P W' 0 sp true ts vs ds ps
 | [],vs,ds,ps,_,h,_,_=>by
  obtain ⟨rfl,rfl,rfl⟩:=trodAll_nil h;exact trodAll_mk0
 | t::ts,vs,ds,ps,ht,h,h3,h4=>by
  obtain ⟨v,vs1,d,ds1,p,q,rfl,rfl,rfl,h1,h2⟩:=trodAll_cons h
  exact trodAll_cons_mk (WideElems.Trod_stays hl (ht t (by simp)).1 (ht t (by simp)).2 h1 (fun x hx=>h3 x (by simp [hx])) (fun x hx=>h4 x (by simp [hx])))
   (Qsg hl ts vs1 ds1 q (fun t h=>ht t (by simp [h])) h2 (fun x hx=>h3 x (by simp [hx])) (fun x hx=>h4 x (by simp [hx])))
theorem QcQ {H:Type} {enc:TypeId × Value->H} {f:Func} {s:ChangeSpec} {apart fresh handsOn again:Bool} {W W':World} {args:Array Value} {v:Value} {ds gs:List (DataW H)} {before pa pv:List MemPlace}
 (hW:DataW.Whole enc P f.params.toList s.vars apart W args.toList ds gs before)
 (hres:∀ (b:Nat) (sp:Nat->Bool) (hd:Bool),DataW.TrodAll enc P W' b sp hd f.resultTypes.toList (v.resultList f.resultTypes.size) (s.fn H (ds++gs)).results [])
 (hargs:∀ sp:Nat->Bool,(∀ p ∈ before,sp p.block=true)->DataW.TrodAll enc P W' 0 sp true f.params.toList args.toList (s.fn H (ds++gs)).args pa)
 (hvars:∀ sp:Nat->Bool,(∀ p ∈ before,sp p.block=true)->DataW.TrodVars enc P W' sp s.vars (s.fn H (ds++gs)).vars pv)
 (hps:before=pa++pv) (hk:W.keptBut W' (· ∈ before)) (hfz:∀ a:Addr,a.block < W.heap.size->W'.frozen? a=W.frozen? a)
 (hok:∀ (j:Nat) (t:TypeId) (r:Value),f.resultTypes[j]? = some t->(v.resultList f.resultTypes.size)[j]? = some r->Value.okWide P W' .any 0 t r) :
 s.post enc P f apart fresh handsOn again W args v W':=by
 have hold:∀ p ∈ before,(fun b=>decide (b < W.heap.size)) p.block=true:=fun p hp=>by simpa using hW.lt p hp
 refine ⟨ds,gs,before,[],pa,pv,hW,hres _ _ _,hargs _ hold,hvars _ hold,World.keptBut_mono (fun p hp=>⟨hp,?_⟩) hk,fun _=>?_⟩
 · rw [hps,List.mem_append] at hp;exact Or.inr hp
 · have hlt:=hW.lt;obtain ⟨_,_,_,_,_,hz,hn⟩:=hW;refine ⟨hok,_,_,([]++pa)++pv,⟨[]++pa,pv,trodAll_append (hargs _ (fun _ _=>rfl)) (hres _ _ _),hvars _ (fun _ _=>rfl),rfl,?_,?_⟩,?_⟩
   · intro b off hp;have hb:MemPlace.cell b off ∈ before:=by rw [hps];simpa using hp
     rw [hfz _ (by simpa [MemPlace.block] using hlt _ hb)]
     exact hz b off hb
   · intro ha;have:=hn ha;rw [hps] at this
     simpa using this
   · intro p hp _;rw [hps]
     simpa using hp
theorem QeN (K:QN P T) {Φ:Fns C} (F:Qh P T Φ) (hd:Dec T gA) (hl:laidOutB P=true) {f:FuncId} {fn:Func} {s:ChangeSpec} {tb:TypeId} {m:Nat}
 (hres:fn.resultTypes = #[tb]) (hb:P.underlying tb=some .bool) (hvars:s.vars=[])
 (hts:fn.params.toList.all (fun t=>plainT T m t && P.readableRec t && Nat.blt t P.types.size)=true)
 (hspec:∀ (H:Type) (ds:List (DataW H)),ds.length=fn.params.toList.length->s.fn H ds={ results:=[.lit (.bool true)],args:=ds })
 (hev:∀ ds:List (D C),Fits T gA fn.params.toList ds -> ∃ n,evF T Φ n f ds=some (.bool true))
 (H:Type) (enc:TypeId × Value->H) (W:World) (base:Nat) (args:Array Value) (ds gs:List (DataW H)) (before:List MemPlace)
 (hval:∀ (j:Nat) t v,fn.params[j]? = some t->args[j]? = some v->Value.okWide P W .any base t v)
 (hW:DataW.Whole enc P fn.params.toList s.vars false W args.toList ds gs before) (hpre:∀ p ∈ T.pre,∃ t f,W.heap[p.1]? = some (.cells p.2 t f)) :
 Calls P f args W fun e W' => ∃ v,e=.returned v /\ s.post enc P fn false true false false W args v W':=by
 have hts':∀ t ∈ fn.params.toList,plainT T m t=true /\ P.readableRec t=true /\ t < P.types.size:=by
  intro t ht;have:=List.all_eq_true.1 hts t ht;simp only [Bool.and_eq_true] at this;exact ⟨this.1.1,this.1.2,by simpa [Nat.blt_eq] using this.2⟩
 have hW':=hW;obtain ⟨p,q,hA,hV,rfl,hfz,hnd⟩:=hW;rw [hvars] at hV;obtain ⟨rfl,rfl⟩:=trodVars_none hV;obtain ⟨al,hf,hr⟩:=QeM (gA:=gA) K hd (r:=.any) (base:=base) _ _ _ _ (fun t ht=>⟨m,(hts' t ht).1⟩) (fun j t v a b=>hval j t v (by rw [<- Array.getElem?_toList];exact a) (by rw [<- Array.getElem?_toList];exact b)) hA
 obtain ⟨n,hn⟩:=hev al hf;have hc:=(Qdb K F hn hf.refs W (fun _ _=>False) (fun _ _ h=>h.elim) hpre (vs:=args.toList) hr).2;have ea:(⟨args.toList⟩:Array Value)=args:=by simp
 rw [ea] at hc;refine hc.mono fun e W' hp=>?_;obtain ⟨v,ρ,rfl,rv,a1,a2,a3,a4,a5,a6⟩:=hp;obtain rfl:=rv.bool
 have hlen:ds.length=fn.params.toList.length:=by
  have:∀ (ts:List TypeId) (vs:List Value) (ds:List (DataW H)) (ps:List MemPlace),DataW.TrodAll enc P W 0 (fun _=>true) true ts vs ds ps->ds.length=ts.length:=by
   intro ts
   induction ts with
   | nil=>intro vs ds ps h;obtain ⟨rfl,rfl,rfl⟩:=trodAll_nil h;rfl
   | cons t ts ih =>
    intro vs ds ps h;obtain ⟨v,vs1,d,ds1,p,q,rfl,rfl,rfl,h1,h2⟩:=trodAll_cons h;simp [ih _ _ _ h2]
  exact this _ _ _ _ hA
 have hs:=hspec H ds hlen;have hbel:Below W.heap.size W W':=⟨a3,a4,a5,a1,a2⟩;have hlt:∀ x ∈ p,x.block < W.heap.size:=fun x hx=>by simpa using hW'.lt x (by simpa using hx)
 refine ⟨_,rfl,QcQ (pa:=p) (pv:=[]) hW' ?_ ?_ ?_ (by simp) (hbel.frame _) a6 ?_⟩
 · intro b sp hd;simp only [List.append_nil];rw [hs,hres];exact trodAll_cons_mk (p:=[]) (p':=[]) (shut_bool hb _) trodAll_mk0
 · intro sp hsp;simp only [List.append_nil] at hsp ⊢;rw [hs];exact Qsg hl _ _ _ _ (fun t ht=>(hts' t ht).2) hA (fun x hx=>hbel.same (hlt x hx)) hsp
 · intro sp hsp;simp only [List.append_nil];rw [hs,hvars];rfl
 · exact ok_one hres rfl (okWide_bool_mk hb _)
theorem QfK (K:QN P T) {Φ:Fns C} (F:Qh P T Φ) (hd:Dec T gA) (hl:laidOutB P=true) {f:FuncId} {fn:Func} {s:ChangeSpec} {tb:TypeId} {m:Nat}
 (hres:fn.resultTypes = #[tb]) (hb:P.underlying tb=some .bool) (hvars:s.vars=[])
 (hts:fn.params.toList.all (fun t=>plainT T m t && P.readableRec t && Nat.blt t P.types.size)=true)
 (hspec:∀ (H:Type) (ds:List (DataW H)),ds.length=fn.params.toList.length->s.fn H ds={ results:=[.lit (.bool true)],args:=ds })
 (hev:∀ ds:List (D C),Fits T gA fn.params.toList ds -> ∃ n,evF T Φ n f ds=some (.bool true))
 (H:Type) (enc:TypeId × Value->H) (W:World) (base:Nat) (args:Array Value) (ds gs:List (DataW H)) (before:List MemPlace)
 (hval:∀ (j:Nat) t v,fn.params[j]? = some t->args[j]? = some v->Value.okWide P W .any base t v)
 (hW:DataW.Whole enc P fn.params.toList s.vars false W args.toList ds gs before) (h0:T.pre=[]:=by rfl) :
 Calls P f args W fun e W' => ∃ v,e=.returned v /\ s.post enc P fn false true false false W args v W' :=
 QeN K F hd hl hres hb hvars hts hspec hev H enc W base args ds gs before hval hW (by rw [h0];intro p hp;cases hp)
end
def i64 (n:Int):Prop := -9223372036854775808 <= n /\ n <= 9223372036854775807
theorem ZH {n:Int} (h:IntKind.i64.min <= n /\ n <= IntKind.i64.max):i64 n:=by
 simpa [i64,IntKind.min,IntKind.max,IntKind.signed,IntKind.bits] using h
section
variable {C:Cdc} {T:Tab C} {d:D C} {u:TypeId}
theorem Q6 {k:IntKind} (hu:T.ty u=.int k) (hf:fit T d (.inl u)=true):∃ n,d=.int k n:=by
 cases d <;> simp [fit,hu] at hf
 subst hf;exact ⟨_,rfl⟩
theorem QhC (hu:T.ty u=.bool) (hf:fit T d (.inl u)=true):∃ n,d=.bool n:=by
 cases d <;> simp [fit,hu] at hf
 exact ⟨_,rfl⟩
theorem Qrz (hu:T.ty u=.str) (hf:fit T d (.inl u)=true):∃ n,d=.str n:=by
 cases d <;> simp [fit,hu] at hf
 exact ⟨_,rfl⟩
theorem Kw {e:TypeId} {t:C.Ty} (hu:T.ty u=.sl e t) (hf:fit T d (.inl u)=true) (hr:d.refs=[]):∃ c l,d=.sl t c l:=by
 cases d <;> simp [fit,hu] at hf
 · subst hf;exact ⟨_,_,rfl⟩
 · simp [D.refs] at hr
 · simp [D.refs] at hr
theorem QrA {e:TypeId} {t:C.Ty} {n:Nat} (hu:T.ty u=.arr n e t) (hf:fit T d (.inl u)=true):∃ l,d=.arr t n l:=by
 cases d <;> simp [fit,hu] at hf
 obtain ⟨h1,h2⟩:=hf;subst h1;subst h2;exact ⟨_,rfl⟩
theorem Kx {a:Bool} {f:TypeId} {fs:List TypeId} (hu:T.ty u=.struct a (f::fs)) (hf:fit T d (.inl u)=true):∃ x y,d=.acons x y /\ fit T x (.inl f)=true /\ fit T y (.inr fs)=true:=by
 cases d <;> simp [fit,hu] at hf
 exact ⟨_,_,rfl,hf.1,hf.2⟩
theorem QP {f:TypeId} {fs:List TypeId} (hf:fit T d (.inr (f::fs))=true):∃ a b,d=.acons a b /\ fit T a (.inl f)=true /\ fit T b (.inr fs)=true:=by
 cases d <;> simp [fit] at hf
 exact ⟨_,_,rfl,hf.1,hf.2⟩
theorem Vp (hf:fit T d (.inr [])=true):d=.anil:=by
 cases d <;> simp [fit] at hf
 rfl
theorem QsK {α:Type} {l:List α} (h:l.length=3):∃ a b c,l=[a,b,c]:=by
 match l,h with
 | [a,b,c],_=>exact ⟨a,b,c,rfl⟩
end
end Go.Ev
