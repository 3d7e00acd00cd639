/-
  A part of the proof of a statement of this seat: the model is run over values by content, proved sound; what the functions come to. No condition beyond the given statements. (text 6)
-/
import Derived.Test.YtkoeniljaccaiaaGreatP4
import Derived.Maps.RangeRun
import Derived.OpenShut
import Derived.ReadAgain
namespace Go.Ev
open Go.Proofs
set_option maxRecDepth 100000
set_option linter.unusedVariables false
set_option linter.unusedSimpArgs false
def rfC:Code->Option (Code × Code)
 | .rangeFunc _ _ a b=>some (a,b)
 | .seq a b=>(match rfC a with | some x=>some x | none=>rfC b)
 | .cond _ a b=>(match rfC a with | some x=>some x | none=>rfC b)
 | .block _ b=>rfC b
 | .loop b=>rfC b
 | .scope b=>rfC b
 | _=>none
noncomputable def rfF (f:Nat):Code × Code:=match p0.fn f with
 | some fn=>(match fn.body with
  | some b=>(match rfC b with | some x=>x | none=>(.skip,.skip))
  | none=>(.skip,.skip))
 | none=>(.skip,.skip)
noncomputable def itmA:Code:=(rfF 61).1
noncomputable def itmB:Code:=(rfF 61).2
def homO (c w d kk:Int) (ci:Bool) (l:List Item) (m:List (Int × Int)) (n:Int) (dn:Bool):List (Obj RC):=[.var 3 (.int .i64 n),.var 29 (.sl (C:=RC) .item ci l),.var 100 (.mp 3),.map .int .int m,.ctl (.lp false dn 0),.var 26 (.acons (.int .i64 c) (.acons (.int .i64 w) (.acons (.int .i64 d) (.acons (.int .i64 kk) .anil))))]
structure Qn0 where
 c:Int
 w:Int
 d:Int
 kk:Int
 ci:Bool
 l:List Item
 m:List (Int × Int)
 n:Int
 k:Int
 j:Nat
noncomputable def Qn1 (c:Int) (w:Int) (d:Int) (kk:Int) (ci:Bool) (l:List Item) (m:List (Int × Int)) (n:Int) (k:Int) (j:Nat):Env RC:=[(0,.yl 60 [6,5,3] [16] (itmA) (itmB) (.acons (.ptr 0 []) (.acons (.ptr 2 []) (.acons (.ptr 1 []) .anil))) 4),(1,.ptr 5 []),(3,.int .i64 k),(13,.int .i64 (c:Int)),(14,.int .i64 (j:Int))]
def QhN (c:Int) (w:Int) (d:Int) (kk:Int) (ci:Bool) (l:List Item) (m:List (Int × Int)) (n:Int) (k:Int) (j:Nat):List (Obj RC):=[.var 3 (.int .i64 n),.var 29 (.sl (C:=RC) .item ci l),.var 100 (.mp 3),.map .int .int m,.ctl (.lp false false 0),.var 26 (.acons (.int .i64 c) (.acons (.int .i64 w) (.acons (.int .i64 d) (.acons (.int .i64 kk) .anil))))]
noncomputable def QrC (c:Int) (w:Int) (d:Int) (kk:Int) (ci:Bool) (l:List Item) (m:List (Int × Int)) (n:Int) (k:Int) (j:Nat):=rndO s28 uq_2 169 4 120 6 [0,1,3,13,14] [] [.slot 0 0,.slot 0 2,.slot 0 1,.path 2 [],.slot 0 3,.slot 1 0] (Qn1 c w d kk ci l m n k j) (QhN c w d kk ci l m n k j)
theorem QtP (c:Int) (w:Int) (d:Int) (kk:Int) (ci:Bool) (l:List Item) (m:List (Int × Int)) (n:Int) (k:Int) (j:Nat):QrC c w d kk ci l m n k j=(let Z0:Int:=(↑j:Int);let Z1:Int:=(↑l.length:Int);let Z2:Option (Obj RC):=some (Obj.var 3 (D.int .i64 n));let Z3:Option (Obj RC):=some (Obj.var 29 (D.sl RTy.item ci l));let Z4:Option (Obj RC):=some (Obj.var 100 (D.mp (3:Nat)));let Z5:Option (Obj RC):=some (Obj.map RTy.int RTy.int m);let Z6:List (Option (Obj RC)):=[some (Obj.var 26 (.acons (D.int .i64 c) (.acons (D.int .i64 w) (.acons (D.int .i64 d) (.acons (D.int .i64 kk) .anil)))))];let Z7:Int:=IntKind.wrap .i64 (Prod.fst (lOwn c w d kk Z0 true)+k);let Z8:X × Env RC:=(X.normal,[(0,D.yl (60:Nat) [(6:Nat),(5:Nat),(3:Nat)] [(16:Nat)] itmA itmB (D.acons (D.ptr 0 []) (.acons (D.ptr 2 []) (.acons (D.ptr 1 []) .anil))) (4:Nat)),(1,D.ptr 5 []),(3,D.int .i64 k),(13,D.int .i64 c),(14,D.int .i64 (IntKind.wrap .i64 (Z0+(1:Int))))]);let Z9:Option (Obj RC):=some (Obj.var 3 (D.int .i64 (IntKind.wrap .i64 (n+1))));let Z10:Item:=List.getD l n.toNat (Item.mk (0:Int) (0:Int) (0:Int));let Z11:Int:=lRow (21:Int) (Item.key Z10) (24:Int);let Z12:List (Int × Int):=mput (ZY s28 RTy.int) (YB (291:Int) Z7 (2:Int) (160:Int) (3:Int)) (IntKind.wrap .i64 (IntKind.wrap .i64 (Item.key Z10 * (256:Int))+Item.value Z10)) (mput (ZY s28 RTy.int) (YB (291:Int) Z7 (1:Int) (160:Int) (3:Int)) (0:Int) (mput (ZY s28 RTy.int) (YB (291:Int) Z7 (0:Int) (160:Int) (3:Int)) (3:Int) m));let Z13:List (Option (Obj RC)):=some (Obj.ctl (Ctl.lp false false (0:Nat)))::Z6;let Z14:RO_:=some (Z8,Z9::Z3::Z4::some (Obj.map RTy.int RTy.int (mput (ZY s28 RTy.int) Z11 (wordN (Item.place Z10) (0:Int)) Z12))::Z13);bif decide (Z0 < c) then bif Qh l.length then bif n == Z1 then some ((X.ret,[]),Z2::Z3::Z4::Z5::some (Obj.ctl (Ctl.lp false true (0:Nat)))::Z6) else bif decide ((0:Int) <= n /\ n < Z1) then bif decide (Z7 < (0:Int)) then Z14 else bif decide ((256:Int) <= Z7) then Z14 else some (Z8,Z9::Z3::Z4::some (Obj.map RTy.int RTy.int (mput (ZY s28 RTy.int) Z11 (wordN (Item.place Z10) (bits .i64 (fun (x:Nat) (u v:BitVec x)=>u ||| v) (256:Int) Z7)) Z12))::Z13) else none else none else some ((X.exit (2:Nat),[]),Z2::Z3::Z4::Z5::Z13)):=by kernel_rfl
noncomputable def Kt (c:Int) (w:Int) (d:Int) (kk:Int) (ci:Bool) (l:List Item) (m:List (Int × Int)) (n:Int) (k:Int) (j:Nat):RT RC:=.br (decide ((l.length:Int) - n < c - j)) (.leaf .ret [] (homO c w d kk ci l (QY c kk n.toNat (l.drop n.toNat) m) l.length true)) (.leaf (.exit 2) [] (homO c w d kk ci l (QY c kk n.toNat ((l.drop n.toNat).take (c - j).toNat) m) (n+(c - j)) false))
def Ku (c:Int) (w:Int) (d:Int) (kk:Int) (ci:Bool) (l:List Item) (m:List (Int × Int)) (n:Int) (k:Int) (j:Nat):Prop:=YT c w d kk=true /\ 0 <= k /\ k < kk /\ (j:Int) <= c /\ n=k * c+j /\ n <= l.length /\ l.length <= 1000 /\ Qbl l=true
noncomputable def Jx:QI RC Qn0 where
 k:=6
 canon q:=Qn1 q.c q.w q.d q.kk q.ci q.l q.m q.n q.k q.j
 objs q:=QhN q.c q.w q.d q.kk q.ci q.l q.m q.n q.k q.j
 fin q:=Kt q.c q.w q.d q.kk q.ci q.l q.m q.n q.k q.j
 Inv q:=Ku q.c q.w q.d q.kk q.ci q.l q.m q.n q.k q.j
 μ q:=(q.c - q.j).toNat
theorem Qje (c:Int) (w:Int) (d:Int) (kk:Int) (ci:Bool) (l:List Item) (m:List (Int × Int)) (n:Int) (k:Int) (j:Nat) (hI:Ku c w d kk ci l m n k j):Leaf (QrC c w d kk ci l m n k j) (LedR Jx ⟨c,w,d,kk,ci,l,m,n,k,j⟩):=by
 (rw [QtP];conv=>zeta)
 unfold Ku at hI;obtain ⟨ok,k0,k1,j1,hn,n1,l1,ib⟩:=hI;obtain ⟨c1,c4,_,_,_,_,q4,q40⟩:=Yt ok;have lk:Qh l.length=true:=Qe (by omega)
 have kc0:0 <= k * c:=Int.mul_nonneg k0 (by omega)
 by_cases hj:(j:Int) < c
 · rw [decide_eq_true hj];simp only [lk,cond_true]
   by_cases he:n=l.length
   · have hb:(n == (l.length:Int))=true:=by simpa using he
     have e0:l.drop n.toNat=[]:=List.drop_eq_nil_of_le (by omega)
     rw [hb];simp only [cond_true];refine QO (homO c w d kk ci l m n true) ?_ rfl;have d1:decide ((l.length:Int) - n < c - j)=true:=by simp;omega
     simp only [Jx,Kt,RT.val,d1,cond_true,e0,QY];rw [<- he]
   · have hb:(n == (l.length:Int))=false:=by simpa using he
     have d2:decide (0 <= n /\ n < (l.length:Int))=true:=by simp;omega
     have own:=Qvh ok (Int.natCast_nonneg j) hj;have p0:0 <= (j:Int) * kk:=Int.mul_nonneg (by omega) (by omega)
     have p1:(j:Int) * kk <= 3 * 40:=Int.mul_le_mul (by omega) (by omega) (by omega) (by omega)
     have w1:IntKind.i64.wrap ((j:Int) * kk+k)=(j:Int) * kk+k:=wrap_id (by omega) (by omega)
     have w2:IntKind.i64.wrap (n+1)=n+1:=wrap_id (by omega) (by omega)
     have w3:IntKind.i64.wrap ((j:Int)+1)=((j+1:Nat):Int):=by rw [wrap_id (by omega) (by omega)];simp
     have d3:decide ((j:Int) * kk+k < 0)=false:=by simp;omega
     have d4:decide (256 <= (j:Int) * kk+k)=false:=by simp;omega
     have o1:=Qv9 (s:=(j:Int) * kk+k) (by omega) (by omega)
     have hd:l.drop n.toNat=l.getD n.toNat ⟨0,0,0⟩::l.drop (n.toNat+1):=by rw [List.drop_eq_getElem_cons (by omega)];simp [show n.toNat < l.length by omega]
     simp only [hb,d2,own,w1,w2,w3,d3,d4,o1,cond_true,cond_false];generalize l.getD n.toNat ⟨0,0,0⟩=x at *;have hh:Qbk c kk (n.toNat:Int)=(j:Int) * kk+k:=by rw [Int.toNat_of_nonneg (by omega),hn];exact QnR (Int.natCast_nonneg j) hj
     refine Qp (S:=Jx) ⟨c,w,d,kk,ci,l,QnP m ((j:Int) * kk+k) x,n+1,k,j+1⟩ (show Ku c w d kk ci l (QnP m ((j:Int) * kk+k) x) (n+1) k (j+1) from ⟨ok,k0,k1,by omega,by omega,by omega,l1,ib⟩) (by simp only [Jx];omega) ?_ rfl rfl
     have n1:(n+1).toNat=n.toNat+1:=by omega
     have n2:(c - (j:Int)).toNat=(c - ((j+1:Nat):Int)).toNat+1:=by omega
     have n3:n+1+(c - ((j+1:Nat):Int))=n+(c - j):=by omega
     have n4:decide ((l.length:Int) - (n+1) < c - ((j+1:Nat):Int))=decide ((l.length:Int) - n < c - j):=decide_eq_decide.2 (by omega)
     simp only [Jx,Kt,hd,n1,n2,n3,n4,List.take_succ_cons,QY,hh]
 · have d0:decide ((j:Int) < c)=false:=by simpa using hj
   rw [d0];simp only [cond_false];have e1:c - (j:Int)=0:=by omega
   have d1:decide ((l.length:Int) - n < 0)=false:=by simp;omega
   refine Qm (homO c w d kk ci l m n false) ?_ rfl;simp only [Jx,Kt,RT.val,e1,d1,cond_false,Int.toNat_zero,List.take_zero,QY,Int.add_zero]
noncomputable def Qn2 (env:Env RC) (os:List (Obj RC)):Option (Bool × Qn0):=match env,os with
 | [(0,.yl 60 [6,5,3] [16] x0 x1 (.acons (.ptr 0 []) (.acons (.ptr 2 []) (.acons (.ptr 1 []) .anil))) 4),(1,.ptr 5 []),(3,.int .i64 k),(13,.int .i64 x2),(14,.int .i64 x3)],[.var 3 (.int .i64 n),.var 29 (.sl .item ci l),.var 100 (.mp 3),.map .int .int m,.ctl (.lp false false 0),.var 26 (.acons (.int .i64 c) (.acons (.int .i64 w) (.acons (.int .i64 d) (.acons (.int .i64 kk) .anil))))]=>QB (true) (cdec (x0=itmA) && cdec (x1=itmB) && decide (x2=c) && decide (x3=0) && YT c w d kk && decide (0 <= k /\ k < kk /\ n=k * c /\ n <= l.length /\ l.length <= 1000) && Qbl l,⟨c,w,d,kk,ci,l,m,n,k,0⟩)
 | _,_=>none
noncomputable def ur_1:=uq_2.addLoop 169 4 (sumR s28 [.slot 0 0,.slot 0 2,.slot 0 1,.path 2 [],.slot 0 3,.slot 1 0] [0,1,3,13,14] Jx Qn2)
theorem Qn3:Qi Tryz.prog s28 ur_1:=by
 refine QnZ.addRoundsR Qb (by kernel_rfl) Jx 120 [0,1,3,13,14] [] [.slot 0 0,.slot 0 2,.slot 0 1,.path 2 [],.slot 0 3,.slot 1 0] [0,1,3,13,14] Qn2 (fun q hI=>?_) ?_
 · obtain ⟨c,w,d,kk,ci,l,m,n,k,j⟩:=q;refine ⟨?_,?_,Qje c w d kk ci l m n k j hI⟩
   · simp_all [Qj,Jx,Qn1,QhN,Ku,D.refs,Obj.refs,rEnc]
   · simp [Jx,Kt,QhN,homO,RT.refsOK,Qj,D.refs,Obj.refs]
 · intro env os b q hd_ hb;unfold Qn2 at hd_
   split at hd_
   · obtain ⟨hs,hd_⟩:=Qg hd_;cases hd_;simp only [Bool.and_eq_true,decide_eq_true_eq] at hb;obtain ⟨⟨⟨⟨⟨⟨e0,e1⟩,e2⟩,e3⟩,ok⟩,h1,h2,h3,h4,h5⟩,ib⟩:=hb;have e0:=ZN.1 e0;have e1:=ZN.1 e1;subst e0;subst e1;subst e2;subst e3;obtain ⟨c1,_⟩:=Yt ok;exact ⟨⟨ok,h1,h2,Int.le_trans (show ((0:Nat):Int) <= 1 by decide) c1,by rw [h3];simp,h4,h5,ib⟩,rfl,rfl⟩
   · cases hd_
structure QhO where
 c:Int
 w:Int
 d:Int
 kk:Int
 ci:Bool
 l:List Item
 m:List (Int × Int)
 n:Int
 k:Nat
noncomputable def Qf3 (c:Int) (w:Int) (d:Int) (kk:Int) (ci:Bool) (l:List Item) (m:List (Int × Int)) (n:Int) (k:Nat):Env RC:=[(0,.yl 60 [6,5,3] [16] (itmA) (itmB) (.acons (.ptr 0 []) (.acons (.ptr 2 []) (.acons (.ptr 1 []) .anil))) 4),(1,.ptr 5 []),(8,.int .i64 (kk:Int)),(9,.int .i64 (k:Int))]
def Qdi (c:Int) (w:Int) (d:Int) (kk:Int) (ci:Bool) (l:List Item) (m:List (Int × Int)) (n:Int) (k:Nat):List (Obj RC):=[.var 3 (.int .i64 n),.var 29 (.sl (C:=RC) .item ci l),.var 100 (.mp 3),.map .int .int m,.ctl (.lp false false 0),.var 26 (.acons (.int .i64 c) (.acons (.int .i64 w) (.acons (.int .i64 d) (.acons (.int .i64 kk) .anil))))]
noncomputable def Qn4 (c:Int) (w:Int) (d:Int) (kk:Int) (ci:Bool) (l:List Item) (m:List (Int × Int)) (n:Int) (k:Nat):=rndO s28 ur_1 169 1 120 6 [0,1,8,9] [] [.slot 0 0,.slot 0 2,.slot 0 1,.path 2 [],.slot 0 3,.slot 1 0] (Qf3 c w d kk ci l m n k) (Qdi c w d kk ci l m n k)
theorem Qql (c:Int) (w:Int) (d:Int) (kk:Int) (ci:Bool) (l:List Item) (m:List (Int × Int)) (n:Int) (k:Nat):Qn4 c w d kk ci l m n k=(let Z0:Int:=(↑k:Int);let Z1:Int:=(↑l.length:Int);let Z2:Int:=c - (0:Int);let Z3:Option (Obj RC):=some (Obj.var 29 (D.sl RTy.item ci l));let Z4:Option (Obj RC):=some (Obj.var 100 (D.mp (3:Nat)));let Z5:Nat:=Int.toNat n;let Z6:List (Option (Obj RC)):=[some (Obj.var 26 (.acons (D.int .i64 c) (.acons (D.int .i64 w) (.acons (D.int .i64 d) (.acons (D.int .i64 kk) .anil)))))];let Z7:List (Option (Obj RC)):=some (Obj.ctl (Ctl.lp false false (0:Nat)))::Z6;bif decide (Z0 < kk) then bif cdec (itmA=itmA) && cdec (itmB=itmB) && decide (c=c) && true && YT c w d kk && decide ((0:Int) <= Z0 /\ Z0 < kk /\ n=Z0 * c /\ n <= Z1 /\ List.length l <= (1000:Nat)) && Qbl l then bif decide (Z1 - n < Z2) then some ((X.ret,[]),some (Obj.var 3 (D.int .i64 Z1))::Z3::Z4::some (Obj.map RTy.int RTy.int (QY c kk Z5 (List.drop Z5 l) m))::some (Obj.ctl (Ctl.lp false true (0:Nat)))::Z6) else some ((X.normal,[(0,D.yl (60:Nat) [(6:Nat),(5:Nat),(3:Nat)] [(16:Nat)] itmA itmB (D.acons (D.ptr 0 []) (.acons (D.ptr 2 []) (.acons (D.ptr 1 []) .anil))) (4:Nat)),(1,D.ptr 5 []),(8,D.int .i64 kk),(9,D.int .i64 (IntKind.wrap .i64 (Z0+(1:Int))))]),some (Obj.var 3 (D.int .i64 (n+Z2)))::Z3::Z4::some (Obj.map RTy.int RTy.int (QY c kk Z5 (List.take Z2.toNat (List.drop Z5 l)) m))::Z7) else none else some ((X.exit (0:Nat),[]),some (Obj.var 3 (D.int .i64 n))::Z3::Z4::some (Obj.map RTy.int RTy.int m)::Z7)):=by kernel_rfl
noncomputable def VY (c:Int) (w:Int) (d:Int) (kk:Int) (ci:Bool) (l:List Item) (m:List (Int × Int)) (n:Int) (k:Nat):RT RC:=.br (decide ((l.length:Int) < kk * c)) (.leaf .ret [] (homO c w d kk ci l (QY c kk n.toNat (l.drop n.toNat) m) l.length true)) (.leaf (.exit 0) [] (homO c w d kk ci l (QY c kk n.toNat ((l.drop n.toNat).take (kk * c - n).toNat) m) (kk * c) false))
def VZ (c:Int) (w:Int) (d:Int) (kk:Int) (ci:Bool) (l:List Item) (m:List (Int × Int)) (n:Int) (k:Nat):Prop:=YT c w d kk=true /\ (k:Int) <= kk /\ n=k * c /\ n <= l.length /\ l.length <= 1000 /\ Qbl l=true
noncomputable def YL:QI RC QhO where
 k:=6
 canon q:=Qf3 q.c q.w q.d q.kk q.ci q.l q.m q.n q.k
 objs q:=Qdi q.c q.w q.d q.kk q.ci q.l q.m q.n q.k
 fin q:=VY q.c q.w q.d q.kk q.ci q.l q.m q.n q.k
 Inv q:=VZ q.c q.w q.d q.kk q.ci q.l q.m q.n q.k
 μ q:=(q.kk - q.k).toNat
theorem Qf4 (c:Int) (w:Int) (d:Int) (kk:Int) (ci:Bool) (l:List Item) (m:List (Int × Int)) (n:Int) (k:Nat) (hI:VZ c w d kk ci l m n k):Leaf (Qn4 c w d kk ci l m n k) (LedR YL ⟨c,w,d,kk,ci,l,m,n,k⟩):=by
 (rw [Qql];conv=>zeta)
 unfold VZ at hI;obtain ⟨ok,k1,hn,n1,l1,ib⟩:=hI;obtain ⟨c1,c4,_,_,_,_,q4,q40⟩:=Yt ok;have kc0:0 <= (k:Int) * c:=Int.mul_nonneg (by omega) (by omega)
 by_cases hk:(k:Int) < kk
 · have p1:((k:Int)+1) * c <= kk * c:=Int.mul_le_mul_of_nonneg_right (by omega) (by omega)
   have p2:=Int.add_mul (k:Int) 1 c;have q1:cdec (itmA=itmA)=true:=Zf rfl;have q2:cdec (itmB=itmB)=true:=Zf rfl;have q3:decide (0 <= (k:Int) /\ (k:Int) < kk /\ n=(k:Int) * c /\ n <= (l.length:Int) /\ l.length <= 1000)=true:=decide_eq_true ⟨by omega,hk,hn,n1,l1⟩
   have q5:decide (c=c)=true:=by simp
   have w3:IntKind.i64.wrap ((k:Int)+1)=((k+1:Nat):Int):=by rw [wrap_id (by omega) (by omega)];simp
   rw [decide_eq_true hk];simp only [q3,ok,ib,w3,Zf trivial,decide_true,Bool.and_self,cond_true,Int.sub_zero]
   by_cases hr:(l.length:Int) - n < c
   · rw [decide_eq_true hr];simp only [cond_true];have d1:decide ((l.length:Int) < kk * c)=true:=by simp;omega
     refine QO (homO c w d kk ci l (QY c kk n.toNat (l.drop n.toNat) m) l.length true) ?_ rfl;simp only [YL,VY,RT.val,d1,cond_true]
   · rw [decide_eq_false hr];simp only [cond_false];have e1:(n+c).toNat=n.toNat+c.toNat:=by omega
     have e2:(kk * c - n).toNat=c.toNat+(kk * c - (n+c)).toNat:=by omega
     have e3:((k+1:Nat):Int) * c=(k:Int) * c+c:=by rw [show ((k+1:Nat):Int)=(k:Int)+1 by simp,p2];omega
     refine Qp (S:=YL) (s:=⟨c,w,d,kk,ci,l,m,n,k⟩) ⟨c,w,d,kk,ci,l,QY c kk n.toNat ((l.drop n.toNat).take c.toNat) m,n+c,k+1⟩ (show VZ c w d kk ci l (QY c kk n.toNat ((l.drop n.toNat).take c.toNat) m) (n+c) (k+1) from ⟨ok,by omega,by rw [e3];omega,by omega,l1,ib⟩) (by simp only [YL];omega) ?_ rfl rfl
     simp only [YL,VY,e1,e2,QfY (show n.toNat+c.toNat <= l.length by omega),QfZ (show n.toNat+c.toNat <= l.length by omega)]
 · have hkk:(k:Int)=kk:=by omega
   have d0:decide ((k:Int) < kk)=false:=by simpa using hk
   rw [d0];simp only [cond_false];have e0:kk * c=n:=by rw [hn,hkk]
   have d1:decide ((l.length:Int) < n)=false:=by simp;omega
   refine Qm (homO c w d kk ci l m n false) ?_ rfl;simp only [YL,VY,RT.val,e0,d1,cond_false,Int.sub_self,Int.toNat_zero,List.take_zero,QY]
noncomputable def Qf5 (env:Env RC) (os:List (Obj RC)):Option (Bool × QhO):=match env,os with
 | [(0,.yl 60 [6,5,3] [16] x0 x1 (.acons (.ptr 0 []) (.acons (.ptr 2 []) (.acons (.ptr 1 []) .anil))) 4),(1,.ptr 5 []),(8,.int .i64 x2),(9,.int .i64 x3)],[.var 3 (.int .i64 n),.var 29 (.sl .item ci l),.var 100 (.mp 3),.map .int .int m,.ctl (.lp false false 0),.var 26 (.acons (.int .i64 c) (.acons (.int .i64 w) (.acons (.int .i64 d) (.acons (.int .i64 kk) .anil))))]=>QB (true) (cdec (x0=itmA) && cdec (x1=itmB) && decide (x2=kk) && decide (x3=0) && YT c w d kk && decide (n=0 /\ l.length <= 1000) && Qbl l,⟨c,w,d,kk,ci,l,m,n,0⟩)
 | _,_=>none
noncomputable def ur_2:=ur_1.addLoop 169 1 (sumR s28 [.slot 0 0,.slot 0 2,.slot 0 1,.path 2 [],.slot 0 3,.slot 1 0] [0,1,8,9] YL Qf5)
theorem Qn5:Qi Tryz.prog s28 ur_2:=by
 refine Qn3.addRoundsR Qb (by kernel_rfl) YL 120 [0,1,8,9] [] [.slot 0 0,.slot 0 2,.slot 0 1,.path 2 [],.slot 0 3,.slot 1 0] [0,1,8,9] Qf5 (fun q hI=>?_) ?_
 · obtain ⟨c,w,d,kk,ci,l,m,n,k⟩:=q;refine ⟨?_,?_,Qf4 c w d kk ci l m n k hI⟩
   · simp_all [Qj,YL,Qf3,Qdi,VZ,D.refs,Obj.refs,rEnc]
   · simp [YL,VY,Qdi,homO,RT.refsOK,Qj,D.refs,Obj.refs]
 · intro env os b q hd_ hb;unfold Qf5 at hd_
   split at hd_
   · obtain ⟨hs,hd_⟩:=Qg hd_;cases hd_;simp only [Bool.and_eq_true,decide_eq_true_eq] at hb;obtain ⟨⟨⟨⟨⟨⟨e0,e1⟩,e2⟩,e3⟩,ok⟩,h1,h2⟩,ib⟩:=hb;have e0:=ZN.1 e0;have e1:=ZN.1 e1;subst e0;subst e1;subst e2;subst e3;subst h1;obtain ⟨_,_,_,_,_,_,q4,_⟩:=Yt ok;exact ⟨⟨ok,Int.le_trans (show ((0:Nat):Int) <= 4 by decide) q4,by simp,Int.natCast_nonneg _,h2,ib⟩,rfl,rfl⟩
   · cases hd_
section
variable {C:Cdc} {P:Program} {T:Tab C} {Φ:Fns C}
open Pg (Ex)
open Go.ChangeMaps (setBlock)
theorem Zr.split {X:Cx} {ck cv:C.Ty} {e:MapEntry}:∀ {F1 F2:List MapEntry} {l:List (C.A ck × C.A cv)},Zr T X ck cv l (F1++e::F2) ->
 ∃ l1 x l2,l=l1++x::l2 /\ R T X false (T.enc ck x.1) [e.key] /\ RV T X (T.enc cv x.2) e.val /\ Zr T X ck cv (l1++l2) (F1++F2)
 | [],F2,l,h=>by
  cases h with
  | cons hk hv h=>exact ⟨[],_,_,rfl,hk,hv,h⟩
 | f::F1,F2,l,h=>by
  cases h with
  | cons hk hv h =>
   obtain ⟨l1,x,l2,rfl,q1,q2,q3⟩:=Zr.split h;exact ⟨_::l1,x,l2,rfl,q1,q2,.cons hk hv q3⟩
theorem Qf6 {es:List MapEntry} {seen:Array Nat} {e:MapEntry} {F1 F2:List MapEntry} (hn:(es.map (·.born)).Nodup) (h:(es.filter fun x => !seen.contains x.born)=F1++e::F2) :
 (es.filter fun x => !(seen.push e.born).contains x.born)=F1++F2:=by
 have e1:(es.filter fun x => !(seen.push e.born).contains x.born)=(es.filter fun x => !seen.contains x.born).filter fun x => !(x.born == e.born):=by
  rw [List.filter_filter]
  congr 1
  funext x
  rw [contains_push];cases seen.contains x.born <;> simp
 have hn2:((F1++e::F2).map (·.born)).Nodup:=by
  rw [<- h];exact hn.sublist (List.Sublist.map _ List.filter_sublist)
 rw [e1,h];rw [List.map_append,List.nodup_append,List.map_cons,List.nodup_cons] at hn2;obtain ⟨_,⟨h2,_⟩,h3⟩:=hn2;have keep:∀ F:List MapEntry,(∀ x ∈ F,x.born ≠ e.born)->F.filter (fun x => !(x.born == e.born))=F:=fun F hF=>List.filter_eq_self.2 fun x hx=>by simp [hF x hx]
 rw [List.filter_append,List.filter_cons_of_neg (by simp)]
 rw [keep F1 fun x hx=>h3 _ (List.mem_map.2 ⟨x,hx,rfl⟩) _ (by simp),keep F2 fun x hx e2=>h2 (List.mem_map.2 ⟨x,hx,e2⟩)]
theorem next_it (K:QX P T) {X:Cx} {h:Heap C} {nx id:Nat} {lim:Lim} (g:G T X h nx lim) {ck cv:C.Ty} {l:List (C.A ck × C.A cv)} {vi:Value} (ho:h.get id=some (.ctl (.it ck cv l))) (hr:R T X false (.itp id) [vi]) (ty:TypeId) :
 (l=[] /\ (Instr.next vi false ty).run P X.w=.ok (.tuple #[.bool false]) X.w) \/
 ∃ l1 x l2 key val X',l=l1++x::l2 /\ (Instr.next vi false ty).run P X.w=.ok (.tuple #[.bool true,key,val]) X'.w /\ G T X' (h.put id (.ctl (.it ck cv (l1++l2)))) nx lim /\ Step X nx lim X' /\
  (Instr.entry vi).run P X'.w=.ok (.tuple #[key,val]) X'.w /\ R T X' false (T.enc ck x.1) [key] /\ RV T X' (T.enc cv x.2) val:=by
 obtain ⟨s,e1,e2⟩:=g.ctl id _ ho;cases hr with
 | @itp _ r hit =>
  obtain ⟨bm,rfl⟩:=hit s e1;obtain ⟨hne,es,since,seen,clock,hb,hrr,hE,hborn,hsc,hnd⟩:=e2;rcases run_next_at (P:=P) X.w ty r bm since clock seen es clock hrr hb hborn hsc with ⟨h0,hrun⟩ | ⟨e,he,w1,hal,hrun⟩
  · refine .inl ⟨?_,hrun⟩
    have hz:(es.toList.filter fun e => !seen.contains e.born)=[]:=by
     have:(leftOf es seen).toList=[]:=by
      have:=Array.eq_empty_of_size_eq_zero h0;rw [this]
     rw [<- this];simp [leftOf]
    rw [hz] at hE;cases hE;rfl
  · have he':e ∈ es.toList.filter fun e => !seen.contains e.born:=by simpa [leftOf] using he
    have hem:e ∈ es.toList:=(mem_left he).1;obtain ⟨F1,F2,hF⟩:=List.append_of_mem he';rw [hF] at hE;obtain ⟨l1,x,l2,rfl,q1,q2,q3⟩:=hE.split;have hfil:=Qf6 hnd hF
    have hw1:w1.heap=X.w.heap /\ w1.os=X.w.os /\ w1.tape=X.w.tape /\ w1.output=X.w.output:=by
     rcases hal with rfl | rfl <;> exact ⟨rfl,rfl,rfl,rfl⟩
    obtain ⟨g1,s1⟩:=G.world K.base g w1 hw1.1 hw1.2.1 hw1.2.2.1 hw1.2.2.2;have hr1:(⟨w1,X.ρ,X.O⟩:Cx).w.heap[r]? = some (.mapIter (some bm) since seen clock):=by rw [show (⟨w1,X.ρ,X.O⟩:Cx).w=w1 from rfl,hw1.1];exact hrr
    have hrlt:r < w1.heap.size:=(Array.getElem?_eq_some_iff.1 hr1).1
    have hother:∀ (w2:World),w2=setBlock w1 r (.mapIter (some bm) since (seen.push e.born) clock)->w2.heap[bm]? = some (.map es clock) /\ w2.heap[r]? = some (.mapIter (some bm) since (seen.push e.born) clock):=by
     rintro w2 rfl
     constructor
     · show (w1.heap.setIfInBounds r _)[bm]? = _;rw [Array.getElem?_setIfInBounds_ne (Ne.symm hne),hw1.1];exact hb
     · show (w1.heap.setIfInBounds r _)[r]? = _;simp [hrlt]
    obtain ⟨X',w',_,g',s'⟩:=G.setIt K.base (c2:=.it ck cv (l1++l2)) (ob:=.mapIter (some bm) since (seen.push e.born) clock) g1 ho e1 hr1 (fun _ _ _ h=>by cases h) (fun _ _ _ h=>by cases h) (fun X' hw hs=>by
     obtain ⟨o1,o2⟩:=hother X'.w hw;refine ⟨hne,es,since,_,clock,o1,o2,?_,hborn,hsc,hnd⟩;rw [hfil];exact q3.step K.base (s1.trans hs (Nat.le_refl _)))
    have st:=s1.trans s' (Nat.le_refl _);obtain ⟨o1,o2⟩:=hother X'.w w';refine .inr ⟨l1,x,l2,e.key,e.val,X',rfl,by rw [hrun,w'];rfl,g',st,run_entry_at X'.w r bm since seen es clock e o2 o1 hem hnd,q1.step K.base st (by simp [K.base.encRefs]),q2.mono T K.base.encOK st.keeps fun i hi=>by simp [K.base.encRefs] at hi⟩
structure QeU where
 it:Nat
 tn:Nat
 tc:Nat
 ex:Nat
 te:Nat
 tk:Nat
 tv:Nat
 o2:Array Oper
 more:List Oper
 rest:Code
def Qdj (b:Code):Option QeU :=
 match b with
 | .seq (.region _ o1 false) (.seq (.cond (.tmp tc) .skip (.exit ex)) (.block _ (.seq (.region _ o2 false) rest)))=>(match o1.toList,o2.toList with
  | [n,x],e::k::v::more=>(match n.op,n.dst,n.guard,x.op,x.dst,x.guard with
   | .next (.tmp it) false,some tn,none,.extract (.tmp tn') 0,some tc',none=>(match e.op,e.dst,e.guard,k.op,k.dst,k.guard with
    | .entry (.tmp it'),some te,none,.extract (.tmp te') 0,some tk,none=>(match v.op,v.dst,v.guard with
     | .extract (.tmp te2) 1,some tv,none =>
      bif (Nat.beq tn tn' && Nat.beq tc tc' && Nat.beq it it' && Nat.beq te te' && Nat.beq te te2) && (!Nat.beq it tn && !Nat.beq it tc && !Nat.beq te tk && !Nat.beq tn tc && !Nat.beq tk tv) then some ⟨it,tn,tc,ex,te,tk,tv,o2,more,rest⟩ else none
     | _,_,_=>none)
    | _,_,_,_,_,_=>none)
   | _,_,_,_,_,_=>none)
  | _,_=>none)
 | _=>none
structure Qjf (C:Cdc) (ck cv:C.Ty) (σ:Type) where
 k:Nat
 it:Nat
 canon:σ->Env C
 objs:σ->List (C.A ck × C.A cv)->List (Obj C)
 fin:σ->List (C.A ck × C.A cv)->Env C
 fobjs:σ->List (C.A ck × C.A cv)->List (Obj C)
 Inv:σ->List (C.A ck × C.A cv)->Prop
def QrD (T:Tab C) (Φ:Fns C) (g:FuncId) (m:QeU) {ck cv:C.Ty} {σ:Type} (S:Qjf C ck cv σ):Prop :=
 ∀ s l,S.Inv s l->Qj S.k (S.canon s) (S.objs s l) /\ Qj S.k (S.fin s l) (S.fobjs s l) /\ (S.objs s l)[S.it]? = some (.ctl (.it ck cv l)) /\ eget (S.canon s) m.it=.itp S.it /\ (∀ l',S.objs s l'=(S.objs s l).set S.it (.ctl (.it ck cv l'))) /\
  (l=[]->(∀ p ∈ S.fin s l,eget (S.canon s) p.1=p.2 /\ p.1 ≠ m.tn /\ p.1 ≠ m.tc) /\ S.fobjs s l=S.objs s l) /\
  ∀ l1 x l2,l=l1++x::l2 -> ∃ n env' h' nx' tr s',Ex (0,0) (.bind (JV T (QbA T Φ (evC T Φ n)) m.o2 m.more ((m.tv,T.enc cv x.2)::(m.tk,T.enc ck x.1)::(m.te,.top)::(m.tc,.bool true)::(m.tn,.top)::S.canon s)) fun env=>evC T Φ n g m.rest env) (hpOf 0 (S.objs s (l1++l2))) S.k (.normal,env') h' nx' tr /\
   S.Inv s' (l1++l2) /\ S.fin s' (l1++l2)=S.fin s l /\ S.fobjs s' (l1++l2)=S.fobjs s l /\ Sub env' (S.canon s') /\ ∀ j,j < S.k->h'.get j=(S.objs s' (l1++l2))[j]?
theorem Qjg {b:Code} {m:QeU} (h:Qdj b=some m):∃ r1 o1 bl r2 n x e k v,b=.seq (.region r1 o1 false) (.seq (.cond (.tmp m.tc) .skip (.exit m.ex)) (.block bl (.seq (.region r2 m.o2 false) m.rest))) /\ o1.toList=[n,x] /\ m.o2.toList=e::k::v::m.more /\
 n.op=.next (.tmp m.it) false /\ n.dst=some m.tn /\ n.guard=none /\ x.op=.extract (.tmp m.tn) 0 /\ x.dst=some m.tc /\ x.guard=none /\ e.op=.entry (.tmp m.it) /\ e.dst=some m.te /\ e.guard=none /\ k.op=.extract (.tmp m.te) 0 /\ k.dst=some m.tk /\ k.guard=none /\
 v.op=.extract (.tmp m.te) 1 /\ v.dst=some m.tv /\ v.guard=none /\ m.it ≠ m.tn /\ m.it ≠ m.tc /\ m.te ≠ m.tk /\ m.tn ≠ m.tc /\ m.tk ≠ m.tv:=by
 unfold Qdj at h
 split at h
 · rename_i r1 o1 tc ex bl r2 o2 rest
   split at h
   · rename_i n x e k v more h1 h2
     split at h
     · rename_i it tn tn' tc' q1 q2 q3 q4 q5 q6
       split at h
       · rename_i it' te te' tk p1 p2 p3 p4 p5 p6
         split at h
         · rename_i te2 tv w1 w2 w3
           have key:∀ (c:Bool) (y:QeU),(bif c then some y else none)=some m->c=true /\ y=m:=by
            intro c y hh;cases c
            · cases hh
            · exact ⟨rfl,Option.some.inj hh⟩
           obtain ⟨hc,rfl⟩:=key _ _ h;simp only [Bool.and_eq_true,Nat.beq_eq,Bool.not_eq_true'] at hc;obtain ⟨⟨⟨⟨⟨rfl,rfl⟩,rfl⟩,rfl⟩,rfl⟩,⟨⟨⟨c1,c2⟩,c3⟩,c4⟩,c5⟩:=hc;exact ⟨r1,o1,bl,r2,n,x,e,k,v,rfl,h1,h2,q1,q2,q3,q4,q5,q6,p1,p2,p3,p4,p5,p6,w1,w2,w3,Nat.ne_of_beq_eq_false c1,Nat.ne_of_beq_eq_false c2,Nat.ne_of_beq_eq_false c3,Nat.ne_of_beq_eq_false c4,Nat.ne_of_beq_eq_false c5⟩
         · cases h
       · cases h
     · cases h
   · cases h
 · cases h
theorem QeV {a:Act} {d t:Nat} {v:Value} (h:t ≠ d):(a.put (some d) v).tmps.getD t undef=a.tmps.getD t undef:=by
 simp [Act.put,Array.getD_eq_getD_getElem?,Array.getElem?_setIfInBounds_ne (Ne.symm h)]
theorem QhP {a:Act} {d:Nat} {v:Value} (h:d < a.tmps.size):(a.put (some d) v).eval (.tmp d)=v:=by
 simp [Act.eval,Act.put,h]
theorem Qjh (K:QX P T) (F:Qi P T Φ) {g:FuncId} {fn:Func} {body b:Code} {m:QeU} {ck cv:C.Ty} {σ:Type} {S:Qjf C ck cv σ} (hm:Qdj b=some m) (hck:∀ x,(T.enc ck x).isRow=false) (hr:QrD T Φ g m S) (hf:Φ.fn g=some fn) (hb:fn.body=some body) (hcb:Zz fn.ntmps b=true)
 (hl:∀ b' ∈ QN b,b' ∈ QN body) {B:Nat->Bool} (hB:QaR B b) {Q:Exit->Act->World->Prop}:∀ (N:Nat) (s:σ) (l:List (C.A ck × C.A cv)) (X:Cx) (a:Act),l.length <= N->S.Inv s l->G T X (hpOf 0 (S.objs s l)) S.k (lim0 S.k)->Qu T X S.k (lim0 S.k) (S.canon s) a.tmps->fn.ntmps <= a.tmps.size ->
  (∀ a' X',G T X' (hpOf 0 (S.fobjs s l)) S.k (lim0 S.k)->Step X S.k (lim0 S.k) X'->Qu T X' S.k (lim0 S.k) (S.fin s l) a'.tmps->a'.tmps.size=a.tmps.size->ZC X X' a'.defers a.defers->Kp B a.tmps a'.tmps->Q (.exit m.ex) a' X'.w)->Code.rounds P b Q (N+1) a X.w:=by
 obtain ⟨r1,o1,bl,r2,n,x,e,k,v,rfl,ho1,ho2,n1,n2,n3,x1,x2,x3,e1,e2',e3,k1,k2,k3,v1,v2,v3,c1,c2,c3,c4,c5⟩:=Qjg hm;simp only [Zz,Bool.and_eq_true] at hcb;obtain ⟨⟨hb1,_⟩,_,⟨hb2,_⟩,hb3⟩:=hcb;have hs1:∀ o ∈ o1.toList,∀ t,o.dst=some t->t < fn.ntmps:=QaQ hb1;have hs2:∀ o ∈ m.o2.toList,∀ t,o.dst=some t->t < fn.ntmps:=QaQ hb2;have hB1:∀ o ∈ o1.toList,∀ t,o.dst=some t->B t=false:=fun o ho t ht=>hB t (by simp only [asgL,List.mem_append,List.mem_filterMap];exact .inl ⟨o,ho,ht⟩)
 have hB2:∀ o ∈ m.o2.toList,∀ t,o.dst=some t->B t=false:=fun o ho t ht=>hB t (by simp only [asgL,List.mem_append,List.mem_filterMap];exact .inr (.inr (.inl ⟨o,ho,ht⟩)))
 have hB3:QaR B m.rest:=fun t ht=>hB t (by simp only [asgL,List.mem_append];exact .inr (.inr (.inr ht)))
 have m1:n ∈ o1.toList:=by rw [ho1];simp
 have m2:x ∈ o1.toList:=by rw [ho1];simp
 have m3:e ∈ m.o2.toList:=by rw [ho2];simp
 have m4:k ∈ m.o2.toList:=by rw [ho2];simp
 have m5:v ∈ m.o2.toList:=by rw [ho2];simp
 have hsz1:o1.size=2:=by rw [<- Array.length_toList,ho1];rfl
 have i0:o1[0]? = some n:=by rw [<- Array.getElem?_toList,ho1];rfl
 have i1:o1[1]? = some x:=by rw [<- Array.getElem?_toList,ho1];rfl
 have j0:m.o2[0]? = some e:=by rw [<- Array.getElem?_toList,ho2];rfl
 have j1:m.o2[1]? = some k:=by rw [<- Array.getElem?_toList,ho2];rfl
 have j2:m.o2[2]? = some v:=by rw [<- Array.getElem?_toList,ho2];rfl
 have hw:∀ (ops:Array Oper) (o:Oper) (u:Array Value),o.guard=none->Region.wanted o (yielded ops u)=true:=fun ops o u hg=>by simp [Region.wanted,hg]
 intro N
 induction N using Nat.strongRecOn with
 | _ N ih =>
 intro s l X a hN hI hg he hsz hk;obtain ⟨hr1,hr2,hit,hei,hset,hend,hstep⟩:=hr s l hI;rw [rounds_succ];refine (wpIn_wide (n:=0)).1 (wpIn_seq (wpIn_region ?_));rw [List.range_eq_range',hsz1,List.range'_succ,wpOpsIn_cons];unfold wpOpIn;simp only [i0,hw o1 n _ n3,if_true]
 have hvi:R T X false (.itp S.it:D C) [a.eval (.tmp m.it)]:=by
  have:=(he m.it).1;rw [hei] at this;exact this.one rfl
 have hoi:(hpOf 0 (S.objs s l)).get S.it=some (.ctl (.it ck cv l)):=by rw [QA];exact hit
 have b1:m.tn < a.tmps.size:=Nat.lt_of_lt_of_le (hs1 n m1 _ n2) hsz;have b2:m.tc < a.tmps.size:=Nat.lt_of_lt_of_le (hs1 x m2 _ x2) hsz
 have go:∀ (val:Value) (ok:Bool) (w':World),(Instr.next (a.eval (.tmp m.it)) false n.type).run P X.w=.ok val w'->(Instr.extract val 0:Sem Value)=pure (.bool ok) ->
  (∀ a2:Act,a2=(a.put (some m.tn) val).put (some m.tc) (.bool ok)->(Code.seq (.cond (.tmp m.tc) .skip (.exit m.ex)) (.block bl (.seq (.region r2 m.o2 false) m.rest))).wpIn Fence.wide 0 P (Exit.then (Code.rounds P (.seq (.region r1 o1 false) (.seq (.cond (.tmp m.tc) .skip (.exit m.ex)) (.block bl (.seq (.region r2 m.o2 false) m.rest)))) Q N) Q) a2 w') ->
  n.wpIn Fence.wide 0 P a X.w (wpOpsIn Fence.wide 0 P o1 (Exit.then ((Code.seq (.cond (.tmp m.tc) .skip (.exit m.ex)) (.block bl (.seq (.region r2 m.o2 false) m.rest))).wpIn Fence.wide 0 P (Exit.then (Code.rounds P (.seq (.region r1 o1 false) (.seq (.cond (.tmp m.tc) .skip (.exit m.ex)) (.block bl (.seq (.region r2 m.o2 false) m.rest)))) Q N) Q)) (Exit.then (Code.rounds P (.seq (.region r1 o1 false) (.seq (.cond (.tmp m.tc) .skip (.exit m.ex)) (.block bl (.seq (.region r2 m.o2 false) m.rest)))) Q N) Q)) (List.range' 1 1)) (Exit.then ((Code.seq (.cond (.tmp m.tc) .skip (.exit m.ex)) (.block bl (.seq (.region r2 m.o2 false) m.rest))).wpIn Fence.wide 0 P (Exit.then (Code.rounds P (.seq (.region r1 o1 false) (.seq (.cond (.tmp m.tc) .skip (.exit m.ex)) (.block bl (.seq (.region r2 m.o2 false) m.rest)))) Q N) Q)) (Exit.then (Code.rounds P (.seq (.region r1 o1 false) (.seq (.cond (.tmp m.tc) .skip (.exit m.ex)) (.block bl (.seq (.region r2 m.o2 false) m.rest)))) Q N) Q)):=by
  intro val ok w' hrun hext hgo;refine Q3 (ro:=none) (fun c hc=>by rw [n1] at hc;cases hc) (JZ (v:=val) (w':=w') (by obtain ⟨dst,op,ty,pos,after,guard⟩:=n;simp only at n1;subst n1;simp only [execOp,Sem.run_bind,hrun,Result.andThen_ok,Sem.run_pure]) ?_)
  rw [n2];rw [List.range'_succ,wpOpsIn_cons];unfold wpOpIn;simp only [i1,hw o1 x _ x3,if_true];refine Q3 (ro:=none) (fun c hc=>by rw [x1] at hc;cases hc) (JZ (v:=.bool ok) (w':=w') (by obtain ⟨dst,op,ty,pos,after,guard⟩:=x;simp only at x1;subst x1;simp only [execOp,QhP b1,hext,Sem.run_bind,Sem.run_pure,Result.andThen_ok]) ?_)
  rw [x2];exact hgo _ rfl
 have hkp2:∀ val ok,Kp B a.tmps ((a.put (some m.tn) val).put (some m.tc) (.bool ok)).tmps:=fun val ok=>(Vp a _ _ (fun t ht=>by cases ht;exact hB1 n m1 _ n2)).trans (Vp _ _ _ (fun t ht=>by cases ht;exact hB1 x m2 _ x2))
 have hsz2:∀ val ok,((a.put (some m.tn) val).put (some m.tc) (.bool ok)).tmps.size=a.tmps.size:=fun val ok=>by rw [(Qx _ _ _).1,(Qx _ _ _).1]
 have hdf2:∀ val ok,((a.put (some m.tn) val).put (some m.tc) (.bool ok)).defers=a.defers:=fun val ok=>by rw [(Qx _ _ _).2,(Qx _ _ _).2]
 have ev2:∀ val ok,((a.put (some m.tn) val).put (some m.tc) (.bool ok)).eval (.tmp m.tc)=.bool ok:=fun val ok=>QhP (by rw [(Qx _ _ _).1];exact b2)
 rcases next_it K hg hoi hvi n.type with ⟨rfl,hrun⟩ | ⟨l1,y,l2,key,val,X1,rfl,hrun,g1,s1,hent,hRk,hRv⟩
 · refine go _ false X.w hrun rfl fun a2 ha2=>?_;refine wpIn_seq (wpIn_cond_false (by rw [ha2];exact ev2 _ _) (wpIn_exit ?_))
   obtain ⟨f1,f2⟩:=hend rfl;rw [f2] at hk;refine hk a2 X hg (.refl _ _ _) (fun t=>?_) (by rw [ha2,hsz2]) (.of_eq (by rw [ha2,hdf2])) (by rw [ha2];exact hkp2 _ _)
   rcases eget_mem (S.fin s []) t with h | h
   · rw [h];exact RO.mk (RV.top _ _ _) rfl
   · obtain ⟨q1,q2,q3⟩:=f1 _ h;simp only at q1 q2 q3;have:a2.tmps.getD t undef=a.tmps.getD t undef:=by rw [ha2,QeV q3,QeV q2]
     rw [this,<- q1];exact he t
 · cases N with
   | zero=>simp at hN
   | succ N =>
   obtain ⟨fuel,env',h',nx',tr,s',hx,hI',hfin,hfo,hsub,hget⟩:=hstep l1 y l2 rfl;obtain ⟨hr1',hr2',_⟩:=hr s' (l1++l2) hI';have hle:S.k <= nx':=hx.le;obtain ⟨env1,h1,nx1,t1,t2,q1,q2,_⟩:=Ex.bind hx;have hle1:=Ex.le q1;have hle2:=Ex.le q2
   have hrl:Qj S.k (S.canon s) (S.objs s (l1++l2)):=by
    refine ⟨by rw [hset];simpa using hr1.1,hr1.2.1,fun o ho=>?_⟩
    rw [hset] at ho;rcases List.mem_or_eq_of_mem_set ho with h | h
    · exact hr1.2.2 o h
    · subst h;intro r hr';simp [Obj.refs] at hr'
   have hlt:S.it < (S.objs s (l1++y::l2)).length:=(List.getElem?_eq_some_iff.1 hit).1
   have g1':G T X1 (hpOf 0 (S.objs s (l1++l2))) S.k (lim0 S.k):=g1.congr fun id=>by
    rw [Ql (by rw [hoi];rfl),QA,QA,hset (l1++l2)]
    by_cases hid:id=S.it
    · subst hid;simp [hlt]
    · rw [List.getElem?_set_ne (Ne.symm hid)];simp [hid]
   have g0:G T X1 (hpOf 0 (S.objs s (l1++l2))) S.k (lim0 nx'):=g1'.relim2 (J2 hrl.1 hrl.2.2) (Nat.le_refl _) (Nat.zero_le _) (fun _ h=>h)
   have e0:Qu T X1 S.k (lim0 nx') (S.canon s) a.tmps:=fun t=>⟨((he t).step K.base s1 (Nat.le_refl _)).1,fun r hh=>⟨.inl (by
    rcases eget_mem (S.canon s) t with h | h
    · rw [h] at hh;simp [D.refs] at hh
    · exact hr1.2.1 _ h r hh),fun h=>h⟩⟩
   refine go _ true X1.w hrun rfl fun a2 ha2=>?_;refine wpIn_seq (wpIn_cond_true (by rw [ha2];exact ev2 _ _) (wpIn_skip ?_))
   refine wpIn_block (wpIn_seq (wpIn_region ?_));have hsz3:m.o2.size=m.more.length+1+1+1:=by rw [<- Array.length_toList,ho2];rfl
   have hs2a:a2.tmps.size=a.tmps.size:=by rw [ha2,hsz2]
   have e2:Qu T X1 S.k (lim0 nx') ((m.tc,.bool true)::(m.tn,.top)::S.canon s) a2.tmps:=by
    have h1:Qu T X1 S.k (lim0 nx') (Ev.put (S.canon s) (some m.tn) .top) (a.put (some m.tn) (.tuple #[.bool true,key,val])).tmps:=e0.put (RO.mk (RV.top _ _ _) rfl) (fun t ht=>by cases ht;exact b1)
    rw [ha2];exact h1.put (dst:=some m.tc) (RO.mk (.mk rfl (.bool true)) rfl) (fun t ht=>by cases ht;rw [(Qx _ _ _).1];exact b2)
   have hevit:a2.eval (.tmp m.it)=a.eval (.tmp m.it):=by
    show a2.tmps.getD m.it undef=a.tmps.getD m.it undef;rw [ha2,QeV c2,QeV c1]
   have d1:m.te < a2.tmps.size:=by rw [hs2a];exact Nat.lt_of_lt_of_le (hs2 e m3 _ e2') hsz
   have d2:m.tk < a2.tmps.size:=by rw [hs2a];exact Nat.lt_of_lt_of_le (hs2 k m4 _ k2) hsz
   have d3:m.tv < a2.tmps.size:=by rw [hs2a];exact Nat.lt_of_lt_of_le (hs2 v m5 _ v2) hsz
   rw [List.range_eq_range',hsz3,List.range'_succ,wpOpsIn_cons];unfold wpOpIn;simp only [j0,hw m.o2 e _ e3,if_true];refine Q3 (ro:=none) (fun c hc=>by rw [e1] at hc;cases hc) (JZ (v:=.tuple #[key,val]) (w':=X1.w) (by obtain ⟨dst,op,ty,pos,after,guard⟩:=e;simp only at e1;subst e1;simp only [execOp,hevit,Sem.run_bind,hent,Result.andThen_ok,Sem.run_pure]) ?_)
   rw [e2',List.range'_succ,wpOpsIn_cons];unfold wpOpIn;simp only [Nat.zero_add,j1,hw m.o2 k _ k3,if_true];refine Q3 (ro:=none) (fun c hc=>by rw [k1] at hc;cases hc) (JZ (v:=key) (w':=X1.w) (by obtain ⟨dst,op,ty,pos,after,guard⟩:=k;simp only at k1;subst k1;simp [execOp,QhP d1,Instr.extract]) ?_)
   rw [k2,List.range'_succ,wpOpsIn_cons];unfold wpOpIn;simp only [j2,hw m.o2 v _ v3,if_true]
   have evte:((a2.put (some m.te) (.tuple #[key,val])).put (some m.tk) key).eval (.tmp m.te)=.tuple #[key,val]:=by
    show ((a2.put (some m.te) (.tuple #[key,val])).put (some m.tk) key).tmps.getD m.te undef=_;rw [QeV c3];exact QhP d1
   refine Q3 (ro:=none) (fun c hc=>by rw [v1] at hc;cases hc) (JZ (v:=val) (w':=X1.w) (by obtain ⟨dst,op,ty,pos,after,guard⟩:=v;simp only at v1;subst v1;simp [execOp,evte,Instr.extract]) ?_)
   rw [v2]
   have e5:Qu T X1 S.k (lim0 nx') ((m.tv,T.enc cv y.2)::(m.tk,T.enc ck y.1)::(m.te,.top)::(m.tc,.bool true)::(m.tn,.top)::S.canon s) (((a2.put (some m.te) (.tuple #[key,val])).put (some m.tk) key).put (some m.tv) val).tmps:=by
    have h1:Qu T X1 S.k (lim0 nx') (Ev.put _ (some m.te) .top) (a2.put (some m.te) (.tuple #[key,val])).tmps:=e2.put (RO.mk (RV.top _ _ _) rfl) (fun t ht=>by cases ht;exact d1)
    have h2:=h1.put (dst:=some m.tk) (d:=T.enc ck y.1) (v:=key) (RO.mk (.inr ⟨hck _,hRk⟩) (K.base.encRefs _ _)) (fun t ht=>by cases ht;rw [(Qx _ _ _).1];exact d2)
    exact h2.put (dst:=some m.tv) (d:=T.enc cv y.2) (v:=val) (RO.mk hRv (K.base.encRefs _ _)) (fun t ht=>by cases ht;rw [(Qx _ _ _).1,(Qx _ _ _).1];exact d3)
   have hsz5:(((a2.put (some m.te) (.tuple #[key,val])).put (some m.tk) key).put (some m.tv) val).tmps.size=a.tmps.size:=by rw [(Qx _ _ _).1,(Qx _ _ _).1,(Qx _ _ _).1,hs2a]
   have hdf5:(((a2.put (some m.te) (.tuple #[key,val])).put (some m.tk) key).put (some m.tv) val).defers=a.defers:=by rw [(Qx _ _ _).2,(Qx _ _ _).2,(Qx _ _ _).2,ha2,hdf2]
   have hkp5:Kp B a.tmps (((a2.put (some m.te) (.tuple #[key,val])).put (some m.tk) key).put (some m.tv) val).tmps:=by
    refine (by rw [ha2];exact hkp2 _ _:Kp B a.tmps a2.tmps).trans ?_
    exact ((Vp a2 _ _ (fun t ht=>by cases ht;exact hB2 e m3 _ e2')).trans (Vp _ _ _ (fun t ht=>by cases ht;exact hB2 k m4 _ k2))).trans (Vp _ _ _ (fun t ht=>by cases ht;exact hB2 v m5 _ v2))
   generalize ((a2.put (some m.te) (.tuple #[key,val])).put (some m.tk) key).put (some m.tv) val=a5 at e5 hsz5 hdf5 hkp5 ⊢;have hcall:=Qsn K F fuel;refine Qgt (ro:=none) (m:=0) K hcall hB2 m.more 3 (by rw [ho2];rfl) g0 e5 (by show nx1 <= nx';exact hle2) (fun o ho t ht=>by rw [hsz5];exact Nat.lt_of_lt_of_le (hs2 o ho t ht) hsz) q1 fun a6 X6 g6 s6 e6 hs6 hd6 kp6=>?_
   refine (QcO K F fuel).1 none 0 g fn.ntmps m.rest (.inr ⟨rfl,fn,body,hf,rfl,hb,fun b' hb'=>hl b' (by simp [QN,hb'])⟩) hb3 B hB3 X6 h1 nx1 (lim0 nx') (0,0) env1 .normal env' h' nx' t2 a6 _ g6 e6 (Nat.le_refl _) (by rw [hs6,hsz5];exact hsz) q2 ?_
   intro a7 X7 g7 s7 e7 hs7 hd7 kp7;have s67:=s6.trans s7 hle1
   -- the objects that are kept
   obtain ⟨X2,w2,g2,s2,hρ⟩:=G.drop K.base g7 (h':=hpOf 0 (S.objs s' (l1++l2))) (fun id=>by
    rw [QA]
    by_cases hid:id < S.k
    · exact .inl (hget id hid).symm
    · exact .inr (List.getElem?_eq_none (by rw [hr1'.1];omega)))
   have hnone:∀ id,¬ id < S.k->X2.ρ id=none:=fun id hid=>by
    cases hq:X2.ρ id with
    | none=>rfl
    | some o =>
     have:=g2.dom id o hq;rw [QA,List.getElem?_eq_none (by rw [hr1'.1];omega)] at this
     cases this
   have s3:=s67.trans s2 hle;have g3:G T X2 (hpOf 0 (S.objs s' (l1++l2))) S.k (lim0 S.k):=g2.relim2 (J2 hr1'.1 hr1'.2.2) (Nat.le_refl _) (Nat.zero_le _) (fun _ h=>h)
   have s4:Step X1 S.k (lim0 S.k) X2:=⟨s3.O,s3.os,s3.tape,s3.output,s3.size,fun id ho=>by
    by_cases hid:id < S.k
    · exact s3.ρ id ⟨.inl hid,fun h=>h⟩
    · rw [hnone id hid];cases X1.ρ id <;> simp [Qd],s3.mine,s3.cell,s3.block,s3.frz⟩
   have e8:Qu T X2 S.k (lim0 S.k) (S.canon s') a7.tmps:=fun t=>by
    rcases eget_mem (S.canon s') t with h | h
    · rw [h];exact RO.mk (RV.top _ _ _) rfl
    · have hrt:∀ r ∈ (eget (S.canon s') t).refs,r < S.k:=hr1'.2.1 _ h;have h2:=hsub _ h;simp only at h2;have h3:=(e7 t).1;rw [h2] at h3;exact ⟨h3.mono T K.base.encOK s2.keeps fun r hh=>s2.ρ r ⟨.inl (by have:=hrt r hh;omega),fun h=>h⟩,fun r hh=>⟨.inl (hrt r hh),fun h=>h⟩⟩
   show Code.rounds P _ Q (N+1) a7 X7.w;rw [<- w2];have hst:=s1.trans s4 (Nat.le_refl _)
   have hmk:ZC X X2 a7.defers a.defers:=by
    have h1:ZC X6 X7 a7.defers a6.defers:=hd7;rw [hd6,hdf5] at h1;obtain ⟨rs,e1,n1,hrs⟩:=h1.sub w2 s2.mine;exact ⟨rs,e1,n1,fun r hr=>⟨Nat.le_trans (Nat.le_trans s1.size s6.size) (hrs r hr).1,(hrs r hr).2⟩⟩
   refine ih N (by omega) s' (l1++l2) X2 a7 (by simp at hN ⊢;omega) hI' g3 e8 (by rw [hs7,hs6,hsz5];exact hsz) fun a9 X9 g9 s9 e9 hs9 hd9 kp9=>?_
   rw [hfin] at e9;rw [hfo] at g9;exact hk a9 X9 g9 (hst.trans s9 (Nat.le_refl _)) e9 (by rw [hs9,hs7,hs6,hsz5]) (hmk.trans hst s9 hd9) (((hkp5.trans kp6).trans kp7).trans kp9)
theorem Qqm (K:QX P T) (F:Qi P T Φ) {g key:Nat} {fs:List Fnd} {slots:List Nat} {res:Env C->List (Obj C)->RT C} {ck cv:C.Ty} {σ:Type} {S:Qjf C ck cv σ} {m:QeU} (hck:∀ x,(T.enc ck x).isRow=false)
 (hr:QrD T Φ g m S) (hm:∀ fn body b,Φ.fn g=some fn->fn.body=some body->b ∈ QN body->Qv b=key->Qdj b=some m)
 (hres:∀ env0 os x env' os',(res env0 os).val=some ((x,env'),os') -> ∃ q l,S.Inv q l /\ (∀ p ∈ S.canon q,p ∈ env0) /\ os=S.objs q l /\ x=.exit m.ex /\ S.fin q l=env' /\ S.fobjs q l=os'):QcP P T Φ g key (sumO T fs slots res):=by
 intro fn body b hf hb hbl hkey B hB X h nx lim e env x env' h' nx' tr a Q gg he hlim hsz hx hk;obtain ⟨f1,f2,f3⟩:=F.fn g fn hf;obtain ⟨c1,c2⟩:=Za body (f3 body hb) b hbl;have hmb:=hm fn body b hf hb hbl hkey;obtain ⟨X1,h1,nx1,env1,ids,tr1,w1,g1,s1,hn1,e1,hx1⟩:=QgC K hlim fs X h nx tr env [] gg he hx;cases hnd:Ju ids with
 | false=>rw [hnd] at hx1;exact (Ex.fail hx1).elim
 | true =>
 rw [hnd] at hx1;simp only [cond_true] at hx1;have hnodup:=Yh hnd;obtain ⟨os,tr2,hlen,hos,hx2⟩:=Qal ids _ _ hx1;cases hin:inB ids (slots.flatMap fun t=>(eget env1 t).refs) && inB ids (os.flatMap Obj.refs) with
 | false=>rw [hin] at hx2;exact (Ex.fail hx2).elim
 | true =>
 rw [hin] at hx2;simp only [cond_true] at hx2;simp only [Bool.and_eq_true] at hin;have hin1:=Yy hin.1;have hin2:=Yy hin.2;obtain ⟨xx,ee,os',hq,hx3⟩:=RT.pg_ok _ _ hx2
 · · obtain ⟨q,l,hI,hsub,hobjs,rfl,hfin,hfo⟩:=hres _ _ _ _ _ hq;obtain ⟨hr1,hr2,_⟩:=hr q l hI;obtain ⟨h2,tr3,hl2,hw1,hw2,hx4⟩:=Qam ids _ h1 _ hnodup hx3;obtain ⟨hxx,eh,en,_⟩:=Ex.ret hx4;obtain ⟨rfl,rfl⟩:=Prod.mk.inj hxx;subst eh;subst en
     let f:Nat->Nat:=fun j=>ids.getD j 0
     have hfj:∀ j,j < ids.length->ids[j]? = some (f j):=fun j hj=>by simp [f,hj]
     have hk0:ids.length=S.k:=by rw [<- hr1.1,<- hobjs];simp [hlen]
     have hff:∀ r,r ∈ ids->f (idx ids r)=r:=fun r hr=>by
      have:=Jf ids r hr;simp only [f,List.getD_eq_getElem?_getD,this,Option.getD_some]
     have hlenO:(S.objs q l).length=ids.length:=by rw [hr1.1,hk0]
     have part:Part h1 (S.objs q l) f:=by
      refine ⟨fun j o ho=>?_,fun i j hi hj hij=>?_,fun o ho r hr=>by rw [hr1.1];exact hr1.2.2 o ho r hr⟩
      · rw [<- hobjs,List.getElem?_map] at ho;cases hoj:os[j]? with
        | none=>simp [hoj] at ho
        | some o0 =>
         simp only [hoj,Option.map_some,Option.some.injEq] at ho;have hj:j < ids.length:=by rw [<- hlen];exact (List.getElem?_eq_some_iff.1 hoj).1
         rw [hos j (f j) o0 (hfj j hj) hoj,<- ho,Obj.ren_ren];intro id hid;exact hff id (hin2 id (List.mem_flatMap.2 ⟨o0,List.mem_of_getElem? hoj,hid⟩))
      · rw [hlenO] at hi hj;have:=(List.getElem?_inj hi hnodup (j:=j)).1 (by rw [hfj i hi,hfj j hj];simp only [f] at hij ⊢;rw [hij])
        exact this
     have g2:=Part.ctx K.base g1 part (S.objs q l).length
     have e2:Qu T (X1.part (S.objs q l).length f) (S.objs q l).length (lim0 (S.objs q l).length) (S.canon q) a.tmps:=by
      refine Qu.part K.base e1 part.inj (fun p hp=>?_) (fun p hp r hr=>by rw [hr1.1];exact hr1.2.1 p hp r hr)
      have:=hsub p hp;simp only [List.mem_map] at this;obtain ⟨t,ht,rfl⟩:=this;simp only;rw [D.ren_ren];intro id hid;exact hff id (hin1 id (List.mem_flatMap.2 ⟨t,ht,hid⟩))
     rw [hr1.1] at g2 e2;rw [<- w1];show (Code.loop b).wp P Q a (X1.part S.k f).w;refine wp_loop_rounds (l.length+1) (Qjh K F hmb hck hr hf hb c1 c2 hB l.length q l (X1.part S.k f) a (Nat.le_refl _) hI g2 e2 hsz fun a' X' g' s' e' hs' hd' kp'=>?_);rw [hfo] at g';rw [hfin] at e';have hlen':os'.length=(S.objs q l).length:=by rw [<- hfo,hr2.1,hr1.1]
     have hrefs':∀ o ∈ os',∀ r ∈ Obj.refs o,r < (S.objs q l).length:=fun o ho r hr=>by rw [hr1.1];exact hr2.2.2 o (by rw [hfo];exact ho) r hr
     obtain ⟨X2,w2,g3,s3,hρ,hB2⟩:=Part.back K.base g1 part hlen' hrefs' (X1:=X') (lim1:=lim0 S.k) (h':=h') (by rw [hr1.1];exact g') (by rw [hr1.1];exact s') (fun j o hj=>by
      have hlt:j < ids.length:=by rw [<- hlenO,<- hlen'];exact (List.getElem?_eq_some_iff.1 hj).1
      exact hw1 j (f j) _ (hfj j hlt) (by rw [List.getElem?_map,hj];rfl)) (fun id hid=>by
      refine hw2 id fun hm=>?_;obtain ⟨j,hj,hjj⟩:=List.getElem_of_mem hm;refine hid j (by rw [hlenO];exact hj) ?_
      simp [f,hj,hjj])
     have hold:∀ j,j < S.k->old nx' lim (f j):=fun j hj=>by
      have hj':j < (S.objs q l).length:=by rw [hr1.1];exact hj
      exact (g1.nums _ _ (part.at' j (S.objs q l)[j] (by simp [hj']))).1
     have e3:=Qu.back (nx:=nx') (lim:=lim) (f:=f) K.base e' (fun p hp r hr=>hr2.2.1 p (by rw [hfin];exact hp) r hr) (fun j hj=>hρ j (by rw [hr1.1];exact hj)) ⟨hB2⟩ hold
     have:=hk a' X2 g3 (s1.trans s3 hn1) e3 hs' (hd'.of_g g3 (by show X.w.heap.size <= X1.w.heap.size;rw [w1];exact Nat.le_refl _) w2) kp'
     rw [w2] at this;exact this
noncomputable def rndM (T:Tab C) (Φ:Fns C) (g:FuncId) (m:QeU) (n k:Nat) (kc:List Nat) {ck cv:C.Ty} (x:C.A ck × C.A cv) (env:Env C) (os:List (Obj C)):Option (Env C × List (Option (Obj C))) :=
 (Pg.bind (JV T (QbA T Φ (evC T Φ n)) m.o2 m.more ((m.tv,T.enc cv x.2)::(m.tk,T.enc ck x.1)::(m.te,.top)::(m.tc,.bool true)::(m.tn,.top)::env)) fun env=>evC T Φ n g m.rest env).run (0,0) (hpOf 0 os) k [] fun r h' _ _=>match r.1 with
  | .normal=>some (kc.map fun t=>(t,eget r.2 t),QcR 0 k h')
  | _=>none
def Qdk (b:Code):QeU:=match Qdj b with
 | some m=>m
 | none=>⟨0,0,0,0,0,0,0,#[],[],.skip⟩
theorem Qqn {b:Code} (h:(Qdj b).isSome=true):Qdj b=some (Qdk b):=by
 unfold Qdk;cases hm:Qdj b with
 | none=>rw [hm] at h;cases h
 | some m=>rfl
def QtQ {ck cv:C.Ty} {σ:Type} (S:Qjf C ck cv σ) (ex:Nat) (d:Env C->List (Obj C)->Option (Bool × (σ × List (C.A ck × C.A cv)))) (env:Env C) (os:List (Obj C)):RT C:=match d env os with
 | some (b,q)=>.br b (.leaf (.exit ex) (S.fin q.1 q.2) (S.fobjs q.1 q.2)) .fail
 | none=>.fail
theorem Qi.addRoundsM (K:QX P T) (F:Qi P T Φ) {g key:Nat} (hkeys:QcQ (Y8 Φ g)=true) (hsome:(Qdj (VA Φ g key)).isSome=true) {ck cv:C.Ty} (hck:∀ x,(T.enc ck x).isRow=false) {σ:Type} (S:Qjf C ck cv σ) (n ex:Nat) (hex:(Qdk (VA Φ g key)).ex=ex)
 (kc:List Nat) (fs:List Fnd) (slots:List Nat) (d:Env C->List (Obj C)->Option (Bool × (σ × List (C.A ck × C.A cv))))
 (hr:∀ s l,S.Inv s l->Qj S.k (S.canon s) (S.objs s l) /\ Qj S.k (S.fin s l) (S.fobjs s l) /\ (S.objs s l)[S.it]? = some (.ctl (.it ck cv l)) /\ eget (S.canon s) (Qdk (VA Φ g key)).it=.itp S.it /\ (∀ l',S.objs s l'=(S.objs s l).set S.it (.ctl (.it ck cv l'))) /\
  (l=[]->(∀ p ∈ S.fin s l,eget (S.canon s) p.1=p.2 /\ p.1 ≠ (Qdk (VA Φ g key)).tn /\ p.1 ≠ (Qdk (VA Φ g key)).tc) /\ S.fobjs s l=S.objs s l) /\
  ∀ l1 x l2,l=l1++x::l2 -> ∃ s',rndM T Φ g (Qdk (VA Φ g key)) n S.k kc x (S.canon s) (S.objs s (l1++l2))=some (S.canon s',(S.objs s' (l1++l2)).map some) /\ S.Inv s' (l1++l2) /\ S.fin s' (l1++l2)=S.fin s l /\ S.fobjs s' (l1++l2)=S.fobjs s l)
 (hd:∀ env os b q,d env os=some (b,q)->b=true->S.Inv q.1 q.2 /\ S.canon q.1=env /\ S.objs q.1 q.2=os):Qi P T (Φ.addLoop g key (sumO T fs slots (QtQ S ex d))):=by
 refine F.addLoop (Qqm K F (S:=S) (m:=Qdk (VA Φ g key)) hck (fun s l hI=>?_) (fun fn body b hf hb hbl hkey=>?_) ?_)
 · obtain ⟨h1,h2,h3,h4,h5,h6,h7⟩:=hr s l hI;refine ⟨h1,h2,h3,h4,h5,h6,fun l1 x l2 hl=>?_⟩;obtain ⟨s',q1,q2,q3,q4⟩:=h7 l1 x l2 hl;obtain ⟨q2a,_⟩:=hr s' _ q2;unfold rndM at q1;obtain ⟨⟨xx,env'⟩,h',nx',tr,q5,q6⟩:=Pg.run_some q1;cases xx with
   | exit i=>cases q6
   | ret=>cases q6
   | normal =>
    simp only [Option.some.injEq,Prod.mk.injEq] at q6;obtain ⟨q6,q7⟩:=q6;have hg:=ZT S.k 0 h' _ q7;simp only [Nat.zero_add] at hg;refine ⟨n,env',h',nx',tr,s',q5,q2,q3,q4,fun p hp=>?_,hg⟩;rw [<- q6] at hp;obtain ⟨t,_,rfl⟩:=List.mem_map.1 hp;rfl
 · rw [<- QaW hkeys hf hb hbl hkey];exact Qqn hsome
 · intro env0 os x env' os' h;unfold QtQ at h
   split at h
   · rename_i b q hq;cases b with
     | false=>simp [RT.val] at h
     | true =>
      obtain ⟨h1,h2,h3⟩:=hd _ _ _ _ hq rfl;simp only [RT.val,cond_true,Option.some.injEq,Prod.mk.injEq] at h;obtain ⟨⟨rfl,rfl⟩,rfl⟩:=h;exact ⟨q.1,q.2,h1,fun p hp=>by rw [<- h2];exact hp,h3.symm,by rw [hex],rfl,rfl⟩
   · simp [RT.val] at h
end
open Go.Proofs
noncomputable def QeW:Qjf RC .int .int (List Int) where
 k:=2
 it:=1
 canon s:=[(0,.vs 0 s.length),(16,.itp 1)]
 objs s l:=[.vec (C:=RC) .int true s,.ctl (.it .int .int l)]
 fin _ _:=[]
 fobjs s l:=[.vec (C:=RC) .int true (Q0 s l),.ctl (.it .int .int [])]
 Inv s l:=s.length=771 /\ Zp 771 l=true
noncomputable def Qn6 (env:Env RC) (os:List (Obj RC)):Option (Bool × (List Int × List (Int × Int))):=match env,os with
 | [(0,.vs 0 x0),(16,.itp 1)],[.vec .int true s,.ctl (.it .int .int l)]=>some (decide (x0=s.length) && decide (s.length=771) && Zp 771 l,(s,l))
 | _,_=>none
noncomputable def QrE (s:List Int) (l:List (Int × Int)) (x:Int × Int):=rndM s28 ur_2 59 (Qdk (VA ur_2 59 5)) 40 2 [0,16] (ck:=RTy.int) (cv:=RTy.int) x (QeW.canon s) (QeW.objs s l)
theorem QtR (s:List Int) (l:List (Int × Int)) (x:Int × Int):QrE s l x=(let Z0:Nat:=List.length s;let Z1:Int:=Prod.fst x;bif Nat.beq Z0 Z0 && decide ((0:Int) <= Z1 /\ Z1 < (↑Z0:Int)) then bif Nat.beq Z0 Z0 then some ([(0,D.vs 0 Z0),(16,D.itp (1:Nat))],[some (Obj.vec RTy.int true (List.set s Z1.toNat x.2)),some (Obj.ctl (Ctl.it RTy.int RTy.int l))]) else none else none):=by kernel_rfl
noncomputable def us_1:=ur_2.addLoop 59 5 (sumO s28 [.slot 0 0,.slot 16 0] [0,16] (QtQ QeW 2 Qn6))
theorem Qn7:Qi Tryz.prog s28 us_1:=by
 refine Qn5.addRoundsM Qb (by kernel_rfl) (by kernel_rfl) (fun x=>rfl) QeW 40 2 (by kernel_rfl) [0,16] [.slot 0 0,.slot 16 0] [0,16] Qn6 (fun s l hI=>?_) ?_
 · obtain ⟨h1,h2⟩:=hI;have h1:List.length (α:=Int) s=771:=h1;refine ⟨?_,?_,rfl,by kernel_rfl,fun l'=>rfl,fun hl=>⟨fun p hp=>(by cases hp),(by subst hl;rfl)⟩,fun l1 x l2 hl=>?_⟩
   · simp [Qj,QeW,D.refs,Obj.refs]
   · simp [Qj,QeW,D.refs,Obj.refs]
   · obtain ⟨k,v⟩:=x;subst hl;obtain ⟨⟨k0,k1⟩,k2,k3⟩:=QeS h2;refine ⟨s.set k.toNat v,?_,⟨by rw [List.length_set];exact h1,k2⟩,rfl,?_⟩
     · show QrE s (l1++l2) (k,v)=_
       (rw [QtR];conv=>zeta)
       have b1:Nat.beq s.length s.length=true:=Zu rfl;have b2:decide (0 <= k /\ k < (s.length:Int))=true:=decide_eq_true ⟨k0,by rw [h1];exact k1⟩
       simp only [b1,b2,Bool.and_self,cond_true,QeW,List.length_set,List.map_cons,List.map_nil]
     · simp only [QeW,QnS k0 k3]
 · intro env os b q h hb;unfold Qn6 at h
   split at h
   · cases h;simp only [Bool.and_eq_true,decide_eq_true_eq] at hb;obtain ⟨⟨e1,e2⟩,e3⟩:=hb;subst e1;exact ⟨⟨e2,e3⟩,rfl,rfl⟩
   · cases h
def QtS (p:Int):List (Int × Int):=putM (putM (putM (putM [] 0 p) 3 p) 4 p) 1 (IntKind.i64.wrap (p+1))
def Qdl (n0:List Int) (c kk:Int) (s:St):List Int:=Q0 (Q0 (Q0 (Q0 (Q0 n0 (YE 0 (putM [] 48 s.c0) s.l0)) (YE 1 (putM [] 49 s.c1) s.l1)) (YE 2 (putM [] 50 s.c2) s.l2)) (QtS s.place)) (QY c kk 0 s.items [])
def Vm (now sure:List Sector) (c w d kk:Int) (s:St):Int:=bif Qq now sure && YT c w d kk && ZK s then (bif decide (c * kk < s.items.length) then 120 else 0) else 2
theorem putM_fst {k v:Int}:∀ {m:List (Int × Int)} {p:Int × Int},p ∈ putM m k v->p.1=k \/ ∃ q ∈ m,q.1=p.1
 | [],p,h=>by
  simp [putM,mput] at h;subst h;exact .inl rfl
 | (a,b)::m,p,h=>by
  unfold putM mput at h
  by_cases hk:k=a
  · rw [decide_eq_true hk] at h;simp only [cond_true,List.mem_cons] at h;rcases h with rfl | h
    · exact .inl rfl
    · exact .inr ⟨p,List.mem_cons_of_mem _ h,rfl⟩
  · rw [decide_eq_false hk] at h;simp only [cond_false,List.mem_cons] at h;rcases h with rfl | h
    · exact .inr ⟨_,List.mem_cons_self,rfl⟩
    · rcases putM_fst h with h | ⟨q,hq,e⟩
      · exact .inl h
      · exact .inr ⟨q,List.mem_cons_of_mem _ hq,e⟩
theorem Q1 {n:Nat} {k v:Int} (h0:0 <= k) (h1:k < n):∀ {m:List (Int × Int)},Zp n m=true->Zp n (putM m k v)=true
 | [],_=>by simp [putM,mput,Zp];omega
 | (a,b)::m,h=>by
  simp only [Zp,Bool.and_eq_true,decide_eq_true_eq,List.all_eq_true] at h;obtain ⟨⟨a1,a2⟩,a3⟩:=h;unfold putM mput
  by_cases hk:k=a
  · rw [decide_eq_true hk];simp only [cond_true,Zp,Bool.and_eq_true,decide_eq_true_eq,List.all_eq_true];exact ⟨⟨⟨h0,h1⟩,fun p hp=>by rw [hk];exact a2 p hp⟩,a3⟩
  · rw [decide_eq_false hk];simp only [cond_false,Zp,Bool.and_eq_true,decide_eq_true_eq,List.all_eq_true];refine ⟨⟨a1,fun p hp=>?_⟩,Q1 h0 h1 a3⟩;rcases putM_fst hp with e | ⟨q,hq,e⟩
    · rw [e];exact hk
    · rw [<- e];exact a2 q hq
theorem Vn {q:Int} (q0:0 <= q) (q1:q <= 2):∀ {l:List Line} {m:List (Int × Int)},Zp 771 m=true->(∀ x ∈ l,0 <= x.offset)->Zp 771 (YE q m l)=true
 | [],m,h,_=>h
 | x::l,m,h,hx=>by
  have h0:=hx x List.mem_cons_self;have e1:Vh q x.offset=51+16 * q+x.offset % 16:=by unfold Vh;rw [if_pos ⟨q0,q1,h0⟩]
  have e2:lRow 45 q 3=45+q:=by unfold lRow;rw [if_pos (by omega)]
  simp only [YE,List.foldl_cons];exact Vn q0 q1 (Q1 (by rw [e2];omega) (by rw [e2];omega) (Q1 (by rw [e1];omega) (by rw [e1];omega) h)) fun y hy=>hx y (List.mem_cons_of_mem _ hy)
theorem Qji {m:List (Int × Int)} {s:Int} {x:Item} (h:Zp 771 m=true) (s0:0 <= s) (s1:s < 160) (k0:0 <= x.key) (k1:x.key <= 23):Zp 771 (QnP m s x)=true:=by
 have e:∀ f:Int,0 <= f->f <= 2->YB 291 s f 160 3=291+s * 3+f:=fun f f0 f1=>by unfold YB;rw [if_pos (by omega)]
 have e2:lRow 21 x.key 24=21+x.key:=by unfold lRow;rw [if_pos (by omega)]
 unfold QnP;rw [e 0 (by omega) (by omega),e 1 (by omega) (by omega),e 2 (by omega) (by omega),e2]
 exact Q1 (by omega) (by omega) (Q1 (by omega) (by omega) (Q1 (by omega) (by omega) (Q1 (by omega) (by omega) h)))
theorem Qjj {c kk:Int} {n:Nat} (c1:1 <= c) (c4:c <= 4) (q4:4 <= kk) (q40:kk <= 40) (h:(n:Int) < c * kk):0 <= Qbk c kk n /\ Qbk c kk n < 160:=by
 unfold Qbk;have m0:=Int.emod_nonneg (n:Int) (show c ≠ 0 by omega)
 have m1:=Int.emod_lt_of_pos (n:Int) (show 0 < c by omega)
 have d0:0 <= (n:Int) / c:=Int.ediv_nonneg (by omega) (by omega)
 have d1:(n:Int) / c < kk:=Int.ediv_lt_of_lt_mul (by omega) (by rw [Int.mul_comm];exact h)
 have p0:0 <= (n:Int) % c * kk:=Int.mul_nonneg m0 (by omega)
 have p1:(n:Int) % c * kk <= 3 * kk:=Int.mul_le_mul_of_nonneg_right (by omega) (by omega)
 omega
theorem Qbn {c kk:Int} (c1:1 <= c) (c4:c <= 4) (q4:4 <= kk) (q40:kk <= 40):∀ {l:List Item} {n:Nat} {m:List (Int × Int)},Zp 771 m=true->(∀ x ∈ l,0 <= x.key /\ x.key <= 23)->(n:Int)+l.length <= c * kk->Zp 771 (QY c kk n l m)=true
 | [],n,m,h,_,_=>h
 | x::l,n,m,h,hx,hn=>by
  have h0:=hx x List.mem_cons_self;simp only [List.length_cons] at hn;obtain ⟨s0,s1⟩:=Qjj (n:=n) c1 c4 q4 q40 (by omega)
  unfold QY;exact Qbn c1 c4 q4 q40 (Qji h s0 s1 h0.1 h0.2) (fun y hy=>hx y (List.mem_cons_of_mem _ hy)) (by omega)
theorem Qjk (p:Int):Zp 771 (QtS p)=true:=by
 unfold QtS;exact Q1 (by decide) (by decide) (Q1 (by decide) (by decide) (Q1 (by decide) (by decide) (Q1 (by decide) (by decide) rfl)))
theorem stands_lines {p c:Int} {l:List Line} (h:J4 p c l=true):∀ x ∈ l,0 <= x.offset /\ x.offset <= 4194303 /\ Q5 x=true \/ 1048575 < p:=by
 intro x hx;unfold J4 at h;simp only [Bool.and_eq_true] at h;have:=List.all_eq_true.1 (Zi h.2) x hx;unfold VE at this;simp only [Bool.and_eq_true,Qt] at this;obtain ⟨⟨⟨⟨⟨a1,a2⟩,b1,b2⟩,d1,d2⟩,e1,e2⟩,f1,f2⟩:=this
 by_cases hp:p <= 1048575
 · refine .inl ⟨a1,a2,?_⟩;simp only [Q5,decide_eq_true_eq];omega
 · exact .inr (by omega)
theorem Qjl {s:St} (h:ZK s=true):(0 <= s.place /\ s.place <= 1048575) /\ s.items.length <= 24 /\ (∀ x ∈ s.items,0 <= x.key /\ x.key <= 23 /\ 1 <= x.place /\ x.place <= s.place /\ 0 <= x.value /\ x.value <= 255) /\
 (s.l0.length <= 16 /\ ∀ x ∈ s.l0,0 <= x.offset /\ x.offset <= 4194303 /\ Q5 x=true) /\ (s.l1.length <= 16 /\ ∀ x ∈ s.l1,0 <= x.offset /\ x.offset <= 4194303 /\ Q5 x=true) /\ (s.l2.length <= 16 /\ ∀ x ∈ s.l2,0 <= x.offset /\ x.offset <= 4194303 /\ Q5 x=true):=by
 obtain ⟨p,it,l0,l1,l2,c0,c1,c2⟩:=s;obtain ⟨hp,hn,_,⟨_,h0,_⟩,⟨_,h1,_⟩,⟨_,h2,_⟩⟩:=Qd1 h;unfold ZK at h;simp only [Bool.and_eq_true] at h;obtain ⟨⟨⟨⟨_,hi⟩,k0⟩,k1⟩,k2⟩:=h
 have fin:∀ {l:List Line} {c:Int},J4 p c l=true -> ∀ x ∈ l,0 <= x.offset /\ x.offset <= 4194303 /\ Q5 x=true:=fun hk x hx=>by
  rcases stands_lines hk x hx with h | h
  · exact h
  · omega
 refine ⟨hp,hn,fun x hx=>?_,⟨h0,fin k0⟩,⟨h1,fin k1⟩,⟨h2,fin k2⟩⟩;have:=List.all_eq_true.1 (Zi hi) x hx;unfold VD at this;simp only [Bool.and_eq_true,Qt] at this;show _ /\ _ /\ _ /\ x.place <= p /\ _;omega
open Go.Proofs
theorem andT {a b:Bool} (h:a=true) (k:b=true):(a && b)=true:=by rw [h,k];rfl
theorem QrF:nC.length=771:=by rw [QtM];rfl
noncomputable def QhQ (cn:Bool) (now:List Sector) (cs:Bool) (sure:List Sector) (c:Int) (w:Int) (d:Int) (kk:Int) (sp:Int) (ci:Bool) (it:List Item) (f0:Bool) (l0:List Line) (f1:Bool) (l1:List Line) (f2:Bool) (l2:List Line) (c0:Int) (c1:Int) (c2:Int):Option (Bool × D RC):=some (Qs now && Qs sure && decide (it.length <= 9223372036854775807 /\ l0.length <= 9223372036854775807 /\ l1.length <= 9223372036854775807 /\ l2.length <= 9223372036854775807),.tup (.acons (.acons (.sl (C:=RC) .int false (bif Vm now sure c w d kk ⟨sp,it,l0,l1,l2,c0,c1,c2⟩ == 0 then Qdl nC c kk ⟨sp,it,l0,l1,l2,c0,c1,c2⟩ else [])) (.acons (.acons (.sl (C:=RC) .sector false (bif Vm now sure c w d kk ⟨sp,it,l0,l1,l2,c0,c1,c2⟩ == 0 then now else [])) (.acons (.sl (C:=RC) .sector false (bif Vm now sure c w d kk ⟨sp,it,l0,l1,l2,c0,c1,c2⟩ == 0 then sure else [])) .anil)) .anil)) (.acons (.int .i64 (Vm now sure c w d kk ⟨sp,it,l0,l1,l2,c0,c1,c2⟩)) .anil)))
noncomputable def QeX:List (D RC)->Option (Bool × D RC)
 | [.acons (.sl .sector cn now) (.acons (.sl .sector cs sure) .anil),.acons (.int .i64 c) (.acons (.int .i64 w) (.acons (.int .i64 d) (.acons (.int .i64 kk) .anil))),.acons (.int .i64 sp) (.acons (.sl .item ci it) (.acons (.acons (.sl .line f0 l0) (.acons (.sl .line f1 l1) (.acons (.sl .line f2 l2) .anil))) (.acons (.arr .int 3 [c0,c1,c2]) .anil)))]=>QhQ cn now cs sure c w d kk sp ci it f0 l0 f1 l1 f2 l2 c0 c1 c2
 | _=>none
noncomputable def QhR (cn:Bool) (now:List Sector) (cs:Bool) (sure:List Sector) (c:Int) (w:Int) (d:Int) (kk:Int) (sp:Int) (ci:Bool) (it:List Item) (f0:Bool) (l0:List Line) (f1:Bool) (l1:List Line) (f2:Bool) (l2:List Line) (c0:Int) (c1:Int) (c2:Int):=evFW s28 us_1 200 24 [.acons (.sl (C:=RC) .sector cn now) (.acons (.sl (C:=RC) .sector cs sure) .anil),.acons (.int .i64 c) (.acons (.int .i64 w) (.acons (.int .i64 d) (.acons (.int .i64 kk) .anil))),.acons (.int .i64 sp) (.acons (.sl (C:=RC) .item ci it) (.acons (.acons (.sl (C:=RC) .line f0 l0) (.acons (.sl (C:=RC) .line f1 l1) (.acons (.sl (C:=RC) .line f2 l2) .anil))) (.acons (.arr (C:=RC) .int 3 [c0,c1,c2]) .anil)))]
theorem Qn8 (cn:Bool) (now:List Sector) (cs:Bool) (sure:List Sector) (c:Int) (w:Int) (d:Int) (kk:Int) (sp:Int) (ci:Bool) (it:List Item) (f0:Bool) (l0:List Line) (f1:Bool) (l1:List Line) (f2:Bool) (l2:List Line) (c0:Int) (c1:Int) (c2:Int):QhR cn now cs sure c w d kk sp ci it f0 l0 f1 l1 f2 l2 c0 c1 c2=(let Z0:D RC:=D.sl RTy.sector false [];let Z1:D RC:=.anil;let Z2:D RC:=D.acons (D.sl RTy.int false []) (.acons (D.acons Z0 (D.acons Z0 Z1)) Z1);let Z3:DO_:=some (D.tup (D.acons Z2 (D.acons (D.int .i64 2) Z1)));let Z4:Nat:=List.length it;let Z5:Nat:=List.length l0;let Z6:Nat:=List.length l1;let Z7:Nat:=List.length l2;let Z8:List Edge:=[];let Z9:Array Edge:=List.toArray Z8;let Z10:Option (Nat × Bool):=none;let Z11:Op:=Op.load (3:Nat) (Operand.tmp (6:Nat));let Z12:Op:=Op.load (29:Nat) (Operand.tmp (3:Nat));let Z13:Edge:=Edge.mk (1:Nat) Ground.data;let Z14:Array Edge:=List.toArray (Z13::Z8);let Z15:Edge:=Edge.mk (0:Nat) Ground.data;let Z16:Edge:=Edge.mk (2:Nat) Ground.data;let Z17:Array Edge:=List.toArray (Z16::Z8);let Z18:Operand:=Operand.tmp (8:Nat);let Z19:Edge:=Edge.mk (4:Nat) Ground.data;let Z20:Edge:=Edge.mk (3:Nat) Ground.data;let Z21:Edge:=Edge.mk (0:Nat) Ground.phase;let Z22:Edge:=Edge.mk (1:Nat) Ground.phase;let Z23:Edge:=Edge.mk (2:Nat) Ground.phase;let Z24:Edge:=Edge.mk (3:Nat) Ground.phase;let Z25:Edge:=Edge.mk (4:Nat) Ground.phase;let Z26:List Edge:=Z21::Z22::Z23::Z24::Z25::Z8;let Z27:Operand:=Operand.const (Value.int .i64 (1:Int));let Z28:Array Edge:=List.toArray (Z15::Z8);let Z29:Op:=Op.move (Operand.tmp (7:Nat));let Z30:Array Nat := #[(3:Nat),(3:Nat)];let Z31:Ground:=Ground.gcOnly Departure.lateStores;let Z32:Ground:=Ground.textOnly Departure.lateStores;let Z33:Edge:=Edge.mk (5:Nat) Ground.phase;let Z34:Edge:=Edge.mk (5:Nat) Ground.data;let Z35:Edge:=Edge.mk (3:Nat) Ground.chain;let Z36:Edge:=Edge.mk (6:Nat) Ground.data;let Z37:Edge:=Edge.mk (6:Nat) Ground.phase;let Z38:Edge:=Edge.mk (7:Nat) Ground.phase;let Z39:Op:=Op.load (100:Nat) (Operand.tmp (5:Nat));let Z40:Callee:=Callee.value (Operand.func (120:Nat));let Z41:Operand:=Operand.const (Value.int .i64 (0:Int));let Z42:Edge:=Edge.mk (2:Nat) Ground.chain;let Z43:Array Edge:=List.toArray (Z15::Z16::Z42::Z21::Z22::Z23::Z8);let Z44:Op:=Op.fieldAddr (56:Nat) Z18 (0:Nat);let Z45:List (Int × Int):=YE (0:Int) (mput (ZY s28 RTy.int) (48:Int) c0 []) (List.drop (0:Nat) l0);let Z46:Bool:=decide ((771:Nat)=List.length nC) && decide (List.length nC=(771:Nat)) && Zp (771:Nat) Z45;let Z47:Nat:=List.length (Q0 nC Z45);let Z48:List (Int × Int):=YE (1:Int) (mput (ZY s28 RTy.int) (49:Int) c1 []) (List.drop (0:Nat) l1);let Z49:Bool:=decide ((771:Nat)=Z47) && decide (Z47=(771:Nat)) && Zp (771:Nat) Z48;let Z50:Nat:=List.length (Q0 (Q0 nC Z45) Z48);let Z51:List (Int × Int):=YE (2:Int) (mput (ZY s28 RTy.int) (50:Int) c2 []) (List.drop (0:Nat) l2);let Z52:Bool:=decide ((771:Nat)=Z50) && decide (Z50=(771:Nat)) && Zp (771:Nat) Z51;let Z53:List Int:=Q0 (Q0 (Q0 nC Z45) Z48) Z51;let Z54:List (Int × Int):=mput (ZY s28 RTy.int) (1:Int) (IntKind.wrap .i64 (sp+(1:Int))) (mput (ZY s28 RTy.int) (4:Int) sp (mput (ZY s28 RTy.int) (3:Int) sp (mput (ZY s28 RTy.int) (0:Int) sp [])));let Z55:Bool:=decide ((771:Nat)=List.length Z53) && decide (List.length Z53=(771:Nat)) && Zp (771:Nat) Z54;let Z56:Nat:=List.length (Q0 Z53 Z54);let Z57:Bool:=decide ((771:Nat)=Z56) && decide (Z56=(771:Nat));let Z58:List (Int × Int):=QY c kk (0:Nat) (List.drop (0:Nat) it) [];let Z59:D RC:=D.acons (D.acons (D.sl RTy.sector false now) (.acons (D.sl RTy.sector false sure) Z1)) Z1;let Z60:D RC:=D.acons (D.int .i64 0) Z1;let Z61:DO_:=none;let Z62:List (Int × Int):=QY c kk (0:Nat) (List.take (kk * c - (0:Int)).toNat (List.drop (0:Nat) it)) [];bif Qs now && Qs sure then bif (bif Qq now sure then (0:Int) else (2:Int)) != (0:Int) then Z3 else bif (bif YT c w d kk then (0:Int) else (2:Int)) != (0:Int) then Z3 else bif decide (Z4 <= (9223372036854775807:Nat) /\ Z5 <= (9223372036854775807:Nat) /\ Z6 <= (9223372036854775807:Nat) /\ Z7 <= (9223372036854775807:Nat)) then bif !ZK (St.mk sp it l0 l1 l2 c0 c1 c2) then Z3 else bif Qh Z4 then bif decide (IntKind.wrap .i64 (c * kk) < (↑Z4:Int)) then some (D.tup (D.acons Z2 (D.acons (D.int .i64 120) Z1))) else bif Qh Z5 then bif decide ((↑Z5:Int)=(↑Z5:Int)) && true && decide (Z5 <= (1000:Nat)) then bif Qh Z6 then bif decide ((↑Z6:Int)=(↑Z6:Int)) && true && decide (Z6 <= (1000:Nat)) then bif Qh Z7 then bif decide ((↑Z7:Int)=(↑Z7:Int)) && true && decide (Z7 <= (1000:Nat)) then bif cdec (itmA=itmA) && cdec (itmB=itmB) && decide (kk=kk) && true && YT c w d kk && decide ((0:Int)=(0:Int) /\ Z4 <= (1000:Nat)) && Qbl it then bif decide ((↑Z4:Int) < kk * c) then bif Z46 then bif Z49 then bif Z52 then bif Z55 then bif Z57 && Zp (771:Nat) Z58 then bif Nat.beq (771:Nat) (Q0 (Q0 Z53 Z54) Z58).length then some (D.tup (D.acons (D.acons (D.sl RTy.int false (Q0 (Q0 Z53 Z54) Z58)) Z59) Z60)) else Z61 else Z61 else Z61 else Z61 else Z61 else Z61 else bif Z46 then bif Z49 then bif Z52 then bif Z55 then bif Z57 && Zp (771:Nat) Z62 then bif Nat.beq (771:Nat) (Q0 (Q0 Z53 Z54) Z62).length then some (D.tup (D.acons (D.acons (D.sl RTy.int false (Q0 (Q0 Z53 Z54) Z62)) Z59) Z60)) else Z61 else Z61 else Z61 else Z61 else Z61 else Z61 else Z61 else Z61 else Z61 else Z61 else Z61 else Z61 else Z61 else Z61 else Z61 else Z61):=by kernel_rfl
theorem Qn9 (cn:Bool) (now:List Sector) (cs:Bool) (sure:List Sector) (c:Int) (w:Int) (d:Int) (kk:Int) (sp:Int) (ci:Bool) (it:List Item) (f0:Bool) (l0:List Line) (f1:Bool) (l1:List Line) (f2:Bool) (l2:List Line) (c0:Int) (c1:Int) (c2:Int) (h:(Qs now && Qs sure && decide (it.length <= 9223372036854775807 /\ l0.length <= 9223372036854775807 /\ l1.length <= 9223372036854775807 /\ l2.length <= 9223372036854775807))=true):QhR cn now cs sure c w d kk sp ci it f0 l0 f1 l1 f2 l2 c0 c1 c2=some (.tup (.acons (.acons (.sl (C:=RC) .int false (bif Vm now sure c w d kk ⟨sp,it,l0,l1,l2,c0,c1,c2⟩ == 0 then Qdl nC c kk ⟨sp,it,l0,l1,l2,c0,c1,c2⟩ else [])) (.acons (.acons (.sl (C:=RC) .sector false (bif Vm now sure c w d kk ⟨sp,it,l0,l1,l2,c0,c1,c2⟩ == 0 then now else [])) (.acons (.sl (C:=RC) .sector false (bif Vm now sure c w d kk ⟨sp,it,l0,l1,l2,c0,c1,c2⟩ == 0 then sure else [])) .anil)) .anil)) (.acons (.int .i64 (Vm now sure c w d kk ⟨sp,it,l0,l1,l2,c0,c1,c2⟩)) .anil))):=by
 (rw [Qn8];conv=>zeta)
 rw [Bool.and_eq_true] at h;obtain ⟨hg,hl⟩:=h
 have err:∀ e:Int,Vm now sure c w d kk ⟨sp,it,l0,l1,l2,c0,c1,c2⟩=e->e ≠ 0->some (D.tup (C:=RC) (.acons (.acons (.sl (C:=RC) .int false []) (.acons (.acons (.sl (C:=RC) .sector false []) (.acons (.sl (C:=RC) .sector false []) .anil)) .anil)) (.acons (.int .i64 e) .anil)))=some (.tup (.acons (.acons (.sl (C:=RC) .int false (bif Vm now sure c w d kk ⟨sp,it,l0,l1,l2,c0,c1,c2⟩ == 0 then Qdl nC c kk ⟨sp,it,l0,l1,l2,c0,c1,c2⟩ else [])) (.acons (.acons (.sl (C:=RC) .sector false (bif Vm now sure c w d kk ⟨sp,it,l0,l1,l2,c0,c1,c2⟩ == 0 then now else [])) (.acons (.sl (C:=RC) .sector false (bif Vm now sure c w d kk ⟨sp,it,l0,l1,l2,c0,c1,c2⟩ == 0 then sure else [])) .anil)) .anil)) (.acons (.int .i64 (Vm now sure c w d kk ⟨sp,it,l0,l1,l2,c0,c1,c2⟩)) .anil))):=fun e h1 h2=>by
  have h3:(e == 0)=false:=by simpa using h2
  rw [h1];simp only [h3,cond_false]
 refine Qa hg ?_;cases hd:Qq now sure
 · exact Qa rfl (err 2 (by simp only [Vm,hd,Bool.false_and,cond_false]) (by decide))
 refine Qy rfl ?_;cases hs:YT c w d kk
 · exact Qa rfl (err 2 (by simp only [Vm,hs,Bool.and_false,Bool.false_and,cond_false]) (by decide))
 refine Qy rfl (Qa hl ?_);cases ht:ZK ⟨sp,it,l0,l1,l2,c0,c1,c2⟩
 · exact Qa rfl (err 2 (by simp only [Vm,ht,Bool.and_false,cond_false]) (by decide))
 refine Qy rfl ?_;obtain ⟨b1,c4,_,_,_,_,q4,q40⟩:=Yt hs;obtain ⟨hp,hn,hi,⟨n0,h0⟩,⟨n1,h1⟩,⟨n2,h2⟩⟩:=Qjl ht
 dsimp only at hp hn hi n0 h0 n1 h1 n2 h2
 have p0:0 <= c * kk:=Int.mul_nonneg (by omega) (by omega)
 have p1:c * kk <= 4 * 40:=Int.mul_le_mul (by omega) (by omega) (by omega) (by omega)
 have pc:kk * c=c * kk:=Int.mul_comm _ _;have w1:IntKind.i64.wrap (c * kk)=c * kk:=wrap_id (by omega) (by omega)
 refine Qa (Qe (by omega)) ?_
 simp only [w1,pc,List.drop_zero,Int.sub_zero]
 by_cases hr:c * kk < it.length
 · exact Qa (by simpa using hr) (err 120 (by simp only [Vm,hd,hs,ht,Bool.and_self,cond_true,decide_eq_true hr]) (by decide))
 refine Qy (by simpa using hr) ?_
 have hE:Vm now sure c w d kk ⟨sp,it,l0,l1,l2,c0,c1,c2⟩=0:=by simp only [Vm,hd,hs,ht,Bool.and_self,cond_true,decide_eq_false hr,cond_false]
 have hib:Qbl it=true:=List.all_eq_true.2 fun x hx=>by have:=hi x hx;simp;omega
 have K0:Zp 771 (YE 0 (putM [] 48 c0) l0)=true:=Vn (by decide) (by decide) (Q1 (by decide) (by decide) rfl) fun x hx=>(h0 x hx).1
 have K1:Zp 771 (YE 1 (putM [] 49 c1) l1)=true:=Vn (by decide) (by decide) (Q1 (by decide) (by decide) rfl) fun x hx=>(h1 x hx).1
 have K2:Zp 771 (YE 2 (putM [] 50 c2) l2)=true:=Vn (by decide) (by decide) (Q1 (by decide) (by decide) rfl) fun x hx=>(h2 x hx).1
 have KB:=Qjk sp;have KI:Zp 771 (QY c kk 0 it [])=true:=Qbn b1 c4 q4 q40 rfl (fun x hx=>⟨(hi x hx).1,(hi x hx).2.1⟩) (by simp;omega)
 rw [hE];refine Qa (Qe (by omega)) (Qa (by simp;omega) (Qa (Qe (by omega)) (Qa (by simp;omega) (Qa (Qe (by omega)) (Qa (by simp;omega) (Qa (andT (andT (andT (andT (andT (andT (Zf (by first | exact trivial | kernel_rfl)) (Zf (by first | exact trivial | kernel_rfl))) (by simp)) rfl) rfl) (by simp;omega)) hib) ?_))))))
 have L0:(771:Nat)=nC.length:=QrF.symm;have L1:∀ m,(771:Nat)=(Q0 nC m).length:=fun m=>by rw [Yu];exact L0
 have L2:∀ m n,(771:Nat)=(Q0 (Q0 nC m) n).length:=fun m n=>by rw [Yu];exact L1 m
 have L3:∀ m n o,(771:Nat)=(Q0 (Q0 (Q0 nC m) n) o).length:=fun m n o=>by rw [Yu];exact L2 m n
 have L4:∀ m n o p,(771:Nat)=(Q0 (Q0 (Q0 (Q0 nC m) n) o) p).length:=fun m n o p=>by rw [Yu];exact L3 m n o
 have L5:∀ m n o p q,(771:Nat)=(Q0 (Q0 (Q0 (Q0 (Q0 nC m) n) o) p) q).length:=fun m n o p q=>by rw [Yu];exact L4 m n o p
 have two:∀ {n:Nat},771=n->(decide (771=n) && decide (n=771))=true:=fun e=>by subst e;rfl
 refine QD (fun hq=>?_) fun hq=>?_
 · exact Qa (andT (two L0) K0) (Qa (andT (two (L1 _)) K1) (Qa (andT (two (L2 _ _)) K2) (Qa (andT (two (L3 _ _ _)) KB) (Qa (andT (two (L4 _ _ _ _)) KI) (Qa (Zu (L5 _ _ _ _ _)) rfl)))))
 · rw [show it.take (c * kk).toNat=it from List.take_of_length_le (by simp at hq;omega)]
   exact Qa (andT (two L0) K0) (Qa (andT (two (L1 _)) K1) (Qa (andT (two (L2 _ _)) K2) (Qa (andT (two (L3 _ _ _)) KB) (Qa (andT (two (L4 _ _ _ _)) KI) (Qa (Zu (L5 _ _ _ _ _)) rfl)))))
noncomputable def ut_1:=us_1.addSpec 24 QeX
theorem Qoa:Qi Tryz.prog s28 ut_1:=Qn7.addEvW Qb fun args d h=>by
 unfold QeX at h
 split at h
 · unfold QhQ at h;have h1:=congrArg Prod.fst (Option.some.inj h);obtain rfl:_=d:=congrArg Prod.snd (Option.some.inj h);exact ⟨by simp [D.refs],200,Qn9 _ _ _ _ _ _ _ _ _ _ _ _ _ _ _ _ _ _ _ _ h1⟩
 · cases h
open Go.Proofs
theorem Qob (c k:Int) (s:St):(Qdl nC c k s).length=771:=by
 unfold Qdl;simp only [Yu,QrF]
set_option maxHeartbeats 4000000
noncomputable def QeY :Option (Bool × D RC):=some (true,.bool true)
noncomputable def Qcq:List (D RC)->Option (Bool × D RC)
 | []=>QeY 
 | _=>none
noncomputable def QeZ  := evF s28 ut_1 1500 8 []
theorem wk_F:JQ (List.replicate 33 ⟨0,[]⟩) (List.replicate 33 ⟨0,[]⟩)=⟨0,[],[],[],[],0,0,0⟩:=by kernel_rfl
theorem wk_0:(Qdl Jl 1 4 ⟨4,[],[],[],[],0,0,0⟩).getD 0 0=4:=by kernel_rfl
theorem wk_1:(Qdl Jl 1 4 ⟨4,[],[],[],[],0,0,0⟩).getD 1 0=5:=by kernel_rfl
theorem Qjm :QeZ  = (let Z0:List Sector:=List.replicate (33:Nat) (Sector.mk (0:Int) []);let Z1:St:=JQ Z0 Z0;let Z2:List Int:=Qdl nC (1:Int) (4:Int) (St.mk (4:Int) Z1.items Z1.l0 Z1.l1 Z1.l2 (0:Int) (0:Int) (0:Int));let Z3:Int:=(↑Z2.length:Int);bif Qh Z2.length then bif Z3 == (771:Int) then bif decide ((0:Int) <= (0:Int) /\ (0:Int) < Z3) then bif List.getD Z2 (0:Nat) (0:Int) == (4:Int) then bif decide ((0:Int) <= (1:Int) /\ (1:Int) < Z3) then some (D.bool (List.getD Z2 (1:Nat) (0:Int) == (5:Int))) else none else some (D.bool false) else none else some (D.bool false) else none):=by kernel_rfl
theorem Qjn  (h:(true)=true):QeZ  = some (.bool true):=by
 (rw [Qjm];conv=>zeta)
 simp only [wk_F];have hl:=Qob 1 4 ⟨4,[],[],[],[],0,0,0⟩;have h0:=wk_0;have h1:=wk_1;rw [<- QtM] at h0 h1;generalize Qdl nC 1 4 ⟨4,[],[],[],[],0,0,0⟩=L at *;refine Qa (Qe (by omega)) (Qa (by rw [hl];rfl) (Qa (by rw [hl];rfl) (Qa (by rw [h0];rfl) (Qa (by rw [hl];rfl) ?_))))
 rw [h1];rfl
noncomputable def uu_1:=ut_1.addSpec 8 Qcq
theorem Qoc:Qi Tryz.prog s28 uu_1:=Qoa.addEv Qb fun args d h=>by
 unfold Qcq at h
 split at h
 · unfold QeY at h;have h1:=congrArg Prod.fst (Option.some.inj h);obtain rfl:_=d:=congrArg Prod.snd (Option.some.inj h);exact ⟨by simp [D.refs],1500,Qjn  h1⟩
 · cases h
def QL (l:List Item) (k:Int):Option Item:=l.find? fun x=>decide (x.key=k)
def JS (l:List Item):Prop:=l.Pairwise fun x y=>x.key < y.key
theorem Qdm (y:Item):putI [] y=[y]:=rfl
theorem Qbo (x:Item) (l:List Item) (y:Item):putI (x::l) y=if x.key < y.key then x::putI l y else if x.key=y.key then y::l else y::x::l:=by
 by_cases h:x.key < y.key
 · rw [if_pos h];simp only [putI,idxI,Qjb,if_pos h,List.take_succ_cons,List.drop_succ_cons,List.cons_append]
 · rw [if_neg h];simp only [putI,idxI,Qjb,if_neg h,List.take_zero,List.drop_zero,List.nil_append]
   by_cases h2:x.key=y.key
   · rw [if_pos h2,if_pos h2]
   · rw [if_neg h2,if_neg h2]
theorem putI_mem {l:List Item} {y z:Item} (h:z ∈ putI l y):z=y \/ z ∈ l:=by
 induction l with
 | nil=>rw [Qdm] at h;simp at h;exact .inl h
 | cons x l ih =>
  rw [Qbo] at h
  split at h
  · rcases List.mem_cons.1 h with rfl | h
    · exact .inr (List.mem_cons_self ..)
    · rcases ih h with h | h
      · exact .inl h
      · exact .inr (List.mem_cons_of_mem _ h)
  · split at h
    · rcases List.mem_cons.1 h with h | h
      · exact .inl h
      · exact .inr (List.mem_cons_of_mem _ h)
    · rcases List.mem_cons.1 h with h | h
      · exact .inl h
      · exact .inr h
theorem Qe0 {l:List Item} {y:Item} (h:JS l):JS (putI l y):=by
 induction l with
 | nil=>rw [Qdm];exact List.pairwise_singleton _ _
 | cons x l ih =>
  obtain ⟨h1,h2⟩:=List.pairwise_cons.1 h;rw [Qbo]
  split
  · rename_i hlt;refine List.pairwise_cons.2 ⟨fun z hz=>?_,ih h2⟩;rcases putI_mem hz with rfl | hz
    · exact hlt
    · exact h1 z hz
  · rename_i hn
    split
    · rename_i he;exact List.pairwise_cons.2 ⟨fun z hz=>by have:=h1 z hz;omega,h2⟩
    · rename_i he;refine List.pairwise_cons.2 ⟨fun z hz=>?_,h⟩;rcases List.mem_cons.1 hz with rfl | hz
      · omega
      · have:=h1 z hz;omega
theorem Qod {l:List Item} {y:Item} (h:JS l) (k:Int):QL (putI l y) k=if k=y.key then some y else QL l k:=by
 induction l with
 | nil =>
  rw [Qdm];unfold QL;rw [List.find?_cons]
  by_cases hk:k=y.key
  · rw [if_pos hk,decide_eq_true hk.symm]
  · rw [if_neg hk,decide_eq_false (fun e=>hk e.symm)]
 | cons x l ih =>
  obtain ⟨h1,h2⟩:=List.pairwise_cons.1 h;have ih:=ih h2;rw [Qbo];unfold QL at ih ⊢
  split
  · rename_i hlt;rw [List.find?_cons,List.find?_cons,ih]
    by_cases hk:k=y.key
    · rw [if_pos hk,decide_eq_false (by omega)]
      simp [hk]
    · rw [if_neg hk,if_neg hk]
  · rename_i hn
    split
    · rename_i he;rw [List.find?_cons,List.find?_cons]
      by_cases hk:k=y.key
      · rw [if_pos hk,decide_eq_true hk.symm]
      · rw [if_neg hk,decide_eq_false (fun e=>hk e.symm),decide_eq_false (by omega)]
    · rename_i he;rw [List.find?_cons]
      by_cases hk:k=y.key
      · rw [if_pos hk,decide_eq_true hk.symm]
      · rw [if_neg hk,decide_eq_false (fun e=>hk e.symm)]
theorem Qcr (p:Int):∀ {ws:List Qc} {l:List Item},JS l->JS (Kr p l ws)
 | [],l,h=>h
 | w::ws,l,h=>by
  have:Kr p l (w::ws)=Kr p (putI l ⟨w.key,p,w.value⟩) ws:=rfl;rw [this];exact Qcr p (Qe0 h)
def Qe1 (ws:List Qc) (k:Int):Option Qc:=ws.reverse.find? fun w=>decide (w.key=k)
theorem Qcs (p k:Int):∀ {ws:List Qc} {l:List Item},JS l->QL (Kr p l ws) k=match Qe1 ws k with | some w=>some ⟨k,p,w.value⟩ | none=>QL l k
 | [],l,h=>rfl
 | w::ws,l,h=>by
  have e:Kr p l (w::ws)=Kr p (putI l ⟨w.key,p,w.value⟩) ws:=rfl;rw [e,Qcs p k (Qe0 h),Qod h];unfold Qe1;rw [List.reverse_cons,List.find?_append];cases ws.reverse.find? (fun w=>decide (w.key=k)) with
  | some v=>rfl
  | none =>
   simp only [Option.none_or,List.find?_cons,List.find?_nil]
   by_cases hk:w.key=k
   · rw [decide_eq_true hk,if_pos hk.symm];simp [hk]
   · rw [decide_eq_false hk,if_neg (fun e=>hk e.symm)]
theorem Qjo {s:St} {r:Rec} (h:JS s.items):JS (QQ s r).items:=by
 unfold QQ;cases r.yes
 · exact h
 · exact Qcr _ h
theorem Qct {s:St} {r:Rec} (hr:mayB r=true) (h:JS s.items) (k:Int):QL (QQ s r).items k=match Qe1 r.writes k with | some w=>some ⟨k,r.place,w.value⟩ | none=>QL s.items k:=by
 unfold QQ;cases hy:r.yes
 · have hw:r.writes=[]:=by
    simp only [mayB,hy,Bool.false_or,Bool.and_eq_true,List.isEmpty_iff] at hr;exact hr.2
   rw [hw];rfl
 · exact Qcs _ _ h
theorem Qf7 (s:St) (r:Rec):(QQ s r).place=r.place:=by unfold QQ;cases r.yes <;> rfl
theorem Qe2:∀ {l:List Rec} {s:St},JS s.items->JS (l.foldl QQ s).items
 | [],s,h=>h
 | r::l,s,h=>Qe2 (l:=l) (Qjo h)
theorem Qjp {l:List Rec} {s:St} (r:Rec):((l++[r]).foldl QQ s).place=r.place:=by
 rw [List.foldl_append];exact Qf7 _ _
def rec0:Rec:=⟨0,false,[]⟩
def putSec (d:List Sector) (r:Rec):List Sector:=d.set (secI r.place).toNat ⟨r.place,entL r⟩
def layW (l:List Rec):List Sector:=l.foldl putSec Qo
def seqW (l:List Rec):Prop := ∀ i,i < l.length->(l.getD i rec0).place=(i:Int)+1 /\ mayB (l.getD i rec0)=true
theorem layW_snoc (l:List Rec) (r:Rec):layW (l++[r])=putSec (layW l) r:=by simp [layW]
theorem Yv {l:List Rec} (h:seqW l) (n:Nat):seqW (l.take n):=by
 intro i hi;rw [List.length_take] at hi
 have:(l.take n).getD i rec0=l.getD i rec0:=by
  simp only [List.getD_eq_getElem?_getD];rw [List.getElem?_take_of_lt (by omega)]
 rw [this];exact h i (by omega)
theorem Qav {p:List Rec->Prop} (h0:p []) (h1:∀ l r,p l->p (l++[r])) (l:List Rec):p l:=by
 have:∀ n (l:List Rec),l.length=n->p l:=by
  intro n
  induction n with
  | zero=>intro l hl;rw [List.length_eq_zero_iff.1 hl];exact h0
  | succ n ih =>
   intro l hl;have hne:l ≠ []:=by intro e;subst e;simp at hl
   rw [<- List.dropLast_concat_getLast hne];exact h1 _ _ (ih _ (by simp [hl]))
 exact this _ l rfl
theorem Jo (l:List Rec):(layW l).length=33:=by
 refine Qav (p:=fun l=>(layW l).length=33) rfl (fun l r h=>?_) l;rw [layW_snoc,putSec,List.length_set,h]
theorem Qaw {l:List Rec} {r:Rec} (h:seqW (l++[r])):seqW l /\ r.place=(l.length:Int)+1 /\ mayB r=true:=by
 refine ⟨?_,?_⟩
 · have:=Yv h l.length
   simpa using this
 · have:=h l.length (by simp)
   simpa [List.getD_eq_getElem?_getD] using this
theorem getD_setS {d:List Sector} {k:Nat} (x:Sector) (hk:k < d.length) (j:Nat):(d.set k x).getD j sec0=if j=k then x else d.getD j sec0:=by
 by_cases e:j=k
 · subst e;simp [hk]
 · rw [if_neg e];simp only [List.getD_eq_getElem?_getD];rw [List.getElem?_set_ne (fun q=>e q.symm)]
def secN (p:Nat):Nat:=p % 32
theorem YF (p:Nat):secI (p:Int)=(secN p:Int) /\ (secI (p:Int)).toNat=secN p:=by
 unfold secI secN;rw [if_neg (by omega)]
 omega
structure LayI (l:List Rec):Prop where
 top:∀ p:Nat,1 <= p->p <= l.length->l.length < p+32->(layW l).getD (secN p) sec0=⟨(p:Int),entL (l.getD (p - 1) rec0)⟩
 up:∀ p:Nat,1 <= p->p <= l.length->(p:Int) <= ((layW l).getD (secN p) sec0).n
 all:∀ j,(layW l).getD j sec0=sec0 \/ ∃ p:Nat,1 <= p /\ p <= l.length /\ (layW l).getD j sec0=⟨(p:Int),entL (l.getD (p - 1) rec0)⟩
theorem layI {l:List Rec}:seqW l->LayI l:=by
 refine Qav (p:=fun l=>seqW l->LayI l) (fun _=>⟨fun p h1 h2=>by simp at h2;omega,fun p h1 h2=>by simp at h2;omega,fun j=>.inl ?_⟩) (fun l r ih h=>?_) l
 · show (List.replicate 33 sec0).getD j sec0=sec0;simp only [List.getD_eq_getElem?_getD,List.getElem?_replicate]
   split <;> rfl
 · obtain ⟨h1,hp,hm⟩:=Qaw h;have ih:=ih h1;have hk:(secI r.place).toNat=secN (l.length+1):=by rw [hp];exact (YF (l.length+1)).2
   have hk2:secN (l.length+1) < (layW l).length:=by rw [Jo];unfold secN;omega
   have hat:∀ j,(layW (l++[r])).getD j sec0=if j=secN (l.length+1) then ⟨r.place,entL r⟩ else (layW l).getD j sec0:=by
    intro j;rw [layW_snoc,putSec,hk];exact getD_setS _ hk2 j
   have hold:∀ p:Nat,1 <= p->p <= l.length->(l++[r]).getD (p - 1) rec0=l.getD (p - 1) rec0:=by
    intro p q1 q2;simp only [List.getD_eq_getElem?_getD];rw [List.getElem?_append_left (by omega)]
   have hnew:(l++[r]).getD (l.length+1 - 1) rec0=r:=by simp [List.getD_eq_getElem?_getD]
   have hlen:(l++[r]).length=l.length+1:=by simp
   refine ⟨fun p q1 q2 q3=>?_,fun p q1 q2=>?_,fun j=>?_⟩
   · rw [hat]
     by_cases e:p=l.length+1
     · subst e;rw [if_pos rfl,hnew,hp];simp
     · have hne:secN p ≠ secN (l.length+1):=by unfold secN;omega
       rw [if_neg hne,hold p q1 (by omega)]
       exact ih.top p q1 (by omega) (by omega)
   · rw [hat]
     split
     · show (p:Int) <= r.place;rw [hp];omega
     · rename_i hne;exact ih.up p q1 (by have:p ≠ l.length+1:=fun e=>hne (by rw [e]);omega)
   · rw [hat]
     split
     · exact .inr ⟨l.length+1,by omega,by omega,by rw [hnew,hp];simp⟩
     · rcases ih.all j with q | ⟨p,q1,q2,q3⟩
       · exact .inl q
       · exact .inr ⟨p,q1,by omega,by rw [q3,hold p q1 q2]⟩
theorem KU {r:Rec} (h:mayB r=true):entL r=ZX r.place (Ya r) /\ okF r.place (Ya r)=true /\ (entL r).length <= 25 /\ entL r ≠ []:=by
 have h1:=Qb5 h;have h2:=(Yi (p:=r.place) (y:=r.yes) (l:=r.writes) h).1;have e:entL r=ZX r.place (Ya r):=by simp only [entL,h,cond_true]
 refine ⟨e,?_,?_,?_⟩
 · simp only [okF,Bool.and_eq_true,decide_eq_true_eq];omega
 · rw [e,Jj];omega
 · rw [e];intro q;have:=congrArg List.length q;rw [Jj] at this;simp at this
theorem LayI.n_le {l:List Rec} (h:LayI l) (j:Nat):0 <= ((layW l).getD j sec0).n /\ ((layW l).getD j sec0).n <= l.length:=by
 rcases h.all j with q | ⟨p,q1,q2,q3⟩
 · rw [q];simp [sec0]
 · rw [q3];simp only;omega
theorem Qax {l:List Rec} (h:seqW l) (hl:l.length <= 1000):Zm (layW l)=true:=by
 refine Qc6 (Jo l) fun s hs=>?_;obtain ⟨j,hj,rfl⟩:=QpO hs;rcases (layI h).all j with q | ⟨p,q1,q2,q3⟩
 · rw [q];rfl
 · rw [q3];have:=(KU (h (p - 1) (by omega)).2).2.2.1
   simp only [QM,Bool.and_eq_true,decide_eq_true_eq,Bool.or_eq_true];exact ⟨⟨⟨by omega,by omega⟩,by omega⟩,.inl (by omega)⟩
theorem Qbp {l:List Rec} (h:seqW l) (hl:l.length <= 1000) {s:Nat} (hs:s <= l.length) (hs2:l.length <= s+1):Qq (layW l) (layW (l.take s))=true:=by
 have r1:=Qax h hl;have r2:=Qax (Yv h s) (by rw [List.length_take];omega)
 simp only [Qq,r1,r2,Bool.true_and];rw [Qbb (by rw [Jo,Jo])]
 intro i hi
 by_cases e:s=l.length
 · rw [e,List.take_length];exact Int.le_refl _
 · have hne:l ≠ []:=by intro q;subst q;simp at e hs;omega
   obtain ⟨l',r,rfl⟩:∃ l' r,l=l'++[r]:=⟨_,_,(List.dropLast_concat_getLast hne).symm⟩;simp only [List.length_append,List.length_singleton] at *;have e1:s=l'.length:=by omega
   subst e1;obtain ⟨h1,hp,hm⟩:=Qaw h;rw [List.take_left',layW_snoc,putSec]
   · have hk:(secI r.place).toNat=secN (l'.length+1):=by rw [hp];exact (YF (l'.length+1)).2
     have hk2:secN (l'.length+1) < (layW l').length:=by rw [Jo];unfold secN;omega
     rw [hk,getD_setS _ hk2];have:=((layI h1).n_le i).2
     split
     · simp only;omega
     · exact Int.le_refl _
   · rfl
theorem QtT {l:List Rec} {r:Rec} (h:seqW l) (hl:l.length < 1000) (hp:r.place=(l.length:Int)+1) (hm:mayB r=true) {sure:List Sector} (hd:Qq (layW l) sure=true) :
 Ze (layW l) sure (secI r.place) r.place (entL r)=true /\ pNow (layW l) sure (secI r.place) r.place (entL r)=layW (l++[r]) /\ Vs (layW l) sure (secI r.place) r.place (entL r)=sure:=by
 obtain ⟨e1,e2,e3,e4⟩:=KU hm;have hb:=YS r.place
 have ho:Ze (layW l) sure (secI r.place) r.place (entL r)=true:=by
  have e5:(entL r == [])=false:=by rw [beq_eq_false_iff_ne];exact e4
  have e6:QM ⟨r.place,entL r⟩=true:=by
   simp only [QM,Bool.and_eq_true,decide_eq_true_eq,Bool.or_eq_true];exact ⟨⟨⟨by omega,by omega⟩,by omega⟩,.inl (by omega)⟩
  simp only [Ze,hd,e5,e6,Bool.true_and,Bool.and_true,Bool.not_false,Bool.and_eq_true,decide_eq_true_eq];omega
 refine ⟨ho,?_,by simp only [Vs,ho,cond_true]⟩
 simp only [pNow,ho,cond_true,VP];rw [if_pos (by have:=((layI h).n_le (secI r.place).toNat).2;omega),layW_snoc]
 rfl
theorem Qvj {l:List Rec} (h:seqW l) (hl:l.length <= 1000) {sure:List Sector} (hd:Qq (layW l) sure=true) {i:Nat} (hi:i < l.length) (hw:l.length <= i+32):atF (layW l) sure ((i:Int)+1)=some (l.getD i rec0):=by
 obtain ⟨hp,hm⟩:=h i hi;obtain ⟨e1,e2,e3,e4⟩:=KU hm;have hs:(secI ((i:Int)+1)).toNat=secN (i+1):=(YF (i+1)).2;have ht:=(layI h).top (i+1) (by omega) (by omega) (by omega)
 simp only [Nat.add_sub_cancel] at ht;unfold atF;rw [if_pos ⟨hd,by omega,by omega⟩,hs,ht]
 generalize l.getD i rec0=r at *
 unfold atS;rw [if_pos (by simp)]
 have hn:((i+1:Nat):Int)=r.place:=by omega
 rw [hn,e1,Qem e2];simp only [Option.bind_some,Qel hm];rw [if_pos (by omega)]
structure Lays (now:List Sector) (l:List Rec):Prop where
 seq:seqW l
 le:l.length <= 1000
 eq:∀ j,j < 32->now.getD j sec0=(layW l).getD j sec0
theorem Qdn (p:Nat):secN p < 32:=by unfold secN;omega
theorem QtU {now sure:List Sector} {l:List Rec} (h:Lays now l) (hd:Qq now sure=true) {i:Nat} (hi:i < l.length) (hw:l.length <= i+32):atF now sure ((i:Int)+1)=some (l.getD i rec0):=by
 have h0:=Qvj h.seq h.le (Qbp h.seq h.le (Nat.le_refl _) (by omega)) hi hw
 have hs:(secI ((i:Int)+1)).toNat=secN (i+1):=(YF (i+1)).2;have hle:=h.le;unfold atF at h0 ⊢;rw [if_pos ⟨Qbp h.seq h.le (Nat.le_refl _) (by omega),by omega,by omega⟩] at h0
 rw [if_pos ⟨hd,by omega,by omega⟩,hs,h.eq _ (Qdn _),<- hs]
 exact h0
theorem Qoe {now sure:List Sector} {l:List Rec} (h:Lays now l) {b:Nat} (hb:l.length <= b):atF now sure ((b:Int)+1)=none:=by
 unfold atF
 split
 · have hs:(secI ((b:Int)+1)).toNat=secN (b+1):=(YF (b+1)).2;have:=((layI h.seq).n_le (secN (b+1))).2;unfold atS;rw [hs,h.eq _ (Qdn _),if_neg (by omega)]
 · rfl
theorem Qe3 {now sure:List Sector} {l:List Rec} (h:Lays now l) (hd:Qq now sure=true):∀ (k i:Nat),i <= l.length->l.length <= i+k->l.length <= i+32->preL now sure k ((i:Int)+1)=l.drop i
 | 0,i,h1,h2,_=>by rw [List.drop_eq_nil_of_le (by omega)];rfl
 | k+1,i,h1,h2,h3=>by
  unfold preL
  by_cases e:i < l.length
  · rw [QtU h hd e h3];have ih:=Qe3 h hd k (i+1) e (by omega) (by omega)
    have e2:((i+1:Nat):Int)+1=(i:Int)+1+1:=by omega
    rw [e2] at ih;simp only [ih];rw [List.drop_eq_getElem_cons e];simp [List.getD_eq_getElem?_getD,e]
  · have e2:i=l.length:=by omega
    subst e2;rw [Qoe h (Nat.le_refl _)];simp
theorem Qqo {now sure:List Sector} {l:List Rec} (h:Lays now l) (hd:Qq now sure=true) {b:Nat} (h1:b <= l.length) (h2:l.length <= b+32):preF now sure (b:Int)=l.drop b:=by
 have hle:=h.le;have hb:decide (0 <= (b:Int) /\ (b:Int) <= 1048575)=true:=decide_eq_true (by omega)
 simp only [preF,hd,hb,Bool.and_self,cond_true];exact Qe3 h hd 32 b h1 h2 h2
theorem Qof {l:List Rec} (h:seqW l):(layW l).getD 32 sec0=sec0:=by
 revert h
 refine Qav (p:=fun l=>seqW l->(layW l).getD 32 sec0=sec0) (fun _=>rfl) (fun l r ih h=>?_) l;obtain ⟨h1,hp,hm⟩:=Qaw h;have hk:(secI r.place).toNat=secN (l.length+1):=by rw [hp];exact (YF (l.length+1)).2
 have hk2:secN (l.length+1) < (layW l).length:=by rw [Jo];unfold secN;omega
 rw [layW_snoc,putSec,hk,getD_setS _ hk2,if_neg (by have:=Qdn (l.length+1);omega)]
 exact ih h1
theorem Qe4 {l:List Rec} (h:seqW l) (hl:l.length <= 1000):Lays (layW l) l:=⟨h,hl,fun _ _=>rfl⟩
def layO (out:Nat):Nat->List Rec->List Sector->List Sector
 | _,[],d=>d
 | i,r::l,d=>layO out (i+1) l (if i=out then d else putSec d r)
structure OutI (i:Nat) (d:List Sector):Prop where
 row:Zm d=true
 top:∀ j,j < 33->(d.getD j sec0).n <= (i:Int)
theorem OutI.len {i:Nat} {d:List Sector} (h:OutI i d):d.length=33:=Yq h.row
theorem Qog {d:List Sector} {k:Nat} {s:Sector} (h:Zm d=true) (hs:QM s=true):Zm (d.set k s)=true:=by
 refine Qc6 (by rw [List.length_set];exact Yq h) fun x hx=>?_
 rcases List.mem_or_eq_of_mem_set hx with hx | rfl
 · exact VV h x hx
 · exact hs
theorem Qoh {r:Rec} (h:mayB r=true):QM ⟨r.place,entL r⟩=true:=by
 have h1:=(KU h).2.2.1;have h2:=(Yi (p:=r.place) (y:=r.yes) (l:=r.writes) h).1;simp only [QM,Bool.and_eq_true,decide_eq_true_eq,Bool.or_eq_true];exact ⟨⟨⟨by omega,by omega⟩,by omega⟩,.inl (by omega)⟩
theorem OutI.put {i:Nat} {d:List Sector} {r:Rec} (h:OutI i d) (hp:r.place=(i:Int)+1) (hm:mayB r=true):OutI (i+1) (putSec d r):=by
 refine ⟨Qog h.row (Qoh hm),fun j hj=>?_⟩;have hk:(secI r.place).toNat < d.length:=by rw [h.len];have:=YS r.place;omega
 rw [putSec,getD_setS _ hk]
 split
 · show r.place <= _;omega
 · have:=h.top j hj;omega
theorem OutI.skip {i:Nat} {d:List Sector} (h:OutI i d):OutI (i+1) d:=⟨h.row,fun j hj=>by have:=h.top j hj;omega⟩
theorem YG (j:Nat):Qo.getD j sec0=sec0:=by
 show (List.replicate 33 sec0).getD j sec0=sec0;simp only [List.getD_eq_getElem?_getD,List.getElem?_replicate]
 split <;> rfl
theorem Qdo:Zm Qo=true:=rfl
theorem OutI.zero:OutI 0 Qo:=⟨rfl,fun j _=>by rw [YG];exact Int.le_refl _⟩
theorem OutI.disk {i:Nat} {d:List Sector} (h:OutI i d):Qq d Qo=true:=by
 simp only [Qq,h.row,Qdo,Bool.true_and];rw [Qbb (by rw [h.len];rfl)]
 intro j hj;rw [YG];have:=VV h.row (d.getD j sec0) (by simp [List.getD_eq_getElem?_getD,hj])
 simp only [QM,Bool.and_eq_true,decide_eq_true_eq] at this;exact this.1.1.1
theorem OutI.pPut {i:Nat} {d:List Sector} {r:Rec} (h:OutI i d) (hp:r.place=(i:Int)+1) (hm:mayB r=true):Ze d Qo (secI r.place) r.place (entL r)=true /\ pNow d Qo (secI r.place) r.place (entL r)=putSec d r /\ Vs d Qo (secI r.place) r.place (entL r)=Qo:=by
 have hb:=YS r.place
 have ok:Ze d Qo (secI r.place) r.place (entL r)=true:=by
  simp only [Ze,h.disk,Bool.true_and,Bool.and_eq_true,decide_eq_true_eq,Bool.not_eq_true',beq_eq_false_iff_ne];exact ⟨⟨⟨⟨by omega,by omega⟩,by omega⟩,(KU hm).2.2.2⟩,Qoh hm⟩
 refine ⟨ok,?_,?_⟩
 · simp only [pNow,ok,cond_true];have:=h.top (secI r.place).toNat (by omega)
   rw [VP,if_pos (by omega)];rfl
 · simp only [Vs,ok,cond_true]
theorem Qoi {out:Nat}:∀ {l:List Rec} {i:Nat} {d:List Sector},OutI i d->(∀ m,m < l.length->(l.getD m rec0).place=((i+m:Nat):Int)+1 /\ mayB (l.getD m rec0)=true)->OutI (i+l.length) (layO out i l d)
 | [],i,d,h,_=>h
 | r::l,i,d,h,hs=>by
  have h0:=hs 0 (by simp)
  simp only [List.getD_cons_zero,Nat.add_zero] at h0
  have h1:OutI (i+1) (if i=out then d else putSec d r):=by
   split
   · exact h.skip
   · exact h.put h0.1 h0.2
  have:=Qoi (out:=out) (l:=l) h1 fun m hm=>by
   have:=hs (m+1) (by simp;omega)
   simp only [List.getD_cons_succ] at this;exact ⟨by rw [this.1];omega,this.2⟩
  rw [List.length_cons,show i+(l.length+1)=i+1+l.length by omega]
  exact this
theorem Qoj {out:Nat}:∀ {l:List Rec} {i:Nat} {d:List Sector},d.length=33->i+l.length <= 32->(∀ m,m < l.length->(l.getD m rec0).place=((i+m:Nat):Int)+1 /\ mayB (l.getD m rec0)=true) ->
 ∀ p,p < 32->(layO out i l d).getD (secN (p+1)) sec0=if i <= p /\ p < i+l.length /\ p ≠ out then ⟨(p:Int)+1,entL (l.getD (p - i) rec0)⟩ else d.getD (secN (p+1)) sec0
 | [],i,d,_,_,_,p,_=>by rw [if_neg (by simp;omega)];rfl
 | r::l,i,d,hd,hl,hs,p,hp=>by
  have h0:=hs 0 (by simp)
  simp only [List.getD_cons_zero,Nat.add_zero] at h0;rw [List.length_cons] at hl;have hk:(secI r.place).toNat=secN (i+1):=by rw [h0.1];exact (YF (i+1)).2
  have hk2:secN (i+1) < d.length:=by rw [hd];have:=Qdn (i+1);omega
  have ih:=Qoj (out:=out) (l:=l) (i:=i+1) (d:=if i=out then d else putSec d r) (by split <;> simp [putSec,hd]) (by omega) (fun m hm=>by
   have:=hs (m+1) (by simp;omega)
   simp only [List.getD_cons_succ] at this;exact ⟨by rw [this.1];omega,this.2⟩) p hp
  unfold layO;rw [ih,List.length_cons];have hne:p ≠ i->secN (p+1) ≠ secN (i+1):=fun q=>by unfold secN;omega
  by_cases e:p=i
  · subst e;rw [if_neg (by omega)]
    by_cases eo:p=out
    · rw [if_pos eo,if_neg (by omega)]
    · rw [if_neg eo,if_pos ⟨Nat.le_refl _,by omega,eo⟩,putSec,hk,getD_setS _ hk2,if_pos rfl,Nat.sub_self,List.getD_cons_zero,h0.1]
  · have hd':(if i=out then d else putSec d r).getD (secN (p+1)) sec0=d.getD (secN (p+1)) sec0:=by
     split
     · rfl
     · rw [putSec,hk,getD_setS _ hk2,if_neg (hne e)]
    rw [hd']
    by_cases q:i+1 <= p /\ p < i+1+l.length /\ p ≠ out
    · rw [if_pos q,if_pos ⟨by omega,by omega,q.2.2⟩]
      rw [show p - i=(p - (i+1))+1 by omega,List.getD_cons_succ]
    · rw [if_neg q,if_neg (fun w=>q ⟨by omega,by omega,w.2.2⟩)]
theorem QtV {l:List Rec} (h:seqW l) (hl:l.length <= 32) {out:Nat} (ho:out < l.length):preF (layO out 0 l Qo) Qo 0=l.take out:=by
 have hs:∀ m,m < l.length->(l.getD m rec0).place=((0+m:Nat):Int)+1 /\ mayB (l.getD m rec0)=true:=fun m hm=>by rw [Nat.zero_add];exact h m hm
 have hI:=Qoi (out:=out) OutI.zero hs;have hd:=hI.disk;have hat:=Qoj (out:=out) (l:=l) (i:=0) (d:=Qo) rfl (by omega) hs
 generalize layO out 0 l Qo=D at *
 have hA:∀ i:Nat,i < 32->atF D Qo ((i:Int)+1)=if i < l.length /\ i ≠ out then some (l.getD i rec0) else none:=fun i hi=>by
  have hsn:(secI ((i:Int)+1)).toNat=secN (i+1):=(YF (i+1)).2;unfold atF;rw [if_pos ⟨hd,by omega,by omega⟩,hsn,hat i hi]
  by_cases q:i < l.length /\ i ≠ out
  · rw [if_pos ⟨Nat.zero_le _,by omega,q.2⟩,if_pos q,Nat.sub_zero]
    obtain ⟨hp,hm⟩:=h i q.1;obtain ⟨e1,e2,e3,e4⟩:=KU hm;generalize l.getD i rec0=r at *;unfold atS;rw [if_pos rfl,<- hp,e1,Qem e2];simp only [Option.bind_some,Qel hm,if_true]
  · rw [if_neg (fun w=>q ⟨by omega,w.2.2⟩),if_neg q,YG]
    unfold atS;rw [if_neg (by show ¬ (0:Int)=_;omega)]
 have hL:∀ k i,i <= out->i+k=32->preL D Qo k ((i:Int)+1)=(l.drop i).take (out - i):=by
  intro k
  induction k with
  | zero=>intro i h1 h2;rw [show out - i=0 by omega,List.take_zero];rfl
  | succ k ih =>
   intro i h1 h2;unfold preL;rw [hA i (by omega)]
   by_cases e:i=out
   · rw [if_neg (fun w=>w.2 e),e,Nat.sub_self,List.take_zero]
   · rw [if_pos ⟨by omega,e⟩]
     have:=ih (i+1) (by omega) (by omega)
     have e2:((i+1:Nat):Int)+1=(i:Int)+1+1:=by omega
     rw [e2] at this;simp only [this];rw [List.drop_eq_getElem_cons (show i < l.length by omega),show out - i=(out - (i+1))+1 by omega,List.take_succ_cons]
     simp [List.getD_eq_getElem?_getD,show i < l.length by omega]
 unfold preF;rw [hd];simp only [Bool.true_and];rw [decide_eq_true (by decide)]
 have:=hL 32 0 (Nat.zero_le _) rfl;rw [List.drop_zero,Nat.sub_zero] at this;exact this
theorem Qcu:∀ {l:List Qc} {o:Option Qc},Jq ZA Yw o l=true->l.Pairwise (fun x y=>x.key < y.key) /\ (∀ x ∈ o,∀ y ∈ l,x.key < y.key)
 | [],o,_=>⟨List.Pairwise.nil,fun _ _ _ h=>by cases h⟩
 | w::l,o,h=>by
  have h0:(o.all fun x=>decide (x.key < w.key))=true /\ Jq ZA Yw (some w) l=true:=by
   cases o with
   | none=>simp only [Jq,Bool.and_eq_true] at h;exact ⟨rfl,h.2⟩
   | some x=>simp only [Jq,Bool.and_eq_true] at h;exact ⟨h.1.2,h.2⟩
  obtain ⟨h1,h2⟩:=Qcu h0.2;refine ⟨List.pairwise_cons.2 ⟨fun y hy=>h2 w rfl y hy,h1⟩,fun x hx y hy=>?_⟩;cases o with
  | none=>cases hx
  | some z =>
   have hx:z=x:=Option.some.inj hx;subst hx;have hz:z.key < w.key:=of_decide_eq_true h0.1;rcases List.mem_cons.1 hy with rfl | hy
   · exact hz
   · have:=h2 w rfl y hy;omega
theorem Qqp {r:Rec} (h:mayB r=true):r.writes.Pairwise fun x y=>x.key < y.key:=by
 simp only [mayB,Bool.and_eq_true,Q8] at h;have h1:=h.1.2.2;unfold QK at h1;rw [List.drop_zero] at h1;exact (Qcu h1).1
theorem QhS:∀ {ws:List Qc},ws.Pairwise (fun x y=>x.key < y.key) -> ∀ w ∈ ws,Qe1 ws w.key=some w
 | [],_,w,hw=>by cases hw
 | v::ws,h,w,hw=>by
  obtain ⟨h1,h2⟩:=List.pairwise_cons.1 h;unfold Qe1;rw [List.reverse_cons,List.find?_append];rcases List.mem_cons.1 hw with rfl | hw
  · have:ws.reverse.find? (fun x=>decide (x.key=w.key))=none:=by
     rw [List.find?_eq_none];intro x hx;have:=h1 x (List.mem_reverse.1 hx);simp;omega
    rw [this];simp
  · have:=QhS h2 w hw;unfold Qe1 at this;rw [this];rfl
theorem Qjq {ws:List Qc} {k:Int} (h:(ws.any fun w=>decide (w.key=k))=false):Qe1 ws k=none:=by
 unfold Qe1;rw [List.find?_eq_none];intro x hx;rw [List.any_eq_false] at h;exact h x (List.mem_reverse.1 hx)
theorem Qok:JS []:=List.Pairwise.nil
theorem Qqq {s:St} {r:Rec} (hr:mayB r=true) (hs:JS s.items) {w:Qc} (hw:w ∈ r.writes):QL (QQ s r).items w.key=some ⟨w.key,r.place,w.value⟩:=by
 rw [Qct hr hs,QhS (Qqp hr) w hw]
theorem Qol {s:St} {r:Rec} (hr:mayB r=true) (hs:JS s.items) {k:Int} (h:(r.writes.any fun w=>decide (w.key=k))=false):QL (QQ s r).items k=QL s.items k:=by
 rw [Qct hr hs,Qjq h]
theorem Qbq {l:List Rec} (h:seqW l) {s:St} (hs:s.place=0):(l.foldl QQ s).place=(l.length:Int):=by
 revert h
 refine Qav (p:=fun l=>seqW l->(l.foldl QQ s).place=(l.length:Int)) (fun _=>hs) (fun l r _ h=>?_) l;obtain ⟨_,hp,_⟩:=Qaw h;rw [Qjp,hp];simp
def lnZ:Line:=⟨0,0,0,0,0⟩
def pl (A:List Line) (i:Nat):Int:=(A.getD i lnZ).place
def QtW (x:List Line):Int:=if 16 < x.length then pl x (x.length - 17) else 0
def QrG (x:List Line):List Line:=(x.drop (x.length - 16)).filter fun y=>decide (QtW x < y.place)
structure AllI (A:List Line) (m:Int):Prop where
 mono:∀ i j,i <= j->j < A.length->pl A i <= pl A j
 few:∀ i,i+4 < A.length->pl A i < pl A (i+4)
 off:∀ i,i < A.length->(A.getD i lnZ).offset=(i:Int)
 rng:∀ i,i < A.length->1 <= pl A i /\ pl A i <= m
 fld:∀ x ∈ A,0 <= x.j /\ x.j <= 3 /\ 0 <= x.key /\ x.key <= 7 /\ 0 <= x.value /\ x.value <= 255
theorem Qom {r:Rec} (h:mayB r=true):∀ w ∈ r.writes,0 <= w.value /\ w.value <= 255:=by
 intro w hw;unfold mayB Q8 at h;simp only [Bool.and_eq_true] at h;have:=List.all_eq_true.1 (Zi h.1.2.2) w hw;unfold ZA at this;simp only [Bool.and_eq_true,Qt] at this;exact this.2
theorem Qay (p q:Int):∀ (ws:List Qc) (nx:Int) (j:Nat),(∀ k,k < (ZI p q nx j ws).length->((ZI p q nx j ws).getD k lnZ).place=p /\ ((ZI p q nx j ws).getD k lnZ).offset=nx+(k:Int)) /\
 (∀ x ∈ ZI p q nx j ws,(j:Int) <= x.j /\ x.j < ((j+ws.length:Nat):Int) /\ 0 <= x.key /\ x.key <= 7 /\ ∃ w ∈ ws,x.value=w.value)
 | [],nx,j=>⟨fun k hk=>by simp [ZI] at hk,fun x hx=>by simp [ZI] at hx⟩
 | w::ws,nx,j=>by
  unfold ZI
  split
  · obtain ⟨h1,h2⟩:=Qay p q ws (nx+1) (j+1);refine ⟨fun k hk=>?_,fun x hx=>?_⟩
    · cases k with
      | zero=>simp
      | succ k =>
       simp only [List.length_cons] at hk;have:=h1 k (by omega)
       simp only [List.getD_cons_succ];exact ⟨this.1,by rw [this.2];omega⟩
    · rcases List.mem_cons.1 hx with rfl | hx
      · refine ⟨by simp,by simp;omega,?_,?_,w,List.mem_cons_self ..,rfl⟩
        · show 0 <= w.key % 8;omega
        · show w.key % 8 <= 7;omega
      · obtain ⟨a,b,c,d,v,hv,e⟩:=h2 x hx;exact ⟨by omega,by simp only [List.length_cons];omega,c,d,v,List.mem_cons_of_mem _ hv,e⟩
  · obtain ⟨h1,h2⟩:=Qay p q ws nx (j+1);refine ⟨h1,fun x hx=>?_⟩;obtain ⟨a,b,c,d,v,hv,e⟩:=h2 x hx;exact ⟨by omega,by simp only [List.length_cons];omega,c,d,v,List.mem_cons_of_mem _ hv,e⟩
theorem Qe5 {A N:List Line} (i:Nat):(A++N).getD i lnZ=if i < A.length then A.getD i lnZ else N.getD (i - A.length) lnZ:=by
 simp only [List.getD_eq_getElem?_getD]
 split
 · rename_i h;rw [List.getElem?_append_left h]
 · rename_i h;rw [List.getElem?_append_right (by omega)]
theorem Qbr {A N:List Line} (i:Nat):pl (A++N) i=if i < A.length then pl A i else pl N (i - A.length):=by
 unfold pl;rw [Qe5];split <;> rfl
theorem AllI.nil (m:Int):AllI [] m:=⟨fun i j _ h=>by simp at h,fun i h=>by simp at h,fun i h=>by simp at h,fun i h=>by simp at h,fun x h=>by cases h⟩
theorem AllI.snoc {A:List Line} {m:Int} {r:Rec} (h:AllI A m) (m0:0 <= m) (hp:r.place=m+1) (hm:mayB r=true) (q:Int):AllI (A++ZI r.place q (A.length:Int) 0 r.writes) (m+1):=by
 obtain ⟨n1,n2⟩:=Qay r.place q r.writes (A.length:Int) 0;have hn:=Ko r.place q r.writes (A.length:Int) 0;have h4:=JO hm;generalize ZI r.place q (A.length:Int) 0 r.writes=N at *;have hN:∀ k,k < N.length->pl N k=m+1:=fun k hk=>by rw [<- hp];exact (n1 k hk).1
 refine ⟨fun i j hij hj=>?_,fun i hi=>?_,fun i hi=>?_,fun i hi=>?_,fun x hx=>?_⟩
 · rw [List.length_append] at hj;rw [Qbr,Qbr]
   by_cases h1:j < A.length
   · rw [if_pos (by omega),if_pos h1];exact h.mono i j hij h1
   · rw [if_neg h1,hN (j - A.length) (by omega)]
     by_cases h2:i < A.length
     · rw [if_pos h2];have:=(h.rng i h2).2;omega
     · rw [if_neg h2,hN (i - A.length) (by omega)];exact Int.le_refl _
 · rw [List.length_append] at hi;rw [Qbr,Qbr]
   by_cases h1:i+4 < A.length
   · rw [if_pos (by omega),if_pos h1];exact h.few i h1
   · rw [if_neg h1,hN (i+4 - A.length) (by omega),if_pos (by omega)]
     have:=(h.rng i (by omega)).2;omega
 · rw [List.length_append] at hi;rw [Qe5]
   by_cases h1:i < A.length
   · rw [if_pos h1];exact h.off i h1
   · rw [if_neg h1,(n1 (i - A.length) (by omega)).2];omega
 · rw [List.length_append] at hi;rw [Qbr]
   by_cases h1:i < A.length
   · rw [if_pos h1];have:=h.rng i h1;omega
   · rw [if_neg h1,hN _ (by omega)];omega
 · rcases List.mem_append.1 hx with hx | hx
   · exact h.fld x hx
   · obtain ⟨a,b,c,d,w,hw,e⟩:=n2 x hx;have:=Qom hm w hw;exact ⟨by omega,by omega,c,d,by omega,by omega⟩
theorem Vo {A:List Line} {c:Int}:∀ (n a d:Nat),d=a+n->d <= A.length->(∀ i,a <= i->i < d -> ¬ c < pl A i)->(∀ i,d <= i->i < A.length->c < pl A i)->(A.drop a).filter (fun x=>decide (c < x.place))=A.drop d
 | 0,a,d,hd,hA,_,h2=>by
  have:d=a:=by omega
  subst this;rw [List.filter_eq_self];intro x hx;obtain ⟨k,hk,rfl⟩:=List.getElem_of_mem hx;rw [List.length_drop] at hk;have:=h2 (d+k) (by omega) (by omega)
  unfold pl at this;rw [List.getD_eq_getElem?_getD,List.getElem?_eq_getElem (by omega),Option.getD_some] at this
  rw [List.getElem_drop];exact decide_eq_true this
 | n+1,a,d,hd,hA,h1,h2=>by
  have ha:a < A.length:=by omega
  rw [List.drop_eq_getElem_cons ha,List.filter_cons];have:=h1 a (Nat.le_refl _) (by omega)
  unfold pl at this;rw [List.getD_eq_getElem?_getD,List.getElem?_eq_getElem ha,Option.getD_some] at this;rw [if_neg (by rw [decide_eq_false this];simp)]
  exact Vo n (a+1) d (by omega) hA (fun i q1 q2=>h1 i (by omega) q2) h2
theorem QrH {A:List Line} {c:Int} (hm:∀ i j,i <= j->j < A.length->pl A i <= pl A j):∀ (n a:Nat),a+n=A.length -> ∃ d,a <= d /\ d <= A.length /\ (∀ i,a <= i->i < d -> ¬ c < pl A i) /\ (∀ i,d <= i->i < A.length->c < pl A i)
 | 0,a,h=>⟨a,Nat.le_refl _,by omega,fun i _ _=>by omega,fun i _ _=>by omega⟩
 | n+1,a,h=>by
  by_cases q:c < pl A a
  · exact ⟨a,Nat.le_refl _,by omega,fun i _ _=>by omega,fun i h1 h2=>by have:=hm a i h1 h2;omega⟩
  · obtain ⟨d,d1,d2,d3,d4⟩:=QrH hm n (a+1) (by omega)
    refine ⟨d,by omega,d2,fun i h1 h2=>?_,d4⟩
    by_cases e:i=a
    · subst e;exact q
    · exact d3 i (by omega) h2
structure LnI (A L:List Line) (c:Int):Prop where
 ex:∃ d,d <= A.length /\ L=A.drop d /\ (∀ i,d <= i->i < A.length->c < pl A i) /\ (A.length <= 16->d=0 /\ c=0) /\ (16 < A.length->A.length - 17 < d /\ ∀ i,A.length - 17 <= i->i < d->pl A i=c)
theorem LnI.eq {A L:List Line} {c:Int} (h:LnI A L c):L=QrG A /\ c=QtW A:=by
 obtain ⟨d,d1,rfl,d3,d4,d5⟩:=h.ex;unfold QrG QtW
 by_cases q:16 < A.length
 · rw [if_pos q];obtain ⟨e1,e2⟩:=d5 q;rw [e2 _ (Nat.le_refl _) e1];refine ⟨(Vo (d - (A.length - 16)) (A.length - 16) d (by omega) d1 (fun i h1 h2=>?_) d3).symm,rfl⟩
   rw [e2 i (by omega) h2];omega
 · rw [if_neg q];obtain ⟨rfl,rfl⟩:=d4 (by omega)
   exact ⟨(Vo 0 (A.length - 16) 0 (by omega) d1 (fun i h1 h2=>by omega) d3).symm,rfl⟩
theorem LnI.nil:LnI [] [] 0:=⟨0,Nat.le_refl _,rfl,fun i _ h=>by simp at h,fun _=>⟨rfl,rfl⟩,fun h=>by simp at h⟩
theorem LnI.ne {A L:List Line} {c m:Int} (hA:AllI A m) (h:LnI A L c) (hn:A ≠ []):∃ d,d < A.length /\ L=A.drop d:=by
 obtain ⟨d,d1,d2,d3,d4,d5⟩:=h.ex;have hl:0 < A.length:=List.length_pos_iff.2 hn;refine ⟨d,?_,d2⟩
 by_cases q:16 < A.length
 · obtain ⟨e1,e2⟩:=d5 q
   by_cases e:d < A.length
   · exact e
   · have h1:=e2 (A.length - 17) (Nat.le_refl _) e1;have h2:=e2 (A.length - 17+4) (by omega) (by omega)
     have:=hA.few (A.length - 17) (by omega)
     omega
 · have:=d4 (by omega);omega
theorem Qe6 (A:List Line) (d i:Nat):(A.drop d).getD i lnZ=A.getD (d+i) lnZ:=by
 simp only [List.getD_eq_getElem?_getD,List.getElem?_drop]
theorem LnI.next {A L:List Line} {c m:Int} (hA:AllI A m) (h:LnI A L c):Kq L=(A.length:Int):=by
 by_cases hn:A=[]
 · subst hn;obtain ⟨d,d1,rfl,_⟩:=h.ex;simp [Kq]
 · obtain ⟨d,d1,rfl⟩:=h.ne hA hn;unfold Kq;rw [if_pos (by rw [List.length_drop];omega)]
   have:=Qe6 A d ((A.drop d).length - 1);unfold lnZ at this;rw [this,List.length_drop,show d+(A.length - d - 1)=A.length - 1 by omega]
   have:=hA.off (A.length - 1) (by omega)
   unfold lnZ at this;rw [this];omega
theorem LnI.may {A L:List Line} {c m:Int} (hA:AllI A m) (h:LnI A L c) (hl:A.length < 4194304) (hm:m <= 1048575):L.all Q5=true:=by
 obtain ⟨d,d1,rfl,_⟩:=h.ex;rw [List.all_eq_true];intro x hx;have hx:=List.mem_of_mem_drop hx;obtain ⟨k,hk,e⟩:=List.getElem_of_mem hx;have h1:=hA.off k hk;have h2:=hA.rng k hk;have h3:=hA.fld x hx;unfold pl at h2;rw [List.getD_eq_getElem?_getD,List.getElem?_eq_getElem hk,Option.getD_some,e] at h1 h2;exact decide_eq_true (by omega)
theorem LnI.step {A L:List Line} {c m:Int} {r:Rec} (hA:AllI A m) (h:LnI A L c) (m0:0 <= m) (hl:A.length < 4194304) (hmm:m <= 1048575) (hp:r.place=m+1) (hm:mayB r=true) (hy:r.yes=true) (q:Int) :
 LnI (A++ZI r.place q (A.length:Int) 0 r.writes) (Vu L r q) (Js L c r q):=by
 have hA':=hA.snoc m0 hp hm q;have hnx:=h.next hA;have hok:(Qbh L r && r.yes)=true:=by simp only [Qbh,h.may hA hl hmm,hm,hy,Bool.and_self]
 have hN:∀ k,k < (ZI r.place q (A.length:Int) 0 r.writes).length->pl (ZI r.place q (A.length:Int) 0 r.writes) k=m+1:=fun k hk=>by rw [<- hp];exact ((Qay r.place q r.writes (A.length:Int) 0).1 k hk).1
 unfold Vu Js;simp only [hok,cond_true];unfold Vt;rw [hnx];generalize hNd:ZI r.place q (A.length:Int) 0 r.writes=N at *;have hrngA:=hA.rng;have hneA:=h.ne hA;obtain ⟨d,d1,rfl,d3,d4,d5⟩:=h.ex;have e0:A.drop d++N=(A++N).drop d:=by rw [List.drop_append_of_le_length d1]
 have hlen:(A.drop d++N).length=(A++N).length - d:=by rw [e0,List.length_drop]
 have hAN:(A++N).length=A.length+N.length:=List.length_append
 by_cases h16:(A.drop d++N).length <= 16
 · rw [decide_eq_true h16];simp only [cond_true];refine ⟨d,by omega,e0,fun i h1 h2=>?_,fun h1=>?_,fun h1=>?_⟩
   · rw [Qbr]
     split
     · rename_i h3;exact d3 i h1 h3
     · rename_i h3;rw [hN _ (by omega)]
       by_cases hAe:A=[]
       · subst hAe;have:=(d4 (by simp)).2;omega
       · obtain ⟨d',d1',e'⟩:=hneA hAe
         have hd:d < A.length:=by
          have:=congrArg List.length e';rw [List.length_drop,List.length_drop] at this;omega
         have:=d3 d (Nat.le_refl _) hd;have:=(hrngA d hd).2;omega
   · exact d4 (by omega)
   · by_cases q16:16 < A.length
     · obtain ⟨e1,e2⟩:=d5 q16;refine ⟨by omega,fun i h2 h3=>?_⟩
       rw [Qbr,if_pos (by omega)]
       exact e2 i (by omega) h3
     · have:=(d4 (by omega)).1
       omega
 · rw [decide_eq_false h16];simp only [cond_false];have hB:16 < (A++N).length:=by omega
   have hcut:Qda (A.drop d++N)=pl (A++N) ((A++N).length - 17):=by
    unfold Qda pl;rw [e0];have:=Qe6 (A++N) d (((A++N).drop d).length - 17);unfold lnZ at this;rw [this,List.length_drop,show d+((A++N).length - d - 17)=(A++N).length - 17 by omega]
    rfl
   have hkeep:Qcm (A.drop d++N)=((A++N).drop ((A++N).length - 16)).filter fun x=>decide (pl (A++N) ((A++N).length - 17) < x.place):=by
    unfold Qcm;rw [hcut,hlen,e0,List.drop_drop,show d+((A++N).length - d - 16)=(A++N).length - 16 by omega]
   rw [hcut,hkeep];obtain ⟨t,t1,t2,t3,t4⟩:=QrH (A:=A++N) (c:=pl (A++N) ((A++N).length - 17)) hA'.mono 16 ((A++N).length - 16) (by omega)
   refine ⟨t,t2,Vo (t - ((A++N).length - 16)) _ t (by omega) t2 t3 t4,t4,fun h1=>by omega,fun _=>⟨by omega,fun i h1 h2=>?_⟩⟩
   by_cases e:i=(A++N).length - 17
   · rw [e]
   · have q1:=t3 i (by omega) h2
     have q2:=hA'.mono ((A++N).length - 17) i h1 (by omega)
     omega
def Qcv (l:List Rec) (i:Nat):Bool := !decide (40 < ((l.getD i rec0).writes.length:Int)) && (!((l.getD i rec0).place != (i:Int)+1) && mayB (l.getD i rec0))
def QbI (l:List Rec):Nat->Nat->Bool
 | 0,_=>true
 | n+1,i=>Qcv l i && QbI l n (i+1)
theorem QhT {l:List Rec}:∀ {n i:Nat},QbI l n i=true -> ∀ m,i <= m->m < i+n->Qcv l m=true
 | 0,i,_,m,h1,h2=>by omega
 | n+1,i,h,m,h1,h2=>by
  simp only [QbI,Bool.and_eq_true] at h
  by_cases e:m=i
  · subst e;exact h.1
  · exact QhT h.2 m (by omega) (by omega)
theorem Qon {l:List Rec} (h:QbI l l.length 0=true):seqW l:=fun i hi=>by
 have:=QhT h i (Nat.zero_le _) (by omega)
 simp only [Qcv,Bool.and_eq_true,Bool.not_eq_true',bne_eq_false_iff_eq] at this;exact ⟨this.2.1,this.2.2⟩
def Qcw (l:List Rec) (i:Nat):Bool:=mayB (l.getD i rec0) && (decide (i=0) || decide ((l.getD (i - 1) rec0).place < (l.getD i rec0).place))
def Qag (l:List Rec):Nat->Nat->Bool
 | 0,_=>true
 | n+1,i=>Qcw l i && Qag l n (i+1)
theorem QhU {l:List Rec} (h:seqW l):∀ n i,i+n <= l.length->Qag l n i=true
 | 0,_,_=>rfl
 | n+1,i,hl=>by
  have h1:=h i (by omega)
  simp only [Qag,Qcw,h1.2,QhU h n (i+1) (by omega),Bool.true_and,Bool.and_true,Bool.or_eq_true,decide_eq_true_eq]
  by_cases e:i=0
  · exact .inl e
  · have h2:=h (i - 1) (by omega)
    right;omega
theorem Qf8 {k:Int} {l:List Item} {i:Nat} (h:i < l.length):QL (l.drop i) k=if (l.getD i ⟨0,0,0⟩).key=k then some (l.getD i ⟨0,0,0⟩) else QL (l.drop (i+1)) k:=by
 have e:l.getD i ⟨0,0,0⟩=l[i]:=by simp [h]
 unfold QL;rw [List.drop_eq_getElem_cons h,List.find?_cons,e]
 by_cases q:l[i].key=k
 · rw [if_pos q,decide_eq_true q]
 · rw [if_neg q,decide_eq_false q]
theorem Qjr {k:Int} {l:List Item}:QL (l.drop l.length) k=none:=by rw [List.drop_length];rfl
def Qdp (out:Nat):Nat->Nat->Bool
 | 0,_=>false
 | n+1,i => !decide (i=out) || Qdp out n (i+1)
open Go.Proofs
structure QrI where
 c:Bool
 l:List Rec
 i:Nat
noncomputable def QtX (c:Bool) (l:List Rec) (i:Nat):Env RC:=[(0,.sl (C:=RC) .recd c l),(4,.bool false),(5,.int .i64 (i:Int))]
def Qqr (c:Bool) (l:List Rec) (i:Nat):List (Obj RC):=[]
noncomputable def Qvk (c:Bool) (l:List Rec) (i:Nat):=rndO s28 uu_1 4 4 40 0 [0,4,5] [4] [] (QtX c l i) (Qqr c l i)
theorem Qvl (c:Bool) (l:List Rec) (i:Nat):Qvk c l i=(let Z0:Int:=(↑i:Int);let Z1:Bool:=decide ((0:Int) <= Z0 /\ Z0 < (↑l.length:Int));let Z2:Rec:=List.getD l Z0.toNat (Rec.mk (0:Int) false []);let Z3:Nat:=List.length Z2.writes;let Z4:RO_:=some ((X.ret,[(4,D.bool true)]),[]);let Z5:Int:=IntKind.wrap .i64 (Z0+(1:Int));bif Qh l.length then bif decide (Z0 < (↑l.length:Int)) then bif Z1 then bif Qh Z3 then bif decide ((40:Int) < (↑Z3:Int)) then Z4 else bif Z1 then bif Rec.place Z2 != Z5 then Z4 else bif Z1 then bif Qh Z3 then bif !mayB (Rec.mk Z2.place Z2.yes Z2.writes) then Z4 else some ((X.normal,[(0,D.sl RTy.recd c l),(4,D.bool false),(5,D.int .i64 Z5)]),[]) else none else none else none else none else none else some ((X.exit (0:Nat),[(4,D.bool false)]),[]) else none):=by kernel_rfl
noncomputable def Qbs (c:Bool) (l:List Rec) (i:Nat):RT RC:=.br (QbI l (l.length - i) i) (.leaf (.exit 0) [(4,.bool false)] []) (.leaf .ret [(4,.bool true)] [])
def Qbt (c:Bool) (l:List Rec) (i:Nat):Prop:=i <= l.length /\ l.length <= 32 /\ (l.all fun r=>Qh r.writes.length)=true
noncomputable def Qjs:QI RC QrI where
 k:=0
 canon q:=QtX q.c q.l q.i
 objs q:=Qqr q.c q.l q.i
 fin q:=Qbs q.c q.l q.i
 Inv q:=Qbt q.c q.l q.i
 μ q:=q.l.length - q.i
theorem Qoo (c:Bool) (l:List Rec) (i:Nat) (hI:Qbt c l i):Leaf (Qvk c l i) (LedR Qjs ⟨c,l,i⟩):=by
 (rw [Qvl];conv=>zeta)
 unfold Qbt at hI;obtain ⟨h1,h2,h3⟩:=hI;have lk:Qh l.length=true:=Qe (by omega)
 have hfin:∀ b:Bool,QbI l (l.length - i) i=b->(Qbs c l i).val=bif b then some ((.exit 0,[(4,.bool false)]),[]) else some ((.ret,[(4,.bool true)]),[]):=fun b hb=>by subst hb;rfl
 rw [lk,cond_true]
 by_cases hlt:i < l.length
 · have w1:IntKind.i64.wrap ((i:Int)+1)=((i+1:Nat):Int):=by rw [wrap_id (by omega) (by omega)];simp
   have d1:decide ((i:Int) < l.length)=true:=by simp;omega
   have d2:decide (0 <= (i:Int) /\ (i:Int) < l.length)=true:=by simp;omega
   have t1:((i:Int)).toNat=i:=by simp
   have hs:QbI l (l.length - i) i=(Qcv l i && QbI l (l.length - (i+1)) (i+1)):=by
    rw [show l.length - i=(l.length - (i+1))+1 by omega];rfl
   have hw:Qh (l.getD i ⟨0,false,[]⟩).writes.length=true:=by
    have:=List.all_eq_true.1 h3 l[i] (List.getElem_mem hlt)
    simpa [hlt] using this
   simp only [d1,d2,t1,w1,hw,cond_true]
   have hg:Qcv l i=(!decide (40 < ((l.getD i ⟨0,false,[]⟩).writes.length:Int)) && (!((l.getD i ⟨0,false,[]⟩).place != ((i+1:Nat):Int)) && mayB (l.getD i ⟨0,false,[]⟩))):=by
    unfold Qcv rec0;rw [show ((i:Int)+1)=((i+1:Nat):Int) by omega]
   generalize l.getD i ⟨0,false,[]⟩=x at *
   cases a1:decide (40 < (x.writes.length:Int))
   · cases a2:(x.place != ((i+1:Nat):Int))
     · cases a3:mayB x
       · rw [hs,hg,a1,a2,a3] at hfin;exact QO [] (hfin false rfl) rfl
       · rw [hs,hg,a1,a2,a3] at hfin;refine Qp ⟨c,l,i+1⟩ ⟨hlt,h2,h3⟩ (by simp only [Qjs];omega) ?_ rfl rfl
         show (Qbs c l (i+1)).val=(Qbs c l i).val;rw [hfin _ rfl];rfl
     · rw [hs,hg,a1,a2] at hfin;exact QO [] (hfin false rfl) rfl
   · rw [hs,hg,a1] at hfin;exact QO [] (hfin false rfl) rfl
 · have hi:i=l.length:=by omega
   have c1:decide ((i:Int) < l.length)=false:=by simp;omega
   rw [c1,cond_false];have e:l.length - i=0:=by omega
   rw [e] at hfin;exact Qm [] (hfin true rfl) rfl
noncomputable def QtY (env:Env RC) (os:List (Obj RC)):Option (Bool × QrI):=match env,os with
 | [(0,.sl .recd c l),(4,.bool false),(5,.int .i64 x0)],[]=>QB (true) (decide (x0=0) && decide (l.length <= 32) && l.all fun r=>Qh r.writes.length,⟨c,l,0⟩)
 | _,_=>none
noncomputable def uv_1:=uu_1.addLoop 4 4 (sumR s28 [] [0,4,5] Qjs QtY)
theorem Qop:Qi Tryz.prog s28 uv_1:=by
 refine Qoc.addRoundsR Qb (by kernel_rfl) Qjs 40 [0,4,5] [4] [] [0,4,5] QtY (fun q hI=>?_) ?_
 · obtain ⟨c,l,i⟩:=q;refine ⟨?_,?_,Qoo c l i hI⟩
   · simp_all [Qj,Qjs,QtX,Qqr,Qbt,D.refs,Obj.refs,rEnc]
   · simp_all [Qjs,Qbs,Qqr,Qbt,RT.refsOK,Qj,D.refs,Obj.refs,rEnc]
 · intro env os b q hd_ hb;unfold QtY at hd_
   split at hd_
   · obtain ⟨hs,hd_⟩:=Qg hd_;cases hd_;simp only [Bool.and_eq_true,decide_eq_true_eq] at hb;obtain ⟨⟨rfl,h1⟩,h2⟩:=hb;exact ⟨⟨Nat.zero_le _,h1,h2⟩,rfl,rfl⟩
   · cases hd_
structure QhV where
 c:Bool
 l:List Rec
 i:Nat
noncomputable def Qdq (c:Bool) (l:List Rec) (i:Nat):Env RC:=[(0,.sl (C:=RC) .recd c l),(2,.int .i64 0),(3,.int .i64 (i:Int))]
def Qdr (c:Bool) (l:List Rec) (i:Nat):List (Obj RC):=[]
noncomputable def Qoq (c:Bool) (l:List Rec) (i:Nat):=rndO s28 uv_1 53 2 40 0 [0,2,3] [2] [] (Qdq c l i) (Qdr c l i)
theorem Qqs (c:Bool) (l:List Rec) (i:Nat):Qoq c l i=(let Z0:Int:=(↑i:Int);let Z1:Int:=(↑l.length:Int);let Z2:Bool:=decide ((0:Int) <= Z0 /\ Z0 < Z1);let Z3:Rec:=Rec.mk (0:Int) false [];let Z4:Rec:=List.getD l Z0.toNat Z3;let Z5:Int:=IntKind.wrap .i64 (Z0 - (1:Int));let Z6:Nat × D RC:=(2,D.int .i64 0);let Z7:RO_:=some ((X.normal,[(0,D.sl RTy.recd c l),Z6,(3,D.int .i64 (IntKind.wrap .i64 (Z0+(1:Int))))]),[]);bif Qh l.length then bif decide (Z0 < Z1) then bif Z2 then bif Qh Z4.writes.length then bif !mayB (Rec.mk Z4.place Z4.yes Z4.writes) then some ((X.ret,[(2,D.int .i64 2)]),[]) else bif decide ((0:Int) < Z0) then bif Z2 then bif decide ((0:Int) <= Z5 /\ Z5 < Z1) then bif decide (Rec.place Z4 <= Rec.place (List.getD l Z5.toNat Z3)) then some ((X.ret,[(2,D.int .i64 2)]),[]) else Z7 else none else none else Z7 else none else none else some ((X.exit (0:Nat),[Z6]),[]) else none):=by kernel_rfl
noncomputable def V0 (c:Bool) (l:List Rec) (i:Nat):RT RC:=.br (Qag l (l.length - i) i) (.leaf (.exit 0) [(2,.int .i64 0)] []) (.leaf .ret [(2,.int .i64 2)] [])
def V1 (c:Bool) (l:List Rec) (i:Nat):Prop:=i <= l.length /\ l.length <= 1000 /\ (l.all fun r=>Qh r.writes.length)=true
noncomputable def V2:QI RC QhV where
 k:=0
 canon q:=Qdq q.c q.l q.i
 objs q:=Qdr q.c q.l q.i
 fin q:=V0 q.c q.l q.i
 Inv q:=V1 q.c q.l q.i
 μ q:=q.l.length - q.i
theorem Qf9 (c:Bool) (l:List Rec) (i:Nat) (hI:V1 c l i):Leaf (Qoq c l i) (LedR V2 ⟨c,l,i⟩):=by
 (rw [Qqs];conv=>zeta)
 unfold V1 at hI;obtain ⟨h1,h2,h3⟩:=hI;have lk:Qh l.length=true:=Qe (by omega)
 have hfin:∀ b:Bool,Qag l (l.length - i) i=b->(V0 c l i).val=bif b then some ((.exit 0,[(2,.int .i64 0)]),[]) else some ((.ret,[(2,.int .i64 2)]),[]):=fun b hb=>by subst hb;rfl
 rw [lk,cond_true]
 by_cases hlt:i < l.length
 · have w1:IntKind.i64.wrap ((i:Int)+1)=((i+1:Nat):Int):=by rw [wrap_id (by omega) (by omega)];simp
   have w2:IntKind.i64.wrap ((i:Int) - 1)=(i:Int) - 1:=wrap_id (by omega) (by omega)
   have d1:decide ((i:Int) < l.length)=true:=by simp;omega
   have d2:decide (0 <= (i:Int) /\ (i:Int) < l.length)=true:=by simp;omega
   have t1:((i:Int)).toNat=i:=by simp
   have t2:((i:Int) - 1).toNat=i - 1:=by omega
   have hs:Qag l (l.length - i) i=(Qcw l i && Qag l (l.length - (i+1)) (i+1)):=by
    rw [show l.length - i=(l.length - (i+1))+1 by omega];rfl
   have hw:Qh (l.getD i ⟨0,false,[]⟩).writes.length=true:=by
    have:=List.all_eq_true.1 h3 l[i] (List.getElem_mem hlt)
    simpa [hlt] using this
   have hgo:Qcw l i=true->Leaf (some ((X.normal,Qdq c l (i+1)),[])) (LedR V2 ⟨c,l,i⟩):=fun e=>by
    rw [hs,e] at hfin;refine Qp ⟨c,l,i+1⟩ ⟨hlt,h2,h3⟩ (by simp only [V2];omega) ?_ rfl rfl
    show (V0 c l (i+1)).val=(V0 c l i).val;rw [hfin _ rfl];rfl
   have hno:Qcw l i=false->Leaf (some ((X.ret,[(2,D.int .i64 2)]),[])) (LedR V2 ⟨c,l,i⟩):=fun e=>by
    rw [hs,e] at hfin;exact QO [] (hfin false rfl) rfl
   have hr:Qcw l i=(mayB (l.getD i ⟨0,false,[]⟩) && (decide (i=0) || decide ((l.getD (i - 1) ⟨0,false,[]⟩).place < (l.getD i ⟨0,false,[]⟩).place))):=rfl;simp only [d1,d2,t1,t2,w1,w2,hw,cond_true];generalize l.getD i ⟨0,false,[]⟩=x at *;generalize l.getD (i - 1) ⟨0,false,[]⟩=y at *;cases a3:mayB x
   · exact hno (by rw [hr,a3];rfl)
   · have a3':mayB ⟨x.place,x.yes,x.writes⟩=true:=a3;simp only [a3',Bool.not_true,cond_false]
     by_cases e0:i=0
     · subst e0;exact hgo (by rw [hr,a3];rfl)
     · have d3:decide (0 < (i:Int))=true:=by simp;omega
       have d4:decide (0 <= (i:Int) - 1 /\ (i:Int) - 1 < l.length)=true:=by simp;omega
       simp only [d3,d4,cond_true]
       by_cases q:x.place <= y.place
       · rw [decide_eq_true q,cond_true];exact hno (by rw [hr,a3,decide_eq_false e0,decide_eq_false (show ¬ y.place < x.place by omega)];rfl)
       · rw [decide_eq_false q,cond_false];exact hgo (by rw [hr,a3,decide_eq_true (show y.place < x.place by omega)];simp)
 · have hi:i=l.length:=by omega
   have c1:decide ((i:Int) < l.length)=false:=by simp;omega
   rw [c1,cond_false];have e:l.length - i=0:=by omega
   rw [e] at hfin;exact Qm [] (hfin true rfl) rfl
noncomputable def Qga (env:Env RC) (os:List (Obj RC)):Option (Bool × QhV):=match env,os with
 | [(0,.sl .recd c l),(2,.int .i64 0),(3,.int .i64 x0)],[]=>QB (true) (decide (x0=0) && decide (l.length <= 1000) && l.all fun r=>Qh r.writes.length,⟨c,l,0⟩)
 | _,_=>none
noncomputable def uv_2:=uv_1.addLoop 53 2 (sumR s28 [] [0,2,3] V2 Qga)
theorem Qor:Qi Tryz.prog s28 uv_2:=by
 refine Qop.addRoundsR Qb (by kernel_rfl) V2 40 [0,2,3] [2] [] [0,2,3] Qga (fun q hI=>?_) ?_
 · obtain ⟨c,l,i⟩:=q;refine ⟨?_,?_,Qf9 c l i hI⟩
   · simp_all [Qj,V2,Qdq,Qdr,V1,D.refs,Obj.refs,rEnc]
   · simp_all [V2,V0,Qdr,V1,RT.refsOK,Qj,D.refs,Obj.refs,rEnc]
 · intro env os b q hd_ hb;unfold Qga at hd_
   split at hd_
   · obtain ⟨hs,hd_⟩:=Qg hd_;cases hd_;simp only [Bool.and_eq_true,decide_eq_true_eq] at hb;obtain ⟨⟨rfl,h1⟩,h2⟩:=hb;exact ⟨⟨Nat.zero_le _,h1,h2⟩,rfl,rfl⟩
   · cases hd_
noncomputable def QrJ (c:Bool) (l:List Rec):Option (Bool × D RC):=some (decide (l.length <= 1000) && l.all fun r=>Qh r.writes.length,.int .i64 (bif Qag l l.length 0 then 0 else 2))
noncomputable def Qos:List (D RC)->Option (Bool × D RC)
 | [.sl .recd c l]=>QrJ c l
 | _=>none
noncomputable def QrK (c:Bool) (l:List Rec):=evF s28 uv_2 40 53 [.sl (C:=RC) .recd c l]
theorem QtZ (c:Bool) (l:List Rec):QrK c l=(bif decide (List.length l <= (1000:Nat)) && List.all l fun (r:Rec)=>Qh r.writes.length then bif Qag l (List.length l - 0) (0:Nat) then some (D.int .i64 0) else some (D.int .i64 2) else none):=by kernel_rfl
theorem Qt0 (c:Bool) (l:List Rec) (h:(decide (l.length <= 1000) && l.all fun r=>Qh r.writes.length)=true):QrK c l=some (.int .i64 (bif Qag l l.length 0 then 0 else 2)):=by
 rw [QtZ];refine Qa h ?_;rw [Nat.sub_zero];cases Qag l l.length 0 <;> rfl
noncomputable def uv_3:=uv_2.addSpec 53 Qos
theorem Qot:Qi Tryz.prog s28 uv_3:=Qor.addEv Qb fun args d h=>by
 unfold Qos at h
 split at h
 · unfold QrJ at h;have h1:=congrArg Prod.fst (Option.some.inj h);obtain rfl:_=d:=congrArg Prod.snd (Option.some.inj h);exact ⟨by simp [D.refs],40,Qt0 _ _ h1⟩
 · cases h
def OkMd (l:List Rec) (now sure:List Sector) (i:Nat):Prop:=seqW l /\ l.length <= 32 /\ i <= l.length /\ now=layW (l.take i) /\ sure=now
structure QrL where
 c:Bool
 l:List Rec
 a:Bool
 now:List Sector
 b:Bool
 sure:List Sector
 i:Nat
noncomputable def Qt1 (c:Bool) (l:List Rec) (a:Bool) (now:List Sector) (b:Bool) (sure:List Sector) (i:Nat):Env RC:=[(0,.sl (C:=RC) .recd c l),(1,.int .i64 ((0))),(4,.ptr 0 []),(5,.bool false),(6,.ptr 1 []),(7,.int .i64 (i:Int))]
def Qjt (c:Bool) (l:List Rec) (a:Bool) (now:List Sector) (b:Bool) (sure:List Sector) (i:Nat):List (Obj RC):=[.var 24 (.acons (.sl (C:=RC) .sector true []) (.acons (.sl (C:=RC) .sector true []) .anil)),.var 24 (.acons (.sl (C:=RC) .sector a now) (.acons (.sl (C:=RC) .sector b sure) .anil))]
noncomputable def Qvm (c:Bool) (l:List Rec) (a:Bool) (now:List Sector) (b:Bool) (sure:List Sector) (i:Nat):=rndO s28 uv_3 19 7 100 2 [0,1,4,5,6,7] [5] [.slot 4 0,.slot 6 0] (Qt1 c l a now b sure i) (Qjt c l a now b sure i)
theorem Qvn (c:Bool) (l:List Rec) (a:Bool) (now:List Sector) (b:Bool) (sure:List Sector) (i:Nat):Qvm c l a now b sure i=(let Z0:Int:=(↑i:Int);let Z1:Bool:=decide ((0:Int) <= Z0 /\ Z0 < (↑l.length:Int));let Z2:Rec:=List.getD l Z0.toNat (Rec.mk (0:Int) false []);let Z3:Int:=Rec.place Z2;let Z4:Int:=IntKind.wrap .i64 (Z0+(1:Int));let Z5:Option (Obj RC):=some (Obj.var 24 (.acons (D.sl RTy.sector a now) (.acons (D.sl RTy.sector b sure) .anil)));let Z6:List UInt8:=entL (Rec.mk Z3 Z2.yes Z2.writes);let Z7:List Sector:=pNow now sure (secI Z3) Z3 Z6;let Z8:List Sector:=Vs now sure (secI Z3) Z3 Z6;let Z9:X × Env RC:=(X.normal,[(0,D.sl RTy.recd c l),(1,D.int .i64 0),(4,D.ptr 0 []),(5,D.bool false),(6,D.ptr 1 []),(7,D.int .i64 Z4)]);let Z10:Option (Obj RC):=some (Obj.var 24 (.acons (D.sl RTy.sector true []) (.acons (D.sl RTy.sector true []) .anil)));let Z11:Nat:=(0:Nat)+List.length Z7;let Z12:List Sector:=List.replicate (0:Nat) (Sector.mk (0:Int) []);let Z13:Nat:=List.length (Z12++Z7);bif Qh l.length then bif decide (Z0 < (↑l.length:Int)) then bif Z1 then bif Z3 != Z4 then some ((X.ret,[(5,D.bool false)]),[Z5,Z5]) else bif decide ((32:Int) < Z4) then some ((X.ret,[(5,D.bool false)]),[Z5,Z5]) else bif Z1 then bif Qs now && Qs sure && Qh Z2.writes.length then bif Qs Z7 && Qs Z8 then bif (bif Qq Z7 Z8 then (0:Int) else (2:Int)) != (0:Int) then some (Z9,[Z10,Z10]) else bif Qk Z11 (24:Nat) then bif Qk ((0:Nat)+List.length Z8) (24:Nat) then bif Nat.beq Z11 Z13 then bif Qk ((0:Nat)+Z13) (24:Nat) then bif Nat.beq Z11 Z13 then bif Nat.beq ((0:Nat)+Z13) (Z12++(Z12++Z7)).length then some (Z9,[Z10,some (Obj.var 24 (.acons (D.sl RTy.sector false (Z12++Z7)) (.acons (D.sl RTy.sector false (Z12++(Z12++Z7))) .anil)))]) else none else none else none else none else none else none else none else none else none else none else some ((X.exit (0:Nat),[(5,D.bool false)]),[Z10,Z5]) else none):=by kernel_rfl
noncomputable def JT (c:Bool) (l:List Rec) (a:Bool) (now:List Sector) (b:Bool) (sure:List Sector) (i:Nat):RT RC:=.leaf (.exit 0) [(5,.bool false)] [.var 24 (.acons (.sl (C:=RC) .sector true []) (.acons (.sl (C:=RC) .sector true []) .anil)),.var 24 (.acons (.sl (C:=RC) .sector (bif decide (i < l.length) then false else a) (layW l)) (.acons (.sl (C:=RC) .sector (bif decide (i < l.length) then false else b) (layW l)) .anil))]
def Qbu (c:Bool) (l:List Rec) (a:Bool) (now:List Sector) (b:Bool) (sure:List Sector) (i:Nat):Prop:=OkMd l now sure i
noncomputable def Qju:QI RC QrL where
 k:=2
 canon q:=Qt1 q.c q.l q.a q.now q.b q.sure q.i
 objs q:=Qjt q.c q.l q.a q.now q.b q.sure q.i
 fin q:=JT q.c q.l q.a q.now q.b q.sure q.i
 Inv q:=Qbu q.c q.l q.a q.now q.b q.sure q.i
 μ q:=q.l.length - q.i
theorem Qou (c:Bool) (l:List Rec) (a:Bool) (now:List Sector) (b:Bool) (sure:List Sector) (i:Nat) (hI:Qbu c l a now b sure i):Leaf (Qvm c l a now b sure i) (LedR Qju ⟨c,l,a,now,b,sure,i⟩):=by
 (rw [Qvn];conv=>zeta)
 unfold Qbu at hI;obtain ⟨hq,h32,hi,hn,hsu⟩:=hI;subst hsu;have lk:Qh l.length=true:=Qe (by omega)
 rw [lk,cond_true]
 by_cases hlt:i < l.length
 · have w1:IntKind.i64.wrap ((i:Int)+1)=((i+1:Nat):Int):=by rw [wrap_id (by omega) (by omega)];simp
   have d1:decide ((i:Int) < l.length)=true:=by simp;omega
   have d2:decide (0 <= (i:Int) /\ (i:Int) < l.length)=true:=by simp;omega
   have d3:decide (32 < ((i+1:Nat):Int))=false:=by simp;omega
   have t1:((i:Int)).toNat=i:=by simp
   obtain ⟨hp,hm⟩:=hq i hlt;unfold rec0 at hp hm
   have htk:l.take (i+1)=l.take i++[l.getD i ⟨0,false,[]⟩]:=by
    rw [List.take_succ_eq_append_getElem hlt];simp [hlt]
   have hlen:(l.take i).length=i:=by rw [List.length_take];omega
   have hdk:Qq sure sure=true:=by
    rw [hn];have:=Qbp (Yv hq i) (by omega) (s:=i) (by omega) (by omega)
    rwa [List.take_take,Nat.min_self] at this
   have hpn:=QtT (Yv hq i) (by omega) (r:=l.getD i ⟨0,false,[]⟩) (by rw [hlen];exact hp) hm (sure:=sure) (by rw [<- hn];exact hdk)
   rw [<- htk,<- hn] at hpn;obtain ⟨hok,hpN,hpS⟩:=hpn;have hdk2:=QiX hok;have hww:Qh (l.getD i ⟨0,false,[]⟩).writes.length=true:=Qe (Nat.le_trans (JO hm) (by decide))
   have hg:=ZH hdk;have hg2:=ZH hdk2;simp only [d1,d2,w1,t1,cond_true];generalize l.getD i ⟨0,false,[]⟩=x at *;have hp':(x.place != ((i+1:Nat):Int))=false:=by simp;omega
   have leta:Rec.mk x.place x.yes x.writes=x:=rfl;rw [hpN,hpS] at hdk2 hg2;have l33:=YR hdk2;have s1:Qk (layW (l.take (i+1))).length 24=true:=by rw [l33.1];rfl
   have s2:Qk sure.length 24=true:=by rw [l33.2];rfl
   simp only [hp',d3,leta,hg.1,hww,hpN,hpS,hg2.1,hdk2,Bool.and_self,List.replicate_zero,List.nil_append,Nat.zero_add,s1,s2,Zu rfl,cond_true,cond_false];refine Qp (S:=Qju) (s:=⟨c,l,a,sure,b,sure,i⟩) ⟨c,l,false,layW (l.take (i+1)),false,layW (l.take (i+1)),i+1⟩ (show OkMd l _ _ (i+1) from ⟨hq,h32,hlt,rfl,rfl⟩) (show l.length - (i+1) < l.length - i by omega) ?_ rfl rfl
   have e2:decide (i < l.length)=true:=decide_eq_true hlt;show (JT c l false (layW (l.take (i+1))) false (layW (l.take (i+1))) (i+1)).val=(JT c l a sure b sure i).val;unfold JT;rw [e2];cases decide (i+1 < l.length) <;> rfl
 · have he:i=l.length:=by omega
   have c1:decide ((i:Int) < l.length)=false:=by simp;omega
   have c2:decide (i < l.length)=false:=by simp;omega
   have hl:l.take i=l:=by rw [he];exact List.take_length
   rw [c1,cond_false];refine Qm (Qjt c l a sure b sure i) ?_ rfl;show (JT c l a sure b sure i).val=_;unfold JT Qjt;rw [c2,hn,hl];rfl
noncomputable def Qt2 (env:Env RC) (os:List (Obj RC)):Option (Bool × QrL):=match env,os with
 | [(0,.sl .recd c l),(1,.int .i64 x0),(4,.ptr 0 []),(5,.bool false),(6,.ptr 1 []),(7,.int .i64 x1)],[.var 24 (.acons (.sl .sector true []) (.acons (.sl .sector true []) .anil)),.var 24 (.acons (.sl .sector a now) (.acons (.sl .sector b sure) .anil))]=>QB (true) (decide (x0=(0)) && decide (x1=0) && cdec (OkMd l now sure 0),⟨c,l,a,now,b,sure,0⟩)
 | _,_=>none
noncomputable def uv_4:=uv_3.addLoop 19 7 (sumR s28 [.slot 4 0,.slot 6 0] [0,1,4,5,6,7] Qju Qt2)
theorem Qov:Qi Tryz.prog s28 uv_4:=by
 refine Qot.addRoundsR Qb (by kernel_rfl) Qju 100 [0,1,4,5,6,7] [5] [.slot 4 0,.slot 6 0] [0,1,4,5,6,7] Qt2 (fun q hI=>?_) ?_
 · obtain ⟨c,l,a,now,b,sure,i⟩:=q;refine ⟨?_,?_,Qou c l a now b sure i hI⟩
   · simp_all [Qj,Qju,Qt1,Qjt,Qbu,D.refs,Obj.refs,rEnc]
   · simp_all [Qju,JT,Qjt,Qbu,RT.refsOK,Qj,D.refs,Obj.refs,rEnc]
 · intro env os b q hd_ hb;unfold Qt2 at hd_
   split at hd_
   · obtain ⟨hs,hd_⟩:=Qg hd_;cases hd_;simp only [Bool.and_eq_true,decide_eq_true_eq] at hb;obtain ⟨⟨rfl,rfl⟩,h1⟩:=hb;exact ⟨ZN.1 h1,rfl,rfl⟩
   · cases hd_
def OkMf (l:List Rec):Prop:=seqW l /\ l.length <= 32
noncomputable def Qvo (c:Bool) (l:List Rec):Option (Bool × D RC):=some (cdec (OkMf l),.tup (.acons (.acons (.sl (C:=RC) .sector false (layW l)) (.acons (.sl (C:=RC) .sector false (layW l)) .anil)) (.acons (.bool true) .anil)))
noncomputable def QrM:List (D RC)->Option (Bool × D RC)
 | [.sl .recd c l,.int .i64 0]=>Qvo c l
 | _=>none
noncomputable def Qvp (c:Bool) (l:List Rec):=evFW s28 uv_4 100 19 [.sl (C:=RC) .recd c l,.int .i64 0]
theorem Qvq (c:Bool) (l:List Rec):Qvp c l=(let Z0:Nat:=List.length l;let Z1:List Sector:=List.replicate (33:Nat) (Sector.mk (0:Int) []);let Z2:D RC:=D.sl RTy.sector false Z1;let Z3:DO_:=some (D.tup (D.acons (D.acons Z2 (D.acons Z2 .anil)) (.acons (D.bool false) .anil)));let Z4:D RC:=D.sl RTy.sector false (layW l);bif decide (Z0 <= (1000:Nat)) && List.all l fun (r:Rec)=>Qh r.writes.length then bif (bif Qag l Z0 (0:Nat) then (0:Int) else (2:Int)) != (0:Int) then Z3 else bif Qh Z0 then bif decide ((100:Int) < (↑Z0:Int)) then Z3 else bif Qh Z0 then bif decide ((bif decide ((↑Z0:Int) <= (0:Int)) then (0:Int) else (0:Int))=(0:Int)) && true && cdec (OkMd l Z1 Z1 (0:Nat)) then some (D.tup (D.acons (D.acons Z4 (D.acons Z4 .anil)) (.acons (D.bool true) .anil))) else none else none else none else none):=by kernel_rfl
theorem Qvr (c:Bool) (l:List Rec) (h:(cdec (OkMf l))=true):Qvp c l=some (.tup (.acons (.acons (.sl (C:=RC) .sector false (layW l)) (.acons (.sl (C:=RC) .sector false (layW l)) .anil)) (.acons (.bool true) .anil))):=by
 (rw [Qvq];conv=>zeta)
 obtain ⟨hq,h32⟩:=ZN.1 h
 have hw:(l.all fun r=>Qh r.writes.length)=true:=List.all_eq_true.2 fun r hr=>by
  obtain ⟨i,hi,rfl⟩:=List.getElem_of_mem hr;have:=(hq i hi).2;have e:l.getD i rec0=l[i]:=by simp [hi]
  rw [e] at this;exact Qe (Nat.le_trans (JO this) (by decide))
 have lk:Qh l.length=true:=Qe (by omega)
 refine Qa (andT (decide_eq_true (by omega)) hw) ?_
 have hr:=QhU hq l.length 0 (by omega)
 rw [hr];refine Qy rfl (Qa lk (Qy (by simp;omega) (Qa lk (Qa (andT (andT ?_ rfl) (Zf ⟨hq,h32,Nat.zero_le _,rfl,rfl⟩)) rfl))))
 cases decide ((l.length:Int) <= 0) <;> rfl
noncomputable def uv_5:=uv_4.addSpec 19 QrM
theorem Qow:Qi Tryz.prog s28 uv_5:=Qov.addEvW Qb fun args d h=>by
 unfold QrM at h
 split at h
 · unfold Qvo at h;have h1:=congrArg Prod.fst (Option.some.inj h);obtain rfl:_=d:=congrArg Prod.snd (Option.some.inj h);exact ⟨by simp [D.refs],100,Qvr _ _ h1⟩
 · cases h
structure QrN where
 sp:Int
 ci:Bool
 it:List Item
 f0:Bool
 l0:List Line
 f1:Bool
 l1:List Line
 f2:Bool
 l2:List Line
 c0:Int
 c1:Int
 c2:Int
 k:Int
 i:Nat
noncomputable def Qt3 (sp:Int) (ci:Bool) (it:List Item) (f0:Bool) (l0:List Line) (f1:Bool) (l1:List Line) (f2:Bool) (l2:List Line) (c0:Int) (c1:Int) (c2:Int) (k:Int) (i:Nat):Env RC:=[(1,.int .i64 k),(2,.ptr 0 []),(4,.ptr 1 []),(5,.bool false),(6,.int .i64 (i:Int))]
def Qjv (sp:Int) (ci:Bool) (it:List Item) (f0:Bool) (l0:List Line) (f1:Bool) (l1:List Line) (f2:Bool) (l2:List Line) (c0:Int) (c1:Int) (c2:Int) (k:Int) (i:Nat):List (Obj RC):=[.var 34 (.acons (.int .i64 sp) (.acons (.sl (C:=RC) .item ci it) (.acons (.acons (.sl (C:=RC) .line f0 l0) (.acons (.sl (C:=RC) .line f1 l1) (.acons (.sl (C:=RC) .line f2 l2) .anil))) (.acons (.arr (C:=RC) .int 3 [c0,c1,c2]) .anil)))),.var 56 (.acons (.int .i64 0) (.acons (.int .i64 0) (.acons (.int .i64 0) .anil)))]
noncomputable def Qvs (sp:Int) (ci:Bool) (it:List Item) (f0:Bool) (l0:List Line) (f1:Bool) (l1:List Line) (f2:Bool) (l2:List Line) (c0:Int) (c1:Int) (c2:Int) (k:Int) (i:Nat):=rndO s28 uv_5 20 2 40 2 [1,2,4,5,6] [5] [.slot 2 0,.slot 4 0] (Qt3 sp ci it f0 l0 f1 l1 f2 l2 c0 c1 c2 k i) (Qjv sp ci it f0 l0 f1 l1 f2 l2 c0 c1 c2 k i)
theorem Qvt (sp:Int) (ci:Bool) (it:List Item) (f0:Bool) (l0:List Line) (f1:Bool) (l1:List Line) (f2:Bool) (l2:List Line) (c0:Int) (c1:Int) (c2:Int) (k:Int) (i:Nat):Qvs sp ci it f0 l0 f1 l1 f2 l2 c0 c1 c2 k i=(let Z0:Int:=(↑i:Int);let Z1:Bool:=decide ((0:Int) <= Z0 /\ Z0 < (↑it.length:Int));let Z2:Item:=List.getD it Z0.toNat (Item.mk (0:Int) (0:Int) (0:Int));let Z3:Option (Obj RC):=some (Obj.var 34 (.acons (D.int .i64 sp) (.acons (D.sl RTy.item ci it) (.acons (D.acons (D.sl RTy.line f0 l0) (.acons (D.sl RTy.line f1 l1) (.acons (D.sl RTy.line f2 l2) .anil))) (.acons (D.arr RTy.int (3:Nat) [c0,c1,c2]) .anil)))));let Z4:D RC:=D.int .i64 0;let Z5:List (Option (Obj RC)):=[Z3,some (Obj.var 56 (.acons Z4 (D.acons Z4 (D.acons Z4 .anil))))];bif Qh it.length then bif decide (Z0 < (↑it.length:Int)) then bif Z1 then bif Item.key Z2 == k then bif Z1 then some ((X.ret,[(5,D.bool true)]),[Z3,some (Obj.var 56 (.acons (D.int .i64 (Item.key Z2)) (.acons (D.int .i64 (Item.place Z2)) (.acons (D.int .i64 (Item.value Z2)) .anil))))]) else none else some ((X.normal,[(1,D.int .i64 k),(2,D.ptr 0 []),(4,D.ptr 1 []),(5,D.bool false),(6,D.int .i64 (IntKind.wrap .i64 (Z0+(1:Int))))]),Z5) else none else some ((X.exit (0:Nat),[(5,D.bool false)]),Z5) else none):=by kernel_rfl
noncomputable def Qbv (sp:Int) (ci:Bool) (it:List Item) (f0:Bool) (l0:List Line) (f1:Bool) (l1:List Line) (f2:Bool) (l2:List Line) (c0:Int) (c1:Int) (c2:Int) (k:Int) (i:Nat):RT RC:=.br (QL (it.drop i) k).isSome (.leaf .ret [(5,.bool true)] [.var 34 (.acons (.int .i64 sp) (.acons (.sl (C:=RC) .item ci it) (.acons (.acons (.sl (C:=RC) .line f0 l0) (.acons (.sl (C:=RC) .line f1 l1) (.acons (.sl (C:=RC) .line f2 l2) .anil))) (.acons (.arr (C:=RC) .int 3 [c0,c1,c2]) .anil)))),.var 56 (.acons (.int .i64 ((QL (it.drop i) k).getD ⟨0,0,0⟩).key) (.acons (.int .i64 ((QL (it.drop i) k).getD ⟨0,0,0⟩).place) (.acons (.int .i64 ((QL (it.drop i) k).getD ⟨0,0,0⟩).value) .anil)))]) (.leaf (.exit 0) [(5,.bool false)] (Qjv sp ci it f0 l0 f1 l1 f2 l2 c0 c1 c2 k i))
def Qbw (sp:Int) (ci:Bool) (it:List Item) (f0:Bool) (l0:List Line) (f1:Bool) (l1:List Line) (f2:Bool) (l2:List Line) (c0:Int) (c1:Int) (c2:Int) (k:Int) (i:Nat):Prop:=i <= it.length /\ it.length <= 1000
noncomputable def Qds:QI RC QrN where
 k:=2
 canon q:=Qt3 q.sp q.ci q.it q.f0 q.l0 q.f1 q.l1 q.f2 q.l2 q.c0 q.c1 q.c2 q.k q.i
 objs q:=Qjv q.sp q.ci q.it q.f0 q.l0 q.f1 q.l1 q.f2 q.l2 q.c0 q.c1 q.c2 q.k q.i
 fin q:=Qbv q.sp q.ci q.it q.f0 q.l0 q.f1 q.l1 q.f2 q.l2 q.c0 q.c1 q.c2 q.k q.i
 Inv q:=Qbw q.sp q.ci q.it q.f0 q.l0 q.f1 q.l1 q.f2 q.l2 q.c0 q.c1 q.c2 q.k q.i
 μ q:=q.it.length - q.i
theorem Qox (sp:Int) (ci:Bool) (it:List Item) (f0:Bool) (l0:List Line) (f1:Bool) (l1:List Line) (f2:Bool) (l2:List Line) (c0:Int) (c1:Int) (c2:Int) (k:Int) (i:Nat) (hI:Qbw sp ci it f0 l0 f1 l1 f2 l2 c0 c1 c2 k i):Leaf (Qvs sp ci it f0 l0 f1 l1 f2 l2 c0 c1 c2 k i) (LedR Qds ⟨sp,ci,it,f0,l0,f1,l1,f2,l2,c0,c1,c2,k,i⟩):=by
 (rw [Qvt];conv=>zeta)
 unfold Qbw at hI;obtain ⟨h1,h2⟩:=hI;have lk:Qh it.length=true:=Qe (by omega)
 rw [lk,cond_true]
 by_cases hlt:i < it.length
 · have w_succ:IntKind.i64.wrap ((i:Int)+1)=((i+1:Nat):Int):=by rw [wrap_id (by omega) (by omega)];simp
   have d_lt:decide ((i:Int) < it.length)=true:=by simp;omega
   have d_in:decide (0 <= (i:Int) /\ (i:Int) < it.length)=true:=by simp;omega
   have t_nat:((i:Int)).toNat=i:=by simp
   simp only [w_succ,d_lt,d_in,t_nat,cond_true];have hd:=Qf8 (k:=k) hlt
   by_cases q:(it.getD i ⟨0,0,0⟩).key=k
   · rw [if_pos q] at hd;simp only [Qkl q,cond_true];exact QO _ (by simp only [Qds,Qbv,hd,RT.val,Option.isSome_some,Option.getD_some,cond_true];rfl) rfl
   · rw [if_neg q] at hd;simp only [Qkm q,cond_false];exact Qp ⟨sp,ci,it,f0,l0,f1,l1,f2,l2,c0,c1,c2,k,i+1⟩ ⟨hlt,h2⟩ (by simp only [Qds];omega) (by simp only [Qds,Qbv,hd];rfl) rfl rfl
 · have hi:i=it.length:=by omega
   subst hi;have z1:decide ((it.length:Int) < it.length)=false:=by simp
   simp only [z1,cond_false];exact Qm (Qjv sp ci it f0 l0 f1 l1 f2 l2 c0 c1 c2 k it.length) (by simp only [Qds,Qbv,Qjr,RT.val,Option.isSome_none,cond_false]) rfl
noncomputable def Qt4 (env:Env RC) (os:List (Obj RC)):Option (Bool × QrN):=match env,os with
 | [(1,.int .i64 k),(2,.ptr 0 []),(4,.ptr 1 []),(5,.bool false),(6,.int .i64 x0)],[.var 34 (.acons (.int .i64 sp) (.acons (.sl .item ci it) (.acons (.acons (.sl .line f0 l0) (.acons (.sl .line f1 l1) (.acons (.sl .line f2 l2) .anil))) (.acons (.arr .int 3 [c0,c1,c2]) .anil)))),.var 56 (.acons (.int .i64 0) (.acons (.int .i64 0) (.acons (.int .i64 0) .anil)))]=>QB (true) (decide (x0=0) && decide (it.length <= 1000),⟨sp,ci,it,f0,l0,f1,l1,f2,l2,c0,c1,c2,k,0⟩)
 | _,_=>none
noncomputable def uv_6:=uv_5.addLoop 20 2 (sumR s28 [.slot 2 0,.slot 4 0] [1,2,4,5,6] Qds Qt4)
theorem Qoy:Qi Tryz.prog s28 uv_6:=by
 refine Qow.addRoundsR Qb (by kernel_rfl) Qds 40 [1,2,4,5,6] [5] [.slot 2 0,.slot 4 0] [1,2,4,5,6] Qt4 (fun q hI=>?_) ?_
 · obtain ⟨sp,ci,it,f0,l0,f1,l1,f2,l2,c0,c1,c2,k,i⟩:=q;refine ⟨?_,?_,Qox sp ci it f0 l0 f1 l1 f2 l2 c0 c1 c2 k i hI⟩
   · simp_all [Qj,Qds,Qt3,Qjv,Qbw,D.refs,Obj.refs,rEnc]
   · simp_all [Qds,Qbv,Qjv,Qbw,RT.refsOK,Qj,D.refs,Obj.refs,rEnc]
 · intro env os b q hd_ hb;unfold Qt4 at hd_
   split at hd_
   · obtain ⟨hs,hd_⟩:=Qg hd_;cases hd_;simp only [Bool.and_eq_true,decide_eq_true_eq] at hb;obtain ⟨rfl,h1⟩:=hb;exact ⟨⟨Nat.zero_le _,h1⟩,rfl,rfl⟩
   · cases hd_
noncomputable def Qvu (sp:Int) (ci:Bool) (it:List Item) (f0:Bool) (l0:List Line) (f1:Bool) (l1:List Line) (f2:Bool) (l2:List Line) (c0:Int) (c1:Int) (c2:Int) (k:Int):Option (Bool × D RC):=some (decide (it.length <= 1000),.tup (.acons (.acons (.int .i64 ((QL it k).getD ⟨0,0,0⟩).key) (.acons (.int .i64 ((QL it k).getD ⟨0,0,0⟩).place) (.acons (.int .i64 ((QL it k).getD ⟨0,0,0⟩).value) .anil))) (.acons (.bool (QL it k).isSome) .anil)))
noncomputable def QrO:List (D RC)->Option (Bool × D RC)
 | [.acons (.int .i64 sp) (.acons (.sl .item ci it) (.acons (.acons (.sl .line f0 l0) (.acons (.sl .line f1 l1) (.acons (.sl .line f2 l2) .anil))) (.acons (.arr .int 3 [c0,c1,c2]) .anil))),.int .i64 k]=>Qvu sp ci it f0 l0 f1 l1 f2 l2 c0 c1 c2 k
 | _=>none
noncomputable def Qvv (sp:Int) (ci:Bool) (it:List Item) (f0:Bool) (l0:List Line) (f1:Bool) (l1:List Line) (f2:Bool) (l2:List Line) (c0:Int) (c1:Int) (c2:Int) (k:Int):=evF s28 uv_6 40 20 [.acons (.int .i64 sp) (.acons (.sl (C:=RC) .item ci it) (.acons (.acons (.sl (C:=RC) .line f0 l0) (.acons (.sl (C:=RC) .line f1 l1) (.acons (.sl (C:=RC) .line f2 l2) .anil))) (.acons (.arr (C:=RC) .int 3 [c0,c1,c2]) .anil))),.int .i64 k]
theorem Qvw (sp:Int) (ci:Bool) (it:List Item) (f0:Bool) (l0:List Line) (f1:Bool) (l1:List Line) (f2:Bool) (l2:List Line) (c0:Int) (c1:Int) (c2:Int) (k:Int):Qvv sp ci it f0 l0 f1 l1 f2 l2 c0 c1 c2 k=(let Z0:Option Item:=QL (List.drop (0:Nat) it) k;let Z1:Item:=Option.getD Z0 (Item.mk (0:Int) (0:Int) (0:Int));let Z2:D RC:=D.int .i64 0;bif decide (List.length it <= (1000:Nat)) then bif Option.isSome Z0 then some (D.tup (D.acons (D.acons (D.int .i64 (Item.key Z1)) (.acons (D.int .i64 (Item.place Z1)) (.acons (D.int .i64 (Item.value Z1)) .anil))) (.acons (D.bool true) .anil))) else some (D.tup (D.acons (D.acons Z2 (D.acons Z2 (D.acons Z2 .anil))) (.acons (D.bool false) .anil))) else none):=by kernel_rfl
theorem Qvx (sp:Int) (ci:Bool) (it:List Item) (f0:Bool) (l0:List Line) (f1:Bool) (l1:List Line) (f2:Bool) (l2:List Line) (c0:Int) (c1:Int) (c2:Int) (k:Int) (h:(decide (it.length <= 1000))=true):Qvv sp ci it f0 l0 f1 l1 f2 l2 c0 c1 c2 k=some (.tup (.acons (.acons (.int .i64 ((QL it k).getD ⟨0,0,0⟩).key) (.acons (.int .i64 ((QL it k).getD ⟨0,0,0⟩).place) (.acons (.int .i64 ((QL it k).getD ⟨0,0,0⟩).value) .anil))) (.acons (.bool (QL it k).isSome) .anil))):=by
 (rw [Qvw];conv=>zeta)
 refine Qa h ?_;rw [List.drop_zero];cases QL it k <;> rfl
noncomputable def uv_7:=uv_6.addSpec 20 QrO
theorem Qoz:Qi Tryz.prog s28 uv_7:=Qoy.addEv Qb fun args d h=>by
 unfold QrO at h
 split at h
 · unfold Qvu at h;have h1:=congrArg Prod.fst (Option.some.inj h);obtain rfl:_=d:=congrArg Prod.snd (Option.some.inj h);exact ⟨by simp [D.refs],40,Qvx _ _ _ _ _ _ _ _ _ _ _ _ _ h1⟩
 · cases h
open Go.Proofs
def OkOw (n:Int) (ws:List Qc) (k:Int) (np nv:Int) (hs:Bool):Prop:=0 <= n /\ n <= 40 /\ ws.length <= 4 /\ ∀ w ∈ ws,w.key=k->hs=true /\ np=n+1 /\ nv=w.value
structure QrP where
 n:Int
 p:Int
 y:Bool
 cw:Bool
 ws:List Qc
 k:Int
 nk:Int
 np:Int
 nv:Int
 hs:Bool
 own:Bool
 i:Nat
noncomputable def Qt5 (n:Int) (p:Int) (y:Bool) (cw:Bool) (ws:List Qc) (k:Int) (nk:Int) (np:Int) (nv:Int) (hs:Bool) (own:Bool) (i:Nat):Env RC:=[(4,.bool false),(6,.int .i64 n),(15,.ptr 0 []),(16,.int .i64 k),(19,.ptr 1 []),(20,.bool hs),(21,.bool own),(22,.int .i64 (i:Int))]
def Qgb (n:Int) (p:Int) (y:Bool) (cw:Bool) (ws:List Qc) (k:Int) (nk:Int) (np:Int) (nv:Int) (hs:Bool) (own:Bool) (i:Nat):List (Obj RC):=[.var 51 (.acons (.int .i64 p) (.acons (.bool y) (.acons (.sl (C:=RC) .write cw ws) .anil))),.var 56 (.acons (.int .i64 nk) (.acons (.int .i64 np) (.acons (.int .i64 nv) .anil)))]
noncomputable def Qvy (n:Int) (p:Int) (y:Bool) (cw:Bool) (ws:List Qc) (k:Int) (nk:Int) (np:Int) (nv:Int) (hs:Bool) (own:Bool) (i:Nat):=rndO s28 uv_7 4 23 40 2 [4,6,15,16,19,20,21,22] [4,21] [.slot 15 0,.slot 19 0] (Qt5 n p y cw ws k nk np nv hs own i) (Qgb n p y cw ws k nk np nv hs own i)
theorem Qvz (n:Int) (p:Int) (y:Bool) (cw:Bool) (ws:List Qc) (k:Int) (nk:Int) (np:Int) (nv:Int) (hs:Bool) (own:Bool) (i:Nat):Qvy n p y cw ws k nk np nv hs own i=(let Z0:Int:=(↑i:Int);let Z1:Bool:=decide ((0:Int) <= Z0 /\ Z0 < (↑ws.length:Int));let Z2:Qc:=List.getD ws Z0.toNat (Qc.mk (0:Int) (0:Int));let Z3:Nat × D RC:=(4,D.bool false);let Z4:List (Option (Obj RC)):=[some (Obj.var 51 (.acons (D.int .i64 p) (.acons (D.bool y) (.acons (D.sl RTy.write cw ws) .anil)))),some (Obj.var 56 (.acons (D.int .i64 nk) (.acons (D.int .i64 np) (.acons (D.int .i64 nv) .anil))))];let Z5:RO_:=some ((X.ret,[Z3,(21,D.bool true)]),Z4);let Z6:Nat × D RC:=(6,D.int .i64 n);let Z7:Nat × D RC:=(15,D.ptr 0 []);let Z8:Nat × D RC:=(16,D.int .i64 k);let Z9:Nat × D RC:=(19,D.ptr 1 []);let Z10:List (Nat × D RC):=[(22,D.int .i64 (IntKind.wrap .i64 (Z0+(1:Int))))];bif Qh ws.length then bif decide (Z0 < (↑ws.length:Int)) then bif Z1 then bif Qc.key Z2 == k then bif !hs then Z5 else bif np != IntKind.wrap .i64 (n+1) then Z5 else bif Z1 then bif nv != Qc.value Z2 then Z5 else some ((X.normal,Z3::Z6::Z7::Z8::Z9::(20,D.bool hs)::(21,D.bool true)::Z10),Z4) else none else some ((X.normal,Z3::Z6::Z7::Z8::Z9::(20,D.bool hs)::(21,D.bool own)::Z10),Z4) else none else some ((X.exit (4:Nat),[Z3,(21,D.bool own)]),Z4) else none):=by kernel_rfl
noncomputable def V3 (n:Int) (p:Int) (y:Bool) (cw:Bool) (ws:List Qc) (k:Int) (nk:Int) (np:Int) (nv:Int) (hs:Bool) (own:Bool) (i:Nat):RT RC:=.leaf (.exit 4) [(4,.bool false),(21,.bool (own || (ws.drop i).any fun w=>decide (w.key=k)))] (Qgb n p y cw ws k nk np nv hs own i)
def Qbx (n:Int) (p:Int) (y:Bool) (cw:Bool) (ws:List Qc) (k:Int) (nk:Int) (np:Int) (nv:Int) (hs:Bool) (own:Bool) (i:Nat):Prop:=OkOw n ws k np nv hs /\ i <= ws.length
noncomputable def Qgc:QI RC QrP where
 k:=2
 canon q:=Qt5 q.n q.p q.y q.cw q.ws q.k q.nk q.np q.nv q.hs q.own q.i
 objs q:=Qgb q.n q.p q.y q.cw q.ws q.k q.nk q.np q.nv q.hs q.own q.i
 fin q:=V3 q.n q.p q.y q.cw q.ws q.k q.nk q.np q.nv q.hs q.own q.i
 Inv q:=Qbx q.n q.p q.y q.cw q.ws q.k q.nk q.np q.nv q.hs q.own q.i
 μ q:=q.ws.length - q.i
theorem QoA (n:Int) (p:Int) (y:Bool) (cw:Bool) (ws:List Qc) (k:Int) (nk:Int) (np:Int) (nv:Int) (hs:Bool) (own:Bool) (i:Nat) (hI:Qbx n p y cw ws k nk np nv hs own i):Leaf (Qvy n p y cw ws k nk np nv hs own i) (LedR Qgc ⟨n,p,y,cw,ws,k,nk,np,nv,hs,own,i⟩):=by
 (rw [Qvz];conv=>zeta)
 unfold Qbx at hI;obtain ⟨⟨n0,n1,w4,hw⟩,hi⟩:=hI;have lk:Qh ws.length=true:=Qe (by omega)
 have hfin:∀ b:Bool,(own || (ws.drop i).any fun w=>decide (w.key=k))=b->(V3 n p y cw ws k nk np nv hs own i).val=some ((.exit 4,[(4,.bool false),(21,.bool b)]),Qgb n p y cw ws k nk np nv hs own i):=fun b hb=>by subst hb;rfl
 rw [lk,cond_true]
 by_cases hlt:i < ws.length
 · have w_succ:IntKind.i64.wrap ((i:Int)+1)=((i+1:Nat):Int):=by rw [wrap_id (by omega) (by omega)];simp
   have d_lt:decide ((i:Int) < ws.length)=true:=by simp;omega
   have d_in:decide (0 <= (i:Int) /\ (i:Int) < ws.length)=true:=by simp;omega
   have t_nat:((i:Int)).toNat=i:=by simp
   simp only [w_succ,d_lt,d_in,t_nat,cond_true]
   have hd:(ws.drop i).any (fun w=>decide (w.key=k))=(decide ((ws.getD i ⟨0,0⟩).key=k) || (ws.drop (i+1)).any fun w=>decide (w.key=k)):=by
    rw [List.drop_eq_getElem_cons hlt,List.any_cons];simp [hlt]
   have hmem:ws.getD i ⟨0,0⟩ ∈ ws:=by
    have:ws.getD i ⟨0,0⟩=ws[i]:=by simp [hlt]
    rw [this];exact List.getElem_mem hlt
   have w1:IntKind.i64.wrap (n+1)=n+1:=wrap_id (by omega) (by omega)
   rw [hd] at hfin;have hw1:=hw _ hmem;generalize ws.getD i ⟨0,0⟩=x at *
   by_cases q:x.key=k
   · obtain ⟨e1,e2,e3⟩:=hw1 q;subst e1;have b1:(np != n+1)=false:=Qsx e2;have b2:(nv != x.value)=false:=Qsx e3;simp only [Qkl q,w1,b1,b2,Bool.not_true,cond_true,cond_false];refine Qp (S:=Qgc) (s:=⟨n,p,y,cw,ws,k,nk,np,nv,true,own,i⟩) ⟨n,p,y,cw,ws,k,nk,np,nv,true,true,i+1⟩ ⟨⟨n0,n1,w4,hw⟩,hlt⟩ (show ws.length - (i+1) < ws.length - i by omega) ?_ rfl rfl
     show (V3 n p y cw ws k nk np nv true true (i+1)).val=(V3 n p y cw ws k nk np nv true own i).val;rw [hfin true (by rw [decide_eq_true q];simp)]
     unfold V3;rw [Bool.true_or];rfl
   · simp only [Qkm q,cond_false];refine Qp (S:=Qgc) (s:=⟨n,p,y,cw,ws,k,nk,np,nv,hs,own,i⟩) ⟨n,p,y,cw,ws,k,nk,np,nv,hs,own,i+1⟩ ⟨⟨n0,n1,w4,hw⟩,hlt⟩ (show ws.length - (i+1) < ws.length - i by omega) ?_ rfl rfl
     show (V3 n p y cw ws k nk np nv hs own (i+1)).val=(V3 n p y cw ws k nk np nv hs own i).val;rw [hfin _ rfl,decide_eq_false q,Bool.false_or];rfl
 · have he:i=ws.length:=by omega
   have z1:decide ((i:Int) < ws.length)=false:=by simp;omega
   rw [z1,cond_false];exact Qm (Qgb n p y cw ws k nk np nv hs own i) (hfin own (by rw [he,List.drop_length];simp)) rfl
noncomputable def Qt6 (env:Env RC) (os:List (Obj RC)):Option (Bool × QrP):=match env,os with
 | [(4,.bool false),(6,.int .i64 n),(15,.ptr 0 []),(16,.int .i64 k),(19,.ptr 1 []),(20,.bool hs),(21,.bool own),(22,.int .i64 x0)],[.var 51 (.acons (.int .i64 p) (.acons (.bool y) (.acons (.sl .write cw ws) .anil))),.var 56 (.acons (.int .i64 nk) (.acons (.int .i64 np) (.acons (.int .i64 nv) .anil)))]=>QB (true) (decide (x0=0) && cdec (OkOw n ws k np nv hs),⟨n,p,y,cw,ws,k,nk,np,nv,hs,own,0⟩)
 | _,_=>none
noncomputable def uw_1:=uv_7.addLoop 4 23 (sumR s28 [.slot 15 0,.slot 19 0] [4,6,15,16,19,20,21,22] Qgc Qt6)
theorem QoB:Qi Tryz.prog s28 uw_1:=by
 refine Qoz.addRoundsR Qb (by kernel_rfl) Qgc 40 [4,6,15,16,19,20,21,22] [4,21] [.slot 15 0,.slot 19 0] [4,6,15,16,19,20,21,22] Qt6 (fun q hI=>?_) ?_
 · obtain ⟨n,p,y,cw,ws,k,nk,np,nv,hs,own,i⟩:=q;refine ⟨?_,?_,QoA n p y cw ws k nk np nv hs own i hI⟩
   · simp_all [Qj,Qgc,Qt5,Qgb,Qbx,D.refs,Obj.refs,rEnc]
   · simp_all [Qgc,V3,Qgb,Qbx,RT.refsOK,Qj,D.refs,Obj.refs,rEnc]
 · intro env os b q hd_ hb;unfold Qt6 at hd_
   split at hd_
   · obtain ⟨hs,hd_⟩:=Qg hd_;cases hd_;simp only [Bool.and_eq_true,decide_eq_true_eq] at hb;obtain ⟨rfl,h1⟩:=hb;exact ⟨⟨ZN.1 h1,Nat.zero_le _⟩,rfl,rfl⟩
   · cases hd_
def OkKs (n:Int) (xi yi:List Item) (ws:List Qc):Prop:=0 <= n /\ n <= 40 /\ ws.length <= 4 /\ xi.length <= 1000 /\ yi.length <= 1000 /\ (∀ w ∈ ws,QL yi w.key=some ⟨w.key,n+1,w.value⟩) /\ (∀ k:Int,(ws.any fun w=>decide (w.key=k))=false->QL yi k=QL xi k)
structure QrQ where
 n:Int
 xp:Int
 xf:Bool
 xi:List Item
 uf0:Bool
 u0:List Line
 uf1:Bool
 u1:List Line
 uf2:Bool
 u2:List Line
 xa:Int
 xb:Int
 xd:Int
 yp:Int
 yf:Bool
 yi:List Item
 vf0:Bool
 v0:List Line
 vf1:Bool
 v1:List Line
 vf2:Bool
 v2:List Line
 ya:Int
 yb:Int
 yd:Int
 p:Int
 yy:Bool
 cw:Bool
 ws:List Qc
 k:Nat
noncomputable def Qqt (n:Int) (xp:Int) (xf:Bool) (xi:List Item) (uf0:Bool) (u0:List Line) (uf1:Bool) (u1:List Line) (uf2:Bool) (u2:List Line) (xa:Int) (xb:Int) (xd:Int) (yp:Int) (yf:Bool) (yi:List Item) (vf0:Bool) (v0:List Line) (vf1:Bool) (v1:List Line) (vf2:Bool) (v2:List Line) (ya:Int) (yb:Int) (yd:Int) (p:Int) (yy:Bool) (cw:Bool) (ws:List Qc) (k:Nat):Env RC:=[(4,.bool false),(6,.int .i64 n),(11,.ptr 0 []),(13,.ptr 1 []),(15,.ptr 2 []),(16,.int .i64 (k:Int))]
def Qgd (n:Int) (xp:Int) (xf:Bool) (xi:List Item) (uf0:Bool) (u0:List Line) (uf1:Bool) (u1:List Line) (uf2:Bool) (u2:List Line) (xa:Int) (xb:Int) (xd:Int) (yp:Int) (yf:Bool) (yi:List Item) (vf0:Bool) (v0:List Line) (vf1:Bool) (v1:List Line) (vf2:Bool) (v2:List Line) (ya:Int) (yb:Int) (yd:Int) (p:Int) (yy:Bool) (cw:Bool) (ws:List Qc) (k:Nat):List (Obj RC):=[.var 34 (.acons (.int .i64 xp) (.acons (.sl (C:=RC) .item xf xi) (.acons (.acons (.sl (C:=RC) .line uf0 u0) (.acons (.sl (C:=RC) .line uf1 u1) (.acons (.sl (C:=RC) .line uf2 u2) .anil))) (.acons (.arr (C:=RC) .int 3 [xa,xb,xd]) .anil)))),.var 34 (.acons (.int .i64 yp) (.acons (.sl (C:=RC) .item yf yi) (.acons (.acons (.sl (C:=RC) .line vf0 v0) (.acons (.sl (C:=RC) .line vf1 v1) (.acons (.sl (C:=RC) .line vf2 v2) .anil))) (.acons (.arr (C:=RC) .int 3 [ya,yb,yd]) .anil)))),.var 51 (.acons (.int .i64 p) (.acons (.bool yy) (.acons (.sl (C:=RC) .write cw ws) .anil)))]
noncomputable def QvA (n:Int) (xp:Int) (xf:Bool) (xi:List Item) (uf0:Bool) (u0:List Line) (uf1:Bool) (u1:List Line) (uf2:Bool) (u2:List Line) (xa:Int) (xb:Int) (xd:Int) (yp:Int) (yf:Bool) (yi:List Item) (vf0:Bool) (v0:List Line) (vf1:Bool) (v1:List Line) (vf2:Bool) (v2:List Line) (ya:Int) (yb:Int) (yd:Int) (p:Int) (yy:Bool) (cw:Bool) (ws:List Qc) (k:Nat):=rndO s28 uw_1 4 17 100 3 [4,6,11,13,15,16] [] [.slot 11 0,.slot 13 0,.slot 15 0] (Qqt n xp xf xi uf0 u0 uf1 u1 uf2 u2 xa xb xd yp yf yi vf0 v0 vf1 v1 vf2 v2 ya yb yd p yy cw ws k) (Qgd n xp xf xi uf0 u0 uf1 u1 uf2 u2 xa xb xd yp yf yi vf0 v0 vf1 v1 vf2 v2 ya yb yd p yy cw ws k)
theorem QvB (n:Int) (xp:Int) (xf:Bool) (xi:List Item) (uf0:Bool) (u0:List Line) (uf1:Bool) (u1:List Line) (uf2:Bool) (u2:List Line) (xa:Int) (xb:Int) (xd:Int) (yp:Int) (yf:Bool) (yi:List Item) (vf0:Bool) (v0:List Line) (vf1:Bool) (v1:List Line) (vf2:Bool) (v2:List Line) (ya:Int) (yb:Int) (yd:Int) (p:Int) (yy:Bool) (cw:Bool) (ws:List Qc) (k:Nat):QvA n xp xf xi uf0 u0 uf1 u1 uf2 u2 xa xb xd yp yf yi vf0 v0 vf1 v1 vf2 v2 ya yb yd p yy cw ws k=(let Z0:Int:=(↑k:Int);let Z1:Item:=Item.mk (0:Int) (0:Int) (0:Int);let Z2:Item:=Option.getD (QL yi Z0) Z1;let Z3:Bool:=Option.isSome (QL yi Z0);let Z4:D RC:=.anil;let Z5:List (Option (Obj RC)):=[some (Obj.var 34 (.acons (D.int .i64 xp) (.acons (D.sl RTy.item xf xi) (.acons (D.acons (D.sl RTy.line uf0 u0) (.acons (D.sl RTy.line uf1 u1) (.acons (D.sl RTy.line uf2 u2) Z4))) (.acons (D.arr RTy.int (3:Nat) [xa,xb,xd]) Z4))))),some (Obj.var 34 (.acons (D.int .i64 yp) (.acons (D.sl RTy.item yf yi) (.acons (D.acons (D.sl RTy.line vf0 v0) (.acons (D.sl RTy.line vf1 v1) (.acons (D.sl RTy.line vf2 v2) Z4))) (.acons (D.arr RTy.int (3:Nat) [ya,yb,yd]) Z4))))),some (Obj.var 51 (.acons (D.int .i64 p) (.acons (D.bool yy) (.acons (D.sl RTy.write cw ws) Z4))))];let Z6:Item:=Option.getD (QL xi Z0) Z1;let Z7:RO_:=some ((X.normal,[(4,D.bool false),(6,D.int .i64 n),(11,D.ptr 0 []),(13,D.ptr 1 []),(15,D.ptr 2 []),(16,D.int .i64 (IntKind.wrap .i64 (Z0+(1:Int))))]),Z5);bif decide (Z0 < (24:Int)) then bif decide (List.length xi <= (1000:Nat)) then bif decide (List.length yi <= (1000:Nat)) then bif cdec (OkOw n ws Z0 (Item.place Z2) (Item.value Z2) Z3) then bif !(false || List.any (List.drop (0:Nat) ws) fun (w:Qc)=>decide (Qc.key w=Z0)) then bif !Option.isSome (QL xi Z0) == Z3 then some ((X.ret,[]),Z5) else bif !(Item.key Z6 == Item.key Z2 && (Item.place Z6 == Item.place Z2 && (Item.value Z6 == Item.value Z2 && true))) then some ((X.ret,[]),Z5) else Z7 else Z7 else none else none else none else some ((X.exit (2:Nat),[]),Z5)):=by kernel_rfl
noncomputable def QoC (n:Int) (xp:Int) (xf:Bool) (xi:List Item) (uf0:Bool) (u0:List Line) (uf1:Bool) (u1:List Line) (uf2:Bool) (u2:List Line) (xa:Int) (xb:Int) (xd:Int) (yp:Int) (yf:Bool) (yi:List Item) (vf0:Bool) (v0:List Line) (vf1:Bool) (v1:List Line) (vf2:Bool) (v2:List Line) (ya:Int) (yb:Int) (yd:Int) (p:Int) (yy:Bool) (cw:Bool) (ws:List Qc) (k:Nat):RT RC:=.leaf (.exit 2) [] (Qgd n xp xf xi uf0 u0 uf1 u1 uf2 u2 xa xb xd yp yf yi vf0 v0 vf1 v1 vf2 v2 ya yb yd p yy cw ws k)
def KV (n:Int) (xp:Int) (xf:Bool) (xi:List Item) (uf0:Bool) (u0:List Line) (uf1:Bool) (u1:List Line) (uf2:Bool) (u2:List Line) (xa:Int) (xb:Int) (xd:Int) (yp:Int) (yf:Bool) (yi:List Item) (vf0:Bool) (v0:List Line) (vf1:Bool) (v1:List Line) (vf2:Bool) (v2:List Line) (ya:Int) (yb:Int) (yd:Int) (p:Int) (yy:Bool) (cw:Bool) (ws:List Qc) (k:Nat):Prop:=OkKs n xi yi ws /\ k <= 24
noncomputable def Qge:QI RC QrQ where
 k:=3
 canon q:=Qqt q.n q.xp q.xf q.xi q.uf0 q.u0 q.uf1 q.u1 q.uf2 q.u2 q.xa q.xb q.xd q.yp q.yf q.yi q.vf0 q.v0 q.vf1 q.v1 q.vf2 q.v2 q.ya q.yb q.yd q.p q.yy q.cw q.ws q.k
 objs q:=Qgd q.n q.xp q.xf q.xi q.uf0 q.u0 q.uf1 q.u1 q.uf2 q.u2 q.xa q.xb q.xd q.yp q.yf q.yi q.vf0 q.v0 q.vf1 q.v1 q.vf2 q.v2 q.ya q.yb q.yd q.p q.yy q.cw q.ws q.k
 fin q:=QoC q.n q.xp q.xf q.xi q.uf0 q.u0 q.uf1 q.u1 q.uf2 q.u2 q.xa q.xb q.xd q.yp q.yf q.yi q.vf0 q.v0 q.vf1 q.v1 q.vf2 q.v2 q.ya q.yb q.yd q.p q.yy q.cw q.ws q.k
 Inv q:=KV q.n q.xp q.xf q.xi q.uf0 q.u0 q.uf1 q.u1 q.uf2 q.u2 q.xa q.xb q.xd q.yp q.yf q.yi q.vf0 q.v0 q.vf1 q.v1 q.vf2 q.v2 q.ya q.yb q.yd q.p q.yy q.cw q.ws q.k
 μ q:=24 - q.k
theorem QoD (n:Int) (xp:Int) (xf:Bool) (xi:List Item) (uf0:Bool) (u0:List Line) (uf1:Bool) (u1:List Line) (uf2:Bool) (u2:List Line) (xa:Int) (xb:Int) (xd:Int) (yp:Int) (yf:Bool) (yi:List Item) (vf0:Bool) (v0:List Line) (vf1:Bool) (v1:List Line) (vf2:Bool) (v2:List Line) (ya:Int) (yb:Int) (yd:Int) (p:Int) (yy:Bool) (cw:Bool) (ws:List Qc) (k:Nat) (hI:KV n xp xf xi uf0 u0 uf1 u1 uf2 u2 xa xb xd yp yf yi vf0 v0 vf1 v1 vf2 v2 ya yb yd p yy cw ws k):Leaf (QvA n xp xf xi uf0 u0 uf1 u1 uf2 u2 xa xb xd yp yf yi vf0 v0 vf1 v1 vf2 v2 ya yb yd p yy cw ws k) (LedR Qge ⟨n,xp,xf,xi,uf0,u0,uf1,u1,uf2,u2,xa,xb,xd,yp,yf,yi,vf0,v0,vf1,v1,vf2,v2,ya,yb,yd,p,yy,cw,ws,k⟩):=by
 (rw [QvB];conv=>zeta)
 unfold KV at hI;obtain ⟨hK,hk⟩:=hI;have hK0:=hK;obtain ⟨n0,n1,w4,lx,ly,hown,hels⟩:=hK
 by_cases h24:k < 24
 · have w1:IntKind.i64.wrap ((k:Int)+1)=((k+1:Nat):Int):=by rw [wrap_id (by omega) (by omega)];simp
   have d1:decide ((k:Int) < 24)=true:=decide_eq_true (by omega)
   have hgo:Leaf (some ((X.normal,Qqt n xp xf xi uf0 u0 uf1 u1 uf2 u2 xa xb xd yp yf yi vf0 v0 vf1 v1 vf2 v2 ya yb yd p yy cw ws (k+1)),(Qgd n xp xf xi uf0 u0 uf1 u1 uf2 u2 xa xb xd yp yf yi vf0 v0 vf1 v1 vf2 v2 ya yb yd p yy cw ws (k+1)).map some)) (LedR Qge ⟨n,xp,xf,xi,uf0,u0,uf1,u1,uf2,u2,xa,xb,xd,yp,yf,yi,vf0,v0,vf1,v1,vf2,v2,ya,yb,yd,p,yy,cw,ws,k⟩) :=
    Qp (S:=Qge) (s:=⟨n,xp,xf,xi,uf0,u0,uf1,u1,uf2,u2,xa,xb,xd,yp,yf,yi,vf0,v0,vf1,v1,vf2,v2,ya,yb,yd,p,yy,cw,ws,k⟩) ⟨n,xp,xf,xi,uf0,u0,uf1,u1,uf2,u2,xa,xb,xd,yp,yf,yi,vf0,v0,vf1,v1,vf2,v2,ya,yb,yd,p,yy,cw,ws,k+1⟩ (show KV n xp xf xi uf0 u0 uf1 u1 uf2 u2 xa xb xd yp yf yi vf0 v0 vf1 v1 vf2 v2 ya yb yd p yy cw ws (k+1) from ⟨hK0,h24⟩) (show 24 - (k+1) < 24 - k by omega) rfl rfl rfl
   have hO:OkOw n ws (k:Int) ((QL yi (k:Int)).getD ⟨0,0,0⟩).place ((QL yi (k:Int)).getD ⟨0,0,0⟩).value (QL yi (k:Int)).isSome:=⟨n0,n1,w4,fun w hw e=>by
    have:=hown w hw;rw [e] at this;rw [this];exact ⟨rfl,rfl,rfl⟩⟩
   simp only [d1,decide_eq_true lx,decide_eq_true ly,Zf hO,w1,cond_true,List.drop_zero,Bool.false_or];cases ha:ws.any fun w=>decide (w.key=(k:Int))
   · rw [hels k ha];simp only [Bool.not_false,cond_true,beq_self_eq_true,Bool.not_true,Bool.and_self,cond_false];exact hgo
   · simp only [Bool.not_true,cond_false];exact hgo
 · have d1:decide ((k:Int) < 24)=false:=decide_eq_false (by omega)
   rw [d1,cond_false];exact Qm (Qgd n xp xf xi uf0 u0 uf1 u1 uf2 u2 xa xb xd yp yf yi vf0 v0 vf1 v1 vf2 v2 ya yb yd p yy cw ws k) rfl rfl
noncomputable def Qt7 (env:Env RC) (os:List (Obj RC)):Option (Bool × QrQ):=match env,os with
 | [(4,.bool false),(6,.int .i64 n),(11,.ptr 0 []),(13,.ptr 1 []),(15,.ptr 2 []),(16,.int .i64 x0)],[.var 34 (.acons (.int .i64 xp) (.acons (.sl .item xf xi) (.acons (.acons (.sl .line uf0 u0) (.acons (.sl .line uf1 u1) (.acons (.sl .line uf2 u2) .anil))) (.acons (.arr .int 3 [xa,xb,xd]) .anil)))),.var 34 (.acons (.int .i64 yp) (.acons (.sl .item yf yi) (.acons (.acons (.sl .line vf0 v0) (.acons (.sl .line vf1 v1) (.acons (.sl .line vf2 v2) .anil))) (.acons (.arr .int 3 [ya,yb,yd]) .anil)))),.var 51 (.acons (.int .i64 p) (.acons (.bool yy) (.acons (.sl .write cw ws) .anil)))]=>QB (true) (decide (x0=0) && cdec (OkKs n xi yi ws),⟨n,xp,xf,xi,uf0,u0,uf1,u1,uf2,u2,xa,xb,xd,yp,yf,yi,vf0,v0,vf1,v1,vf2,v2,ya,yb,yd,p,yy,cw,ws,0⟩)
 | _,_=>none
noncomputable def uw_2:=uw_1.addLoop 4 17 (sumR s28 [.slot 11 0,.slot 13 0,.slot 15 0] [4,6,11,13,15,16] Qge Qt7)
theorem QoE:Qi Tryz.prog s28 uw_2:=by
 refine QoB.addRoundsR Qb (by kernel_rfl) Qge 100 [4,6,11,13,15,16] [] [.slot 11 0,.slot 13 0,.slot 15 0] [4,6,11,13,15,16] Qt7 (fun q hI=>?_) ?_
 · obtain ⟨n,xp,xf,xi,uf0,u0,uf1,u1,uf2,u2,xa,xb,xd,yp,yf,yi,vf0,v0,vf1,v1,vf2,v2,ya,yb,yd,p,yy,cw,ws,k⟩:=q;refine ⟨?_,?_,QoD n xp xf xi uf0 u0 uf1 u1 uf2 u2 xa xb xd yp yf yi vf0 v0 vf1 v1 vf2 v2 ya yb yd p yy cw ws k hI⟩
   · simp_all [Qj,Qge,Qqt,Qgd,KV,D.refs,Obj.refs,rEnc]
   · simp_all [Qge,QoC,Qgd,KV,RT.refsOK,Qj,D.refs,Obj.refs,rEnc]
 · intro env os b q hd_ hb;unfold Qt7 at hd_
   split at hd_
   · obtain ⟨hs,hd_⟩:=Qg hd_;cases hd_;simp only [Bool.and_eq_true,decide_eq_true_eq] at hb;obtain ⟨rfl,h1⟩:=hb;exact ⟨⟨ZN.1 h1,Nat.zero_le _⟩,rfl,rfl⟩
   · cases hd_
def OkOu (l:List Rec) (out:Int) (now sure:List Sector) (i:Nat):Prop:=seqW l /\ l.length <= 32 /\ i <= l.length /\ 0 <= out /\ OutI i now /\ sure=Qo
structure QrR where
 c:Bool
 l:List Rec
 out:Int
 a:Bool
 now:List Sector
 b:Bool
 sure:List Sector
 i:Nat
noncomputable def Qt8 (c:Bool) (l:List Rec) (out:Int) (a:Bool) (now:List Sector) (b:Bool) (sure:List Sector) (i:Nat):Env RC:=[(0,.sl (C:=RC) .recd c l),(1,.int .i64 out),(23,.ptr 0 []),(24,.int .i64 (i:Int))]
def Qjw (c:Bool) (l:List Rec) (out:Int) (a:Bool) (now:List Sector) (b:Bool) (sure:List Sector) (i:Nat):List (Obj RC):=[.var 24 (.acons (.sl (C:=RC) .sector a now) (.acons (.sl (C:=RC) .sector b sure) .anil))]
noncomputable def QvC (c:Bool) (l:List Rec) (out:Int) (a:Bool) (now:List Sector) (b:Bool) (sure:List Sector) (i:Nat):=rndO s28 uw_2 4 34 100 1 [0,1,23,24] [] [.slot 23 0] (Qt8 c l out a now b sure i) (Qjw c l out a now b sure i)
theorem QvD (c:Bool) (l:List Rec) (out:Int) (a:Bool) (now:List Sector) (b:Bool) (sure:List Sector) (i:Nat):QvC c l out a now b sure i=(let Z0:Int:=(↑i:Int);let Z1:Rec:=List.getD l Z0.toNat (Rec.mk (0:Int) false []);let Z2:X × Env RC:=(X.normal,[(0,D.sl RTy.recd c l),(1,D.int .i64 out),(23,D.ptr 0 []),(24,D.int .i64 (IntKind.wrap .i64 (Z0+(1:Int))))]);let Z3:Int:=Rec.place Z1;let Z4:List UInt8:=entL (Rec.mk Z3 Z1.yes Z1.writes);let Z5:Bool := !Ze now sure (secI Z3) Z3 Z4;let Z6:List (Option (Obj RC)):=[some (Obj.var 24 (.acons (D.sl RTy.sector a now) (.acons (D.sl RTy.sector b sure) .anil)))];bif Qh l.length then bif decide (Z0 < (↑l.length:Int)) then bif Z0 != out then bif decide ((0:Int) <= Z0 /\ Z0 < (↑l.length:Int)) then bif Qs now && Qs sure && Qh Z1.writes.length then some (Z2,[some (Obj.var 24 (.acons (D.sl RTy.sector Z5 (pNow now sure (secI Z3) Z3 Z4)) (.acons (D.sl RTy.sector Z5 (Vs now sure (secI Z3) Z3 Z4)) .anil)))]) else none else none else some (Z2,Z6) else some ((X.exit (6:Nat),[]),Z6) else none):=by kernel_rfl
noncomputable def YM (c:Bool) (l:List Rec) (out:Int) (a:Bool) (now:List Sector) (b:Bool) (sure:List Sector) (i:Nat):RT RC:=.leaf (.exit 6) [] [.var 24 (.acons (.sl (C:=RC) .sector (bif Qdp out.toNat (l.length - i) i then false else a) (layO out.toNat i (l.drop i) now)) (.acons (.sl (C:=RC) .sector (bif Qdp out.toNat (l.length - i) i then false else b) sure) .anil))]
def Qby (c:Bool) (l:List Rec) (out:Int) (a:Bool) (now:List Sector) (b:Bool) (sure:List Sector) (i:Nat):Prop:=OkOu l out now sure i
noncomputable def Qgf:QI RC QrR where
 k:=1
 canon q:=Qt8 q.c q.l q.out q.a q.now q.b q.sure q.i
 objs q:=Qjw q.c q.l q.out q.a q.now q.b q.sure q.i
 fin q:=YM q.c q.l q.out q.a q.now q.b q.sure q.i
 Inv q:=Qby q.c q.l q.out q.a q.now q.b q.sure q.i
 μ q:=q.l.length - q.i
theorem QoF (c:Bool) (l:List Rec) (out:Int) (a:Bool) (now:List Sector) (b:Bool) (sure:List Sector) (i:Nat) (hI:Qby c l out a now b sure i):Leaf (QvC c l out a now b sure i) (LedR Qgf ⟨c,l,out,a,now,b,sure,i⟩):=by
 (rw [QvD];conv=>zeta)
 unfold Qby at hI;obtain ⟨hq,h32,hi,o0,hO,hsu⟩:=hI;subst hsu;have lk:Qh l.length=true:=Qe (by omega)
 rw [lk,cond_true]
 by_cases hlt:i < l.length
 · have w1:IntKind.i64.wrap ((i:Int)+1)=((i+1:Nat):Int):=by rw [wrap_id (by omega) (by omega)];simp
   have d1:decide ((i:Int) < l.length)=true:=by simp;omega
   have d2:decide (0 <= (i:Int) /\ (i:Int) < l.length)=true:=by simp;omega
   have t1:((i:Int)).toNat=i:=by simp
   obtain ⟨hp,hm⟩:=hq i hlt;have hd:l.drop i=l.getD i ⟨0,false,[]⟩::l.drop (i+1):=by rw [List.drop_eq_getElem_cons hlt];simp [hlt]
   have hn:l.length - i=(l.length - (i+1))+1:=by omega
   unfold rec0 at hp hm;have hww:Qh (l.getD i ⟨0,false,[]⟩).writes.length=true:=Qe (Nat.le_trans (JO hm) (by decide))
   obtain ⟨g1,g2⟩:=ZH hO.disk;obtain ⟨k1,k2,k3⟩:=hO.pPut hp hm;have hfin:∀ (x y:Bool) (D:List Sector),(bif Qdp out.toNat (l.length - i) i then false else a)=x->(bif Qdp out.toNat (l.length - i) i then false else b)=y->layO out.toNat i (l.drop i) now=D->(YM c l out a now b Qo i).val=some ((.exit 6,[]),[.var 24 (.acons (.sl (C:=RC) .sector x D) (.acons (.sl (C:=RC) .sector y Qo) .anil))]):=fun x y D h1 h2 h3=>by subst h1;subst h2;subst h3;rfl
   rw [hn,hd] at hfin;simp only [d1,d2,w1,t1,cond_true];generalize l.getD i ⟨0,false,[]⟩=x at *;have leta:Rec.mk x.place x.yes x.writes=x:=rfl
   by_cases q:(i:Int)=out
   · have qn:i=out.toNat:=by omega
     simp only [Qsx q,cond_false];refine Qp (S:=Qgf) (s:=⟨c,l,out,a,now,b,Qo,i⟩) ⟨c,l,out,a,now,b,Qo,i+1⟩ (show OkOu l out now Qo (i+1) from ⟨hq,h32,hlt,o0,hO.skip,rfl⟩) (show l.length - (i+1) < l.length - i by omega) ?_ rfl rfl
     show (YM c l out a now b Qo (i+1)).val=(YM c l out a now b Qo i).val
     have e1:Qdp out.toNat ((l.length - (i+1))+1) i=Qdp out.toNat (l.length - (i+1)) (i+1):=by
      show (!decide (i=out.toNat) || _)=_;rw [decide_eq_true qn];rfl
     have e2:layO out.toNat i (x::l.drop (i+1)) now=layO out.toNat (i+1) (l.drop (i+1)) now:=by
      conv=>lhs;unfold layO
      rw [if_pos qn]
     rw [hfin _ _ _ (by rw [e1]) (by rw [e1]) e2];rfl
   · have qn:¬ i=out.toNat:=by omega
     simp only [Qv1 q,g1,g2,hww,leta,k1,k2,k3,Bool.and_self,Bool.not_true,cond_true];refine Qp (S:=Qgf) (s:=⟨c,l,out,a,now,b,Qo,i⟩) ⟨c,l,out,false,putSec now x,false,Qo,i+1⟩ (show OkOu l out (putSec now x) Qo (i+1) from ⟨hq,h32,hlt,o0,hO.put hp hm,rfl⟩) (show l.length - (i+1) < l.length - i by omega) ?_ rfl rfl
     show (YM c l out false (putSec now x) false Qo (i+1)).val=(YM c l out a now b Qo i).val
     have e1:Qdp out.toNat ((l.length - (i+1))+1) i=true:=by
      show (!decide (i=out.toNat) || _)=_;rw [decide_eq_false qn];rfl
     have e2:layO out.toNat i (x::l.drop (i+1)) now=layO out.toNat (i+1) (l.drop (i+1)) (putSec now x):=by
      conv=>lhs;unfold layO
      rw [if_neg qn]
     rw [hfin false false _ (by rw [e1];rfl) (by rw [e1];rfl) e2]
     unfold YM;cases Qdp out.toNat (l.length - (i+1)) (i+1) <;> rfl
 · have he:i=l.length:=by omega
   have c1:decide ((i:Int) < l.length)=false:=by simp;omega
   rw [c1,cond_false];refine Qm (Qjw c l out a now b Qo i) ?_ rfl;show (YM c l out a now b Qo i).val=_;unfold YM Qjw;rw [show l.length - i=0 by omega,show l.drop i=[] from List.drop_eq_nil_of_le (by omega)];rfl
noncomputable def Qt9 (env:Env RC) (os:List (Obj RC)):Option (Bool × QrR):=match env,os with
 | [(0,.sl .recd c l),(1,.int .i64 out),(23,.ptr 0 []),(24,.int .i64 x0)],[.var 24 (.acons (.sl .sector a now) (.acons (.sl .sector b sure) .anil))]=>QB (true) (decide (x0=0) && cdec (OkOu l out now sure 0),⟨c,l,out,a,now,b,sure,0⟩)
 | _,_=>none
noncomputable def uw_3:=uw_2.addLoop 4 34 (sumR s28 [.slot 23 0] [0,1,23,24] Qgf Qt9)
theorem QoG:Qi Tryz.prog s28 uw_3:=by
 refine QoE.addRoundsR Qb (by kernel_rfl) Qgf 100 [0,1,23,24] [] [.slot 23 0] [0,1,23,24] Qt9 (fun q hI=>?_) ?_
 · obtain ⟨c,l,out,a,now,b,sure,i⟩:=q;refine ⟨?_,?_,QoF c l out a now b sure i hI⟩
   · simp_all [Qj,Qgf,Qt8,Qjw,Qby,D.refs,Obj.refs,rEnc]
   · simp_all [Qgf,YM,Qjw,Qby,RT.refsOK,Qj,D.refs,Obj.refs,rEnc]
 · intro env os b q hd_ hb;unfold Qt9 at hd_
   split at hd_
   · obtain ⟨hs,hd_⟩:=Qg hd_;cases hd_;simp only [Bool.and_eq_true,decide_eq_true_eq] at hb;obtain ⟨rfl,h1⟩:=hb;exact ⟨ZN.1 h1,rfl,rfl⟩
   · cases hd_
theorem Qcx {now sure:List Sector} {l:List Rec} (h:Lays now l) (hd:Qq now sure=true) (hl:l.length <= 32):JQ now sure=l.foldl QQ ⟨0,[],[],[],[],0,0,0⟩:=by
 unfold JQ;rw [hd,cond_true];have:=Qqo h hd (b:=0) (Nat.zero_le _) (by omega)
 rw [show ((0:Nat):Int)=0 from rfl] at this;rw [this,List.drop_zero]
theorem QoH {out:Nat}:∀ {l:List Rec} {i:Nat} {d:List Sector},d.length=33->(layO out i l d).getD 32 sec0=d.getD 32 sec0
 | [],_,_,_=>rfl
 | r::l,i,d,hd=>by
  have hb:=YS r.place;unfold layO;rw [QoH (l:=l) (by split <;> simp [putSec,hd])]
  split
  · rfl
  · rw [putSec,getD_setS _ (by omega),if_neg (by omega)]
theorem Qua {a n:Int} (h:0 < n) (hn:n <= 1000):0 <= Int.tmod (IntKind.i64.wrap (Int.tmod a n+n)) n /\ Int.tmod (IntKind.i64.wrap (Int.tmod a n+n)) n < n:=by
 have h1:-n < Int.tmod a n:=Int.lt_tmod_of_pos a h;have h2:Int.tmod a n < n:=Int.tmod_lt_of_pos a h;have w:IntKind.i64.wrap (Int.tmod a n+n)=Int.tmod a n+n:=wrap_id (by omega) (by omega)
 rw [w];exact ⟨Int.tmod_nonneg _ (by omega),Int.tmod_lt_of_pos _ h⟩
theorem Qcy {l:List Rec} (h:seqW l) (hl:l.length <= 32):(l.foldl QQ ⟨0,[],[],[],[],0,0,0⟩).items.length <= 1000:=by
 have hm:∀ r ∈ l,mayB r=true:=fun r hr=>by
  obtain ⟨i,hi,rfl⟩:=List.getElem_of_mem hr;have:=(h i hi).2;have e:l.getD i rec0=l[i]:=by simp [hi]
  rwa [e] at this
 have:=(Qco l ⟨0,[],[],[],[],0,0,0⟩ 0 0 hm (by simp) (by simp) (by simp) (by simp)).1
 omega
theorem Qub {l:List Rec} (hq:seqW l) (h32:l.length <= 32) (h0:0 < l.length):OkKs ((l.length:Int) - 1) ((l.take (l.length - 1)).foldl QQ ⟨0,[],[],[],[],0,0,0⟩).items (l.foldl QQ ⟨0,[],[],[],[],0,0,0⟩).items (l.getD (l.length - 1) rec0).writes:=by
 obtain ⟨hp,hm⟩:=hq (l.length - 1) (by omega)
 have hs:JS ((l.take (l.length - 1)).foldl QQ ⟨0,[],[],[],[],0,0,0⟩).items:=Qe2 Qok
 have el:l.foldl QQ ⟨0,[],[],[],[],0,0,0⟩=QQ ((l.take (l.length - 1)).foldl QQ ⟨0,[],[],[],[],0,0,0⟩) (l.getD (l.length - 1) rec0):=by
  have e:l=l.take (l.length - 1)++[l.getD (l.length - 1) rec0]:=by
   have:l.take (l.length - 1+1)=l.take (l.length - 1)++[l[l.length - 1]]:=List.take_succ_eq_append_getElem (by omega)
   rw [show l.length - 1+1=l.length by omega,List.take_length] at this
   simpa [show l.length - 1 < l.length by omega] using this
  conv=>lhs;rw [e,List.foldl_append]
  rfl
 refine ⟨by omega,by omega,JO hm,Qcy (Yv hq _) (by rw [List.length_take];omega),Qcy hq h32,fun w hw=>?_,fun k hk=>?_⟩
 · rw [el,Qqq hm hs hw,hp]
   congr 2
   omega
 · rw [el,Qol hm hs hk]
noncomputable def Qdt (c:Bool) (l:List Rec) (out:Int):=evF s28 uw_3 300 4 [.sl (C:=RC) .recd c l,.int .i64 out]
theorem QoI (c:Bool) (l:List Rec) (out:Int):Qdt c l out=(let Z0:Nat:=List.length l;let Z1:Bool:=Qh Z0;let Z2:Int:=(↑Z0:Int);let Z3:DO_:=some (D.bool true);let Z4:Bool:=Z2 == (0:Int);let Z5:Int:=IntKind.wrap .i64 (Z2 - (1:Int));let Z6:List Rec:=List.drop (0:Nat) (List.take Z5.toNat l);let Z7:List Sector:=layW Z6;let Z8:List Sector:=layW l;let Z9:DO_:=some (D.bool false);let Z10:DO_:=none;let Z11:Int:=Int.tmod (IntKind.wrap .i64 (Int.tmod out Z2+Z2)) Z2;let Z12:List Sector:=List.replicate (33:Nat) (Sector.mk (0:Int) []);let Z13:List Sector:=layO Z11.toNat (0:Nat) (List.drop (0:Nat) l) Z12;bif Z1 then bif decide ((32:Int) < Z2) then Z3 else bif Z1 then bif Z4 then Z3 else bif decide (Z0 <= (32:Nat)) && List.all l fun (r:Rec)=>Qh r.writes.length then bif QbI l (Z0 - 0) (0:Nat) then bif Z1 then bif decide ((0:Int) <= (0:Int) /\ (0:Int) <= Z5 /\ Z5 <= Z2) then bif cdec (OkMf Z6) then bif cdec (OkMf l) then bif Qs Z7 && Qs Z7 && decide (Sector.n (List.getD Z7 (32:Nat) sec0)=(0:Int)) then bif Qs Z8 && Qs Z8 && decide (Sector.n (List.getD Z8 (32:Nat) sec0)=(0:Int)) then bif (bif Qq Z7 Z7 then (0:Int) else (2:Int)) != (0:Int) then Z9 else bif (bif Qq Z8 Z8 then (0:Int) else (2:Int)) != (0:Int) then Z9 else bif St.place (JQ Z7 Z7) != Z5 then Z9 else bif St.place (JQ Z8 Z8) != IntKind.wrap .i64 (Z5+(1:Int)) then Z9 else bif decide ((0:Int) <= Z5 /\ Z5 < Z2) then bif cdec (OkKs Z5 (JQ Z7 Z7).items (JQ Z8 Z8).items (List.getD l Z5.toNat (Rec.mk (0:Int) false [])).writes) then bif Z1 then bif Z4 then Z10 else bif Z1 then bif Z1 then bif Z4 then Z10 else bif cdec (OkOu l Z11 Z12 Z12 (0:Nat)) then bif Qs Z13 && true && decide (Sector.n (List.getD Z13 (32:Nat) sec0)=(0:Int)) then bif (bif Qq Z13 Z12 then (0:Int) else (2:Int)) == (0:Int) then bif St.place (JQ Z13 Z12) == Z11 then Z3 else Z9 else Z9 else Z10 else Z10 else Z10 else Z10 else Z10 else Z10 else Z10 else Z10 else Z10 else Z10 else Z10 else Z10 else Z10 else Z3 else Z10 else Z10 else Z10):=by kernel_rfl
theorem QoJ (c:Bool) (l:List Rec) (out:Int) (h:(Qh l.length && l.all fun r=>Qh r.writes.length)=true):Qdt c l out=some (.bool true):=by
 (rw [QoI];conv=>zeta)
 rw [Bool.and_eq_true] at h;obtain ⟨lk,hw⟩:=h;refine Qa lk (QD (fun _=>rfl) fun e32=>Qa lk (QD (fun _=>rfl) fun e0=>?_));have e32:=of_decide_eq_false e32;have h32:l.length <= 32:=by omega
 have h0:0 < l.length:=by
  have:¬ (l.length:Int)=0:=by simpa using e0
  omega
 refine Qa (andT (decide_eq_true h32) hw) ?_;rw [Nat.sub_zero];cases hg:QbI l l.length 0
 · rfl
 have hq:=Qon hg;have w1:IntKind.i64.wrap ((l.length:Int) - 1)=(l.length:Int) - 1:=wrap_id (by omega) (by omega)
 have w2:IntKind.i64.wrap ((l.length:Int) - 1+1)=(l.length:Int):=by rw [wrap_id (by omega) (by omega)];omega
 have t1:((l.length:Int) - 1).toNat=l.length - 1:=by omega
 simp only [w1,w2,t1,List.drop_zero,cond_true];have hq1:=Yv hq (l.length - 1);have hl1:(l.take (l.length - 1)).length=l.length - 1:=by rw [List.length_take];omega
 have dA:Qq (layW (l.take (l.length - 1))) (layW (l.take (l.length - 1)))=true:=Qbc (Qax hq1 (by omega))
 have dB:Qq (layW l) (layW l)=true:=Qbc (Qax hq (by omega))
 have gA:=(ZH dA).1;have gB:=(ZH dB).1;have nA:((layW (l.take (l.length - 1))).getD 32 sec0).n=0:=by rw [Qof hq1];rfl
 have nB:((layW l).getD 32 sec0).n=0:=by rw [Qof hq];rfl
 have fA:=Qcx (Qe4 hq1 (by omega)) dA (by omega)
 have fB:=Qcx (Qe4 hq (by omega)) dB h32
 refine Qa lk (Qa (by simp;omega) (Qa (Zf ⟨hq1,by omega⟩) (Qa (Zf ⟨hq,h32⟩) ?_)))
 refine Qa (andT (andT gA gA) (decide_eq_true nA)) (Qa (andT (andT gB gB) (decide_eq_true nB)) ?_);rw [dA,dB,fA,fB]
 have pA:((l.take (l.length - 1)).foldl QQ ⟨0,[],[],[],[],0,0,0⟩).place=(l.length:Int) - 1:=by
  rw [Qbq hq1 rfl,hl1];omega
 have pB:(l.foldl QQ ⟨0,[],[],[],[],0,0,0⟩).place=(l.length:Int):=Qbq hq rfl;refine Qy rfl (Qy rfl (Qy (by rw [pA];simp) (Qy (by rw [pB];simp) ?_)))
 refine Qa (by simp;omega) (Qa (Zf (Qub hq h32 h0)) ?_)
 have z0:((l.length:Int) == 0)=false:=e0;obtain ⟨o0,o1⟩:=Qua (a:=out) (n:=(l.length:Int)) (by omega) (by omega)
 generalize Int.tmod (IntKind.i64.wrap (Int.tmod out (l.length:Int)+(l.length:Int))) (l.length:Int)=T at *
 refine Qa lk (Qy z0 (Qa lk (Qa lk (Qy z0 ?_))));refine Qa (Zf ⟨hq,h32,Nat.zero_le _,o0,OutI.zero,rfl⟩) ?_;have hs:∀ m,m < l.length->(l.getD m rec0).place=((0+m:Nat):Int)+1 /\ mayB (l.getD m rec0)=true:=fun m hm=>by rw [Nat.zero_add];exact hq m hm
 have hI:=Qoi (out:=T.toNat) OutI.zero hs;have dO:=hI.disk;have gO:=(ZH dO).1;have nO:((layO T.toNat 0 l Qo).getD 32 sec0).n=0:=by rw [QoH rfl,YG];rfl
 have fO:JQ (layO T.toNat 0 l Qo) Qo=(l.take T.toNat).foldl QQ ⟨0,[],[],[],[],0,0,0⟩:=by
  unfold JQ;rw [dO,cond_true,QtV hq h32 (by omega)]
 have eE:(List.replicate 33 ⟨0,[]⟩:List Sector)=Qo:=rfl;rw [eE];refine Qa (andT (andT gO rfl) (decide_eq_true nO)) ?_;rw [dO,fO,Qbq (Yv hq _) rfl,List.length_take];exact Qa rfl (Qa (by simp;omega) rfl)
open Go.ChangeShapes Go.WideShapes Go.RowKit
section
variable {C:Cdc}
def good (gA:(t:C.Ty)->C.A t->Prop):D C->Prop
 | .int k n=>k.min <= n /\ n <= k.max
 | .str s=>s.length <= maxLen
 | .acons d ds=>good gA d /\ good gA ds
 | .arr t n l=>l.length=n /\ ∀ x ∈ l,gA t x
 | .sl t _ l=>l.length <= maxLen /\ ∀ x ∈ l,gA t x
 | _=>True
def plainT (T:Tab C):Nat->TypeId->Bool
 | 0,_=>false
 | k+1,t=>match T.ty t with
  | .bool | .int _ | .str=>true
  | .struct _ fs=>fs.all (plainT T k)
  | .arr _ e _=>plainT T k e
  | .sl e _=>plainT T k e
  | _=>false
structure Dec (T:Tab C) (gA:(t:C.Ty)->C.A t->Prop):Prop where
 dec:∀ t d,fit T d (.inl (T.ety t))=true->d.refs=[]->good gA d->(∃ k u,T.ty u=T.ty (T.ety t) /\ plainT T k u=true) -> ∃ x,T.dec t d=some x /\ gA t x
variable {P:Program} {T:Tab C} {gA:(t:C.Ty)->C.A t->Prop}
def X0 (W:World):Cx:=⟨W,fun _=>none,fun _ _=>False⟩
theorem Quc (W:World) (b o:Nat):(X0 W).free b o:=⟨fun h=>h,fun ⟨_,_,h,_⟩=>by simp [X0] at h⟩
theorem QvE {X:Cx} (t:C.Ty) (sz:Nat):∀ (n:Nat) (cs:List Value),cs.length=n * sz->(∀ i,i < n -> ∃ x:C.A t,R T X false (T.enc t x) ((cs.drop (i * sz)).take sz) /\ gA t x) ->
 ∃ l:List (C.A t),R T X false (.arr t n l) cs /\ l.length=n /\ ∀ x ∈ l,gA t x
 | 0,cs,hl,_=>by
  obtain rfl:cs=[]:=by simpa using hl
  exact ⟨[],.arr0 _,rfl,by simp⟩
 | n+1,cs,hl,h=>by
  obtain ⟨x,hx,gx⟩:=h 0 (by omega)
  obtain ⟨l,hr,hn,gl⟩:=QvE t sz n (cs.drop sz) (by rw [List.length_drop,hl,Nat.succ_mul];omega) fun i hi=>by
   obtain ⟨y,hy,gy⟩:=h (i+1) (by omega)
   refine ⟨y,?_,gy⟩;rw [List.drop_drop];rw [show sz+i * sz=(i+1) * sz by rw [Nat.succ_mul];omega]
   exact hy
  refine ⟨x::l,?_,by simp [hn],by simpa using ⟨gx,gl⟩⟩
  have:=R.arrS hx hr
  simpa using this
theorem sl_R {W:World} (t:C.Ty) (b sz:Nat):∀ (n off:Nat),(∀ i,i < n -> ∃ (x:C.A t) (ci:List Value),R T (X0 W) false (T.enc t x) ci /\ ci.length=sz /\ (∀ j,j < sz->W.cell? ⟨b,off+i * sz+j,none⟩=ci[j]?) /\ gA t x) ->
 ∃ (l:List (C.A t)) (cs:List Value),R T (X0 W) false (.arr t n l) cs /\ l.length=n /\ (X0 W).at b off cs /\ ∀ x ∈ l,gA t x
 | 0,off,_=>⟨[],[],.arr0 _,rfl,fun j v h=>by simp at h,by simp⟩
 | n+1,off,h=>by
  obtain ⟨x,ci,hx,hlen,hc,gx⟩:=h 0 (by omega)
  obtain ⟨l,cs,hr,hn,hat,gl⟩:=sl_R t b sz n (off+sz) fun i hi=>by
   obtain ⟨y,c2,hy,h2,h3,gy⟩:=h (i+1) (by omega)
   refine ⟨y,c2,hy,h2,fun j hj=>?_,gy⟩;have:=h3 j hj
   rwa [show off+(i+1) * sz+j=off+sz+i * sz+j by rw [Nat.succ_mul];omega] at this
  refine ⟨x::l,ci++cs,.arrS hx hr,by simp [hn],fun j v hj=>⟨?_,Quc _ _ _⟩,by simpa using ⟨gx,gl⟩⟩
  by_cases hlt:j < ci.length
  · rw [List.getElem?_append_left hlt] at hj;have:=hc j (by omega)
    simp only [Nat.zero_mul,Nat.add_zero] at this;exact this.trans hj
  · rw [List.getElem?_append_right (by omega)] at hj
    have:=(hat _ _ hj).1
    rwa [show off+sz+(j - ci.length)=off+j by omega] at this
theorem st_R {X:Cx}:∀ (fs:List TypeId) (cs:List Value),(∀ i f,fs[i]? = some f -> ∃ d,R T X false d ((cs.drop (QP T (fs.take i))).take (T.size f)) /\ fit T d (.inl f)=true /\ good gA d /\ d.refs=[]) ->
 ∃ d,R T X false d (cs.take (QP T fs)) /\ fit T d (.inr fs)=true /\ good gA d /\ d.refs=[] /\ d.isRow=true /\ (∀ t a,T.ty t=.struct a fs->fit T d (.inl t)=true)
 | [],cs,_=>⟨.anil,by simpa [QP] using R.anil,rfl,trivial,rfl,rfl,fun t a ht=>by simp [fit,ht]⟩
 | f::fs,cs,h=>by
  obtain ⟨d,hd,fd,gd,rd⟩:=h 0 f rfl
  obtain ⟨ds,hr,fr,gr,rr,_,_⟩:=st_R fs (cs.drop (T.size f)) fun i g hg=>by
   obtain ⟨e,he,h2⟩:=h (i+1) g (by simpa using hg)
   refine ⟨e,?_,h2⟩
   simpa [QP,List.drop_drop] using he
  refine ⟨.acons d ds,?_,by simp [fit,fd,fr],⟨gd,gr⟩,by simp [D.refs,rd,rr],rfl,fun t a ht=>by simp [fit,ht,fd,fr]⟩
  have:=R.acons hd hr
  simpa [QP,List.take_add] using this
theorem Q7 {t:TypeId} {i:TypeInfo} (h:P.info? t=some i):P.cellsOf t=i.size:=by
 simp [Program.cellsOf,h]
theorem QvF (K:QX P T) (hd:Dec T gA) {H:Type} {enc:TypeId × Value->H} {W:World}:∀ (k:Nat) (t:TypeId),plainT T k t=true -> ∀ (fuel:Nat) (cs:List Value) (x:DataW H × List MemPlace),DataW.trod enc P W 0 (fun _=>true) true fuel t cs=some x ->
 ∃ d,R T (X0 W) false d cs /\ fit T d (.inl t)=true /\ good gA d /\ d.refs=[]:=by
 intro k
 induction k with
 | zero=>intro t h;simp [plainT] at h
 | succ k ih =>
  intro t hp fuel cs x h;unfold plainT at hp
  split at hp
  · rename_i ht;obtain ⟨b,rfl,_⟩:=DataW.trod_bool (K.uBool t ht) h;exact ⟨.bool b,.bool b,by simp [fit,ht],trivial,rfl⟩
  · rename_i kd ht;obtain ⟨n,rfl,_,hw⟩:=DataW.trod_int (K.uInt t kd ht) h;have hw':kd.min <= n /\ n <= kd.max:=by simpa [Lit.wf] using hw
    exact ⟨.int kd n,.int hw',by simp [fit,ht],hw',rfl⟩
  · rename_i ht;obtain ⟨s,rfl,_,hs⟩:=DataW.trod_string (K.uStr t ht) h;exact ⟨.str s.data.toList,.str s.data.toList,by simp [fit,ht],by simpa [good] using hs,rfl⟩
  · rename_i isA fs ht;cases isA with
    | true =>
     obtain ⟨el,hu,hfs,hpos,inf,hi1,hi2⟩:=K.uRow t fs ht;obtain ⟨xs,m,_,_,hlen,hxs,hel⟩:=DataW.trod_array hu h
     have hget:∀ i f,fs[i]? = some f->f=el /\ i < fs.length:=fun i f hf=>by
      have:=(List.getElem?_eq_some_iff.1 hf).1;rw [hfs,List.getElem?_replicate] at hf;simp at hf;exact ⟨hf.2.symm,this⟩
     have hsum:∀ i,i <= fs.length->QP T (fs.take i)=i * T.size el:=by
      intro i hi;rw [hfs,List.take_replicate,Nat.min_eq_left hi];clear hi
      induction i with
      | zero=>simp [QP]
      | succ i ih=>simp only [List.replicate_succ,QP,ih];rw [Nat.succ_mul];omega
     obtain ⟨d,hr,_,gd,rd,_,hfit⟩:=st_R (T:=T) (X:=X0 W) (gA:=gA) fs cs fun i f hf=>by
      obtain ⟨rfl,hi⟩:=hget i f hf;have:=hel i hi;rw [Q7 hi1,hi2] at this;have hx:xs[i]? = some xs[i]:=by simp [hxs,hi]
      rw [hx] at this;obtain ⟨d,h1,h2,h3,h4⟩:=ih f (List.all_eq_true.1 hp _ (List.mem_of_getElem? hf)) m _ _ this;refine ⟨d,?_,h2,h3,h4⟩;rw [hsum i (by omega)];exact h1
     obtain ⟨inf,hi1,hi2⟩:=K.info t d (hfit t _ ht);rw [Q7 hi1,hi2,K.base.szStruct t _ fs ht] at hlen;rw [<- hlen,List.take_length] at hr;exact ⟨d,hr,hfit t _ ht,gd,rd⟩
    | false =>
     obtain ⟨fields,hu,hfs,hoff,_⟩:=K.uStruct t fs ht;obtain ⟨xs,n,_,_,hlen,hxs,hel⟩:=DataW.trod_struct hu h
     obtain ⟨d,hr,_,gd,rd,_,hfit⟩:=st_R (T:=T) (X:=X0 W) (gA:=gA) fs cs fun i f hf=>by
      rw [<- hfs,List.getElem?_map] at hf;cases hfi:fields.toList[i]? with
      | none=>simp [hfi] at hf
      | some fld =>
       simp only [hfi,Option.map_some,Option.some.injEq] at hf;have hfa:fields[i]? = some fld:=by rw [<- Array.getElem?_toList];exact hfi
       have:=hel i fld hfa
       have hx:∃ y,xs[i]? = some y:=by
        have:i < fields.size:=(Array.getElem?_eq_some_iff.1 hfa).1;exact ⟨xs[i],by simp [hxs,this]⟩
       obtain ⟨y,hy⟩:=hx;rw [hy] at this;subst hf;have hmem:fld.type ∈ fs:=by rw [<- hfs];exact List.mem_map.2 ⟨fld,by exact List.mem_of_getElem? hfi,rfl⟩
       obtain ⟨d,h1,h2,h3,h4⟩:=ih fld.type (List.all_eq_true.1 hp _ hmem) n _ _ this;obtain ⟨inf,hi1,hi2,_⟩:=K.uField t fs fld.type ht hmem;refine ⟨d,?_,h2,h3,h4⟩;rw [hoff i fld hfa,Q7 hi1,hi2] at h1;exact h1
     obtain ⟨inf,hi1,hi2⟩:=K.info t d (hfit t _ ht);rw [Q7 hi1,hi2,K.base.szStruct t _ fs ht] at hlen;rw [<- hlen,List.take_length] at hr;exact ⟨d,hr,hfit t _ ht,gd,rd⟩
  · rename_i n e ct ht;obtain ⟨hu,_⟩:=K.uArr t n e ct ht;obtain ⟨xs,m,_,_,hlen,hxs,hel⟩:=DataW.trod_array hu h;obtain ⟨inf,z,hi1,hi2,_⟩:=K.uElem t e ct (.inl ⟨n,ht⟩);obtain ⟨it,hj1,hj2⟩:=K.info t (.arr ct n []) (by simp [fit,ht])
    obtain ⟨hs1,hs2,hs3⟩:=K.base.szArr t n e ct ht;rw [Q7 hj1,hj2,hs1] at hlen
    obtain ⟨l,hr,hn,gl⟩:=QvE (T:=T) (X:=X0 W) (gA:=gA) ct (T.size e) n cs hlen fun i hi=>by
     have:=hel i hi;rw [Q7 hi1,hi2] at this;have hx:xs[i]? = some xs[i]:=by simp [hxs,hi]
     rw [hx] at this;obtain ⟨d,h1,h2,h3,h4⟩:=ih e hp m _ _ this;obtain ⟨x,h5,h6⟩:=hd.dec ct d (by rw [<- Zv hs2];exact h2) h4 h3 ⟨k,e,hs2,hp⟩
     exact ⟨x,K.base.decR _ _ _ _ _ h5 h1,h6⟩
    exact ⟨.arr ct n l,hr,by simp [fit,ht],⟨hn,gl⟩,rfl⟩
  · rename_i e ct ht;have hu:=K.uSl t e ct ht;obtain ⟨inf,z,hi1,hi2,_,_,hpos,_⟩:=K.uElem t e ct (.inr ht);obtain ⟨hs1,hs2,hs3⟩:=K.base.szSl t e ct ht;rcases DataW.trod_slice hu h with ⟨rfl,_⟩ | ⟨a,len,cap,elems,rest,m,_,rfl,_,_,hlc,hcm,hel,he,hrest,_⟩
    · exact ⟨.sl ct false [],.sl0 _ _ _,by simp [fit,ht],by simp [good],rfl⟩
    · by_cases hc0:cap=0
      · subst hc0;obtain rfl:len=0:=by omega
        exact ⟨.sl ct false [],.sl0 _ _ _,by simp [fit,ht],by simp [good],rfl⟩
      · have hspot:a.spot=none:=by
         have key:∀ i y,i=0->(W.cells? 0 (a.add (i * P.cellsOf e)) (P.cellsOf e)).bind (DataW.trod enc P W 0 (fun _=>true) true m e)=some y->a.spot=none:=by
          intro i y hi0 hy;subst hi0;rw [Q7 hi1,hi2] at hy;cases hcs:W.cells? 0 (a.add (0 * T.size e)) (T.size e) with
          | none=>rw [hcs] at hy;cases hy
          | some ci =>
           obtain ⟨_,h2,h3⟩:=World.cells?_some hcs;have h4:=h3 0 hpos;have h5:ci[0]? = some ci[0]:=by simp
           rw [h5] at h4;have:=World.cell?_spot h4
           simpa [Addr.add] using this
         by_cases hl0:0 < len
         · have:=he 0 hl0;have hx:elems[0]? = some elems[0]:=by simp
           exact key 0 _ rfl (this.trans hx)
         · have hr2:=hrest rfl;have:=hr2.2 0 (by omega)
           have h0:0 < rest.length:=by omega
           have hx:rest[0]? = some rest[0]:=by simp
           exact key _ _ (by omega) (this.trans hx)
        obtain ⟨b,off,sp⟩:=a;simp only at hspot;subst hspot
        obtain ⟨l,cs,hr,hn,hat,gl⟩:=sl_R (T:=T) (W:=W) (gA:=gA) ct b (T.size e) len off fun i hi=>by
         have:=he i hi;have hx:elems[i]? = some elems[i]:=by simp [hel,hi]
         rw [hx,Q7 hi1,hi2] at this;cases hcs:W.cells? 0 ((⟨b,off,none⟩:Addr).add (i * T.size e)) (T.size e) with
         | none=>simp [hcs] at this
         | some ci =>
          simp only [hcs,Option.bind_some] at this;obtain ⟨_,h2,h3⟩:=World.cells?_some hcs;obtain ⟨d,k1,k2,k3,k4⟩:=ih e hp m _ _ this;obtain ⟨x,k5,k6⟩:=hd.dec ct d (by rw [<- Zv hs2];exact k2) k4 k3 ⟨k,e,hs2,hp⟩
          refine ⟨x,ci,K.base.decR _ _ _ _ _ k5 k1,h2,fun j hj=>?_,k6⟩;have:=h3 j hj
          rwa [add_plain,add_plain] at this
        subst hn;exact ⟨.sl ct false l,.sl hat hr hlc (by simp),by simp [fit,ht],⟨by omega,gl⟩,rfl⟩
  · cases hp
theorem Qjx (K:QX P T) {W:World} {r:Reach} {base:Nat} {t:TypeId} {v:Value} {d:D C} (hv:Value.okWide P W r base t v) (hp:∃ k,plainT T k t=true) (hf:fit T d (.inl t)=true) (hr:R T (X0 W) false d v.cells.toList) (hrf:d.refs=[]):RV T (X0 W) d v:=by
 obtain ⟨k,hp⟩:=hp;cases k with
 | zero=>simp [plainT] at hp
 | succ k =>
  unfold plainT at hp
  split at hp
  · rename_i ht;obtain ⟨b,rfl⟩:=okWide_bool (K.uBool t ht) hv;refine .inr ⟨?_,by simpa [Value.cells] using hr⟩
    cases d <;> simp [fit,ht] at hf <;> rfl
  · rename_i kd ht;obtain ⟨b,rfl⟩:=okWide_int (K.uInt t kd ht) hv;refine .inr ⟨?_,by simpa [Value.cells] using hr⟩
    cases d <;> simp [fit,ht] at hf <;> rfl
  · rename_i ht;obtain ⟨b,rfl⟩:=okWide_string (K.uStr t ht) hv;refine .inr ⟨?_,by simpa [Value.cells] using hr⟩
    cases d <;> simp [fit,ht] at hf <;> rfl
  · rename_i isA fs ht
    have:∃ cs,v=.agg cs:=by
     cases isA with
     | false =>
      obtain ⟨fields,hu,_⟩:=K.uStruct t fs ht;obtain ⟨cs,rfl,_⟩:=okWide_struct hu hv;exact ⟨cs,rfl⟩
     | true =>
      obtain ⟨el,hu,_⟩:=K.uRow t fs ht;simp only [Value.okWide,hu] at hv;obtain ⟨cs,rfl,_⟩:=hv;exact ⟨cs,rfl⟩
    obtain ⟨cs,rfl⟩:=this;refine .inl ⟨?_,cs.toList,by simpa [Value.cells] using hr,rfl⟩
    cases d <;> simp [fit,ht] at hf <;> rfl
  · rename_i n e ct ht;obtain ⟨hu,_⟩:=K.uArr t n e ct ht
    have:∃ cs,v=.agg cs:=by
     simp only [Value.okWide,hu] at hv;obtain ⟨cs,rfl,_⟩:=hv;exact ⟨cs,rfl⟩
    obtain ⟨cs,rfl⟩:=this;refine .inl ⟨?_,cs.toList,by simpa [Value.cells] using hr,rfl⟩
    cases d <;> simp [fit,ht] at hf <;> rfl
  · rename_i e ct ht;obtain ⟨a,len,cap,rfl⟩:=okWide_slice (K.uSl t e ct ht) hv;refine .inr ⟨?_,by simpa [Value.cells] using hr⟩
    cases d <;> simp [fit,ht] at hf <;> rfl
  · cases hp
inductive Fits (T:Tab C) (gA:(t:C.Ty)->C.A t->Prop):List TypeId->List (D C)->Prop
 | nil:Fits T gA [] []
 | cons {t:TypeId} {ts:List TypeId} {d:D C} {ds:List (D C)} (hf:fit T d (.inl t)=true) (hg:good gA d) (hr:d.refs=[]) (h:Fits T gA ts ds):Fits T gA (t::ts) (d::ds)
theorem Fits.refs {ts:List TypeId} {ds:List (D C)} (h:Fits T gA ts ds):∀ a ∈ ds,D.refs a=[]:=by
 induction h with
 | nil=>simp
 | cons _ _ hr _ ih=>simpa using ⟨hr,ih⟩
theorem Qe7 (K:QX P T) (hd:Dec T gA) {H:Type} {enc:TypeId × Value->H} {W:World} {r:Reach} {base:Nat}:∀ (ts:List TypeId) (vs:List Value) (ds:List (DataW H)) (ps:List MemPlace),(∀ t ∈ ts,∃ k,plainT T k t=true) ->
 (∀ (j:Nat) t v,ts[j]? = some t->vs[j]? = some v->Value.okWide P W r base t v)->DataW.TrodAll enc P W 0 (fun _=>true) true ts vs ds ps -> ∃ al,Fits T gA ts al /\ RVs T (X0 W) al vs
 | [],vs,ds,ps,_,_,h=>by
  obtain ⟨rfl,rfl,rfl⟩:=trodAll_nil h;exact ⟨[],.nil,.nil⟩
 | t::ts,vs,ds,ps,hp,hv,h=>by
  obtain ⟨v,vs1,d,ds1,p,q,rfl,rfl,rfl,⟨fuel,h1⟩,h2⟩:=trodAll_cons h;obtain ⟨al,f1,r1⟩:=Qe7 K hd ts vs1 ds1 q (fun t ht=>hp t (by simp [ht])) (fun j t v a b=>hv (j+1) t v (by simpa using a) (by simpa using b)) h2
  obtain ⟨k,hk⟩:=hp t (by simp)
  obtain ⟨a,k1,k2,k3,k4⟩:=QvF K hd k t hk fuel _ _ h1;exact ⟨a::al,.cons k2 k3 k4 f1,.cons (Qjx K (hv 0 t v rfl rfl) ⟨k,hk⟩ k2 k1 k4) r1⟩
theorem QvG (hl:laidOutB P=true) {H:Type} {enc:TypeId × Value->H} {W W':World} {sp:Nat->Bool}:∀ (ts:List TypeId) (vs:List Value) (ds:List (DataW H)) (ps:List MemPlace),(∀ t ∈ ts,P.readableRec t=true /\ t < P.types.size) ->
 DataW.TrodAll enc P W 0 (fun _=>true) true ts vs ds ps->(∀ p ∈ ps,W.sameAt W' p)->(∀ p ∈ ps,sp p.block=true)->DataW.TrodAll enc P W' 0 sp true ts vs ds ps
 | [],vs,ds,ps,_,h,_,_=>by
  obtain ⟨rfl,rfl,rfl⟩:=trodAll_nil h;exact trodAll_mk0
 | t::ts,vs,ds,ps,ht,h,h3,h4=>by
  obtain ⟨v,vs1,d,ds1,p,q,rfl,rfl,rfl,h1,h2⟩:=trodAll_cons h
  exact trodAll_cons_mk (WideElems.Trod_stays hl (ht t (by simp)).1 (ht t (by simp)).2 h1 (fun x hx=>h3 x (by simp [hx])) (fun x hx=>h4 x (by simp [hx])))
   (QvG hl ts vs1 ds1 q (fun t h=>ht t (by simp [h])) h2 (fun x hx=>h3 x (by simp [hx])) (fun x hx=>h4 x (by simp [hx])))
theorem Qdu {H:Type} {enc:TypeId × Value->H} {f:Func} {s:ChangeSpec} {apart fresh handsOn again:Bool} {W W':World} {args:Array Value} {v:Value} {ds gs:List (DataW H)} {before pa pv:List MemPlace}
 (hW:DataW.Whole enc P f.params.toList s.vars apart W args.toList ds gs before)
 (hres:∀ (b:Nat) (sp:Nat->Bool) (hd:Bool),DataW.TrodAll enc P W' b sp hd f.resultTypes.toList (v.resultList f.resultTypes.size) (s.fn H (ds++gs)).results [])
 (hargs:∀ sp:Nat->Bool,(∀ p ∈ before,sp p.block=true)->DataW.TrodAll enc P W' 0 sp true f.params.toList args.toList (s.fn H (ds++gs)).args pa)
 (hvars:∀ sp:Nat->Bool,(∀ p ∈ before,sp p.block=true)->DataW.TrodVars enc P W' sp s.vars (s.fn H (ds++gs)).vars pv)
 (hps:before=pa++pv) (hk:W.keptBut W' (· ∈ before)) (hfz:∀ a:Addr,a.block < W.heap.size->W'.frozen? a=W.frozen? a)
 (hok:∀ (j:Nat) (t:TypeId) (r:Value),f.resultTypes[j]? = some t->(v.resultList f.resultTypes.size)[j]? = some r->Value.okWide P W' .any 0 t r) :
 s.post enc P f apart fresh handsOn again W args v W':=by
 have hold:∀ p ∈ before,(fun b=>decide (b < W.heap.size)) p.block=true:=fun p hp=>by simpa using hW.lt p hp
 refine ⟨ds,gs,before,[],pa,pv,hW,hres _ _ _,hargs _ hold,hvars _ hold,World.keptBut_mono (fun p hp=>⟨hp,?_⟩) hk,fun _=>?_⟩
 · rw [hps,List.mem_append] at hp;exact Or.inr hp
 · have hlt:=hW.lt;obtain ⟨_,_,_,_,_,hz,hn⟩:=hW;refine ⟨hok,_,_,([]++pa)++pv,⟨[]++pa,pv,trodAll_append (hargs _ (fun _ _=>rfl)) (hres _ _ _),hvars _ (fun _ _=>rfl),rfl,?_,?_⟩,?_⟩
   · intro b off hp;have hb:MemPlace.cell b off ∈ before:=by rw [hps];simpa using hp
     rw [hfz _ (by simpa [MemPlace.block] using hlt _ hb)]
     exact hz b off hb
   · intro ha;have:=hn ha;rw [hps] at this
     simpa using this
   · intro p hp _;rw [hps]
     simpa using hp
theorem Qe8 (K:QX P T) {Φ:Fns C} (F:Qi P T Φ) (hd:Dec T gA) (hl:laidOutB P=true) {f:FuncId} {fn:Func} {s:ChangeSpec} {tb:TypeId} {m:Nat}
 (hres:fn.resultTypes = #[tb]) (hb:P.underlying tb=some .bool) (hvars:s.vars=[])
 (hts:fn.params.toList.all (fun t=>plainT T m t && P.readableRec t && Nat.blt t P.types.size)=true)
 (hspec:∀ (H:Type) (ds:List (DataW H)),ds.length=fn.params.toList.length->s.fn H ds={ results:=[.lit (.bool true)],args:=ds })
 (hev:∀ ds:List (D C),Fits T gA fn.params.toList ds -> ∃ n,evF T Φ n f ds=some (.bool true))
 (H:Type) (enc:TypeId × Value->H) (W:World) (base:Nat) (args:Array Value) (ds gs:List (DataW H)) (before:List MemPlace)
 (hval:∀ (j:Nat) t v,fn.params[j]? = some t->args[j]? = some v->Value.okWide P W .any base t v)
 (hW:DataW.Whole enc P fn.params.toList s.vars false W args.toList ds gs before) (hpre:∀ p ∈ T.pre,∃ t f,W.heap[p.1]? = some (.cells p.2 t f)) :
 Calls P f args W fun e W' => ∃ v,e=.returned v /\ s.post enc P fn false true false false W args v W':=by
 have hts':∀ t ∈ fn.params.toList,plainT T m t=true /\ P.readableRec t=true /\ t < P.types.size:=by
  intro t ht;have:=List.all_eq_true.1 hts t ht;simp only [Bool.and_eq_true] at this;exact ⟨this.1.1,this.1.2,by simpa [Nat.blt_eq] using this.2⟩
 have hW':=hW;obtain ⟨p,q,hA,hV,rfl,hfz,hnd⟩:=hW;rw [hvars] at hV;obtain ⟨rfl,rfl⟩:=trodVars_none hV;obtain ⟨al,hf,hr⟩:=Qe7 (gA:=gA) K hd (r:=.any) (base:=base) _ _ _ _ (fun t ht=>⟨m,(hts' t ht).1⟩) (fun j t v a b=>hval j t v (by rw [<- Array.getElem?_toList];exact a) (by rw [<- Array.getElem?_toList];exact b)) hA
 obtain ⟨n,hn⟩:=hev al hf;have hc:=(QdQ K F hn hf.refs W (fun _ _=>False) (fun _ _ h=>h.elim) hpre (vs:=args.toList) hr).2;have ea:(⟨args.toList⟩:Array Value)=args:=by simp
 rw [ea] at hc;refine hc.mono fun e W' hp=>?_;obtain ⟨v,ρ,rfl,rv,a1,a2,a3,a4,a5,a6⟩:=hp;obtain rfl:=rv.bool
 have hlen:ds.length=fn.params.toList.length:=by
  have:∀ (ts:List TypeId) (vs:List Value) (ds:List (DataW H)) (ps:List MemPlace),DataW.TrodAll enc P W 0 (fun _=>true) true ts vs ds ps->ds.length=ts.length:=by
   intro ts
   induction ts with
   | nil=>intro vs ds ps h;obtain ⟨rfl,rfl,rfl⟩:=trodAll_nil h;rfl
   | cons t ts ih =>
    intro vs ds ps h;obtain ⟨v,vs1,d,ds1,p,q,rfl,rfl,rfl,h1,h2⟩:=trodAll_cons h;simp [ih _ _ _ h2]
  exact this _ _ _ _ hA
 have hs:=hspec H ds hlen;have hbel:Below W.heap.size W W':=⟨a3,a4,a5,a1,a2⟩;have hlt:∀ x ∈ p,x.block < W.heap.size:=fun x hx=>by simpa using hW'.lt x (by simpa using hx)
 refine ⟨_,rfl,Qdu (pa:=p) (pv:=[]) hW' ?_ ?_ ?_ (by simp) (hbel.frame _) a6 ?_⟩
 · intro b sp hd;simp only [List.append_nil];rw [hs,hres];exact trodAll_cons_mk (p:=[]) (p':=[]) (shut_bool hb _) trodAll_mk0
 · intro sp hsp;simp only [List.append_nil] at hsp ⊢;rw [hs];exact QvG hl _ _ _ _ (fun t ht=>(hts' t ht).2) hA (fun x hx=>hbel.same (hlt x hx)) hsp
 · intro sp hsp;simp only [List.append_nil];rw [hs,hvars];rfl
 · exact ok_one hres rfl (okWide_bool_mk hb _)
theorem Qgg (K:QX P T) {Φ:Fns C} (F:Qi P T Φ) (hd:Dec T gA) (hl:laidOutB P=true) {f:FuncId} {fn:Func} {s:ChangeSpec} {tb:TypeId} {m:Nat}
 (hres:fn.resultTypes = #[tb]) (hb:P.underlying tb=some .bool) (hvars:s.vars=[])
 (hts:fn.params.toList.all (fun t=>plainT T m t && P.readableRec t && Nat.blt t P.types.size)=true)
 (hspec:∀ (H:Type) (ds:List (DataW H)),ds.length=fn.params.toList.length->s.fn H ds={ results:=[.lit (.bool true)],args:=ds })
 (hev:∀ ds:List (D C),Fits T gA fn.params.toList ds -> ∃ n,evF T Φ n f ds=some (.bool true))
 (H:Type) (enc:TypeId × Value->H) (W:World) (base:Nat) (args:Array Value) (ds gs:List (DataW H)) (before:List MemPlace)
 (hval:∀ (j:Nat) t v,fn.params[j]? = some t->args[j]? = some v->Value.okWide P W .any base t v)
 (hW:DataW.Whole enc P fn.params.toList s.vars false W args.toList ds gs before) (h0:T.pre=[]:=by rfl) :
 Calls P f args W fun e W' => ∃ v,e=.returned v /\ s.post enc P fn false true false false W args v W' :=
 Qe8 K F hd hl hres hb hvars hts hspec hev H enc W base args ds gs before hval hW (by rw [h0];intro p hp;cases hp)
end
def i64 (n:Int):Prop := -9223372036854775808 <= n /\ n <= 9223372036854775807
theorem YW {n:Int} (h:IntKind.i64.min <= n /\ n <= IntKind.i64.max):i64 n:=by
 simpa [i64,IntKind.min,IntKind.max,IntKind.signed,IntKind.bits] using h
section
variable {C:Cdc} {T:Tab C} {d:D C} {u:TypeId}
theorem Zq {k:IntKind} (hu:T.ty u=.int k) (hf:fit T d (.inl u)=true):∃ n,d=.int k n:=by
 cases d <;> simp [fit,hu] at hf
 subst hf;exact ⟨_,rfl⟩
theorem QhW (hu:T.ty u=.bool) (hf:fit T d (.inl u)=true):∃ n,d=.bool n:=by
 cases d <;> simp [fit,hu] at hf
 exact ⟨_,rfl⟩
theorem Qud (hu:T.ty u=.str) (hf:fit T d (.inl u)=true):∃ n,d=.str n:=by
 cases d <;> simp [fit,hu] at hf
 exact ⟨_,rfl⟩
theorem QoK {e:TypeId} {t:C.Ty} (hu:T.ty u=.sl e t) (hf:fit T d (.inl u)=true) (hr:d.refs=[]):∃ c l,d=.sl t c l:=by
 cases d <;> simp [fit,hu] at hf
 · subst hf;exact ⟨_,_,rfl⟩
 · simp [D.refs] at hr
 · simp [D.refs] at hr
theorem Qe9 {a:Bool} {f:TypeId} {fs:List TypeId} (hu:T.ty u=.struct a (f::fs)) (hf:fit T d (.inl u)=true):∃ x y,d=.acons x y /\ fit T x (.inl f)=true /\ fit T y (.inr fs)=true:=by
 cases d <;> simp [fit,hu] at hf
 exact ⟨_,_,rfl,hf.1,hf.2⟩
theorem ZO {f:TypeId} {fs:List TypeId} (hf:fit T d (.inr (f::fs))=true):∃ a b,d=.acons a b /\ fit T a (.inl f)=true /\ fit T b (.inr fs)=true:=by
 cases d <;> simp [fit] at hf
 exact ⟨_,_,rfl,hf.1,hf.2⟩
theorem Qbz (hf:fit T d (.inr [])=true):d=.anil:=by
 cases d <;> simp [fit] at hf
 rfl
end
end Go.Ev
