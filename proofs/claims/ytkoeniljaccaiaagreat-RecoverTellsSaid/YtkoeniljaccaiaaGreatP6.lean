/-
  A part of the proof of a statement of this seat: the model is run over values by content, proved sound; what the functions come to. No condition beyond the given statements. (text 7)
-/
import Derived.Test.YtkoeniljaccaiaaGreatP5
noncomputable section
namespace Go.Ev
open Go.Proofs
set_option maxRecDepth 100000
set_option linter.unusedVariables false
set_option linter.unusedSimpArgs false
def U7:bW->bO
 |[.int .i64 n,.bI (.int .i64 p) (.bI (.sl .cE ci bV) (.bI (.bI (.sl .bP k0 l0) (.bI (.sl .bP k1 l1) (.bI (.sl .bP k2 l2) .bN))) (.bI (.arr .int 3 [c0,c1,c2]) .bN)))]=>some (decide (bV.length<=9223372036854775807/\l0.length<=9223372036854775807/\l1.length<=9223372036854775807/\l2.length<=9223372036854775807),.cH (.bI (.str (gX n ⟨p,bV,l0,l1,l2,c0,c1,c2⟩)) (cG (bif iF n ⟨p,bV,l0,l1,l2,c0,c1,c2⟩then 0 else 2) .bN)))
 |_=>none
def Qnf(n p:Int)(ci:Bool)(bV:bM)(k0 k1 k2:Bool)(l0 l1 l2:bJ)(c0 c1 c2:Int):=eU cF BL 40 47 [.int .i64 n,.bI (.int .i64 p) (cL .cE ci bV (.bI (cL .bP k0 l0 (cL .bP k1 l1 (cL .bP k2 l2 .bN))) (.bI (.arr (C:=RC) .int 3 [c0,c1,c2]) .bN)))]
theorem Quy n p ci bV k0 k1 k2 l0 l1 l2 c0 c1 c2:Qnf n p ci bV k0 k1 k2 l0 l1 l2 c0 c1 c2=(let Z0:bQ:=D.str (Array.toList #[]);let Z1:fG:=some (D.cH (D.bI Z0 (D.bI (cq 2) .bN)));let Z2:St:=St.mk p bV l0 l1 l2 c0 c1 c2;let Z3:Int:=bif Qs Z2 then (0:Int)else (2:Int);let Z4:List (RA ca.u8):=(fun(l:List (RA ca.u8))=>l) (bif Qs Z2 then Vz Z2 else []);bif decide (n<1)then Z1 else bif decide ((1048575:Int)<n)then Z1 else bif decide (n<p)then Z1 else cb (decide (bV.length<=9223372036854775807/\l0.length<=9223372036854775807/\l1.length<=9223372036854775807/\l2.length<=9223372036854775807)) (bif Z3 !=0 then some (D.cH (D.bI Z0 (D.bI (cq Z3) .bN)))else cb (decide (Z4.length<=1000000)) (some (D.cH (D.bI (D.str (bif okF n Z4 then YX n Z4 else [])) (.bI (cq (bif okF n Z4 then (0:Int)else (2:Int))) .bN)))))):=by kernel_rfl
theorem Quz n p ci bV k0 k1 k2 l0 l1 l2 c0 c1 c2(h:(decide (bV.length<=9223372036854775807/\l0.length<=9223372036854775807/\l1.length<=9223372036854775807/\l2.length<=9223372036854775807))=true):Qnf n p ci bV k0 k1 k2 l0 l1 l2 c0 c1 c2=some (.cH (.bI (.str (gX n ⟨p,bV,l0,l1,l2,c0,c1,c2⟩)) (cG (bif iF n ⟨p,bV,l0,l1,l2,c0,c1,c2⟩then 0 else 2) .bN))):=by
 (rw[Quy];delta cb cq;conv=>zeta)
 generalize hs:(⟨p,bV,l0,l1,l2,c0,c1,c2⟩:St)=s;have hp:s.b8=p:=by rw[<-hs]
 have no:iF n s=false->some (D.cH (.bI (.str []) (cG 2 .bN)))=some (.cH (.bI (.str (gX n s)) (cG (bif iF n s then 0 else 2) .bN)):bQ):=fun e=>by simp only[gX,e];rfl
 refine Qy (fun e=>no (Jl fun f=>by simp only[aa]at e;omega)) fun e1=>?_;refine Qy (fun e=>no (Jl fun f=>by simp only[aa]at e;omega)) fun e2=>?_;refine Qy (fun e=>no (Jl fun f=>by simp only[aa]at e;omega)) fun e3=>?_;refine Qa h ?_;cases eI:Qs s
 ·exact Qa rfl (no (Jl fun f=>by rw[eI]at f;cases f.2.2.2))
 simp only[ae]at e1 e2 e3;have ok:iF n s=true:=by simp only[iF,ai,aa];exact⟨⟨⟨by omega,by omega⟩,by omega⟩,eI⟩
 have oF:=RK ok;have hl:=Kl eI;refine Qn rfl ?_;simp only[ag];refine Qa (by simp;omega) ?_;rw[oF];simp only[gX,ok,ag]
def BM:=BL.cm 47 U7
theorem QuA:Qj Tryz.prog cF BM:=Qux.c6 Qb fun args d h=>by
 unfold U7 at h
 split at h
 ·obtain⟨h1,rfl⟩:=ak h;exact⟨by simp[D.refs],40,Quz _ _ _ _ _ _ _ _ _ _ _ _ _ h1⟩
 ·cases h
def U8:bW->bO
 |[.bI (.sl .bS c now) (.bI (.sl .bS d sure) .bN)]=>some (Ql now&&Ql sure,.cH (cG (iS now sure) (.bI (cG (dh (dy now sure)).b8 (cL .cE (dy now sure).isNone (dh (dy now sure)).bV (.bI (cL .bP (dy now sure).isNone (dh (dy now sure)).l0 (cL .bP (dy now sure).isNone (dh (dy now sure)).l1 (cL .bP (dy now sure).isNone (dh (dy now sure)).l2 .bN))) (.bI (.arr (C:=RC) .int 3 [(dh (dy now sure)).c0,(dh (dy now sure)).c1,(dh (dy now sure)).c2]) .bN)))) (cG (im now sure) .bN))))
 |_=>none
def Qnh(c:Bool)(now:bL)(d:Bool)(sure:bL):=eU cF BM 40 38 [.bI (.sl (C:=RC) .bS c now) (cL .bS d sure .bN)]
theorem QuB c now d sure:Qnh c now d sure=(let Z0:Int:=bif YS now sure 32 then (0:Int)else (2:Int);let Z1:bQ:=cq 0;let Z2:bQ:=D.sl ca.bP true [];let Z3:bQ:=.bN;let Z4:bQ:=D.bI Z1 (D.bI (D.sl ca.cE true []) (.bI (D.bI Z2 (D.bI Z2 (D.bI Z2 Z3))) (.bI (D.arr ca.int 3 (List.replicate 3 0)) Z3)));let Z5:cB:=iE now sure 32;let Z6:=cB.b Z5;let Z7:fG:=some (D.cH (D.bI Z1 (D.bI Z4 (D.bI (cq 50) Z3))));let Z8:bK:=(fun(l:bK)=>l) (ow Z6);let Z9:=Option.isNone (QA Z8);let dg:St:=dh (QA Z8);cb (Ql now&&Ql sure) (bif Z0 !=0 then some (D.cH (D.bI Z1 (D.bI Z4 (D.bI (cq Z0) Z3))))else bif cB.n Z5==0 then some (D.cH (D.bI Z1 (D.bI Z4 (D.bI (cq 60) Z3))))else cb (decide (Z6.length<=1000000)) (bif (bif Option.isNone (Yk Z6)then (50:Int)else (0:Int))!=0 then Z7 else bif n8 Z6 !=cB.n Z5 then Z7 else cb (Qf (ow Z6).length 1) (cb (decide (Z8.length<=1000000)) (bif (bif Z9 then (50:Int)else (0:Int))!=0 then Z7 else bif decide (n8 Z6<St.b8 dg)then Z7 else some (D.cH (D.bI (cq (n8 Z6)) (.bI (D.bI (cq dg.b8) (.bI (D.sl ca.cE Z9 dg.bV) (.bI (D.bI (D.sl ca.bP Z9 dg.l0) (.bI (D.sl ca.bP Z9 dg.l1) (.bI (D.sl ca.bP Z9 dg.l2) Z3))) (.bI (D.arr ca.int 3 [St.c0 dg,St.c1 dg,St.c2 dg]) Z3)))) (.bI Z1 Z3))))))))):=by kernel_rfl
theorem QuC c now d sure(h:(Ql now&&Ql sure)=true):Qnh c now d sure=some (.cH (cG (iS now sure) (.bI (cG (dh (dy now sure)).b8 (cL .cE (dy now sure).isNone (dh (dy now sure)).bV (.bI (cL .bP (dy now sure).isNone (dh (dy now sure)).l0 (cL .bP (dy now sure).isNone (dh (dy now sure)).l1 (cL .bP (dy now sure).isNone (dh (dy now sure)).l2 .bN))) (.bI (.arr (C:=RC) .int 3 [(dh (dy now sure)).c0,(dh (dy now sure)).c1,(dh (dy now sure)).c2]) .bN)))) (cG (im now sure) .bN)))):=by
 (rw[QuB];delta cb cq;conv=>zeta)
 refine Qa h ?_;have no:∀e:Int,dy now sure=none->im now sure=e->some (D.cH (cG 0 (.bI (cG 0 (cL .cE true [] (.bI (cL .bP true [] (cL .bP true [] (cL .bP true [] .bN))) (.bI (.arr (C:=RC) .int 3 (List.replicate 3 0)) .bN)))) (cG e .bN))))=some (.cH (cG (iS now sure) (.bI (cG (dh (dy now sure)).b8 (cL .cE (dy now sure).isNone (dh (dy now sure)).bV (.bI (cL .bP (dy now sure).isNone (dh (dy now sure)).l0 (cL .bP (dy now sure).isNone (dh (dy now sure)).l1 (cL .bP (dy now sure).isNone (dh (dy now sure)).l2 .bN))) (.bI (.arr (C:=RC) .int 3 [(dh (dy now sure)).c0,(dh (dy now sure)).c1,(dh (dy now sure)).c2]) .bN)))) (cG (im now sure) .bN)))):=fun e h1 h2=>by simp only[iS,h1,h2];rfl
 cases hk:YS now sure 32
 ·exact Qa rfl (no 2 (by simp[dy,hk]) (by simp[im,hk]))
 refine Qn rfl ?_;have hn:=XR now sure 32;generalize hs:iE now sure 32=s at hn ⊢;obtain⟨n,b⟩:=s;have hf:=Hi ⟨n,b⟩
 dsimp only at hn hf ⊢
 refine Qy (fun e=>no 60 (by simp[dy,hk,hs,e]) (by simp[im,hk,hs,e])) fun e0=>?_;refine Qa (by simp;omega) ?_
 have hc:Yk b=none\/∃m l,Yk b=some (m,l):=by
  cases Yk b with
  |none=>exact .inl rfl
  |some p=>exact .inr ⟨p.1,p.2,rfl⟩
 rcases hc with hq|⟨m,l,hq⟩
 ·exact Qa (by rw[hq];rfl) (no 50 (by simp[dy,hk,hs,e0,jS,mh,hq]) (by simp[im,hk,hs,e0,jS,mh,hq]))
 have q1:n8 b=m:=by simp[n8,hq]
 have q2:ow b=l:=by simp[ow,hq]
 refine Qn (by rw[hq];rfl) ?_;simp only[q1,q2]
 by_cases hm:m=n
 case neg=>exact Qa (by simpa[bne]using hm) (no 50 (by simp[dy,hk,hs,e0,jS,mh,hq,hm]) (by simp[im,hk,hs,e0,jS,mh,hq,hm]))
 subst hm;have ho:mh ⟨m,b⟩=some l:=by simp[mh,hq]
 rw[ho]at hf;simp only[ba]at hf;refine Qn (by simp[bne]) (Qa (Zb (by omega)) (Qa (by simp;omega) ?_));have hc:QA l=none\/∃st,QA l=some st:=by cases QA l<;>simp
 rcases hc with hr|⟨st,hr⟩
 ·exact Qa (by rw[hr];rfl) (no 50 (by simp[dy,hk,hs,e0,jS,ho,hr]) (by simp[im,hk,hs,e0,jS,ho,hr]))
 ·refine Qn (by rw[hr];rfl) ?_
  by_cases hp:st.b8<=m
  ·refine Qn (by simp[hr,dh];omega) ?_;have e1:dy now sure=some st:=by simp[dy,hk,hs,e0,jS,ho,hr,hp]
   have e2:im now sure=0:=by simp[im,hk,hs,e0,jS,ho,hr,hp]
   have e3:iS now sure=m:=by simp[iS,e1,hs]
   simp only[e1,e2,e3,hr]
  ·exact Qa (by simp[hr,dh];omega) (no 50 (by simp[dy,hk,hs,e0,jS,ho,hr,hp]) (by simp[im,hk,hs,e0,jS,ho,hr,hp]))
def BN:=BM.cm 38 U8
theorem QuD:Qj Tryz.prog cF BN:=QuA.c6 Qb fun args d h=>by
 unfold U8 at h
 split at h
 ·obtain⟨h1,rfl⟩:=ak h;exact⟨by simp[D.refs],40,QuC _ _ _ _ h1⟩
 ·cases h
theorem Mm{l:bL}(h:YF l=true):∀s∈l,Zn s=true:=by
 simp only[YF,ai]at h;exact aX.1 h.2
theorem Qzd{l:bL}(h1:l.length=33)(h2:∀s∈l,Zn s=true):YF l=true:=by
 simp only[YF,ai,aa];exact⟨h1,aX.2 h2⟩
theorem Uh{l:bL}(h:YF l=true):Ql l=true:=by
 have h1:=K4 h;rw[Zo];refine⟨by omega,fun s hs=>Qd ?_⟩;have:=Mm h s hs;simp only[Zn,ai,aa]at this;omega
theorem Jm{now sure:bL}(h:Qt now sure=true):YF now=true/\YF sure=true/\pW now sure 0=true:=by
 simp only[Qt,ai]at h;exact⟨h.1.1,h.1.2,h.2⟩
theorem Nn{now sure:bL}(hl:now.length=sure.length):pW now sure 0=true↔∀i,i<now.length->(sure.getD i iU).n<=(now.getD i iU).n:=by
 unfold pW;rw[bG,aX];constructor
 ·intro h i hi;have hz:i<(now.zip sure).length:=by simp;omega
  have h3:=h _ (bA hz);simp only[List.getElem_zip,aa]at h3;have qi:i<sure.length:=by omega
  simpa[hi,qi]using h3
 ·intro h p hp;obtain⟨i,hi,rfl⟩:=List.getElem_of_mem hp;have h1:i<now.length:=by simp at hi;omega
  have h2:i<sure.length:=by omega
  have:=h i h1;simp only[List.getElem_zip,aa]
  simpa[h1,h2]using this
theorem QkS{now sure:bL}(h:Qt now sure=true):Ql now=true/\Ql sure=true :=
 ⟨Uh (Jm h).1,Uh (Jm h).2.1⟩
theorem qz{now:bL}{k:Nat}{n:Int}{b:bK}{s:cB}(h:s∈K3 now k n b):s∈now\/s=⟨n,b⟩:=by
 unfold K3 at h
 split at h
 ·exact List.mem_or_eq_of_mem_set h
 ·exact .inl h
theorem QuE{now:bL}{k:Nat}{n:Int}{b:bK}(hk:k<now.length)(j:Nat):(K3 now k n b).getD j iU=if j=k/\(now.getD k iU).n<n then⟨n,b⟩else now.getD j iU:=by
 unfold K3
 by_cases h:(now.getD k iU).n<n
 ·rw[ax h]
  by_cases hj:j=k
  ·subst hj;rw[ax ⟨rfl,h⟩];simp[hk]
  ·rw[aw (fun q=>hj q.1)];simp only[ar];rw[List.getElem?_set_ne (fun q=>hj q.symm)]
 ·rw[aw h,aw (fun q=>h q.2)]
theorem L7{now sure:bL}{k n:Int}{b:bK}(h:Zk now sure k n b=true):Qt (iG now sure k n b) (VN now sure k n b)=true:=by
 obtain⟨hd,h0,h1,h2,h3,h4⟩:=LM h;obtain⟨d1,d2,d3⟩:=Jm hd;obtain⟨l1,l2⟩:=Yl hd;simp only[iG,VN,h,ag,Qt,ai];have hk:k.toNat<now.length:=by omega
 refine⟨⟨Qzd (by rw[L6];exact l1) fun s hs=>?_,d2⟩,?_⟩
 ·rcases qz hs with q|rfl
  ·exact Mm d1 s q
  ·exact h4
 ·rw[Nn (by rw[L6];omega)];intro i hi;rw[L6]at hi;have:=(Nn (by omega)).1 d3 i hi;rw[QuE hk]
  split
  ·rename_i q;obtain⟨rfl,q⟩:=q;have h5:(sure.getD k.toNat iU).n<=(now.getD k.toNat iU).n:=this;show(sure.getD k.toNat iU).n<=n;omega
  ·exact this
theorem Mn(now sure:bL)(k n:Int)(b:bK):Ql (iG now sure k n b)=true/\Ql (VN now sure k n b)=true:=by
 cases h:Zk now sure k n b
 ·simp only[iG,VN,h,ah];exact⟨rfl,rfl⟩
 ·exact QkS (L7 h)
theorem Qze{now sure:bL}{n:Int}{s:St}:Zk now sure 32 n (gX n s)=(Qt now sure&&iF n s):=by
 cases h:Zk now sure 32 n (gX n s)
 ·cases hd:Qt now sure
  ·rfl
  cases hk:iF n s
  ·rfl
  exfalso
  have h2:Zk now sure 32 n (gX n s)=true:=by
   have hl := @Nm n s;have gm:=QEX hk;have Pz:(gX n s==[])=false:=by simpa using gm
   simp only[iF,ai,aa]at hk;have p1:decide (0<=n)=true:=by simp;omega
   have p2:decide (n<=1048575)=true:=by simp;omega
   have p3:decide ((gX n s).length<=640)=true:=by simp;omega
   have p4:decide (0<n)=true:=by simp;omega
   have p5:decide (1<=n)=true:=by simp;omega
   simp only[Zk,hd,Zn,Pz,p1,p2,p3,p4,p5];rfl
  rw[h2]at h;cases h
 ·obtain⟨h1,h2,h3,h4,h5,h6⟩:=LM h;rw[h1];cases hk:iF n s
  ·exact absurd (by simp[gX,hk]) h5
  ·rfl
theorem TZ{l:bL}(h:YF l=true):Qt l l=true:=by
 simp only[Qt,h,Bool.true_and];rw[Nn rfl];intro i _;exact Int.le_refl _
theorem QkT{now sure:bL}{s:St}(h:dy now sure=some s):Qs s=true:=by
 unfold dy at h;cases h1:YS now sure 32
 ·rw[h1]at h;cases h
 rw[h1]at h;cases h2:((iE now sure 32).n==0)
 ·rw[h2]at h;simp only[ag,ah,jS,Option.bind_eq_some_iff]at h;obtain⟨_,_,_,h3,h4⟩:=h
  split at h4
  ·cases h4;exact QiS h3
  ·cases h4
 ·rw[h2]at h;cases h
def jT(p:Int):Int:=if p<0 then 0 else p%32
def Ei(s:cB)(p:Int):gB:=if s.n=p then(mh s).bind fun l=>(Zd l).bind fun r=>if r.b8=p then some r else none else none
def j7(now sure:bL)(p:Int):gB:=if Qt now sure=true/\1<=p/\p<=1048575 then Ei (now.getD (jT p).toNat iU) p else none
def lu(now sure:bL):Nat->Int->dC
 |0,_=>[]
 |n+1,p=>match j7 now sure p with
  |some r=>r::lu now sure n (p+1)
  |none=>[]
def jL(now sure:bL)(b:Int):dC:=bif Qt now sure&&decide (0<=b/\b<=1048575)then lu now sure 32 (b+1)else[]
def rI(now sure:bL)(b:Int):Int:=bif Qt now sure&&decide (0<=b/\b<=1048575)then 0 else 2
theorem Ui p:0<=jT p/\jT p<32:=by
 unfold jT;split<;>omega
theorem Qni now sure:∀(n:Nat) (p:Int),(lu now sure n p).length<=n
 |0,p=>by simp[lu]
 |n+1,p=>by
  unfold lu
  split
  ·have:=Qni now sure n (p+1);simp;omega
  ·simp
theorem QDt{now sure:bL}{p:Int}{r:Rec}(h:j7 now sure p=some r):gj r=true/\r.b8=p/\Qt now sure=true/\1<=p/\p<=1048575:=by
 unfold j7 at h
 split at h
 ·rename_i q;unfold Ei at h
  split at h
  ·rw[Option.bind_eq_some_iff]at h;obtain⟨w,_,h⟩:=h;rw[Option.bind_eq_some_iff]at h;obtain⟨r',h1,h⟩:=h
   split at h
   ·rename_i e;cases h;exact⟨Qt8 h1,e,q⟩
   ·cases h
  ·cases h
 ·cases h
theorem No{r:Rec}(h:gj r=true):r.dV.length<=4:=(Qrh (p:=r.b8) (y:=r.yes) (l:=r.dV) h).2.1
theorem Qnj now sure:∀(n:Nat) (p:Int),∀r∈lu now sure n p,gj r=true
 |0,p,r,h=>by simp[lu]at h
 |n+1,p,r,h=>by
  unfold lu at h
  split at h
  ·rename_i r' h';rcases aZ.1 h with rfl|h
   ·exact(QDt h').1
   ·exact Qnj now sure n (p+1) r h
  ·simp at h
theorem MV now sure b:(jL now sure b).length<=32:=by
 unfold jL;cases Qt now sure&&decide (0<=b/\b<=1048575)
 ·simp
 ·exact Qni _ _ _ _
theorem MW now sure b:∀r∈jL now sure b,gj r=true:=by
 unfold jL;cases Qt now sure&&decide (0<=b/\b<=1048575)
 ·simp
 ·exact Qnj _ _ _ _
open Go.Proofs
theorem QDu p:(if p<0 then 0 else p).tmod 32=jT p:=by
 unfold jT
 split
 ·rfl
 ·rw[Int.tmod_eq_emod_of_nonneg (by omega)]
theorem QuF{now sure:bL}{p:Int}(h:Qt now sure=false):j7 now sure p=none:=aw (by rw[h];simp)
theorem Hj{now sure:bL}{p:Int}(h:¬(1<=p/\p<=1048575)):j7 now sure p=none:=aw (fun e=>h e.2)
theorem S2{now sure:bL}(h:Qt now sure=true)(k:Nat):(now.getD k iU).b.length<=640:=by
 by_cases hk:k<now.length
 ·have e:now.getD k iU=now[k]:=by simp[hk]
  have:=Mm (Jm h).1 _ (bA hk);rw[e];simp only[Zn,ai,aa]at this;exact this.1.2
 ·have e:now.getD k iU=iU:=by simp[hk]
  rw[e];simp[iU]
def Uj:bW->bO
 |[.int .i64 p]=>some (true,.int .i64 (jT p))
 |_=>none
def U9(p:Int):=eU cF BN 20 180 [.int .i64 p]
theorem QpM p:U9 p=(some (D.int .i64 (Int.tmod (if p<(0:Int)then(0:Int)else p) (32:Int)))):=by kernel_rfl
theorem QpN p(h:(true)=true):U9 p=some (.int .i64 (jT p)):=by
 rw[QpM];rw[QDu]
def zi:=BN.cm 180 Uj
theorem QuG:Qj Tryz.prog cF zi:=QuD.c6 Qb fun args d h=>by
 unfold Uj at h
 split at h
 ·obtain⟨h1,rfl⟩:=ak h;exact⟨by simp[D.refs],20,QpN _ h1⟩
 ·cases h
def UF:bW->bO
 |[.int .i64 p]=>some (true,.int .i64 (jT p))
 |_=>none
def Wa(p:Int):=eU cF zi 20 56 [.int .i64 p]
theorem QpO p:Wa p=(bif decide (p<(0:Int))then some (D.int .i64 0)else some (D.int .i64 (Int.tmod p (32:Int)))):=by kernel_rfl
theorem QpP p(h:(true)=true):Wa p=some (.int .i64 (jT p)):=by
 rw[QpO];refine Qy (fun e=>?_) fun e=>?_
 ·simp only[aa]at e;rw[jT,ax e]
 ·simp only[ae]at e;rw[jT,aw e,Int.tmod_eq_emod_of_nonneg (by omega)]
def zj:=zi.cm 56 UF
theorem QuH:Qj Tryz.prog cF zj:=QuG.c6 Qb fun args d h=>by
 unfold UF at h
 split at h
 ·obtain⟨h1,rfl⟩:=ak h;exact⟨by simp[D.refs],20,QpP _ h1⟩
 ·cases h
def QuI:bW->bO
 |[.bI (.int .i64 n) (.bI (.str b) .bN)]=>some (decide (b.length<=1000000),.cH (.bI (.str ((mh ⟨n,b⟩).getD [])) (.bI (.bool (mh ⟨n,b⟩).isSome) .bN)))
 |_=>none
def Sw(n:Int)(b:bK):=eU cF zj 40 159 [.bI (.int .i64 n) (.bI (.str b) .bN)]
theorem QDv n b:Sw n b=(let Z0:fG:=some (D.cH (D.bI (D.str (Array.toList #[])) (.bI (D.bool false) .bN)));bif decide (b.length<=1000000)then bif(bif Option.isNone (Yk b)then(50:Int)else(0:Int))!=0then Z0 else bif n8 b !=n then Z0 else some (D.cH (D.bI (D.str (ow b)) (.bI (D.bool true) .bN)))else none):=by kernel_rfl
theorem QDw n b(h:(decide (b.length<=1000000))=true):Sw n b=some (.cH (.bI (.str ((mh ⟨n,b⟩).getD [])) (.bI (.bool (mh ⟨n,b⟩).isSome) .bN))):=by
 (rw[QDv];conv=>zeta)
 rw[h];simp only[n8,ow,mh,ag];cases hr:Yk b with
 |none=>rfl
 |some p=>
  obtain⟨m,l⟩:=p
  by_cases e:m=n
  ·subst e;simp[bne]
  ·have e2:(m !=n)=true:=by simpa[bne]using e
   simp[e,e2]
def zk:=zj.cm 159 QuI
theorem QuJ:Qj Tryz.prog cF zk:=QuH.c6 Qb fun args d h=>by
 unfold QuI at h
 split at h
 ·obtain⟨h1,rfl⟩:=ak h;exact⟨by simp[D.refs],40,QDw _ _ h1⟩
 ·cases h
def Sx:bW->bO
 |[.bI (.sl .bS c now) (.bI (.sl .bS d sure) .bN),.int .i64 p]=>some (Ql now&&Ql sure,.cH (.bI (cG (fJ (j7 now sure p)).b8 (.bI (.bool (fJ (j7 now sure p)).yes) (cL .write (j7 now sure p).isNone (fJ (j7 now sure p)).dV .bN))) (.bI (.bool (j7 now sure p).isSome) .bN)))
 |_=>none
def SR(c:Bool)(now:bL)(d:Bool)(sure:bL)(p:Int):=eU cF zk 60 148 [.bI (.sl (C:=RC) .bS c now) (cL .bS d sure .bN),.int .i64 p]
theorem QE1 c now d sure p:SR c now d sure p=(let Z0:fG:=some (D.cH (D.bI (D.bI (cq 0) (.bI (D.bool false) (.bI (D.sl ca.write true []) .bN))) (.bI (D.bool false) .bN)));let Z1:cB:=List.getD now (jT p).toNat (cB.mk 0 []);let Z2:fq:=mh (cB.mk (cB.n Z1) (cB.b Z1));let Z3:bK:=(fun(l:bK)=>l) (Option.getD Z2 []);let Z4:=Option.isNone (Zd Z3);let Z5:Rec:=fJ (Zd Z3);cb (Ql now&&Ql sure) (bif (bif Qt now sure then (0:Int)else (2:Int))!=0 then Z0 else bif decide (p<1)then Z0 else bif decide ((0:Int)<=p)then bif !decide (p<=1048575)then Z0 else cb (ep (jT p) (now.length:Int)) (bif !cB.n Z1==p then Z0 else cb (decide (List.length (cB.b Z1)<=1000000)) (bif !Option.isSome Z2 then Z0 else cb (Qf (Option.getD Z2 []).length 1) (cb (decide (Z3.length<=1000000)) (bif (bif Z4 then (50:Int)else (0:Int))==0 then bif !Rec.b8 Z5==p then Z0 else some (D.cH (D.bI (D.bI (cq Z5.b8) (.bI (D.bool Z5.yes) (.bI (D.sl ca.write Z4 Z5.dV) .bN))) (.bI (D.bool true) .bN)))else Z0))))else Z0)):=by kernel_rfl
theorem QE2 c now d sure p(h:(Ql now&&Ql sure)=true):SR c now d sure p=some (.cH (.bI (cG (fJ (j7 now sure p)).b8 (.bI (.bool (fJ (j7 now sure p)).yes) (cL .write (j7 now sure p).isNone (fJ (j7 now sure p)).dV .bN))) (.bI (.bool (j7 now sure p).isSome) .bN))):=by
 (rw[QE1];delta cb ep cq;conv=>zeta)
 have no:j7 now sure p=none->some (D.cH (.bI (cG 0 (.bI (.bool false) (cL .write true [] .bN))) (.bI (.bool false) .bN)))=some (.cH (.bI (cG (fJ (j7 now sure p)).b8 (.bI (.bool (fJ (j7 now sure p)).yes) (cL .write (j7 now sure p).isNone (fJ (j7 now sure p)).dV .bN))) (.bI (.bool (j7 now sure p).isSome) .bN))):=fun e=>by simp only[e];rfl
 refine Qa h ?_;cases hd:Qt now sure
 ·exact Qa rfl (no (QuF hd))
 obtain⟨l1,l2⟩:=Yl hd;refine Qn rfl ?_;refine Qy (fun e=>no (Hj (by simp only[aa]at e;omega))) fun e1=>?_;simp only[ae]at e1;refine Qa (ab (by omega)) ?_;refine Qy (fun e=>no (Hj (by simp only[Bool.not_eq_true',ae]at e;omega))) fun e2=>?_;simp only[Bool.not_eq_false',aa]at e2;obtain⟨s0,s1⟩:=Ui p;refine Qa (ab (by omega)) ?_;have hb:=S2 hd (jT p).toNat;have eq:j7 now sure p=Ei (now.getD (jT p).toNat iU) p:=ax ⟨hd,by omega,e2⟩;have e0:(⟨0,[]⟩:cB)=iU:=rfl;rw[e0];generalize now.getD (jT p).toNat iU=s at hb eq ⊢;obtain⟨n,b⟩:=s
 dsimp only at hb eq ⊢
 have hf:=Hi ⟨n,b⟩
 dsimp only at hf
 rcases Decidable.em (n=p)with hn|hn;rotate_left
 ·exact Qa (by rw[IZ hn];rfl) (no (eq.trans (aw hn)))
 refine Qn (by rw[IY hn];rfl) ?_;have eq:=eq.trans (ax hn);refine Qa (ab (by omega)) ?_;cases ho:mh ⟨n,b⟩with
 |none=>exact Qa rfl (no (by rw[eq,ho];rfl))
 |some w=>
  rw[ho]at hf eq;simp only[ba,Option.bind_some]at hf eq;refine Qn rfl ?_;simp only[ba];refine Qa (Zb (by omega)) ?_;refine Qa (ab (by show w.length<=1000000;omega)) ?_;have hr:Zd w=none\/∃r,Zd w=some r:=by cases Zd w<;>simp
  rcases hr with hr|⟨r,hr⟩
  ·rw[hr]at eq ⊢;exact Qn rfl (no eq)
  ·rw[hr]at eq ⊢;refine Qa rfl ?_;simp only[Option.bind_some]at eq
   by_cases hp:r.b8=p
   ·refine Qn (by show(!(r.b8==p))=false;rw[IY hp];rfl) ?_;rw[eq.trans (ax hp)];rfl
   ·exact Qa (by show(!(r.b8==p))=true;rw[IZ hp];rfl) (no (eq.trans (aw hp)))
def zl:=zk.cm 148 Sx
theorem QuK:Qj Tryz.prog cF zl:=QuJ.c6 Qb fun args d h=>by
 unfold Sx at h
 split at h
 ·obtain⟨h1,rfl⟩:=ak h;exact⟨by simp[D.refs],60,QE2 _ _ _ _ _ h1⟩
 ·cases h
def Sy:bW->bO
 |[.bI (.sl .bS c now) (.bI (.sl .bS d sure) .bN),.int .i64 p]=>some (Ql now&&Ql sure,.cH (.bI (cG (fJ (j7 now sure p)).b8 (.bI (.bool (fJ (j7 now sure p)).yes) (cL .write (j7 now sure p).isNone (fJ (j7 now sure p)).dV .bN))) (.bI (.bool (j7 now sure p).isSome) .bN)))
 |_=>none
def SS(c:Bool)(now:bL)(d:Bool)(sure:bL)(p:Int):=eU cF zl 60 98 [.bI (.sl (C:=RC) .bS c now) (cL .bS d sure .bN),.int .i64 p]
theorem QE5 c now d sure p:SS c now d sure p=(let Z0:fG:=some (D.cH (D.bI (D.bI (cq 0) (.bI (D.bool false) (.bI (D.sl ca.write true []) .bN))) (.bI (D.bool false) .bN)));let Z1:cB:=List.getD now (jT p).toNat (cB.mk 0 []);let Z2:fq:=mh (cB.mk (cB.n Z1) (cB.b Z1));let Z3:bK:=(fun(l:bK)=>l) (Option.getD Z2 []);let Z4:=Option.isNone (Zd Z3);let Z5:Rec:=fJ (Zd Z3);cb (Ql now&&Ql sure) (bif (bif Qt now sure then (0:Int)else (2:Int))!=0 then Z0 else bif decide (p<1)then Z0 else bif decide ((0:Int)<=p)then bif !decide (p<=1048575)then Z0 else cb (ep (jT p) (now.length:Int)) (cb (decide (List.length (cB.b Z1)<=1000000)) (bif !Option.isSome Z2 then Z0 else bif cB.n Z1 !=p then Z0 else cb (Qf (Option.getD Z2 []).length 1) (cb (decide (Z3.length<=1000000)) (bif (bif Z4 then (50:Int)else (0:Int))!=0 then Z0 else bif Rec.b8 Z5 !=p then Z0 else some (D.cH (D.bI (D.bI (cq Z5.b8) (.bI (D.bool Z5.yes) (.bI (D.sl ca.write Z4 Z5.dV) .bN))) (.bI (D.bool true) .bN)))))))else Z0)):=by kernel_rfl
theorem QE6 c now d sure p(h:(Ql now&&Ql sure)=true):SS c now d sure p=some (.cH (.bI (cG (fJ (j7 now sure p)).b8 (.bI (.bool (fJ (j7 now sure p)).yes) (cL .write (j7 now sure p).isNone (fJ (j7 now sure p)).dV .bN))) (.bI (.bool (j7 now sure p).isSome) .bN))):=by
 (rw[QE5];delta cb ep cq;conv=>zeta)
 have no:j7 now sure p=none->some (D.cH (.bI (cG 0 (.bI (.bool false) (cL .write true [] .bN))) (.bI (.bool false) .bN)))=some (.cH (.bI (cG (fJ (j7 now sure p)).b8 (.bI (.bool (fJ (j7 now sure p)).yes) (cL .write (j7 now sure p).isNone (fJ (j7 now sure p)).dV .bN))) (.bI (.bool (j7 now sure p).isSome) .bN))):=fun e=>by simp only[e];rfl
 refine Qa h ?_;cases hd:Qt now sure
 ·exact Qa rfl (no (QuF hd))
 obtain⟨l1,l2⟩:=Yl hd;refine Qn rfl ?_;refine Qy (fun e=>no (Hj (by simp only[aa]at e;omega))) fun e1=>?_;simp only[ae]at e1;refine Qa (ab (by omega)) ?_;refine Qy (fun e=>no (Hj (by simp only[Bool.not_eq_true',ae]at e;omega))) fun e2=>?_;simp only[Bool.not_eq_false',aa]at e2;obtain⟨s0,s1⟩:=Ui p;refine Qa (ab (by omega)) ?_;have hb:=S2 hd (jT p).toNat;have eq:j7 now sure p=Ei (now.getD (jT p).toNat iU) p:=ax ⟨hd,by omega,e2⟩;have e0:(⟨0,[]⟩:cB)=iU:=rfl;rw[e0];generalize now.getD (jT p).toNat iU=s at hb eq ⊢;obtain⟨n,b⟩:=s
 dsimp only at hb eq ⊢
 have hf:=Hi ⟨n,b⟩
 dsimp only at hf
 refine Qa (ab (by omega)) ?_;cases ho:mh ⟨n,b⟩with
 |none=>exact Qa rfl (no (by rw[eq,Ei];split<;>simp[ho]))
 |some w=>
  rw[ho]at hf;simp only[ba]at hf;refine Qn rfl ?_;simp only[ba];rcases Decidable.em (n=p)with hn|hn;rotate_left
  ·exact Qa (I0 hn) (no (eq.trans (aw hn)))
  refine Qn (I1 hn) ?_;have eq:=eq.trans (ax hn);rw[ho]at eq;simp only[Option.bind_some]at eq;refine Qa (Zb (by omega)) ?_;refine Qa (ab (by show w.length<=1000000;omega)) ?_;have hr:Zd w=none\/∃r,Zd w=some r:=by cases Zd w<;>simp
  rcases hr with hr|⟨r,hr⟩
  ·rw[hr]at eq ⊢;exact Qa rfl (no eq)
  ·rw[hr]at eq ⊢;refine Qn rfl ?_;simp only[Option.bind_some]at eq
   by_cases hp:r.b8=p
   ·refine Qn (I1 hp) ?_;rw[eq.trans (ax hp)];rfl
   ·exact Qa (I0 hp) (no (eq.trans (aw hp)))
def zm:=zl.cm 98 Sy
theorem QuL:Qj Tryz.prog cF zm:=QuK.c6 Qb fun args d h=>by
 unfold Sy at h
 split at h
 ·obtain⟨h1,rfl⟩:=ak h;exact⟨by simp[D.refs],60,QE6 _ _ _ _ _ h1⟩
 ·cases h
open Go.Proofs
def eR(o:gB):Rec:=⟨(fJ o).b8,(fJ o).yes,(fJ o).dV⟩
def y7(e:Bool)(l:dC):jd:=some (.cH (cL .iT e l (cG 0 .bN)))
def tE(now sure:bL)(b:Int):Nat->Nat->Bool->dC->jd
 |0,_,e,acc=>y7 e acc
 |n+1,i,e,acc=>bif Ql now&&Ql sure then(bif !(j7 now sure (IntKind.i64.wrap (b+(i:Int)))).isSome then y7 e acc else tE now sure b n (i+1) false (acc++[eR (j7 now sure (IntKind.i64.wrap (b+(i:Int))))]))else none
theorem QuM{now sure:bL}{n:Nat}{p:Int}{r:Rec}(h:j7 now sure p=some r):lu now sure (n+1) p=r::lu now sure n (p+1):=by
 conv=>lhs;unfold lu
 rw[h]
theorem QuN{now sure:bL}{b:Int}(hg:(Ql now&&Ql sure)=true)(h0:0<=b)(h1:b<=1048575):∀(n i:Nat) (e:Bool) (acc:dC),i+n<=1000 ->
 tE now sure b n i e acc=y7 (e&&(lu now sure n (b+(i:Int))).isEmpty) (acc++lu now sure n (b+(i:Int)))
 |0,i,e,acc,_=>by simp[tE,lu]
 |n+1,i,e,acc,h=>by
  have w:IntKind.i64.wrap (b+(i:Int))=b+(i:Int):=cu (by omega) (by omega);unfold tE;rw[hg,w];cases ha:j7 now sure (b+(i:Int))with
  |none=>simp[lu,ha]
  |some r=>
   have e1:b+((i+1:Nat):Int)=b+(i:Int)+1:=by omega
   have:=QuN hg h0 h1 n (i+1) false (acc++[eR (some r)]) (by omega);rw[e1]at this;simp only[Option.isSome_some,bg,ag,ah,this];rw[QuM ha];simp[eR,fJ]
def vD(now sure:bL)(b:Int):jd:=
 bif Ql now&&Ql sure then(bif(bif Qt now sure then(0:Int)else 2)!=0 then some (.cH (cL .iT true [] (cG 2 .bN)))else bif decide (0<=b)then(bif !decide (b<=1048575)then some (.cH (cL .iT true [] (cG 2 .bN)))else tE now sure b 32 1 true [])else some (.cH (cL .iT true [] (cG 2 .bN))))else none
theorem QuO{now sure:bL}{b:Int}(h:(Ql now&&Ql sure)=true):vD now sure b=some (.cH (cL .iT (jL now sure b).isEmpty (jL now sure b) (cG (rI now sure b) .bN))):=by
 unfold vD jL rI;rw[h];cases hd:Qt now sure
 ·rfl
 by_cases q:0<=b/\b<=1048575
 ·have t:=QuN h q.1 q.2 32 1 true [] (by omega);rw[ab q,ab q.1,ab q.2,t];rfl
 ·rw[ad q];cases h1:decide (0<=b)
  ·rfl
  cases h2:decide (b<=1048575)
  ·rfl
  simp only[aa]at h1 h2;exact absurd ⟨h1,h2⟩ q
def Qnk:bW->bO
 |[.bI (.sl .bS c now) (.bI (.sl .bS d sure) .bN),.int .i64 b]=>some (Ql now&&Ql sure,.cH (cL .iT (jL now sure b).isEmpty (jL now sure b) (cG (rI now sure b) .bN)))
 |_=>none
def QuQ(c:Bool)(now:bL)(d:Bool)(sure:bL)(b:Int):=eU cF zm 800 35 [.bI (.sl (C:=RC) .bS c now) (cL .bS d sure .bN),.int .i64 b]
theorem QDx c now d sure b:QuQ c now d sure b=vD now sure b:=by kernel_rfl
theorem Qzf c now d sure b(h:(Ql now&&Ql sure)=true):QuQ c now d sure b=some (.cH (cL .iT (jL now sure b).isEmpty (jL now sure b) (cG (rI now sure b) .bN))):=by
 rw[QDx];exact QuO h
def zn:=zm.cm 35 Qnk
theorem QuR:Qj Tryz.prog cF zn:=QuL.c6 Qb fun args d h=>by
 unfold Qnk at h
 split at h
 ·obtain⟨h1,rfl⟩:=ak h;exact⟨by simp[D.refs],800,Qzf _ _ _ _ _ h1⟩
 ·cases h
def Qnl:bW->bO
 |[.bI (.sl .bS c now) (.bI (.sl .bS d sure) .bN),.int .i64 b]=>some (Ql now&&Ql sure,.cH (cL .iT (jL now sure b).isEmpty (jL now sure b) (cG (rI now sure b) .bN)))
 |_=>none
def QuT(c:Bool)(now:bL)(d:Bool)(sure:bL)(b:Int):=eU cF zn 800 39 [.bI (.sl (C:=RC) .bS c now) (cL .bS d sure .bN),.int .i64 b]
theorem QDy c now d sure b:QuT c now d sure b=vD now sure b:=by kernel_rfl
theorem Qzg c now d sure b(h:(Ql now&&Ql sure)=true):QuT c now d sure b=some (.cH (cL .iT (jL now sure b).isEmpty (jL now sure b) (cG (rI now sure b) .bN))):=by
 rw[QDy];exact QuO h
def zo:=zn.cm 39 Qnl
theorem QuU:Qj Tryz.prog cF zo:=QuR.c6 Qb fun args d h=>by
 unfold Qnl at h
 split at h
 ·obtain⟨h1,rfl⟩:=ak h;exact⟨by simp[D.refs],800,Qzg _ _ _ _ _ h1⟩
 ·cases h
def eN(first n many:Int):Int:=if 0<=n/\n<many then first+n else -1
def dR(q o:Int):Int:=if 0<=q/\q<=2/\0<=o then 51+16*q+o%16 else -1
def eE(first slot f many db:Int):Int:=if 0<=slot/\slot<many/\0<=f/\f<db then first+slot*db+f else -1
def ZY(c w d n:Int):Bool:=Qm c 1 4&&Qm w 2 8&&Qm d 1 4&&Qm n 4 40
def lE(c w d n m6:Int)(node:Bool):Int×Int:=if ZY c w d n=true/\0<=m6/\m6<c then(m6*(bif node then n else d),bif node then n else d)else(0,0)
theorem F9{x a b:Int}(h:Qm x a b=false):¬(a<=x/\x<=b):=by rw[<-Qp];simp[h]
theorem QuV{p w:Int}(h:0<=p):p.tmod w=p%w:=Int.tmod_eq_emod_of_nonneg h
theorem pX{α:Type}{c:Bool}{x y z:α}(h1:c=true->x=z)(h2:c=false->y=z):cond c x y=z:=by cases c;exact h2 rfl;exact h1 rfl
theorem Qnm{c w d n:Int}(h:ZY c w d n=true):(1<=c/\c<=4)/\(2<=w/\w<=8)/\(1<=d/\d<=4)/\4<=n/\n<=40:=by
 simp only[ZY,ai,Qp]at h;omega
def BS:bY:=0::1::List.replicate 289 0++(List.replicate 160 [(0:Int),-1,0]).flatten
open Go.Proofs
def Sz:bW->bO
 |[.int .i64 n,.int .i64 a,.int .i64 b]=>some (true,.bool (Qm n a b))
 |_=>none
def SU(n a b:Int):=eU cF zo 20 101 [.int .i64 n,.int .i64 a,.int .i64 b]
theorem QE9 n a b:SU n a b=(bif decide (a<=n)then some (D.bool (decide (n<=b)))else some (D.bool false)):=by kernel_rfl
theorem QFa n a b(h:(true)=true):SU n a b=some (.bool (Qm n a b)):=by
 rw[QE9];rw[Qm];cases decide (a<=n)<;>simp
def zp:=zo.cm 101 Sz
theorem QuW:Qj Tryz.prog cF zp:=QuU.c6 Qb fun args d h=>by
 unfold Sz at h
 split at h
 ·obtain⟨h1,rfl⟩:=ak h;exact⟨by simp[D.refs],20,QFa _ _ _ h1⟩
 ·cases h
def UG:bW->bO
 |[.int .i64 q,.int .i64 o]=>some (true,.int .i64 (dR q o))
 |_=>none
def Wb(q o:Int):=eU cF zp 20 118 [.int .i64 q,.int .i64 o]
theorem QpQ q o:Wb q o=(let Z0:fG:=some (cq (-1:Int));bif !Qm q (0:Int) (2:Int)then Z0 else bif decide (o<(0:Int))then Z0 else some (cq (cX (cX ((51:Int)+cX ((16:Int)*q))+Int.tmod o (16:Int))))):=by kernel_rfl
theorem QpR q o(h:(true)=true):Wb q o=some (.int .i64 (dR q o)):=by
 (rw[QpQ];delta cq cX;conv=>zeta)
 unfold dR;cases h1:Qm q 0 2
 ·have h2:=F9 h1;rw[aw (by omega)];rfl
 ·rw[Qp]at h1;simp only[bg,ah];refine pX (fun h0=>?_) fun h0=>?_<;>simp only[aa,ae]at h0
  ·rw[aw (by omega)]
  ·rw[QuV (by omega),cu (n:=16*q) (by omega) (by omega),cu (n:=51+16*q) (by omega) (by omega),cu (by omega) (by omega),ax ⟨h1.1,h1.2,by omega⟩]
def zq:=zp.cm 118 UG
theorem QuX:Qj Tryz.prog cF zq:=QuW.c6 Qb fun args d h=>by
 unfold UG at h
 split at h
 ·obtain⟨h1,rfl⟩:=ak h;exact⟨by simp[D.refs],20,QpR _ _ h1⟩
 ·cases h
def UH:bW->bO
 |[.int .i64 q,.int .i64 o]=>some (true,.int .i64 (dR q o))
 |_=>none
def W5(q o:Int):=eU cF zq 20 69 [.int .i64 q,.int .i64 o]
theorem QpS q o:W5 q o=(let Z0:fG:=some (cq (-1:Int));bif decide (q<0)then Z0 else bif decide ((3:Int)<=q)then Z0 else bif decide (o<0)then Z0 else some (cq (cX (cX ((51:Int)+cX ((16:Int)*q))+Int.tmod o 16)))):=by kernel_rfl
theorem QpT q o(h:(true)=true):W5 q o=some (.int .i64 (dR q o)):=by
 (rw[QpS];delta cq cX;conv=>zeta)
 unfold dR;refine pX (fun h0=>?_) fun h0=>?_<;>simp only[aa,ae]at h0
 ·rw[aw (by omega)]
 refine pX (fun h1=>?_) fun h1=>?_<;>simp only[aa,ae]at h1
 ·rw[aw (by omega)]
 refine pX (fun h2=>?_) fun h2=>?_<;>simp only[aa,ae]at h2
 ·rw[aw (by omega)]
 rw[QuV (by omega),cu (n:=16*q) (by omega) (by omega),cu (n:=51+16*q) (by omega) (by omega),cu (by omega) (by omega),ax ⟨by omega,by omega,by omega⟩]
def zr:=zq.cm 69 UH
theorem QuY:Qj Tryz.prog cF zr:=QuX.c6 Qb fun args d h=>by
 unfold UH at h
 split at h
 ·obtain⟨h1,rfl⟩:=ak h;exact⟨by simp[D.refs],20,QpT _ _ h1⟩
 ·cases h
def Qnn:bW->bO
 |[.int .i64 a,.int .i64 n,.int .i64 m]=>some (true,.int .i64 (bif decide (0<=n)&&decide (n<m)then IntKind.i64.wrap (a+n)else -1))
 |_=>none
def Qu0(a n m:Int):=eU cF zr 20 133 [.int .i64 a,.int .i64 n,.int .i64 m]
theorem Qzh a n m:Qu0 a n m=(let Z0:fG:=some (cq (-1:Int));bif decide (n<(0:Int))then Z0 else bif decide (m<=n)then Z0 else some (cq (cX (a+n)))):=by kernel_rfl
theorem Qzi a n m(h:(true)=true):Qu0 a n m=some (.int .i64 (bif decide (0<=n)&&decide (n<m)then IntKind.i64.wrap (a+n)else -1)):=by
 (rw[Qzh];delta cq cX;conv=>zeta)
 refine pX (fun h0=>?_) fun h0=>?_<;>simp only[aa,ae]at h0
 ·rw[ad (p:=0<=n) (by omega)];rfl
 refine pX (fun h1=>?_) fun h1=>?_<;>simp only[aa,ae]at h1
 ·rw[ad (p:=n<m) (by omega),Bool.and_false];rfl
 ·rw[ab (p:=0<=n) (by omega),ab (p:=n<m) (by omega)];rfl
def zt:=zr.cm 133 Qnn
theorem Qu1:Qj Tryz.prog cF zt:=QuY.c6 Qb fun args d h=>by
 unfold Qnn at h
 split at h
 ·obtain⟨h1,rfl⟩:=ak h;exact⟨by simp[D.refs],20,Qzi _ _ _ h1⟩
 ·cases h
def Qno:bW->bO
 |[.int .i64 a,.int .i64 s,.int .i64 n,.int .i64 m]=>some (true,.int .i64 (bif decide (0<=n)&&decide (n<m)then IntKind.i64.wrap (a+IntKind.i64.wrap (s*n))else -1))
 |_=>none
def Qu3(a s n m:Int):=eU cF zt 20 127 [.int .i64 a,.int .i64 s,.int .i64 n,.int .i64 m]
theorem Qzj a s n m:Qu3 a s n m=(let Z0:fG:=some (cq (-1:Int));bif decide (n<(0:Int))then Z0 else bif decide (m<=n)then Z0 else some (cq (cX (a+cX (s*n))))):=by kernel_rfl
theorem Qzk a s n m(h:(true)=true):Qu3 a s n m=some (.int .i64 (bif decide (0<=n)&&decide (n<m)then IntKind.i64.wrap (a+IntKind.i64.wrap (s*n))else -1)):=by
 (rw[Qzj];delta cq cX;conv=>zeta)
 refine pX (fun h0=>?_) fun h0=>?_<;>simp only[aa,ae]at h0
 ·rw[ad (p:=0<=n) (by omega)];rfl
 refine pX (fun h1=>?_) fun h1=>?_<;>simp only[aa,ae]at h1
 ·rw[ad (p:=n<m) (by omega),Bool.and_false];rfl
 ·rw[ab (p:=0<=n) (by omega),ab (p:=n<m) (by omega)];rfl
def zu:=zt.cm 127 Qno
theorem Qu4:Qj Tryz.prog cF zu:=Qu1.c6 Qb fun args d h=>by
 unfold Qno at h
 split at h
 ·obtain⟨h1,rfl⟩:=ak h;exact⟨by simp[D.refs],20,Qzk _ _ _ _ h1⟩
 ·cases h
def W6:bW->bO
 |[.int .i64 n]=>some (true,.int .i64 (eN 21 n 24))
 |_=>none
def Qnq(n:Int):=eU cF zu 20 124 [.int .i64 n]
theorem Qu5 n:Qnq n=(some (D.int .i64 (bif decide ((0:Int)<=n)&&decide (n<(24:Int))then IntKind.wrap .i64 ((21:Int)+n)else(-1:Int)))):=by kernel_rfl
theorem Qu6 n(h:(true)=true):Qnq n=some (.int .i64 (eN 21 n 24)):=by
 rw[Qu5]
 congr 2
 unfold eN
 by_cases h0:0<=n
 ·by_cases h1:n<24
  ·simp(disch:=omega) only[ab h0,ab h1,au,ag,uF];rw[ax ⟨h0,h1⟩]
  ·simp only[ad h1,Bool.and_false,ah];rw[aw (by omega)]
 ·simp only[ad h0,Bool.false_and,ah];rw[aw (by omega)]
def zw:=zu.cm 124 W6
theorem Qu7:Qj Tryz.prog cF zw:=Qu4.c6 Qb fun args d h=>by
 unfold W6 at h
 split at h
 ·obtain⟨h1,rfl⟩:=ak h;exact⟨by simp[D.refs],20,Qu6 _ h1⟩
 ·cases h
def W7:bW->bO
 |[.int .i64 n]=>some (true,.int .i64 (eN 21 n 24))
 |_=>none
def Qns(n:Int):=eU cF zw 20 67 [.int .i64 n]
theorem Qu8 n:Qns n=(some (D.int .i64 (bif decide ((0:Int)<=n)&&decide (n<(24:Int))then IntKind.wrap .i64 ((21:Int)+IntKind.wrap .i64 ((1:Int)*n))else(-1:Int)))):=by kernel_rfl
theorem Qu9 n(h:(true)=true):Qns n=some (.int .i64 (eN 21 n 24)):=by
 rw[Qu8]
 congr 2
 unfold eN
 by_cases h0:0<=n
 ·by_cases h1:n<24
  ·simp(disch:=omega) only[ab h0,ab h1,au,ag,Int.one_mul,uF];rw[ax ⟨h0,h1⟩]
  ·simp only[ad h1,Bool.and_false,ah];rw[aw (by omega)]
 ·simp only[ad h0,Bool.false_and,ah];rw[aw (by omega)]
def zx:=zw.cm 67 W7
theorem Qva:Qj Tryz.prog cF zx:=Qu7.c6 Qb fun args d h=>by
 unfold W7 at h
 split at h
 ·obtain⟨h1,rfl⟩:=ak h;exact⟨by simp[D.refs],20,Qu9 _ h1⟩
 ·cases h
def UI:bW->bO
 |[.int .i64 n]=>some (true,.int .i64 (eN 45 n 3))
 |_=>none
def W8(n:Int):=eU cF zx 20 119 [.int .i64 n]
theorem QpU n:W8 n=(some (D.int .i64 (bif decide ((0:Int)<=n)&&decide (n<(3:Int))then IntKind.wrap .i64 ((45:Int)+n)else(-1:Int)))):=by kernel_rfl
theorem QpV n(h:(true)=true):W8 n=some (.int .i64 (eN 45 n 3)):=by
 rw[QpU]
 congr 2
 unfold eN
 by_cases h0:0<=n
 ·by_cases h1:n<3
  ·simp(disch:=omega) only[ab h0,ab h1,au,ag,uF];rw[ax ⟨h0,h1⟩]
  ·simp only[ad h1,Bool.and_false,ah];rw[aw (by omega)]
 ·simp only[ad h0,Bool.false_and,ah];rw[aw (by omega)]
def zy:=zx.cm 119 UI
theorem Qvb:Qj Tryz.prog cF zy:=Qva.c6 Qb fun args d h=>by
 unfold UI at h
 split at h
 ·obtain⟨h1,rfl⟩:=ak h;exact⟨by simp[D.refs],20,QpV _ h1⟩
 ·cases h
def UJ:bW->bO
 |[.int .i64 n]=>some (true,.int .i64 (eN 45 n 3))
 |_=>none
def W9(n:Int):=eU cF zy 20 70 [.int .i64 n]
theorem QpW n:W9 n=(some (D.int .i64 (bif decide ((0:Int)<=n)&&decide (n<(3:Int))then IntKind.wrap .i64 ((45:Int)+IntKind.wrap .i64 ((1:Int)*n))else(-1:Int)))):=by kernel_rfl
theorem QpX n(h:(true)=true):W9 n=some (.int .i64 (eN 45 n 3)):=by
 rw[QpW]
 congr 2
 unfold eN
 by_cases h0:0<=n
 ·by_cases h1:n<3
  ·simp(disch:=omega) only[ab h0,ab h1,au,ag,Int.one_mul,uF];rw[ax ⟨h0,h1⟩]
  ·simp only[ad h1,Bool.and_false,ah];rw[aw (by omega)]
 ·simp only[ad h0,Bool.false_and,ah];rw[aw (by omega)]
def zA:=zy.cm 70 UJ
theorem Qvc:Qj Tryz.prog cF zA:=Qvb.c6 Qb fun args d h=>by
 unfold UJ at h
 split at h
 ·obtain⟨h1,rfl⟩:=ak h;exact⟨by simp[D.refs],20,QpX _ h1⟩
 ·cases h
def Qnt:bW->bO
 |[.int .i64 n]=>some (true,.int .i64 (eN 48 n 3))
 |_=>none
def Qve(n:Int):=eU cF zA 20 74 [.int .i64 n]
theorem Qzl n:Qve n=(some (D.int .i64 (bif decide ((0:Int)<=n)&&decide (n<(3:Int))then IntKind.wrap .i64 ((48:Int)+n)else(-1:Int)))):=by kernel_rfl
theorem Qzm n(h:(true)=true):Qve n=some (.int .i64 (eN 48 n 3)):=by
 rw[Qzl]
 congr 2
 unfold eN
 by_cases h0:0<=n
 ·by_cases h1:n<3
  ·simp(disch:=omega) only[ab h0,ab h1,au,ag,uF];rw[ax ⟨h0,h1⟩]
  ·simp only[ad h1,Bool.and_false,ah];rw[aw (by omega)]
 ·simp only[ad h0,Bool.false_and,ah];rw[aw (by omega)]
def Lz:=zA.cm 74 Qnt
theorem QpY:Qj Tryz.prog cF Lz:=Qvc.c6 Qb fun args d h=>by
 unfold Qnt at h
 split at h
 ·obtain⟨h1,rfl⟩:=ak h;exact⟨by simp[D.refs],20,Qzm _ h1⟩
 ·cases h
def Qnu:bW->bO
 |[.int .i64 n]=>some (true,.int .i64 (eN 48 n 3))
 |_=>none
def Qvg(n:Int):=eU cF Lz 20 71 [.int .i64 n]
theorem Qzn n:Qvg n=(some (D.int .i64 (bif decide ((0:Int)<=n)&&decide (n<(3:Int))then IntKind.wrap .i64 ((48:Int)+IntKind.wrap .i64 ((1:Int)*n))else(-1:Int)))):=by kernel_rfl
theorem Qzo n(h:(true)=true):Qvg n=some (.int .i64 (eN 48 n 3)):=by
 rw[Qzn]
 congr 2
 unfold eN
 by_cases h0:0<=n
 ·by_cases h1:n<3
  ·simp(disch:=omega) only[ab h0,ab h1,au,ag,Int.one_mul,uF];rw[ax ⟨h0,h1⟩]
  ·simp only[ad h1,Bool.and_false,ah];rw[aw (by omega)]
 ·simp only[ad h0,Bool.false_and,ah];rw[aw (by omega)]
def I6:=Lz.cm 71 Qnu
theorem QpZ:Qj Tryz.prog cF I6:=QpY.c6 Qb fun args d h=>by
 unfold Qnu at h
 split at h
 ·obtain⟨h1,rfl⟩:=ak h;exact⟨by simp[D.refs],20,Qzo _ h1⟩
 ·cases h
def UK:bW->bO
 |[.int .i64 a,.int .i64 s,.int .i64 f,.int .i64 m,.int .i64 k]=>some (true,.int .i64 (bif Qm s 0 (IntKind.i64.wrap (m-1))&&Qm f 0 (IntKind.i64.wrap (k-1))then IntKind.i64.wrap (IntKind.i64.wrap (a+IntKind.i64.wrap (s*k))+f)else -1))
 |_=>none
def Xc(a s f m k:Int):=eU cF I6 20 168 [.int .i64 a,.int .i64 s,.int .i64 f,.int .i64 m,.int .i64 k]
theorem Qp0 a s f m k:Xc a s f m k=(let Z0:fG:=some (cq (-1:Int));bif !Qm s 0 (cX (m-1))then Z0 else bif !Qm f 0 (cX (k-1))then Z0 else some (cq (cX (cX (a+cX (s*k))+f)))):=by kernel_rfl
theorem Qp1 a s f m k(h:(true)=true):Xc a s f m k=some (.int .i64 (bif Qm s 0 (IntKind.i64.wrap (m-1))&&Qm f 0 (IntKind.i64.wrap (k-1))then IntKind.i64.wrap (IntKind.i64.wrap (a+IntKind.i64.wrap (s*k))+f)else -1)):=by
 (rw[Qp0];delta cq cX;conv=>zeta)
 cases Qm s 0 (IntKind.i64.wrap (m-1))<;>cases Qm f 0 (IntKind.i64.wrap (k-1))<;>rfl
def I7:=I6.cm 168 UK
theorem Qp2:Qj Tryz.prog cF I7:=QpZ.c6 Qb fun args d h=>by
 unfold UK at h
 split at h
 ·obtain⟨h1,rfl⟩:=ak h;exact⟨by simp[D.refs],20,Qp1 _ _ _ _ _ h1⟩
 ·cases h
def Xd:bW->bO
 |[.int .i64 s,.int .i64 f]=>some (true,.int .i64 (eE 291 s f 160 3))
 |_=>none
def Qnw(s f:Int):=eU cF I7 20 120 [.int .i64 s,.int .i64 f]
theorem Qvh s f:Qnw s f=(some (D.int .i64 (bif Qm s (0:Int) (159:Int)&&Qm f (0:Int) (2:Int)then IntKind.wrap .i64 (IntKind.wrap .i64 ((291:Int)+IntKind.wrap .i64 (s*(3:Int)))+f)else(-1:Int)))):=by kernel_rfl
theorem Qvi s f(h:(true)=true):Qnw s f=some (.int .i64 (eE 291 s f 160 3)):=by
 rw[Qvh]
 congr 2
 unfold eE;cases h0:Qm s 0 159
 ·have:=F9 h0;rw[aw (by omega)];rfl
 cases h1:Qm f 0 2
 ·have:=F9 h1;rw[aw (by omega)];rfl
 rw[Qp]at h0 h1;rw[ax (by omega)];simp(disch:=omega) only[au,ag,uF]
def I8:=I7.cm 120 Xd
theorem Qp3:Qj Tryz.prog cF I8:=Qp2.c6 Qb fun args d h=>by
 unfold Xd at h
 split at h
 ·obtain⟨h1,rfl⟩:=ak h;exact⟨by simp[D.refs],20,Qvi _ _ h1⟩
 ·cases h
def Xe:bW->bO
 |[.int .i64 s,.int .i64 f]=>some (true,.int .i64 (eE 291 s f 160 3))
 |_=>none
def Qny(s f:Int):=eU cF I8 20 65 [.int .i64 s,.int .i64 f]
theorem Qvj s f:Qny s f=(let Z0:fG:=some (cq (-1:Int));let Z1:Int:=bif decide ((0:Int)<=s)&&decide (s<160)then cX ((291:Int)+cX ((3:Int)*s))else (-1:Int);bif decide (f<0)then Z0 else bif decide ((2:Int)<f)then Z0 else bif decide (Z1<0)then Z0 else some (cq (cX (Z1+f)))):=by kernel_rfl
theorem Qvk s f(h:(true)=true):Qny s f=some (.int .i64 (eE 291 s f 160 3)):=by
 (rw[Qvj];delta cq cX;conv=>zeta)
 unfold eE;refine pX (fun h0=>?_) fun h0=>?_<;>simp only[aa,ae]at h0
 ·rw[aw (by omega)]
 refine pX (fun h1=>?_) fun h1=>?_<;>simp only[aa,ae]at h1
 ·rw[aw (by omega)]
 by_cases h2:0<=s
 ·by_cases h3:s<160
  ·simp(disch:=omega) only[ab h2,ab h3,au,ag,uF];rw[ad (by omega),ax (by omega)];simp(disch:=omega) only[ah,uF]
   congr 2;omega
  ·simp only[ad h3,Bool.and_false,ah];rw[aw (by omega)];rfl
 ·simp only[ad h2,Bool.false_and,ah];rw[aw (by omega)];rfl
def I9:=I8.cm 65 Xe
theorem Qp4:Qj Tryz.prog cF I9:=Qp3.c6 Qb fun args d h=>by
 unfold Xe at h
 split at h
 ·obtain⟨h1,rfl⟩:=ak h;exact⟨by simp[D.refs],20,Qvk _ _ h1⟩
 ·cases h
def T0:bW->bO
 |[.bI (.int .i64 c) (.bI (.int .i64 w) (.bI (.int .i64 d) (.bI (.int .i64 k) .bN)))]=>some (true,.int .i64 (bif ZY c w d k then 0 else 2))
 |_=>none
def UL(c w d k:Int):=eU cF I9 20 41 [.bI (.int .i64 c) (cG w (cG d (cG k .bN)))]
theorem QkV c w d k:UL c w d k=(let Z0:fG:=some (D.int .i64 2);bif Qm c (1:Int) (4:Int)then bif Qm w (2:Int) (8:Int)then bif Qm d (1:Int) (4:Int)then bif Qm k (4:Int) (40:Int)then some (D.int .i64 0)else Z0 else Z0 else Z0 else Z0):=by kernel_rfl
theorem QkW c w d k(h:(true)=true):UL c w d k=some (.int .i64 (bif ZY c w d k then 0 else 2)):=by
 (rw[QkV];conv=>zeta)
 unfold ZY;cases Qm c 1 4<;>cases Qm w 2 8<;>cases Qm d 1 4<;>cases Qm k 4 40<;>rfl
def La:=I9.cm 41 T0
theorem Qp5:Qj Tryz.prog cF La:=Qp4.c6 Qb fun args d h=>by
 unfold T0 at h
 split at h
 ·obtain⟨h1,rfl⟩:=ak h;exact⟨by simp[D.refs],20,QkW _ _ _ _ h1⟩
 ·cases h
def T1:bW->bO
 |[.bI (.int .i64 c) (.bI (.int .i64 w) (.bI (.int .i64 d) (.bI (.int .i64 k) .bN)))]=>some (true,.int .i64 (bif ZY c w d k then 0 else 2))
 |_=>none
def UM(c w d k:Int):=eU cF La 20 28 [.bI (.int .i64 c) (cG w (cG d (cG k .bN)))]
theorem QkX c w d k:UM c w d k=(let Z0:fG:=some (D.int .i64 2);bif decide (c<1)then Z0 else bif decide ((4:Int)<c)then Z0 else bif decide (w<2)then Z0 else bif decide ((8:Int)<w)then Z0 else bif decide (d<1)then Z0 else bif decide ((4:Int)<d)then Z0 else bif decide (k<4)then Z0 else bif decide ((40:Int)<k)then Z0 else some (D.int .i64 0)):=by kernel_rfl
theorem QkY c w d k(h:(true)=true):UM c w d k=some (.int .i64 (bif ZY c w d k then 0 else 2)):=by
 (rw[QkX];conv=>zeta)
 unfold ZY Qm
 iterate 8
  refine pX (fun h0=>?_) fun h0=>?_<;>simp only[aa,ae]at h0
  ·first
    |rw[ad (p:=1<=c) (by omega)];simp;done
    |rw[ad (p:=c<=4) (by omega)];simp;done
    |rw[ad (p:=2<=w) (by omega)];simp;done
    |rw[ad (p:=w<=8) (by omega)];simp;done
    |rw[ad (p:=1<=d) (by omega)];simp;done
    |rw[ad (p:=d<=4) (by omega)];simp;done
    |rw[ad (p:=4<=k) (by omega)];simp;done
    |rw[ad (p:=k<=40) (by omega)];simp;done
 rw[ab (p:=1<=c) (by omega),ab (p:=c<=4) (by omega),ab (p:=2<=w) (by omega),ab (p:=w<=8) (by omega),ab (p:=1<=d) (by omega),ab (p:=d<=4) (by omega),ab (p:=4<=k) (by omega),ab (p:=k<=40) (by omega)];rfl
def Lb:=La.cm 28 T1
theorem Qp6:Qj Tryz.prog cF Lb:=Qp5.c6 Qb fun args d h=>by
 unfold T1 at h
 split at h
 ·obtain⟨h1,rfl⟩:=ak h;exact⟨by simp[D.refs],20,QkY _ _ _ _ h1⟩
 ·cases h
def Qvl:bW->bO
 |[.bI (.int .i64 c) (.bI (.int .i64 w) (.bI (.int .i64 d) (.bI (.int .i64 k) .bN))),.int .i64 i,.bool b]=>some (true,.cH (cG (lE c w d k i b).1 (cG (lE c w d k i b).2 .bN)))
 |_=>none
def SA(c w d k i:Int)(b:Bool):=eU cF Lb 20 170 [.bI (.int .i64 c) (cG w (cG d (cG k .bN))),.int .i64 i,.bool b]
theorem QDG c w d k i b:SA c w d k i b=(let Z0:bQ:=cq 0;let Z1:fG:=some (D.cH (D.bI Z0 (D.bI Z0 .bN)));bif (bif ZY c w d k then (0:Int)else (2:Int))!=0 then Z1 else bif !Qm i 0 (cX (c-1))then Z1 else bif b then some (D.cH (D.bI (cq (cX (i*k))) (.bI (cq k) .bN)))else some (D.cH (D.bI (cq (cX (i*d))) (.bI (cq d) .bN)))):=by kernel_rfl
theorem QDH c w d k i b(h:(true)=true):SA c w d k i b=some (.cH (cG (lE c w d k i b).1 (cG (lE c w d k i b).2 .bN))):=by
 (rw[QDG];delta cq cX;conv=>zeta)
 unfold lE;cases hk:ZY c w d k
 ·simp;done
 ·have hb:=Qnm hk;simp only[cu (n:=c-1) (by omega) (by omega),ag,bne_self_eq_false,ah];cases h0:Qm i 0 (c-1)
  ·have:=F9 h0;rw[aw (by omega)];rfl
  rw[Qp]at h0;simp only[bg,ah]
  have hmul:∀x:Int,1<=x->x<=40->IntKind.i64.wrap (i*x)=i*x:=fun x h1 h2=>by
   have hi:i=0\/i=1\/i=2\/i=3:=by omega
   rcases hi with rfl|rfl|rfl|rfl<;>exact cu (by omega) (by omega)
  rw[ax ⟨trivial,by omega,by omega⟩,hmul k (by omega) (by omega),hmul d (by omega) (by omega)];cases b<;>rfl
def Lc:=Lb.cm 170 Qvl
theorem Qp7:Qj Tryz.prog cF Lc:=Qp6.c6 Qb fun args d h=>by
 unfold Qvl at h
 split at h
 ·obtain⟨h1,rfl⟩:=ak h;exact⟨by simp[D.refs],20,QDH _ _ _ _ _ _ h1⟩
 ·cases h
def Qvm:bW->bO
 |[.bI (.int .i64 c) (.bI (.int .i64 w) (.bI (.int .i64 d) (.bI (.int .i64 k) .bN))),.int .i64 i,.bool b]=>some (true,.cH (cG (lE c w d k i b).1 (cG (lE c w d k i b).2 .bN)))
 |_=>none
def SB(c w d k i:Int)(b:Bool):=eU cF Lc 20 64 [.bI (.int .i64 c) (cG w (cG d (cG k .bN))),.int .i64 i,.bool b]
theorem QDJ c w d k i b:SB c w d k i b=(let Z0:bQ:=cq 0;let Z1:fG:=some (D.cH (D.bI Z0 (D.bI Z0 .bN)));bif (bif ZY c w d k then (0:Int)else (2:Int))!=0 then Z1 else bif decide (i<0)then Z1 else bif decide (c<=i)then Z1 else bif b then some (D.cH (D.bI (cq (cX (i*k))) (.bI (cq k) .bN)))else some (D.cH (D.bI (cq (cX (i*d))) (.bI (cq d) .bN)))):=by kernel_rfl
theorem QDK c w d k i b(h:(true)=true):SB c w d k i b=some (.cH (cG (lE c w d k i b).1 (cG (lE c w d k i b).2 .bN))):=by
 (rw[QDJ];delta cq cX;conv=>zeta)
 unfold lE;cases hk:ZY c w d k
 ·simp;done
 ·have hb:=Qnm hk;simp only[ag,bne_self_eq_false,ah];refine pX (fun h0=>?_) fun h0=>?_<;>simp only[aa,ae]at h0
  ·rw[aw (by omega)]
  refine pX (fun h0=>?_) fun h0=>?_<;>simp only[aa,ae]at h0
  ·rw[aw (by omega)]
  have hmul:∀x:Int,1<=x->x<=40->IntKind.i64.wrap (i*x)=i*x:=fun x h1 h2=>by
   have hi:i=0\/i=1\/i=2\/i=3:=by omega
   rcases hi with rfl|rfl|rfl|rfl<;>exact cu (by omega) (by omega)
  rw[ax ⟨trivial,by omega,by omega⟩,hmul k (by omega) (by omega),hmul d (by omega) (by omega)];cases b<;>rfl
def Ld:=Lc.cm 64 Qvm
theorem Qp8:Qj Tryz.prog cF Ld:=Qp7.c6 Qb fun args d h=>by
 unfold Qvm at h
 split at h
 ·obtain⟨h1,rfl⟩:=ak h;exact⟨by simp[D.refs],20,QDK _ _ _ _ _ _ h1⟩
 ·cases h
def tT(p h:Int):Prop:=0<=p/\p<=1048575/\(256<=h/\h<=262143\/h=0/\p=0)
instance instOkWord(p h:Int):Decidable (tT p h):=by unfold tT;infer_instance
def kr(p h:Int):Int:=if tT p h then p*1048576+h else 0
def wo(p h:Int):Int:=if tT p h then 0 else 2
theorem P4{p h:Int}(hp:0<=p/\p<=1048575)(hh:0<=h/\h<1048576):bits .i64 (fun _ u v=>u|||v) (p*1048576) h=p*1048576+h:=by
 obtain⟨p,rfl⟩:∃n:Nat,p=n:=⟨p.toNat,by omega⟩;obtain⟨h,rfl⟩:∃n:Nat,h=n:=⟨h.toNat,by omega⟩;unfold bits;have e:(p:Int)*1048576=((p*1048576:Nat):Int):=by simp
 rw[e]
 have h1:∀x:Nat,x<2^64->(BitVec.ofInt IntKind.i64.bits (x:Int)).toNat=x:=by
  intro x hx;rw[BitVec.toNat_ofInt];simp only[IntKind.bits];omega
 rw[BitVec.toNat_or,h1 _ (by omega),h1 _ (by omega)]
 have h2:p*1048576|||h=p*1048576+h:=by
  rw[Nat.mul_comm p 1048576,show(1048576:Nat)=2^20 from rfl,<-Nat.two_pow_add_eq_or_of_lt (by omega)]
 rw[h2,cu (by omega) (by omega)];simp
theorem Xf{C:ij}{p h:Int}(hw:tT p h):(D.cH (.bI (.int .i64 (p*1048576+h)) (.bI (.int .i64 0) .bN)):D C)=.cH (.bI (.int .i64 (kr p h)) (.bI (.int .i64 (wo p h)) .bN)):=by
 rw[kr,wo,ax hw,ax hw]
theorem Xg{C:ij}{p h:Int}(hw:¬tT p h):(D.cH (.bI (.int .i64 0) (.bI (.int .i64 2) .bN)):D C)=.cH (.bI (.int .i64 (kr p h)) (.bI (.int .i64 (wo p h)) .bN)):=by
 rw[kr,wo,aw hw,aw hw]
theorem Qvn(x:Nat)(hx:x<2^64):(BitVec.ofInt IntKind.i64.bits (x:Int)).toNat=x:=by
 rw[BitVec.toNat_ofInt];simp only[IntKind.bits];omega
theorem QkZ(a b:Int)(k:Nat)(ha:0<=a)(hb:0<=b)(h1:b<((2^k:Nat):Int))(h2:a*((2^k:Nat):Int)+b<9223372036854775808) :
 bits .i64 (fun _ u v=>u|||v) (a*((2^k:Nat):Int)) b=a*((2^k:Nat):Int)+b:=by
 obtain⟨a,rfl⟩:=Int.eq_ofNat_of_zero_le ha;obtain⟨b,rfl⟩:=Int.eq_ofNat_of_zero_le hb;have e:(a:Int)*((2^k:Nat):Int)=((a*2^k:Nat):Int):=by simp
 have h2':a*2^k+b<9223372036854775808:=by rw[e]at h2;omega
 have h1':b<2^k:=by omega
 unfold bits;rw[e,BitVec.toNat_or,Qvn _ (by omega),Qvn _ (by omega)]
 have h3:a*2^k|||b=a*2^k+b:=by
  rw[Nat.mul_comm,<-Nat.two_pow_add_eq_or_of_lt h1']
 rw[h3,cu (by omega) (by omega)];simp
theorem Jn(m a b:Int)(k:Nat)(hm:m=((2^k:Nat):Int))(ha:0<=a)(hb:0<=b)(h1:b<m)(h2:a*m+b<9223372036854775808) :
 bits .i64 (fun _ u v=>u|||v) (a*m) b=a*m+b:=by
 subst hm;exact QkZ a b k ha hb h1 h2
def QY(l:cC):Bool:=decide (0<=l.offset/\l.offset<4194304/\1<=l.b8/\l.b8<=1048575/\0<=l.j/\l.j<=3/\0<=l.key/\l.key<=7/\0<=l.value/\l.value<=255)
def Ec(l:cC):Int:=(l.offset+1)*8589934592+l.b8*8192+l.j*2048+l.key*256+l.value
def gZ(l:cC):Int:=bif QY l then Ec l else 0
theorem Qzp{o p j k v:Int}(h:QY ⟨o,p,j,k,v⟩=true) :
 bits .i64 (fun _ u v=>u|||v) (bits .i64 (fun _ u v=>u|||v) (bits .i64 (fun _ u v=>u|||v) (bits .i64 (fun _ u v=>u|||v) ((o+1)*8589934592) (p*8192)) (j*2048)) (k*256)) v=Ec ⟨o,p,j,k,v⟩:=by
 unfold QY at h;rw[aa]at h;simp only at h;have e1:=Jn 8589934592 (o+1) (p*8192) 33 (by decide) (by omega) (by omega) (by omega) (by omega);have e2:=Jn 8192 ((o+1)*1048576+p) (j*2048) 13 (by decide) (by omega) (by omega) (by omega) (by omega);have e3:=Jn 2048 (((o+1)*1048576+p)*4+j) (k*256) 11 (by decide) (by omega) (by omega) (by omega) (by omega);have e4:=Jn 256 ((((o+1)*1048576+p)*4+j)*8+k) v 8 (by decide) (by omega) (by omega) (by omega) (by omega)
 rw[e1,show(o+1)*8589934592+p*8192=((o+1)*1048576+p)*8192 by omega,e2,
  show((o+1)*1048576+p)*8192+j*2048=(((o+1)*1048576+p)*4+j)*2048 by omega,e3,
  show(((o+1)*1048576+p)*4+j)*2048+k*256=((((o+1)*1048576+p)*4+j)*8+k)*256 by omega,e4]
 unfold Ec;simp only;omega
section
variable {C:ij}{P:Program}{T:fA C}{Φ:jv C}
open Pg (Ex)
def lW(P:Prop):Bool := @decide P (Classical.propDecidable P)
theorem Dr{P:Prop}:lW P=true↔P:=by
 unfold lW;exact @decide_eq_true_iff P (Classical.propDecidable P)
theorem CX{P:Prop}(h:P):lW P=true:=Dr.2 h
structure oo(C:ij)(σ:Type) where
 (k:Nat)(args:σ->List (D C))(cR:σ->List (Obj C))(fin:σ->RT C)(Inv:σ->Prop)
noncomputable def Et(T:fA C)(Φ:jv C)(g n k:Nat)(args:List (D C))(os:List (Obj C)):Option (D C×List (Option (Obj C))):=
 (vP T Φ (kl T Φ n) g args).run (0,0) (ic 0 os) k [] fun d h _ _=>some (d,ue 0 k h)
def qX{σ:Type}(S:oo C σ)(s:σ)(r:D C×List (Option (Obj C))):Prop:=∃os,(S.fin s).val=some ((.ret,[(0,r.1)]),os)/\r.2=os.map some
def FC{σ:Type}(S:oo C σ)(d:Env C->List (Obj C)->Option (Bool×σ))(env:Env C)(os:List (Obj C)):RT C:=match d env os with
 |some (b,q)=>.br b (S.fin q) .fail
 |none=>.fail
def rM(T:fA C)(fs:du)(n:Nat){σ:Type}(S:oo C σ)(d:Env C->List (Obj C)->Option (Bool×σ))(args:List (D C)):Pg C (D C):=
 bif Nat.beq args.length n then .bind (pK T fs (List.range n) (FC S d) (hY 0 args)) fun r=>.ret (c8 r.2 0)else .fail
theorem QE.args(K:Zq P T){X:Cx}{nx:Nat}{lim:eL}{args:List (D C)}{vs:bT}(h:iu T X args vs)(hr:∀a∈args,∀id∈D.refs a,fL nx lim id):QE T X nx lim (hY 0 args) (⟨vs⟩:b7):=by
 intro t;rw[Mr];simp only[aK,aU,Nat.sub_zero];refine⟨?_,?_⟩
 ·have:=h.get t;have e:(⟨vs⟩:b7).getD t undef=vs.getD t undef:=by simp[Array.getD_eq_getD_getElem?]
  rw[e];exact this
 ·by_cases ht:t<args.length
  ·exact hr _ (by simp[ar,ht])
  ·have:args.getD t .top=.top:=by
    simp only[ar];rw[bc (by omega)];rfl
   rw[this];simp[D.refs]
theorem iu.tz{X:Cx}:∀(args:List (D C)) (vs:bT),args.length=vs.length->(∀i,i<args.length->RV T X (args.getD i .top) (vs.getD i undef))->iu T X args vs
 |[],[],_,_=>.nil
 |[],_::_,h,_=>by simp at h
 |_::_,[],h,_=>by simp at h
 |d::ds,v::vs,h,hg=>.cons (by simpa using hg 0 (by simp)) (iu.tz ds vs (by simpa using h) fun i hi=>by simpa using hg (i+1) (by simpa using hi))
theorem iu.yZ{X:Cx}{nx:Nat}{lim:eL}{args:List (D C)}{vs:bT}(hl:args.length=vs.length)(h:QE T X nx lim (hY 0 args) (⟨vs⟩:b7)):iu T X args vs:=by
 refine iu.tz args vs hl fun i hi=>?_;have:=(h i).1;rw[Mr]at this
 simpa[Array.getD_eq_getD_getElem?]using this
theorem Xh:∀(l:List (D C)) (n i:Nat) (h:i<l.length),(n+i,l[i])∈hY n l
 |[],_,_,h=>by simp at h
 |d::l,n,0,_=>by simp[hY]
 |d::l,n,i+1,h=>by
  have:=Xh l (n+1) i (by simpa using h);simp only[hY,aZ];right;rw[show n+(i+1)=n+1+i by omega]
  simpa using this
theorem Qvp(K:Zq P T){X X1:Cx}{h':Heap C}{k cM:Nat}(g1:G T X1 h' cM (eQ cM))(s1:Step X k (eQ cM) X1)(hle:k<=cM){os:List (Obj C)}{d:D C}{v:Value}(q:Qk k [(0,d)] os)
 (iQ:∀j,j<k->h'.get j=os[j]?) (rd:RO T X1 cM (eQ cM) d v):∃X2,X2.w=X1.w/\G T X2 (ic 0 os) k (eQ k)/\Step X k (eQ k) X2/\RO T X2 k (eQ k) d v:=by
 obtain⟨q1,q2,q3⟩:=q
 obtain⟨X2,w2,g2,s2,hρ⟩:=G.drop K.base g1 (h':=ic 0 os) (fun id=>by
  rw[QM]
  by_cases dU:id<k
  ·exact .inl (iQ id dU).symm
  ·exact .inr (bc (by omega)))
 have mu:∀id,¬id<k->X2.ρ id=none:=fun id dU=>by
  cases hq:X2.ρ id with
  |none=>rfl
  |some l=>
   have:=g2.kg id l hq;rw[QM,bc (by omega)]at this;cases this
 have s3:=s1.trans s2 hle;refine⟨X2,w2,g2.mj (JB q1 q3) (aq _) (aK _) (fun _ h=>h),⟨s3.O,s3.os,s3.tape,s3.output,s3.size,fun id ho=>?_,s3.dI,s3.cell,s3.block,s3.frz⟩,?_⟩
 ·by_cases dU:id<k
  ·exact s3.ρ id ⟨.inl dU,fun h=>h⟩
  ·rw[mu id dU];cases X.ρ id<;>simp[Qo]
 ·have oE:∀r∈d.refs,r<k:=q2 (0,d) (by simp);exact⟨rd.1.mono T K.base.iv s2.keeps fun r hh=>s2.ρ r ⟨.inl (by have:=oE r hh;omega),fun h=>h⟩,fun r hh=>⟨.inl (oE r hh),fun h=>h⟩⟩
theorem Qzq(K:Zq P T)(F:Qj P T Φ){g:Nat}{fs:du}{m n:Nat}{σ:Type}{S:oo C σ}
 (hr:∀q,S.Inv q->Qk S.k (hY 0 (S.args q)) (S.cR q)/\(S.fin q).da S.k/\(S.args q).length=m/\dw (Et T Φ g n S.k (S.args q) (S.cR q)) (qX S q))
 (d:Env C->List (Obj C)->Option (Bool×σ)) (hd:∀env os b q,d env os=some (b,q)->b=true->S.Inv q/\hY 0 (S.args q)=env/\S.cR q=os):Qrc P T g (rM T fs m S d):=by
 intro args vs X h nx lim e dd h' cM tr gg gY hrefs eA hx;unfold rM at hx;cases hm:Nat.beq args.length m with
 |false=>rw[hm]at hx;exact Ex.cI hx
 |true=>
 rw[hm]at hx;simp only[ag]at hx;have hm:=az hm;obtain⟨⟨x,dj⟩,h9,n9,t8,t9,lS,nT,_⟩:=Ex.bind hx;obtain⟨hdd,e1h,e1n,_⟩:=Ex.ret nT;subst e1h;subst e1n;have he:=QE.args K gY hrefs;unfold pK at lS;obtain⟨X1,h1,pS,eD,dB,oS,w1,g1,s1,oC,e1,mw⟩:=ML K eA fs X h nx _ _ [] gg he lS;cases lC:KJ dB with
 |false=>rw[lC]at mw;exact Ex.cI mw
 |true=>
 rw[lC]at mw;simp only[ag]at mw;have js:=Y2 lC;obtain⟨os,mQ,dc,qP,fW⟩:=Dg dB _ _ mw;cases iY:pE dB ((List.range m).flatMap fun t=>(c8 eD t).refs)&&pE dB (os.flatMap Obj.refs)with
 |false=>rw[iY]at fW;exact Ex.cI fW
 |true=>
 rw[iY]at fW;simp only[ag]at fW;simp only[ai]at iY;have qj:=Vb iY.1;have pz:=Vb iY.2;obtain⟨xx,ee,fm,hq,yS⟩:=RT.pJ _ _ fW;unfold FC at hq
 split at hq
 ·rename_i b q hdq;cases b with
  |false=>simp[RT.val]at hq
  |true=>
  simp only[RT.val,ag]at hq;obtain⟨hI,O7,kC⟩:=hd _ _ _ _ hdq rfl;obtain⟨gn,kK,E2,r,hr3,hr4⟩:=hr q hI;obtain⟨h2,Rm,nR,pD,s8,yT⟩:=Dh dB _ h1 _ js yS;obtain⟨kh,eh,en,_⟩:=Ex.ret yT;obtain⟨rfl,rfl⟩:=Prod.mk.inj kh;subst eh;subst en
  let f:Nat->Nat:=fun j=>dB.getD j 0
  have oB:∀j,j<dB.length->dB[j]? = some (f j):=fun j hj=>by simp[f,hj]
  have sP:dB.length=S.k:=by rw[<-gn.1,kC];simp[dc]
  have qM:∀r,r∈dB->f (idx dB r)=r:=fun r hr=>by
   have:=Ka dB r hr;simp only[f,ar,this,ba]
  have jH:(S.cR q).length=dB.length:=by rw[gn.1,sP]
  have part:Part h1 (S.cR q) f:=by
   refine⟨fun j o ho=>?_,fun i j hi hj lP=>?_,fun o ho r hr=>by rw[gn.1];exact gn.2.2 o ho r hr⟩
   ·rw[kC,bB]at ho;cases lg:os[j]? with
    |none=>simp[lg]at ho
    |some o0=>
     simp only[lg,bC,aD]at ho;have hj:j<dB.length:=by rw[<-dc];exact(av.1 lg).1
     rw[qP j (f j) o0 (oB j hj) lg,<-ho,Obj.eH];intro id dU;exact qM id (pz id (List.mem_flatMap.2 ⟨o0,List.mem_of_getElem? lg,dU⟩))
   ·rw[jH]at hi hj;have:=(List.getElem?_inj hi js (j:=j)).1 (by rw[oB i hi,oB j hj];simp only[f]at lP ⊢;rw[lP]);exact this
  have g2:=Part.ctx K.base g1 part (S.cR q).length
  have e2:QE T (X1.part (S.cR q).length f) (S.cR q).length (eQ (S.cR q).length) (hY 0 (S.args q)) (⟨vs⟩:b7):=by
   refine QE.part K.base e1 part.inj (fun p hp=>?_) (fun p hp r hr=>by rw[gn.1];exact gn.2.1 p hp r hr);rw[O7]at hp;simp only[List.mem_map]at hp;obtain⟨t,ht,rfl⟩:=hp;simp only;rw[D.eH];intro id dU;exact qM id (qj id (List.mem_flatMap.2 ⟨t,ht,dU⟩))
  rw[gn.1]at g2 e2;obtain⟨d0,hh,nn,tt,dX,dK⟩:=Pg.fK hr3;simp only[aD]at dK;subst dK;obtain⟨os2,r6,hg2⟩:=hr4;rw[hq]at r6;simp only[aD,Prod.mk.injEq]at r6;obtain⟨⟨rfl,rfl⟩,rfl⟩:=r6;have wJ:=YH S.k 0 hh _ hg2;simp only[aN]at wJ;obtain⟨x5,aak,os5,PT,vh⟩:=RT.ja kK;rw[hq]at PT;simp only[aD,Prod.mk.injEq]at PT;obtain⟨⟨rfl,rfl⟩,rfl⟩:=PT;have hle:S.k<=nn:=dX.le;have g0:G T (X1.part S.k f) (ic 0 (S.cR q)) S.k (eQ nn):=g2.mj (JB gn.1 gn.2.2) (aq _) (aK _) (fun _ h=>h);have nV:iu T (X1.part S.k f) (S.args q) vs:=iu.yZ (by rw[E2,<-hm];exact iu.length T gY) e2
  have yI:∀a∈S.args q,∀id∈D.refs a,fL S.k (eQ nn) id:=fun a ha id dU=>⟨.inl (by
   obtain⟨i,hi,hia⟩:=List.getElem_of_mem ha;refine gn.2.1 (0+i,a) ?_ id dU;rw[<-hia];exact Xh _ _ _ hi),fun h=>h⟩
  obtain⟨c1,c2⟩:=XO K F n g (S.args q) vs (X1.part S.k f) (ic 0 (S.cR q)) S.k (eQ nn) (0,0) d0 hh nn tt g0 nV yI (aq _) dX;have hw:(X1.part S.k f).w=X.w:=w1;rw[hw]at c1 c2;refine⟨c1,c2.mono fun en w9 hp=>?_⟩;obtain⟨v,X2,rfl,hX2,g3,s3,ro3⟩:=hp;obtain⟨X3,w3,g4,s4,ro4⟩:=Qvp K g3 s3 hle vh wJ ro3;have ko:fm.length=(S.cR q).length:=by rw[vh.1,gn.1]
  have lr:∀o∈fm,∀r∈Obj.refs o,r<(S.cR q).length:=fun o ho r hr=>by rw[gn.1];exact vh.2.2 o ho r hr
  obtain⟨X4,w4,g5,s5,hρ,rS⟩:=Part.back K.base g1 part ko lr (X1:=X3) (lim1:=eQ S.k) (h':=h') (by rw[gn.1];exact g4) (by rw[gn.1];exact s4) (fun j o hj=>by
   have cY:j<dB.length:=by rw[<-jH,<-ko];exact(av.1 hj).1
   exact pD j (f j) _ (oB j cY) (by rw[bB,hj];rfl)) (fun id dU=>by
   refine s8 id fun hm=>?_;obtain⟨j,hj,yy⟩:=List.getElem_of_mem hm;refine dU j (by rw[jH];exact hj) ?_;simp[f,hj,yy])
  have gD:∀j,j<S.k->fL cM lim (f j):=fun j hj=>by
   have mr:j<(S.cR q).length:=by rw[gn.1];exact hj
   exact(g1.eY _ _ (part.ot j (S.cR q)[j] (by simp[mr]))).1
  have e4:QE T X3 S.k (eQ S.k) [(0,d0)] (#[v]:b7):=fun t=>by
   rw[QP]
   by_cases ht:t=0
   ·subst ht;simpa using ro4
   ·simp only[ht,aL,c8];exact RO.mk (RV.top _ _ _) rfl
  have e5:=QE.back (nx:=cM) (lim:=lim) (f:=f) K.base e4 (fun p hp r hr=>vh.2.1 p hp r hr) (fun j hj=>hρ j (by rw[gn.1];exact hj)) ⟨rS⟩ gD;have ro5:=e5 0;refine⟨v,X4,rfl,by rw[w4,w3,hX2],g5,s1.trans s5 oC,?_⟩;rw[hdd];exact ro5
 ·simp[RT.val]at hq
theorem Qj.pZ(K:Zq P T)(F:Qj P T Φ){g:Nat}{σ:Type}(S:oo C σ)(n m:Nat)(fs:du)(d:Env C->List (Obj C)->Option (Bool×σ))
 (hr:∀q,S.Inv q->Qk S.k (hY 0 (S.args q)) (S.cR q)/\(S.fin q).da S.k/\(S.args q).length=m/\dw (Et T Φ g n S.k (S.args q) (S.cR q)) (qX S q))
 (hd:∀env os b q,d env os=some (b,q)->b=true->S.Inv q/\hY 0 (S.args q)=env/\S.cR q=os):Qj P T (Φ.kL g (rM T fs m S d)):=F.kL (Qzq K F hr d hd)
theorem Le{σ:Type}{S:oo C σ}{s:σ}{d:D C}{os:List (Option (Obj C))}(fm:List (Obj C))(h1:(S.fin s).val=some ((.ret,[(0,d)]),fm))(h2:os=fm.map some):dw (some (d,os)) (qX S s):=
 Gp.2 ⟨fm,h1,h2⟩
end
open Go.Proofs
def Qnz:bW->bO
 |[.int .i64 p,.int .i64 d]=>some (true,.cH (cG (kr p d) (cG (wo p d) .bN)))
 |_=>none
def Qvr(p d:Int):=eU cF Ld 20 123 [.int .i64 p,.int .i64 d]
theorem Qzr p d:Qvr p d=(let Z0:Bool:=decide (p<0);let Z1:bQ:=cq 0;let Z2:fG:=some (D.cH (D.bI Z1 (D.bI (cq 2) .bN)));let Z3:Bool:=decide ((1048575:Int)<p);let Z4:fG:=some (D.cH (D.bI (cq (bits .i64 (fun(x:Nat) (u v:BitVec x)=>u|||v) (cX (p*1048576)) d)) (.bI Z1 .bN)));let Z5:fG:=bif d !=0 then Z2 else bif p !=0 then Z2 else Z4;bif decide ((256:Int)<=d)then bif Z0 then Z2 else bif Z3 then Z2 else bif !decide (d<=262143)then Z5 else Z4 else bif Z0 then Z2 else bif Z3 then Z2 else Z5):=by kernel_rfl
theorem Qzs p d(h:(true)=true):Qvr p d=some (.cH (cG (kr p d) (cG (wo p d) .bN))):=by
 (rw[Qzr];delta cq cX;conv=>zeta)
 have ww:0<=p->p<=1048575->IntKind.i64.wrap (p*1048576)=p*1048576:=fun h1 h2=>cu (by omega) (by omega)
 repeat' (refine pX (fun hc=>?_) fun hc=>?_)
 all_goals
  simp only[aa,ae,bi,bne_iff_ne,ne_eq,Bool.not_eq_true',Bool.not_eq_false',bne_eq_false_iff_eq,beq_eq_false_iff_ne]at *
  first
  |exact ap some (Xg (by unfold tT;omega))
  |(rw[ww (by omega) (by omega),P4 (by omega) (by omega)];exact ap some (Xf (by unfold tT;omega)))
def zC:=Ld.cm 123 Qnz
theorem Qvs:Qj Tryz.prog cF zC:=Qp8.c6 Qb fun args d h=>by
 unfold Qnz at h
 split at h
 ·obtain⟨h1,rfl⟩:=ak h;exact⟨by simp[D.refs],20,Qzs _ _ h1⟩
 ·cases h
def QnA:bW->bO
 |[.int .i64 p,.int .i64 d]=>some (true,.cH (cG (kr p d) (cG (wo p d) .bN)))
 |_=>none
def Qvu(p d:Int):=eU cF zC 20 66 [.int .i64 p,.int .i64 d]
theorem Qzt p d:Qvu p d=(let Z0:bQ:=cq 0;let Z1:fG:=some (D.cH (D.bI Z0 (D.bI (cq 2) .bN)));let Z2:fG:=some (D.cH (D.bI (cq (cX (cX (p*1048576)+d))) (.bI Z0 .bN)));let Z3:fG:=bif d==0 then bif p !=0 then Z1 else Z2 else Z2;bif decide (p<0)then Z1 else bif decide ((1048575:Int)<p)then Z1 else bif d !=0 then bif decide ((256:Int)<=d)then bif !decide (d<=262143)then Z1 else Z3 else Z1 else Z3):=by kernel_rfl
theorem Qzu p d(h:(true)=true):Qvu p d=some (.cH (cG (kr p d) (cG (wo p d) .bN))):=by
 (rw[Qzt];delta cq cX;conv=>zeta)
 have ww:0<=p->p<=1048575->IntKind.i64.wrap (p*1048576)=p*1048576:=fun h1 h2=>cu (by omega) (by omega)
 repeat' (refine pX (fun hc=>?_) fun hc=>?_)
 all_goals
  simp only[aa,ae,bi,bne_iff_ne,ne_eq,Bool.not_eq_true',Bool.not_eq_false',bne_eq_false_iff_eq,beq_eq_false_iff_ne]at *
  first
  |exact ap some (Xg (by unfold tT;omega))
  |(rw[ww (by omega) (by omega),cu (by omega) (by omega)];exact ap some (Xf (by unfold tT;omega)))
def zD:=zC.cm 66 QnA
theorem Qvv:Qj Tryz.prog cF zD:=Qvs.c6 Qb fun args d h=>by
 unfold QnA at h
 split at h
 ·obtain⟨h1,rfl⟩:=ak h;exact⟨by simp[D.refs],20,Qzu _ _ h1⟩
 ·cases h
open Go.Proofs
theorem QFN{n:Int}(k:Nat)(h:0<=n):(n.fdiv (2^k)==0)=decide (n<2^k):=by
 have hp:(0:Int)<2^k:=Int.pow_pos (by decide);rw[aQ _ (Int.le_of_lt hp)]
 by_cases q:n<2^k
 ·rw[ab q,Int.ediv_eq_zero_of_lt h q];rfl
 ·rw[ad q]
  have:n/2^k≠0:=fun e=>q (by
   have h1:=Int.ediv_mul_add_emod n (2^k);have h2:=Int.emod_lt_of_pos n hp;rw[e]at h1;omega)
  simpa using this
theorem Gy{o p j k v:Int}(h:¬(0<=o/\o<4194304/\1<=p/\p<=1048575/\0<=j/\j<=3/\0<=k/\k<=7/\0<=v/\v<=255)):QY ⟨o,p,j,k,v⟩=false:=ad h
theorem Gz{o p j k v:Int}(h:0<=o/\o<4194304/\1<=p/\p<=1048575/\0<=j/\j<=3/\0<=k/\k<=7/\0<=v/\v<=255):QY ⟨o,p,j,k,v⟩=true:=ab h
def QnB:bW->bO
 |[.int .i64 n,.int .i64 a,.int .i64 b]=>some (decide (0<=a/\0<=b/\b<=63),.bool (decide (a<=n/\n<2^b.toNat)))
 |_=>none
def Qvx(n a b:Int):=eU cF zD 20 186 [.int .i64 n,.int .i64 a,.int .i64 b]
theorem Qzv n a b:Qvx n a b=(bif decide (a<=n)then bif decide (b<(0:Int))then none else some (D.bool (Int.fdiv n ((2:Int)^min b.toNat (64:Nat))==(0:Int)))else some (D.bool false)):=by kernel_rfl
theorem Qzw n a b(h:(decide (0<=a/\0<=b/\b<=63))=true):Qvx n a b=some (.bool (decide (a<=n/\n<2^b.toNat))):=by
 rw[Qzv];obtain⟨h1,h2,h3⟩:=af h;have hm:min b.toNat 64=b.toNat:=by omega
 rw[ad (show ¬b<0 by omega),hm];simp only[ah];refine Qy (fun q=>?_) fun q=>?_
 ·have q:=af q;rw[QFN _ (by omega)]
  by_cases q2:n<2^b.toNat
  ·rw[ab q2,ab (show a<=n/\n<2^b.toNat from⟨q,q2⟩)]
  ·rw[ad q2,ad (fun e=>q2 e.2)]
 ·have q:=of_decide_eq_false q;rw[ad (fun e=>q e.1)]
def zE:=zD.cm 186 QnB
theorem Qvy:Qj Tryz.prog cF zE:=Qvv.c6 Qb fun args d h=>by
 unfold QnB at h
 split at h
 ·obtain⟨h1,rfl⟩:=ak h;exact⟨by simp[D.refs],20,Qzw _ _ _ h1⟩
 ·cases h
def QnC:bW->bO
 |[.bI (.int .i64 o) (.bI (.int .i64 p) (.bI (.int .i64 j) (.bI (.int .i64 k) (.bI (.int .i64 v) .bN))))]=>some (true,.bool (QY ⟨o,p,j,k,v⟩))
 |_=>none
def QvA(o p j k v:Int):=eU cF zE 40 129 [.bI (.int .i64 o) (cG p (cG j (cG k (cG v .bN))))]
theorem Qzx o p j k v:QvA o p j k v=(let Z0:fG:=some (D.bool false);bif decide ((0:Int)<=o)then bif decide (o<4194304)then bif decide ((1:Int)<=p)then bif decide (p<=1048575)then bif decide ((0:Int)<=j)then bif decide (j<4)then bif decide ((0:Int)<=k)then bif decide (k<8)then bif decide ((0:Int)<=v)then some (D.bool (decide (v<=255)))else Z0 else Z0 else Z0 else Z0 else Z0 else Z0 else Z0 else Z0 else Z0):=by kernel_rfl
theorem Qzy o p j k v(h:(true)=true):QvA o p j k v=some (.bool (QY ⟨o,p,j,k,v⟩)):=by
 (rw[Qzx];conv=>zeta)
 have no:(¬(0<=o/\o<4194304/\1<=p/\p<=1048575/\0<=j/\j<=3/\0<=k/\k<=7/\0<=v/\v<=255))->some (D.bool (C:=RC) false)=some (.bool (QY ⟨o,p,j,k,v⟩)):=fun e=>by rw[Gy e]
 iterate 9
  refine Qy (fun _=>?_) fun e=>no (by simp only[ae]at e;omega)
 simp only[aa]at *
 by_cases q:v<=255
 ·rw[ab q,Gz (by omega)]
 ·rw[ad q];exact no (by omega)
def zF:=zE.cm 129 QnC
theorem QvB:Qj Tryz.prog cF zF:=Qvy.c6 Qb fun args d h=>by
 unfold QnC at h
 split at h
 ·obtain⟨h1,rfl⟩:=ak h;exact⟨by simp[D.refs],40,Qzy _ _ _ _ _ h1⟩
 ·cases h
def Xi:bW->bO
 |[.bI (.int .i64 o) (.bI (.int .i64 p) (.bI (.int .i64 j) (.bI (.int .i64 k) (.bI (.int .i64 v) .bN))))]=>some (true,.cH (cG (gZ ⟨o,p,j,k,v⟩) (cG (bif QY ⟨o,p,j,k,v⟩then 0 else 2) .bN)))
 |_=>none
def QnE(o p j k v:Int):=eU cF zF 60 117 [.bI (.int .i64 o) (cG p (cG j (cG k (cG v .bN))))]
theorem QvC o p j k v:QnE o p j k v=(let Z0:bQ:=cq 0;let Z1:fG:=some (D.cH (D.bI Z0 (D.bI (cq 2) .bN)));bif ep o 4194304 then bif decide ((1:Int)<=p/\p<1048576)then bif ep j 4 then bif ep k 8 then bif !ep v 256 then Z1 else some (D.cH (D.bI (cq (bits .i64 (fun(x:Nat) (u v:BitVec x)=>u|||v) (bits .i64 (fun(x:Nat) (u v:BitVec x)=>u|||v) (bits .i64 (fun(x:Nat) (u v:BitVec x)=>u|||v) (bits .i64 (fun(x:Nat) (u v:BitVec x)=>u|||v) (cX (cX (o+1)*8589934592)) (cX (p*8192))) (cX (j*2048))) (cX (k*256))) v)) (.bI Z0 .bN)))else Z1 else Z1 else Z1 else Z1):=by kernel_rfl
theorem QvD o p j k v(h:(true)=true):QnE o p j k v=some (.cH (cG (gZ ⟨o,p,j,k,v⟩) (cG (bif QY ⟨o,p,j,k,v⟩then 0 else 2) .bN))):=by
 (rw[QvC];delta ep cq cX;conv=>zeta)
 have no:(¬(0<=o/\o<4194304/\1<=p/\p<=1048575/\0<=j/\j<=3/\0<=k/\k<=7/\0<=v/\v<=255))->some (D.cH (C:=RC) (cG 0 (cG 2 .bN)))=some (.cH (cG (gZ ⟨o,p,j,k,v⟩) (cG (bif QY ⟨o,p,j,k,v⟩then 0 else 2) .bN))):=fun e=>by simp only[gZ,Gy e];rfl
 iterate 4
  refine Qy (fun _=>?_) fun e=>no (by simp only[ae]at e;omega)
 refine Qy (fun e=>no (by simp only[Bool.not_eq_true',ae]at e;omega)) fun e=>?_;simp only[Bool.not_eq_false',aa]at *;have hm:QY ⟨o,p,j,k,v⟩=true:=Gz (by omega);have w1:IntKind.i64.wrap (o+1)=o+1:=cu (by omega) (by omega);have w2:IntKind.i64.wrap ((o+1)*8589934592)=(o+1)*8589934592:=cu (by omega) (by omega);have w3:IntKind.i64.wrap (p*8192)=p*8192:=cu (by omega) (by omega);have w4:IntKind.i64.wrap (j*2048)=j*2048:=cu (by omega) (by omega);have w5:IntKind.i64.wrap (k*256)=k*256:=cu (by omega) (by omega);simp only[gZ,hm,w1,w2,w3,w4,w5,ag,Qzp hm]
def zG:=zF.cm 117 Xi
theorem QvE:Qj Tryz.prog cF zG:=QvB.c6 Qb fun args d h=>by
 unfold Xi at h
 split at h
 ·obtain⟨h1,rfl⟩:=ak h;exact⟨by simp[D.refs],60,QvD _ _ _ _ _ h1⟩
 ·cases h
def Xj:bW->bO
 |[.bI (.int .i64 o) (.bI (.int .i64 p) (.bI (.int .i64 j) (.bI (.int .i64 k) (.bI (.int .i64 v) .bN))))]=>some (true,.cH (cG (gZ ⟨o,p,j,k,v⟩) (cG (bif QY ⟨o,p,j,k,v⟩then 0 else 2) .bN)))
 |_=>none
def QnG(o p j k v:Int):=eU cF zG 60 68 [.bI (.int .i64 o) (cG p (cG j (cG k (cG v .bN))))]
theorem QvF o p j k v:QnG o p j k v=(let Z0:bQ:=cq 0;bif !QY (cC.mk o p j k v)then some (D.cH (D.bI Z0 (D.bI (cq 2) .bN)))else some (D.cH (D.bI (cq (cX (cX (cX (cX (cX (cX (cX (o+1)*1048576)+p)*8192)+cX (j*2048))+cX (k*256))+v))) (.bI Z0 .bN)))):=by kernel_rfl
theorem QvG o p j k v(h:(true)=true):QnG o p j k v=some (.cH (cG (gZ ⟨o,p,j,k,v⟩) (cG (bif QY ⟨o,p,j,k,v⟩then 0 else 2) .bN))):=by
 (rw[QvF];delta cq cX;conv=>zeta)
 by_cases q:0<=o/\o<4194304/\1<=p/\p<=1048575/\0<=j/\j<=3/\0<=k/\k<=7/\0<=v/\v<=255
 ·have hm:=Gz q;have w1:IntKind.i64.wrap (o+1)=o+1:=cu (by omega) (by omega);have w2:IntKind.i64.wrap ((o+1)*1048576)=(o+1)*1048576:=cu (by omega) (by omega);have w3:IntKind.i64.wrap ((o+1)*1048576+p)=(o+1)*1048576+p:=cu (by omega) (by omega);have w4:IntKind.i64.wrap (((o+1)*1048576+p)*8192)=((o+1)*1048576+p)*8192:=cu (by omega) (by omega);have w5:IntKind.i64.wrap (j*2048)=j*2048:=cu (by omega) (by omega);have w6:IntKind.i64.wrap (((o+1)*1048576+p)*8192+j*2048)=((o+1)*1048576+p)*8192+j*2048:=cu (by omega) (by omega);have w7:IntKind.i64.wrap (k*256)=k*256:=cu (by omega) (by omega);have w8:IntKind.i64.wrap (((o+1)*1048576+p)*8192+j*2048+k*256)=((o+1)*1048576+p)*8192+j*2048+k*256:=cu (by omega) (by omega);have w9:IntKind.i64.wrap (((o+1)*1048576+p)*8192+j*2048+k*256+v)=Ec ⟨o,p,j,k,v⟩:=by rw[cu (by omega) (by omega)];unfold Ec;simp only;omega
  simp only[gZ,hm,w1,w2,w3,w4,w5,w6,w7,w8,w9,ag,bg,ah]
 ·have hm:=Gy q;simp only[gZ,hm,bh,ag,ah]
def zH:=zG.cm 68 Xj
theorem QvH:Qj Tryz.prog cF zH:=QvE.c6 Qb fun args d h=>by
 unfold Xj at h
 split at h
 ·obtain⟨h1,rfl⟩:=ak h;exact⟨by simp[D.refs],60,QvG _ _ _ _ _ h1⟩
 ·cases h
def gV:bM->Int->Nat
 |[],_=>0
 |y::l,a=>if y.key<a then gV l a+1 else 0
def Eb(l:bM)(a:Int):bM:=match l.drop (gV l a)with
 |y::r=>if y.key=a then r else y::r
 |[]=>[]
def lH(l:bM)(x:Item):bM:=l.take (gV l x.key)++x::Eb l x.key
theorem B1:∀(l:bM) (a:Int),gV l a<=l.length
 |[],_=>aq _
 |y::l,a=>by
  unfold gV
  split
  ·have:=B1 l a;simp;omega
  ·simp
theorem M8:∀{l:bM} {a:Int} {k:Nat} {d:Item},k<l.length->k<=gV l a->(k<gV l a↔(l.getD k d).key<a)
 |[],_,k,_,h,_=>by simp at h
 |y::l,a,0,d,_,_=>by
  unfold gV
  by_cases h:y.key<a<;>simp[h]
 |y::l,a,k+1,d,h,hk=>by
  unfold gV at hk ⊢
  by_cases hy:y.key<a
  ·simp only[hy,aU]at hk ⊢;have:=M8 (l:=l) (a:=a) (k:=k) (d:=d) (by simpa using h) (by omega);simp only[List.getD_cons_succ];omega
  ·simp only[hy,aL]at hk;omega
theorem L8 l a(d:Item):Eb l a=if gV l a<l.length/\(l.getD (gV l a) d).key=a then l.drop (gV l a+1)else l.drop (gV l a):=by
 unfold Eb
 by_cases h:gV l a<l.length
 ·have e:l.drop (gV l a)=l.getD (gV l a) d::l.drop (gV l a+1):=by
   rw[aJ h];simp[h]
  rw[e]
  by_cases hk:(l.getD (gV l a) d).key=a
  ·rw[ax ⟨h,hk⟩];simp only[hk,aU]
  ·rw[aw (fun q=>hk q.2)];simp only[hk,aL]
 ·have e:l.drop (gV l a)=[]:=aO (by omega);rw[e,aw (fun q=>h q.1)]
theorem MX l x:(lH l x).length<=l.length+1:=by
 have:=B1 l x.key;rw[lH,L8 l x.key ⟨0,0,0⟩]
 split<;>simp<;>omega
open Go.Proofs
structure QnH where
 (c:Bool)(l:bM)(a p v:Int)(k:Nat)
def M9(c:Bool)(l:bM)(a p v:Int)(k:Nat):bX:=[(0,.sl (C:=RC) .cE c l),(3,.ptr 0 []),(5,.int .i64 (k:Int))]
def xr(c:Bool)(l:bM)(a p v:Int)(k:Nat):bR:=[.var 56 (cG a (cG p (cG v .bN)))]
def QvJ c l a p v k:=eF cF zH 91 2 40 1 [0,3,5] [5] [.slot 3 0] (M9 c l a p v k) (xr c l a p v k)
theorem Qzz c l a p v k:QvJ c l a p v k=(let Z0:Int:=(k:Int);let Z1:b9:=[some (Obj.var 56 (.bI (cq a) (.bI (cq p) (.bI (cq v) .bN))))];let Z2:kW:=some ((X.exit 0,[(5,cq Z0)]),Z1);cb (Qc l.length) (bif decide (Z0<(l.length:Int))then cb (ep Z0 (l.length:Int)) (bif decide (Item.key (List.getD l Z0.toNat (Item.mk 0 0 0))<a)then some ((X.normal,[(0,D.sl ca.cE c l),(3,D.ptr 0 []),(5,cq (cX (Z0+1)))]),Z1)else Z2)else Z2)):=by kernel_rfl
def GA(c:Bool)(l:bM)(a p v:Int)(k:Nat):RT RC:=.leaf (.exit 0) [(5,.int .i64 (gV l a:Int))] (xr c l a p v k)
def CY(c:Bool)(l:bM)(a p v:Int)(k:Nat):Prop:=k<=gV l a/\Qc l.length=true
def Km:QK RC QnH where
 k:=1
 cS q:=M9 q.c q.l q.a q.p q.v q.k
 cR q:=xr q.c q.l q.a q.p q.v q.k
 fin q:=GA q.c q.l q.a q.p q.v q.k
 Inv q:=CY q.c q.l q.a q.p q.v q.k
 μ q:=q.l.length-q.k
theorem Qk2 c l a p v k(hI:CY c l a p v k):dw (QvJ c l a p v k) (dF Km ⟨c,l,a,p,v,k⟩):=by
 (rw[Qzz];delta cb ep cq cX;conv=>zeta)
 unfold CY at hI;obtain⟨h1,h2⟩:=hI;have hl:=Va h2;have hi:=B1 l a
 by_cases cY:k<l.length
 ·have cN:=fa k (by omega)
  have ei:=gv (show k<l.length by omega)
  have ef:=fV (show k<l.length by omega)
  have dp:=bw k
  simp only[cN,ei,ef,dp,ag];simp only[h2,ag];have jq:=M8 (d:=(⟨0,0,0⟩:Item)) cY h1
  by_cases hk:(l.getD k ⟨0,0,0⟩).key<a
  ·rw[ab hk];simp only[ag];exact Qg (S:=Km) ⟨c,l,a,p,v,k+1⟩ ⟨jq.2 hk,h2⟩ (by simp only[Km];omega) rfl rfl rfl
  ·rw[ad hk];simp only[ah];have e:k=gV l a:=by omega
   exact Qi (xr c l a p v k) (by simp only[Km,GA,RT.val,<-e]) rfl
 ·have d1:decide ((k:Int)<l.length)=false:=by simp;omega
  rw[h2,d1];simp only[ag,ah];have e:k=gV l a:=by omega
  exact Qi (xr c l a p v k) (by simp only[Km,GA,RT.val,<-e]) rfl
def Na(env:bX)(os:bR):Option (Bool×QnH):=match env,os with
 |[(0,.sl .cE c l),(3,.ptr 0 []),(5,.int .i64 x0)],[.var 56 (.bI (.int .i64 a) (.bI (.int .i64 p) (.bI (.int .i64 v) .bN)))]=>some (decide (x0=0)&&Qc l.length,⟨c,l,a,p,v,0⟩)
 |_,_=>none
def zI:=zH.cP 91 2 (eZ cF [.slot 3 0] [0,3,5] Km Na)
theorem QvK:Qj Tryz.prog cF zI:=by
 refine QvH.cJ Qb (by kernel_rfl) Km 40 [0,3,5] [5] [.slot 3 0] [0,3,5] Na (fun q hI=>?_) ?_
 ·obtain⟨c,l,a,p,v,k⟩:=q;refine⟨?_,?_,Qk2 c l a p v k hI⟩
  ·simp_all[Qk,Km,M9,xr,CY,D.refs,Obj.refs,de]
  ·simp_all[Km,GA,xr,CY,RT.da,Qk,D.refs,Obj.refs,de]
 ·intro env os b q cW hb;unfold Na at cW
  split at cW
  ·cases cW;simp only[ai,aa]at hb;obtain⟨rfl,h2⟩:=hb;exact⟨⟨aK _,h2⟩,rfl,rfl⟩
  ·cases cW
def QnI:bW->bO
 |[.sl .cE c l,.bI (.int .i64 a) (.bI (.int .i64 p) (.bI (.int .i64 v) .bN))]=>some (decide (l.length<=1000),.sl (C:=RC) .cE false (lH l ⟨a,p,v⟩))
 |_=>none
def QvM(c:Bool)(l:bM)(a p v:Int):=eU cF zI 40 91 [.sl (C:=RC) .cE c l,.bI (.int .i64 a) (cG p (cG v .bN))]
theorem QzA c l a p v:QvM c l a p v=(let Z0:Int:=(↑(gV l a):Int);let Z1:bM:=List.drop Z0.toNat l;let Z2:=Z1.length;let Z3:Bool:=decide ((0:Int)<=0/\(0:Int)<=Z0/\Z0<=(l.length:Int)/\Z0=Z0);let Z4:bM:=List.drop 0 (List.take Z0.toNat l);let Z5:=Z4.length+List.length [Item.mk a p v];let Z6:bM:=Z4++[Item.mk a p v];let Z7:=Z6.length;let Z8:=List.length (List.drop 1 Z1);let Z9:bM:=Z6++List.drop 1 Z1;let dg:fG:=none;let dq:fG:=bif Z3 then bif Qf Z5 24then bif Nat.beq Z5 Z7&&Qf (Z5+Z2) 24then bif Nat.beq (Z7+Z2) (Z6++Z1).length then some (D.sl ca.cE false (Z6++Z1))else dg else dg else dg else dg;bif Qc l.length then bif decide ((0:Int)<=Z0/\Z0<=(l.length:Int))then bif Qc Z2 then bif decide ((0:Int)<(Z2:Int))then bif decide ((0:Int)<=0/\(0:Int)<(Z2:Int))then bif Item.key (List.getD Z1 0 (Item.mk 0 0 0))==a then bif decide ((0:Int)<=1/\(1:Int)<=(Z2:Int))then bif Z3 then bif Qf Z5 24then bif Nat.beq Z5 Z7&&Qf (Z5+Z8) 24then bif Nat.beq (Z7+Z8) Z9.length then some (D.sl ca.cE false Z9)else dg else dg else dg else dg else dg else dq else dg else dq else dg else dg else dg):=by kernel_rfl
theorem QzB c l a p v(h:(decide (l.length<=1000))=true):QvM c l a p v=some (.sl (C:=RC) .cE false (lH l ⟨a,p,v⟩)):=by
 (rw[QzA];conv=>zeta)
 have hl:l.length<=1000:=by simpa using h
 have hi:=B1 l a;have hr:=L8 l a ⟨0,0,0⟩;show _=some (D.sl (C:=RC) ca.cE false (l.take (gV l a)++⟨a,p,v⟩::Eb l a));rw[hr];generalize gV l a=K at *;have t:=bw K
 have g0:(l.drop K).getD 0 (⟨0,0,0⟩:Item)=l.getD K ⟨0,0,0⟩:=by simp[ar]
 simp only[t,g0,bq,bp,bG,aC,aE,bH];refine Qa (Qd (by omega)) (Qa (by simp;omega) (Qa (Qd (by omega)) ?_))
 by_cases cY:K<l.length
 ·refine Qa (by simp;omega) (Qa (by simp;omega) ?_)
  by_cases hk:(l.getD K ⟨0,0,0⟩).key=a
  ·rw[ax ⟨cY,hk⟩];refine Qa (by simpa using hk) (Qa (by simp;omega) (Qa (by simp;omega) (Qa (Zb (by omega)) (Qa (by rw[ai];exact⟨Za (by omega),Zb (by omega)⟩) (Qa (Za (by omega)) ?_)))));simp[bD,Nat.add_comm]
  ·rw[aw fun q=>hk q.2];refine Qn (by simpa using hk) (Qa (by simp;omega) (Qa (Zb (by omega)) (Qa (by rw[ai];exact⟨Za (by omega),Zb (by omega)⟩) (Qa (Za (by omega)) ?_))));simp
 ·rw[aw fun q=>cY q.1];refine Qn (by simp;omega) (Qa (by simp;omega) (Qa (Zb (by omega)) (Qa (by rw[ai];exact⟨Za (by omega),Zb (by omega)⟩) (Qa (Za (by omega)) ?_))));simp
def zJ:=zI.cm 91 QnI
theorem QvN:Qj Tryz.prog cF zJ:=QvK.c6 Qb fun args d h=>by
 unfold QnI at h
 split at h
 ·obtain⟨h1,rfl⟩:=ak h;exact⟨by simp[D.refs],40,QzB _ _ _ _ _ h1⟩
 ·cases h
structure Xk where
 (c:Bool)(l w:bM)(a p v:Int)(k:Nat)
def MY(c:Bool)(l w:bM)(a p v:Int)(k:Nat):bX:=[(0,.sl (C:=RC) .cE c l),(3,.ptr 0 []),(5,.vs 1 (w.length)),(6,.int .i64 (k:Int))]
def Kn(c:Bool)(l w:bM)(a p v:Int)(k:Nat):bR:=[.var 56 (cG a (cG p (cG v .bN))),.cj .cE true w]
def QnJ c l w a p v k:=eF cF zJ 99 3 40 2 [0,3,5,6] [5,6] [.slot 3 0,.slot 5 0] (MY c l w a p v k) (Kn c l w a p v k)
theorem QvO c l w a p v k:QnJ c l w a p v k=(let Z0:Int:=(k:Int);let Z1:Bool:=ep Z0 (l.length:Int);let Z2:Item:=List.getD l Z0.toNat (Item.mk 0 0 0);let Z3:=w.length;let Z4:bM:=[Item.mk (Item.key Z2) (Item.b8 Z2) (Item.value Z2)];let Z5:bZ:=some (Obj.var 56 (.bI (cq a) (.bI (cq p) (.bI (cq v) .bN))));let Z6:kW:=some ((X.exit 0,[(5,D.vs 1 Z3),(6,cq Z0)]),[Z5,some (Obj.cj ca.cE true w)]);cb (Qc l.length) (bif decide (Z0<(l.length:Int))then cb Z1 (bif decide (Item.key Z2<a)then cb Z1 (cb (Nat.beq Z3 Z3&&Qf (Z3+Z4.length) 24) (some ((X.normal,[(0,D.sl ca.cE c l),(3,D.ptr 0 []),(5,D.vs 1 (Z3+Z4.length)),(6,cq (cX (Z0+1)))]),[Z5,some (Obj.cj ca.cE true (w++Z4))])))else Z6)else Z6)):=by kernel_rfl
def Ga(c:Bool)(l w:bM)(a p v:Int)(k:Nat):RT RC:=.leaf (.exit 0) [(5,.vs 1 (gV l a)),(6,.int .i64 (gV l a:Int))] (Kn c l (l.take (gV l a)) a p v k)
def JP(c:Bool)(l w:bM)(a p v:Int)(k:Nat):Prop:=k<=gV l a/\l.length<=1000/\w=l.take k
def Jo:QK RC Xk where
 k:=2
 cS q:=MY q.c q.l q.w q.a q.p q.v q.k
 cR q:=Kn q.c q.l q.w q.a q.p q.v q.k
 fin q:=Ga q.c q.l q.w q.a q.p q.v q.k
 Inv q:=JP q.c q.l q.w q.a q.p q.v q.k
 μ q:=q.l.length-q.k
theorem Qjt c l w a p v k(hI:JP c l w a p v k):dw (QnJ c l w a p v k) (dF Jo ⟨c,l,w,a,p,v,k⟩):=by
 (rw[QvO];delta cb ep cq cX;conv=>zeta)
 unfold JP at hI;obtain⟨h1,h2,hw⟩:=hI;have hi:=B1 l a;have lk:Qc l.length=true:=Qd (by omega);have hwl:w.length=k:=by rw[hw,bp];omega
 have kv:k=gV l a->dw (some ((X.exit 0,[(5,D.vs 1 w.length),(6,D.int IntKind.i64 (k:Int))]),(Kn c l w a p v k).map some)) (dF Jo ⟨c,l,w,a,p,v,k⟩):=fun e=>by
  refine Qi (Kn c l w a p v k) ?_ rfl;show RT.val (Ga c l w a p v k)=_;unfold Ga;rw[hwl,<-e,<-hw];rfl
 by_cases cY:k<l.length
 ·have cN:=fa k (by omega)
  have ei:=gv (show k<l.length by omega)
  have ef:=fV (show k<l.length by omega)
  have dp:=bw k
  simp only[cN,ei,ef,dp,ag];simp only[lk,ag];have jq:=M8 (d:=(⟨0,0,0⟩:Item)) cY h1
  by_cases hk:(l.getD k ⟨0,0,0⟩).key<a
  ·rw[ab hk];have e1:w.length+([l.getD k ⟨0,0,0⟩]:bM).length=(w++[l.getD k ⟨0,0,0⟩]).length:=by simp
   have s1:Qf (w++[l.getD k ⟨0,0,0⟩]).length 24=true:=Zb (by simp;omega);have b1:Nat.beq w.length w.length=true:=Za rfl;simp only[e1,s1,b1,au,ag];refine Qg (S:=Jo) ⟨c,l,w++[l.getD k ⟨0,0,0⟩],a,p,v,k+1⟩ ⟨jq.2 hk,h2,?_⟩ (by simp only[Jo];omega) rfl rfl rfl;rw[hw,List.take_add_one];simp[cY]
  ·rw[ad hk];simp only[ah];exact kv (by omega)
 ·have d1:decide ((k:Int)<l.length)=false:=by simp;omega
  rw[lk,d1];simp only[ag,ah];exact kv (by omega)
def MZ(env:bX)(os:bR):Option (Bool×Xk):=match env,os with
 |[(0,.sl .cE c l),(3,.ptr 0 []),(5,.vs 1 x0),(6,.int .i64 x1)],[.var 56 (.bI (.int .i64 a) (.bI (.int .i64 p) (.bI (.int .i64 v) .bN))),.cj .cE true w]=>some (decide (x0=w.length)&&decide (x1=0)&&decide (l.length<=1000)&&w.isEmpty,⟨c,l,w,a,p,v,0⟩)
 |_,_=>none
def zK:=zJ.cP 99 3 (eZ cF [.slot 3 0,.slot 5 0] [0,3,5,6] Jo MZ)
theorem QvP:Qj Tryz.prog cF zK:=by
 refine QvN.cJ Qb (by kernel_rfl) Jo 40 [0,3,5,6] [5,6] [.slot 3 0,.slot 5 0] [0,3,5,6] MZ (fun q hI=>?_) ?_
 ·obtain⟨c,l,w,a,p,v,k⟩:=q;refine⟨?_,?_,Qjt c l w a p v k hI⟩
  ·simp_all[Qk,Jo,MY,Kn,JP,D.refs,Obj.refs,de]
  ·simp_all[Jo,Ga,Kn,JP,RT.da,Qk,D.refs,Obj.refs,de]
 ·intro env os b q cW hb;unfold MZ at cW
  split at cW
  ·cases cW;simp only[ai,aa]at hb;obtain⟨⟨⟨h0,rfl⟩,h2⟩,h3⟩:=hb;have h3:=List.isEmpty_iff.1 h3;subst h3;subst h0;exact⟨⟨aK _,h2,by simp⟩,rfl,rfl⟩
  ·cases cW
def Xl:bW->bO
 |[.sl .cE c l,.bI (.int .i64 a) (.bI (.int .i64 p) (.bI (.int .i64 v) .bN))]=>some (decide (l.length<=1000),.sl (C:=RC) .cE false (lH l ⟨a,p,v⟩))
 |_=>none
def QnL(c:Bool)(l:bM)(a p v:Int):=eU cF zK 40 99 [.sl (C:=RC) .cE c l,.bI (.int .i64 a) (cG p (cG v .bN))]
theorem QvQ c l a p v:QnL c l a p v=(let Z0:=l.length;let Z1:Nat:=gV l a;let Z2:=List.length (List.take Z1 l);let Z3:=List.length [Item.mk a p v];let Z4:Int:=(Z1:Int);let Z5:Int:=(Z0:Int);let Z6:Int:=bif Item.key (List.getD l Z4.toNat (Item.mk 0 0 0))==a then cX (Z4+1)else Z4;let Z7:bM:=List.take Z1 l++[Item.mk a p v];let Z8:=Z7.length;let Z9:bM:=List.drop Z6.toNat l;let dg:=List.length (List.drop Z4.toNat l);let dq:bM:=Z7++List.drop Z4.toNat l;cb (decide (Z0<=1000)&&true) (cb (Nat.beq Z1 Z2&&Qf (Z1+Z3) 24) (cb (Qc Z0) (bif decide (Z4<Z5)then cb (ep Z4 Z5) (cb (decide ((0:Int)<=Z6/\Z6<=Z5)) (cb (Nat.beq (Z2+Z3) Z8&&Qf (Z2+Z3+Z9.length) 24) (cb (Nat.beq (Z8+Z9.length) (Z7++Z9).length) (some (D.sl ca.cE false (Z7++Z9))))))else cb (decide ((0:Int)<=Z4/\Z4<=Z5)) (cb (Nat.beq (Z2+Z3) Z8&&Qf (Z2+Z3+dg) 24) (cb (Nat.beq (Z8+dg) dq.length) (some (D.sl ca.cE false dq)))))))):=by kernel_rfl
theorem QvR c l a p v(h:(decide (l.length<=1000))=true):QnL c l a p v=some (.sl (C:=RC) .cE false (lH l ⟨a,p,v⟩)):=by
 (rw[QvQ];delta cb ep cX;conv=>zeta)
 have hl:l.length<=1000:=by simpa using h
 have hi:=B1 l a;have hr:=L8 l a ⟨0,0,0⟩;show _=some (D.sl (C:=RC) ca.cE false (l.take (gV l a)++⟨a,p,v⟩::Eb l a));rw[hr];generalize gV l a=K at *;have t:=bw K
 have ht:(l.take K).length=K:=by simp;omega
 have w1:=fa K (by omega)
 have t1:(((K+1:Nat):Int)).toNat=K+1:=by omega
 simp only[t,ht,w1];refine Qa (by simpa using hl) (Qa (by rw[ai];exact⟨Za rfl,Zb (by simp;omega)⟩) (Qa (Qd (by omega)) ?_))
 by_cases cY:K<l.length
 ·refine Qa (by simp;omega) (Qa (by simp;omega) ?_)
  by_cases hk:(l.getD K ⟨0,0,0⟩).key=a
  ·have hb:((l.getD K ⟨0,0,0⟩).key==a)=true:=by simpa using hk
   rw[ax ⟨cY,hk⟩];simp only[hb,ag,t1];refine Qa (by simp;omega) (Qa (by rw[ai];exact⟨Za (by simp;omega),Zb (by simp;omega)⟩) (Qa (Za (by simp;omega)) ?_));simp
  ·have hb:((l.getD K ⟨0,0,0⟩).key==a)=false:=by simpa using hk
   rw[aw fun q=>hk q.2];simp only[hb,ah,t];refine Qa (by simp;omega) (Qa (by rw[ai];exact⟨Za (by simp;omega),Zb (by simp;omega)⟩) (Qa (Za (by simp;omega)) ?_));simp
 ·rw[aw fun q=>cY q.1];refine Qn (by simp;omega) (Qa (by simp;omega) (Qa (by rw[ai];exact⟨Za (by simp;omega),Zb (by simp;omega)⟩) (Qa (Za (by simp;omega)) ?_)));simp
def zL:=zK.cm 99 Xl
theorem QvS:Qj Tryz.prog cF zL:=QvP.c6 Qb fun args d h=>by
 unfold Xl at h
 split at h
 ·obtain⟨h1,rfl⟩:=ak h;exact⟨by simp[D.refs],40,QvR _ _ _ _ _ h1⟩
 ·cases h
def dZ{α:Type}(p:α->Bool):List α->Nat
 |[]=>0
 |x::l=>bif p x then 0 else dZ p l+1
theorem Gb{α:Type}(p:α->Bool):∀l:List α,dZ p l<=l.length
 |[]=>aq _
 |x::l=>by
  unfold dZ;cases p x<;>simp[Gb p l]
theorem JQ{α:Type}(p:α->Bool):∀l:List α,(dZ p l<l.length)↔l.any p=true
 |[]=>by simp[dZ]
 |x::l=>by
  unfold dZ;have:=JQ p l;cases h:p x<;>simp[h,this]
theorem Gc{α:Type}(p:α->Bool):∀{l:List α} {k:Nat} {d:α},k<l.length->k<=dZ p l->(k<dZ p l↔p (l.getD k d)=false)
 |[],k,_,h,_=>by simp at h
 |x::l,0,d,_,_=>by
  unfold dZ;cases h:p x<;>simp[h]
 |x::l,k+1,d,h,hk=>by
  unfold dZ at hk ⊢;cases hx:p x
  ·simp only[hx,ah]at hk ⊢;have:=Gc p (l:=l) (k:=k) (d:=d) (by simpa using h) (by omega);simp only[List.getD_cons_succ];exact⟨fun q=>this.1 (by omega),fun q=>by have:=this.2 q;omega⟩
  ·simp only[hx,ag]at hk;omega
theorem T2{α:Type}{p:α->Bool}{l:List α}:(dZ (fun x=>!p x) l<l.length)↔l.all p=false:=by
 rw[JQ];simp
theorem Ds(x:cC):cC.mk x.offset x.b8 x.j x.key x.value=x:=rfl
def kF(cut:Int):Nat->bJ->Nat->Nat->bJ×Nat
 |0,w,i,_=>(w,i)
 |n+1,w,i,j=>if(w.getD j ⟨0,0,0,0,0⟩).b8<=cut then kF cut n w i (j+1)else kF cut n (w.set i (w.getD j ⟨0,0,0,0,0⟩)) (i+1) (j+1)
theorem Hk(cut:Int):∀(n:Nat) (w:bJ) (i j:Nat),i<=j->j+n=w.length ->
 (kF cut n w i j).1.length=w.length/\(kF cut n w i j).2<=w.length/\(kF cut n w i j).1.take (kF cut n w i j).2=w.take i++(w.drop j).filter fun x=>decide (cut<x.b8)
 |0,w,i,j,h1,h2=>by
  have:w.drop j=[]:=aO (by omega);rw[this];exact⟨rfl,by simp only[kF];omega,by simp[kF]⟩
 |n+1,w,i,j,h1,h2=>by
  have hj:j<w.length:=by omega
  have e:w.drop j=w.getD j ⟨0,0,0,0,0⟩::w.drop (j+1):=by
   rw[aJ hj];simp[hj]
  unfold kF;generalize w.getD j ⟨0,0,0,0,0⟩=x at e ⊢
  by_cases hp:x.b8<=cut
  ·rw[ax hp];obtain⟨a,b,c⟩:=Hk cut n w i (j+1) (by omega) (by omega);refine⟨a,b,?_⟩;rw[c,e,List.filter_cons_of_neg (by simpa using hp)]
  ·rw[aw hp];obtain⟨a,b,c⟩:=Hk cut n (w.set i x) (i+1) (j+1) (by omega) (by rw[bf];omega);rw[bf]at a b;refine⟨a,b,?_⟩;rw[c,e,List.filter_cons_of_pos (by simpa using hp)]
   have e1:(w.set i x).take (i+1)=w.take i++[x]:=by
    rw[List.take_add_one,List.take_set_of_le (aq _)];simp[show i<w.length by omega]
   have e2:(w.set i x).drop (j+1)=w.drop (j+1):=by rw[List.drop_set_of_lt (by omega)]
   rw[e1,e2];simp
theorem Jy(cut:Int):∀{M:bJ},(M.any fun x=>decide (x.b8<=cut))=true ->
 M.filter (fun x=>decide (cut<x.b8))=M.take (dZ (fun x=>decide (x.b8<=cut)) M)++(M.drop (dZ (fun x=>decide (x.b8<=cut)) M+1)).filter fun x=>decide (cut<x.b8)
 |[],h=>by simp at h
 |x::M,h=>by
  unfold dZ
  by_cases hx:x.b8<=cut
  ·rw[List.filter_cons_of_neg (by simpa using hx)];simp[hx]
  ·have hM:(M.any fun x=>decide (x.b8<=cut))=true:=by simpa[hx]using h
   rw[List.filter_cons_of_pos (by simp;omega),Jy cut hM];simp[hx]
theorem T3(cut:Int){M:bJ}(h:(M.any fun x=>decide (x.b8<=cut))=false):M.filter (fun x=>decide (cut<x.b8))=M:=by
 rw[List.filter_eq_self];intro x hx;have:=List.any_eq_false.1 h x hx;simp only[aa]at this ⊢;omega
def Ja(p q:Int):Int->Nat->cA->bJ
 |_,_,[]=>[]
 |nx,j,w::r=>if w.key/8=q then⟨nx,p,j,w.key%8,w.value⟩::Ja p q (nx+1) (j+1) r else Ja p q nx (j+1) r
theorem GB p q:∀(w:cA) (nx:Int) (j:Nat),(Ja p q nx j w).length<=w.length
 |[],_,_=>aq _
 |w::r,nx,j=>by
  unfold Ja
  split
  ·have:=GB p q r (nx+1) (j+1);simp;omega
  ·have:=GB p q r nx (j+1);simp;omega
def sa(l:bJ):Int:=if 0<l.length then(l.getD (l.length-1) ⟨0,0,0,0,0⟩).offset+1 else 0
def ra(l:bJ)(r:Rec):Bool:=l.all QY&&gj r
def VB(l:bJ)(r:Rec)(q:Int):bJ:=l++Ja r.b8 q (sa l) 0 r.dV
def xF(l:bJ):Int:=(l.getD (l.length-17) ⟨0,0,0,0,0⟩).b8
def HD(l:bJ):bJ:=(l.drop (l.length-16)).filter fun x=>decide (xF l<x.b8)
def VC(l:bJ)(r:Rec)(q:Int):bJ :=
 bif ra l r&&r.yes then(bif decide ((VB l r q).length<=16)then VB l r q else HD (VB l r q))else l
def Jb(l:bJ)(cut:Int)(r:Rec)(q:Int):Int :=
 bif ra l r&&r.yes then(bif decide ((VB l r q).length<=16)then cut else xF (VB l r q))else cut
theorem Mo l r q:(VC l r q).length<=max l.length 16:=by
 unfold VC;cases ra l r&&r.yes
 ·simp;omega
 ·simp only[ag]
  by_cases h:(VB l r q).length<=16
  ·rw[ab h];simp only[ag];omega
  ·rw[ad h];simp only[ah];have:=List.length_filter_le (fun x:cC=>decide (xF (VB l r q)<x.b8)) ((VB l r q).drop ((VB l r q).length-16));unfold HD;simp only[bq]at this;omega
theorem QvT{r:Rec}(h:gj r=true):∀w∈r.dV,0<=w.key/\w.key<=23:=by
 intro w hw;unfold gj Yg at h;simp only[ai]at h;have:=aX.1 (YA h.1.2.2) w hw;unfold Vy at this;simp only[ai,Qp]at this;exact this.1
def tU(ws:cA):Bool:=ws.all fun w=>decide (0<=w.key/\w.key<=23)
theorem Xm{ws:cA}(h:tU ws=true){i:Nat}(hi:i<ws.length):0<=(ws.getD i ⟨0,0⟩).key/\(ws.getD i ⟨0,0⟩).key<=23:=by
 have:=aX.1 h ws[i] (bA hi);simp only[aa]at this
 simpa[hi]using this
theorem QnN{r:Rec}(h:gj r=true):tU r.dV=true:=aX.2 fun w hw=>by simpa using QvT h w hw
section
variable {C:ij}{P:Program}{T:fA C}{Φ:jv C}
open Pg (Ex)
end
section
variable {C:ij}{P:Program}{T:fA C}{Φ:jv C}
open Pg (Ex)
end
section
variable {C:ij}{P:Program}{T:fA C}{Φ:jv C}
open Pg (Ex)
def D.nN:D C->D C
 |.bI d ds=>.bI d.nN ds.nN
 |.cH d=>.cH d.nN
 |.sl t _ l=>.sl t false l
 |d=>d
theorem D.lL:∀d:D C,d.nN.refs=d.refs
 |.bI d ds=>by simp[D.nN,D.refs,D.lL d,D.lL ds]
 |.cH d=>by simp[D.nN,D.refs,D.lL d]
 |.sl _ _ _=>rfl
 |.bool _ |.int _ _ |.str _ |.bN |.arr _ _ _ |.eO |.vs _ _ |.ptr _ _ |.fx _ _ _ |.dS _ |.fw |.fn _ _ |.cD |.gz |.bm _ _ |.yl _ _ _ _ _ _ _ |.fY _ _ _ |.ku _ |.mp _ |.jR _ _ _ _ _ |.top=>rfl
theorem D.lK:∀d:D C,d.nN.eu=d.eu
 |.bI d ds=>by simp only[D.nN,D.eu,D.lK d,D.lK ds]
 |.cH d=>by simp only[D.nN,D.eu,D.lK d]
 |.sl _ _ _=>rfl
 |.bool _ |.int _ _ |.str _ |.bN |.arr _ _ _ |.eO |.vs _ _ |.ptr _ _ |.fx _ _ _ |.dS _ |.fw |.fn _ _ |.cD |.gz |.bm _ _ |.yl _ _ _ _ _ _ _ |.fY _ _ _ |.ku _ |.mp _ |.jR _ _ _ _ _ |.top=>rfl
theorem D.mX:∀d:D C,d.nN.dA=d.dA
 |.bI _ _ |.cH _ |.sl _ _ _=>rfl
 |.bool _ |.int _ _ |.str _ |.bN |.arr _ _ _ |.eO |.vs _ _ |.ptr _ _ |.fx _ _ _ |.dS _ |.fw |.fn _ _ |.cD |.gz |.bm _ _ |.yl _ _ _ _ _ _ _ |.fY _ _ _ |.ku _ |.mp _ |.jR _ _ _ _ _ |.top=>rfl
theorem R.nN{X:Cx}{m:Bool}{d:D C}{vs:bT}(h:R T X m d vs):R T X m d.nN vs:=by
 induction h with
 |bI _ _ i1 i2=>exact .bI i1 i2
 |cH _ ih=>exact .cH ih
 |li t c a=>exact .li t false a
 |sl ha h hc _ _=>exact .sl ha h hc (fun h=>by cases h)
 |jU _ hr _ i1 i2=>exact .jU i1 (by rw[D.mX];exact hr) i2
 |ju _ hr _ i1 i2=>exact .ju i1 (by rw[D.mX];exact hr) i2
 |bool b=>exact .bool b
 |int h=>exact .int h
 |str s=>exact .str s
 |bN=>exact .bN
 |iK t=>exact .iK t
 |jz h1 h2 _ _=>exact .jz h1 h2
 |eO=>exact .eO
 |vs h=>exact .vs h
 |ptr h=>exact .ptr h
 |fx h=>exact .fx h
 |dS h1 h2 _=>exact .dS h1 h2
 |fw=>exact .fw
 |fn h _=>exact .fn h
 |cD=>exact .cD
 |gz=>exact .gz
 |bm h1 h2 _=>exact .bm h1 h2
 |yl h1 h2 h3 _=>exact .yl h1 h2 h3
 |fY h1 h2 h3 h4 h5 _=>exact .fY h1 h2 h3 h4 h5
 |ku h=>exact .ku h
 |mp h=>exact .mp h
 |jR h1 h2 h3=>exact .jR h1 h2 h3
 |top v=>exact .top v
 |iV=>exact .iV
theorem RV.nN{X:Cx}{d:D C}{v:Value}(h:RV T X d v):RV T X d.nN v:=by
 rcases h with⟨h1,cs,h2,h3⟩|⟨h1,h2⟩
 ·exact .inl ⟨by rw[D.mX];exact h1,cs,h2.nN,h3⟩
 ·exact .inr ⟨by rw[D.mX];exact h1,h2.nN⟩
noncomputable def lY(T:fA C)(Φ:jv C)(n:Nat)(f:FuncId)(args:List (D C)):Option (D C):=(vP T Φ (kl T Φ n) f args).run (0,0) [] 0 [] fun d _ _ _=>bif d.refs.isEmpty&&d.eu then some d.nN else none
theorem QvU{n:Nat}{f:FuncId}{args:List (D C)}{d:D C}(h:lY T Φ n f args=some d):∃d0,eU T Φ n f args=some d0/\d0.nN=d:=by
 unfold lY at h;obtain⟨a,h1,n1,t1,hx,hk⟩:=Pg.fK h;cases hc:(a.refs.isEmpty&&a.eu)with
 |false=>rw[hc]at hk;cases hk
 |true=>
  rw[hc]at hk;refine⟨a,?_,aj hk⟩;unfold eU;rw[Pg.nB hx];simp only[hc,ag]
theorem KE.nN{g:FuncId}{args:List (D C)}{d:D C}(h:KE P T g args d):KE P T g args d.nN:=by
 intro w O vs h1 h2 h3;obtain⟨q1,q2⟩:=h w O vs h1 h2 h3;refine⟨q1,q2.mono fun en w' hp=>?_⟩;obtain⟨v,ρ,e,r,⟨d1,d2⟩,rest⟩:=hp;exact⟨v,ρ,e,r.nN,⟨by rw[D.lL];exact d1,by rw[D.lK];exact d2⟩,rest⟩
theorem Qj.j5(K:Zq P T)(F:Qj P T Φ){g:FuncId}{s:List (D C)->Option (Bool×D C)}(hs:∀args d,s args=some (true,d)->(∀a∈args,D.refs a=[])/\∃n,lY T Φ n g args=some d):Qj P T (Φ.cm g s):=
 F.cm fun args d h=>by
  obtain⟨h1,n,h2⟩:=hs args d h;obtain⟨d0,h3,rfl⟩:=QvU h2;exact⟨h1,(XP K F h3 h1).nN⟩
end
section
variable {C:ij}{P:Program}{T:fA C}{Φ:jv C}
open Pg (Ex)
def rb{α:Type}(T:fA C):du->Env C->bU->(Env C->bU->Pg C α)->Pg C α
 |[],env,dB,k=>k env dB
 |.slot t i::r,env,dB,k=>match c8 env t with
  |.sl ty true []=>.nw (.cj ty true []) fun id=>rb T r ((t,.vs id 0)::env) (dB++[id]) k
  |.sl ty true (x::l)=>.nw (.cj ty false (x::l)) fun id=>rb T r ((t,.vs id (x::l).length)::env) (dB++[id]) k
  |d=>match d.refs[i]? with
   |some id=>rb T r env (dB++[id]) k
   |none=>.fail
 |.wW t::r,env,dB,k=>match c8 env t with
  |.sl ty true l=>.br l.isEmpty (.nw (.cj ty true l) fun id=>rb T r ((t,.vs id l.length)::env) (dB++[id]) k) (.nw (.cj ty false l) fun id=>rb T r ((t,.vs id l.length)::env) (dB++[id]) k)
  |_=>.fail
 |.path j p::r,env,dB,k=>match dB[j]? with
  |none=>.fail
  |some th=>.rd th fun
   |.var u d=>match fg T d p with
    |some (.sl ty true [])=>match gG T u p with
     |some t'=>bif Y1 T u p&&cZ T (.vs 0 0:D C) (.inl t')then .nw (.cj ty true []) fun id=>match Ev.setPath T d p (.vs id 0)with
      |some d'=>.wr th (.var u d') (rb T r env (dB++[id]) k)
      |none=>.fail
      else .fail
     |none=>.fail
    |some (.sl ty true (x::l))=>match gG T u p with
     |some t'=>bif Y1 T u p&&cZ T (.vs 0 0:D C) (.inl t')then .nw (.cj ty false (x::l)) fun id=>match Ev.setPath T d p (.vs id (x::l).length)with
      |some d'=>.wr th (.var u d') (rb T r env (dB++[id]) k)
      |none=>.fail
      else .fail
     |none=>.fail
    |some x=>match x.refs with
     |id::_=>rb T r env (dB++[id]) k
     |[]=>.fail
    |none=>.fail
   |_=>.fail
theorem QzC(K:Zq P T){α:Type}{e:Pg.Lv}{a:α}{h':Heap C}{cM:Nat}{lim:eL}(eA:cM<=lim.top){k:Env C->bU->Pg C α}{tmps:b7}:∀(l:du) (X:Cx) (h:Heap C) (nx:Nat) (tr:Tr) (env:Env C) (dB:bU),
 G T X h nx lim->QE T X nx lim env tmps->Ex e (rb T l env dB k) h nx a h' cM tr ->
 ∃X1 h1 pS eD yU oS,X1.w=X.w/\G T X1 h1 pS lim/\Step X nx lim X1/\nx<=pS/\QE T X1 pS lim eD tmps/\Ex e (k eD yU) h1 pS a h' cM oS:=by
 intro l
 induction l with
 |nil=>intro X h nx tr env dB g he hx;exact⟨X,h,nx,env,dB,tr,rfl,g,.refl _ _ _,aq _,he,hx⟩
 |cons f l ih=>
  intro X h nx tr env dB g he hx;cases f with
  |slot t i=>
   simp only[rb]at hx
   split at hx
   ·rename_i ty hq;obtain⟨t',hx,_⟩:=Ex.nw hx;have hle:=hx.le;obtain⟨X1,w1,g1,s1,e1⟩:=VP K g he (by omega) hq;obtain⟨X2,h2,n2,fP,kx,mQ,w2,g2,s2,ng,e2,fW⟩:=ih X1 _ _ _ _ _ g1 e1 hx;exact⟨X2,h2,n2,fP,kx,mQ,by rw[w2,w1],g2,s1.trans s2 (by omega),by omega,e2,fW⟩
   ·rename_i ty x l0 hq;obtain⟨t',hx,_⟩:=Ex.nw hx;have hle:=hx.le;obtain⟨X1,w1,g1,s1,e1⟩:=VP K g he (by omega) hq;obtain⟨X2,h2,n2,fP,kx,mQ,w2,g2,s2,ng,e2,fW⟩:=ih X1 _ _ _ _ _ g1 e1 hx;exact⟨X2,h2,n2,fP,kx,mQ,by rw[w2,w1],g2,s1.trans s2 (by omega),by omega,e2,fW⟩
   ·split at hx
    ·exact ih X h nx tr env _ g he hx
    ·exact Ex.cI hx
  |wW t=>
   simp only[rb]at hx
   split at hx
   ·rename_i ty l0 hq;rcases Ex.br hx with⟨hb,hx⟩|⟨hb,hx⟩
    all_goals
     obtain⟨t',hx,_⟩:=Ex.nw hx;have hle:=hx.le;obtain⟨X1,w1,g1,s1,e1⟩:=VP K g he (by omega) hq;rw[hb]at g1;obtain⟨X2,h2,n2,fP,kx,mQ,w2,g2,s2,ng,e2,fW⟩:=ih X1 _ _ _ _ _ g1 e1 hx;exact⟨X2,h2,n2,fP,kx,mQ,by rw[w2,w1],g2,s1.trans s2 (by omega),by omega,e2,fW⟩
   ·exact Ex.cI hx
  |path j p=>
   simp only[rb]at hx
   split at hx
   ·exact Ex.cI hx
   ·rename_i th hj;obtain⟨o,t',ho,hx,_⟩:=Ex.rd hx;cases o with
    |cj _ _ _=>exact Ex.cI hx
    |map _ _ _=>exact Ex.cI hx
    |ek _=>exact Ex.cI hx
    |var u d=>
     simp only at hx
     split at hx
     ·rename_i ty hq
      split at hx
      ·rename_i t' ht;cases hb:Y1 T u p&&cZ T (.vs 0 0:D C) (.inl t')with
       |false=>rw[hb]at hx;exact Ex.cI hx
       |true=>
        rw[hb]at hx;simp only[ag]at hx;simp only[ai]at hb;obtain⟨t1,hx,_⟩:=Ex.nw hx
        split at hx
        ·rename_i d' hs;obtain⟨o',t2,gU,hx,_⟩:=Ex.wr hx;have hle:=hx.le;obtain⟨X1,w1,g1,s1,e1⟩:=FX K g he (by omega) ho hb.1 hq hs ht (by simpa[cZ]using hb.2);obtain⟨X2,h2,n2,fP,kx,mQ,w2,g2,s2,ng,e2,fW⟩:=ih X1 _ _ _ _ _ g1 e1 hx;exact⟨X2,h2,n2,fP,kx,mQ,by rw[w2,w1],g2,s1.trans s2 (by omega),by omega,e2,fW⟩
        ·exact Ex.cI hx
      ·exact Ex.cI hx
     ·rename_i ty x l0 hq
      split at hx
      ·rename_i t' ht;cases hb:Y1 T u p&&cZ T (.vs 0 0:D C) (.inl t')with
       |false=>rw[hb]at hx;exact Ex.cI hx
       |true=>
        rw[hb]at hx;simp only[ag]at hx;simp only[ai]at hb;obtain⟨t1,hx,_⟩:=Ex.nw hx
        split at hx
        ·rename_i d' hs;obtain⟨o',t2,gU,hx,_⟩:=Ex.wr hx;have hle:=hx.le;obtain⟨X1,w1,g1,s1,e1⟩:=FX K g he (by omega) ho hb.1 hq hs ht (by simpa[cZ]using hb.2);obtain⟨X2,h2,n2,fP,kx,mQ,w2,g2,s2,ng,e2,fW⟩:=ih X1 _ _ _ _ _ g1 e1 hx;exact⟨X2,h2,n2,fP,kx,mQ,by rw[w2,w1],g2,s1.trans s2 (by omega),by omega,e2,fW⟩
        ·exact Ex.cI hx
      ·exact Ex.cI hx
     ·split at hx
      ·exact ih X h nx _ env _ g he hx
      ·exact Ex.cI hx
     ·exact Ex.cI hx
def RT.Ip(kp:Nat)(dB:bU):RT C->Pg C (Ev.X×Env C)
 |.fail=>.fail
 |.leaf x env os=>Cm (dB.take kp) ((os.map (Obj.eT fun j=>dB.getD j 0)).take kp) (.ret (x,nA (fun j=>dB.getD j 0) env))
 |.br b l r=>.br b (l.Ip kp dB) (r.Ip kp dB)
theorem RT.qy{e:Pg.Lv}{a:Ev.X×Env C}{h h':Heap C}{nx cM kp:Nat}{dB:bU}:∀(t:RT C) (tr:Tr),Ex e (t.Ip kp dB) h nx a h' cM tr->∃x env os,t.val=some ((x,env),os)/\Ex e (Cm (dB.take kp) ((os.map (Obj.eT fun j=>dB.getD j 0)).take kp) (.ret (x,nA (fun j=>dB.getD j 0) env))) h nx a h' cM tr
 |.fail,tr,hx=>Ex.cI hx
 |.leaf x env os,tr,hx=>⟨x,env,os,rfl,hx⟩
 |.br b l r,tr,hx=>by
  rcases Ex.br hx with⟨rfl,hx⟩|⟨rfl,hx⟩
  ·exact RT.qy l tr hx
  ·exact RT.qy r tr hx
def zf(T:fA C)(fs:du)(dW:bU)(kp:Nat)(pd:Env C->List (Obj C)->RT C)(env:Env C):Pg C (Ev.X×Env C):=
 rb T fs env [] fun env dB=>bif KJ dB then HU dB fun os=>
  bif pE dB (dW.flatMap fun t=>(c8 env t).refs)&&pE dB (os.flatMap Obj.refs)then
   (pd (dW.map fun t=>(t,(c8 env t).eT (idx dB))) (os.map (Obj.eT (idx dB)))).Ip kp dB
  else .fail
 else .fail
theorem QvV(K:Zq P T)(F:Qj P T Φ){g key:Nat}{fs:du}{dW:bU}{pd:Env C->List (Obj C)->RT C}{σ:Type}{S:v8 C σ}{kp:Nat}(nf:∀q,S.Inv q->(S.fy q).drop kp=(S.cR q).drop kp)
 (hr:∀fn body b,Φ.fn g=some fn->fn.body=some body->b∈Zi body->QF b=key->N1 T Φ g b S)
 (kS:∀fe os x dj fm,(pd fe os).val=some ((x,dj),fm)->∃q,S.Inv q/\(∀p∈S.cS q,p∈fe)/\os=S.cR q/\S.fin q=(x,dj)/\S.fy q=fm):G5 P T Φ g key (zf T fs dW kp pd):=by
 intro fn body b hf hb sE j9 B hB X h nx lim e env x dj h' cM tr a Q gg he eA fN hx hk;obtain⟨f1,f2,f3⟩:=F.fn g fn hf;obtain⟨c1,c2⟩:=ZV body (f3 body hb) b sE;have nl:=hr fn body b hf hb sE j9;obtain⟨X1,h1,pS,eD,dB,oS,w1,g1,s1,oC,e1,mw⟩:=QzC K eA fs X h nx tr env [] gg he hx;cases lC:KJ dB with
 |false=>rw[lC]at mw;exact Ex.cI mw
 |true=>
 rw[lC]at mw;simp only[ag]at mw;have js:=Y2 lC;obtain⟨os,mQ,dc,qP,fW⟩:=Dg dB _ _ mw;cases iY:pE dB (dW.flatMap fun t=>(c8 eD t).refs)&&pE dB (os.flatMap Obj.refs)with
 |false=>rw[iY]at fW;exact Ex.cI fW
 |true=>
 rw[iY]at fW;simp only[ag]at fW;simp only[ai]at iY;have qj:=Vb iY.1;have pz:=Vb iY.2;obtain⟨xx,ee,fm,hq,yS⟩:=RT.qy _ _ fW
 ··obtain⟨q,hI,kT,kC,kv,lq⟩:=kS _ _ _ _ _ hq;obtain⟨gn,kK,_⟩:=nl q hI;obtain⟨h2,Rm,nR,yQ,r6,yT⟩:=Dh (dB.take kp) _ h1 _ ((List.take_sublist kp dB).nodup js) yS;have s8:∀id,id∉dB->h2.get id=h1.get id:=fun id dU=>r6 id fun hm=>dU (List.mem_of_mem_take hm)
   have pD:∀(j id:Nat) (o:Obj C),dB[j]? = some id->(fm.map (Obj.eT fun j=>dB.getD j 0))[j]? = some o->h2.get id=some o:=by
    intro j id o hj ho
    by_cases hjk:j<kp
    ·exact yQ j id o (by rw[List.getElem?_take,ax hjk];exact hj) (by rw[List.getElem?_take,ax hjk];exact ho)
    ·have cY:j<dB.length:=(av.1 hj).1
     rw[r6 id fun hm=>by
      obtain⟨i,hi,hii⟩:=List.getElem_of_mem hm;have ks:i<kp:=by simp only[bp]at hi;omega
      have h1:dB[i]? = some id:=by rw[<-hii,List.getElem_take];exact aY _
      have:=(List.getElem?_inj cY js (j:=i)).1 (by rw[hj,h1]);omega]
     have hd:=nf q hI;rw[lq,<-kC]at hd
     have hq:fm[j]? = (os.map (Obj.eT (idx dB)))[j]? := by
      have h1:=ap (fun l=>l[j-kp]?) hd;simp only[List.getElem?_drop]at h1;rw[show kp+(j-kp)=j by omega]at h1;exact h1
     rw[bB,hq,bB]at ho;cases lg:os[j]? with
     |none=>simp[lg]at ho
     |some o0=>
      simp only[lg,bC,aD]at ho;rw[qP j id o0 hj lg,<-ho,Obj.eH];intro r hr;have hm:=pz r (List.mem_flatMap.2 ⟨o0,List.mem_of_getElem? lg,hr⟩);have:=Ka dB r hm;simp only[ar,this,ba]
   obtain⟨kh,eh,en,_⟩:=Ex.ret yT;obtain⟨rfl,rfl⟩:=Prod.mk.inj kh;subst eh;subst en
   let f:Nat->Nat:=fun j=>dB.getD j 0
   have oB:∀j,j<dB.length->dB[j]? = some (f j):=fun j hj=>by simp[f,hj]
   have sP:dB.length=S.k:=by rw[<-gn.1,<-kC];simp[dc]
   have qM:∀r,r∈dB->f (idx dB r)=r:=fun r hr=>by
    have:=Ka dB r hr;simp only[f,ar,this,ba]
   have jH:(S.cR q).length=dB.length:=by rw[gn.1,sP]
   have part:Part h1 (S.cR q) f:=by
    refine⟨fun j o ho=>?_,fun i j hi hj lP=>?_,fun o ho r hr=>by rw[gn.1];exact gn.2.2 o ho r hr⟩
    ·rw[<-kC,bB]at ho;cases lg:os[j]? with
     |none=>simp[lg]at ho
     |some o0=>
      simp only[lg,bC,aD]at ho;have hj:j<dB.length:=by rw[<-dc];exact(av.1 lg).1
      rw[qP j (f j) o0 (oB j hj) lg,<-ho,Obj.eH];intro id dU;exact qM id (pz id (List.mem_flatMap.2 ⟨o0,List.mem_of_getElem? lg,dU⟩))
    ·rw[jH]at hi hj;have:=(List.getElem?_inj hi js (j:=j)).1 (by rw[oB i hi,oB j hj];simp only[f]at lP ⊢;rw[lP]);exact this
   have g2:=Part.ctx K.base g1 part (S.cR q).length
   have e2:QE T (X1.part (S.cR q).length f) (S.cR q).length (eQ (S.cR q).length) (S.cS q) a.tmps:=by
    refine QE.part K.base e1 part.inj (fun p hp=>?_) (fun p hp r hr=>by rw[gn.1];exact gn.2.1 p hp r hr);have:=kT p hp;simp only[List.mem_map]at this;obtain⟨t,ht,rfl⟩:=this;simp only;rw[D.eH];intro id dU;exact qM id (qj id (List.mem_flatMap.2 ⟨t,ht,dU⟩))
   rw[gn.1]at g2 e2;rw[<-w1];show(Code.loop b).wp P Q a (X1.part S.k f).w;refine wp_loop_rounds (S.μ q+1) (Un K F nl hf hb c1 c2 hB (S.μ q+1) q (X1.part S.k f) a hI (by omega) g2 e2 fN fun a' X' g' s' e' pB uX vo=>?_);rw[lq]at g';rw[kv]at e';have ko:fm.length=(S.cR q).length:=by rw[<-lq,kK.1,gn.1]
   have lr:∀o∈fm,∀r∈Obj.refs o,r<(S.cR q).length:=fun o ho r hr=>by rw[gn.1];exact kK.2.2 o (by rw[lq];exact ho) r hr
   obtain⟨X2,w2,g3,s3,hρ,rS⟩:=Part.back K.base g1 part ko lr (X1:=X') (lim1:=eQ S.k) (h':=h') (by rw[gn.1];exact g') (by rw[gn.1];exact s') (fun j o hj=>by
    have cY:j<dB.length:=by rw[<-jH,<-ko];exact(av.1 hj).1
    exact pD j (f j) _ (oB j cY) (by rw[bB,hj];rfl)) (fun id dU=>by
    refine s8 id fun hm=>?_;obtain⟨j,hj,yy⟩:=List.getElem_of_mem hm;refine dU j (by rw[jH];exact hj) ?_;simp[f,hj,yy])
   have gD:∀j,j<S.k->fL cM lim (f j):=fun j hj=>by
    have mr:j<(S.cR q).length:=by rw[gn.1];exact hj
    exact(g1.eY _ _ (part.ot j (S.cR q)[j] (by simp[mr]))).1
   have e3:=QE.back (nx:=cM) (lim:=lim) (f:=f) K.base e' (fun p hp r hr=>kK.2.1 p (by rw[kv];exact hp) r hr) (fun j hj=>hρ j (by rw[gn.1];exact hj)) ⟨rS⟩ gD;have:=hk a' X2 g3 (s1.trans s3 oC) e3 pB (uX.y3 g3 (by show X.w.heap.size<=X1.w.heap.size;rw[w1];exact aq _) w2) vo;rw[w2]at this;rw[kv];exact this
theorem Qj.po(K:Zq P T)(F:Qj P T Φ){g key:Nat}(lA:uD (J9 Φ g)=true){σ:Type}(S:v8 C σ)(kp:Nat)(nf:∀q,S.Inv q->(S.fy q).drop kp=(S.cR q).drop kp)(n:Nat)(kc kf:bU)(OU fs:du)(dW:bU)(pd:Env C->List (Obj C)->RT C)
 (hr:∀q,S.Inv q->Qk S.k (S.cS q) (S.cR q)/\Qk S.k (S.fin q).2 (S.fy q)/\dw (eF T Φ g key n S.k kc kf OU (S.cS q) (S.cR q)) (CU S q))
 (kS:∀fe os x dj fm,(pd fe os).val=some ((x,dj),fm)->∃q,S.Inv q/\(∀p∈S.cS q,p∈fe)/\os=S.cR q/\S.fin q=(x,dj)/\S.fy q=fm):Qj P T (Φ.cP g key (zf T fs dW kp pd)):=by
 refine F.cP (QvV K F nf (S:=S) (fun fn body b hf hb hm j9 q hI=>?_) kS);obtain⟨h1,h2,r,h3,h4⟩:=hr q hI;rw[eF,Ms lA hf hb hm j9]at h3;obtain⟨⟨x,dj⟩,h',cM,tr,h5,h6⟩:=Pg.fK h3;refine⟨h1,h2,n,x,dj,h',cM,tr,h5,?_⟩;cases x with
 |normal=>
  simp only at h6;rcases mE h6 h1.1 with hs|⟨fe,fm,hs,f,f1,⟨f2,f3,f4⟩,f5⟩
  ·subst hs;rcases h4 with⟨h4,s',a1,a2,a3,xQ,a4,a5⟩|⟨h4,h7,h8⟩
   ·have hg:=YH S.k 0 h' _ a5;simp only[aN]at hg;exact .inl ⟨rfl,s',a1,a2,a3,xQ,by rw[<-a4];exact KG _ _,hg⟩
   ·exact(h4 rfl).elim
  ·subst hs;rcases h4 with⟨h4,s',a1,a2,a3,xQ,a4,a5⟩|⟨h4,h7,h8⟩
   ·simp only at a4 a5;have a5:fm=S.cR s':=List.map_inj_right (fun _ _ h=>aj h) |>.1 a5;subst a4;subst a5;obtain⟨b1,_⟩:=hr s' a1;exact .inr (.inl ⟨rfl,s',f,a1,a2,a3,xQ,f1,⟨f3,f4,by rw[b1.1];exact b1.2.2⟩,f5⟩)
   ·exact(h4 rfl).elim
 |exit id=>
  simp only[aD]at h6;subst h6;rcases h4 with⟨h4,_⟩|⟨h4,h7,h8⟩
  ·cases h4
  ·have hg:=YH S.k 0 h' _ h8;simp only[aN]at hg;exact .inr (.inr ⟨by simp,by rw[<-h7],by rw[<-h7];exact KG _ _,hg⟩)
 |ret=>
  simp only[aD]at h6;subst h6;rcases h4 with⟨h4,_⟩|⟨h4,h7,h8⟩
  ·cases h4
  ·have hg:=YH S.k 0 h' _ h8;simp only[aN]at hg;exact .inr (.inr ⟨by simp,by rw[<-h7],by rw[<-h7];exact KG _ _,hg⟩)
def RT.keeps(kp:Nat)(CQ:List (Obj C)):RT C->Prop
 |.fail=>True
 |.leaf _ _ os=>os.drop kp=CQ.drop kp
 |.br _ l r=>l.keeps kp CQ/\r.keeps kp CQ
theorem RT.mb{kp:Nat}{CQ:List (Obj C)}:∀{t:RT C},t.keeps kp CQ->∀{x env os},t.val=some ((x,env),os)->os.drop kp=CQ.drop kp
 |.fail,_,_,_,_,h=>by cases h
 |.leaf x env os,h,_,_,_,e=>by cases e;exact h
 |.br b l r,h,_,_,_,e=>by
  cases b with
  |true=>exact RT.mb (t:=l) h.1 e
  |false=>exact RT.mb (t:=r) h.2 e
def Cn(T:fA C)(fs:du)(dW:bU)(kp:Nat){σ:Type}(S:QK C σ)(d:Env C->List (Obj C)->Option (Bool×σ)):Env C->Pg C (Ev.X×Env C):=zf T fs dW kp (rL S d)
theorem Qj.ji(K:Zq P T)(F:Qj P T Φ){g key:Nat}(lA:uD (J9 Φ g)=true){σ:Type}(S:QK C σ)(kp:Nat)(nf:∀q,S.Inv q->(S.fin q).keeps kp (S.cR q))(n:Nat)(kc kf:bU)(fs:du)(dW:bU)(d:Env C->List (Obj C)->Option (Bool×σ))
 (hr:∀q,S.Inv q->Qk S.k (S.cS q) (S.cR q)/\(S.fin q).da S.k/\dw (eF T Φ g key n S.k kc kf fs (S.cS q) (S.cR q)) (dF S q))
 (hd:∀env os b q,d env os=some (b,q)->b=true->S.Inv q/\S.cS q=env/\S.cR q=os):Qj P T (Φ.cP g key (Cn T fs dW kp S d)):=by
 refine F.po K lA S.toO kp (fun q hI=>?_) n kc kf fs fs dW (rL S d) (fun q hI=>?_) ?_
 ·obtain⟨h1,h2,_⟩:=hr q hI;obtain⟨x,env,os,hv,jk⟩:=RT.ja h2;simp only[QK.toO,hv];exact RT.mb (nf q hI) hv
 ·obtain⟨h1,h2,r,h3,h4⟩:=hr q hI;obtain⟨x,env,os,hv,jk⟩:=RT.ja h2;refine⟨h1,by simp only[QK.toO,hv];exact jk,r,h3,?_⟩;rcases h4 with⟨a1,s',a2,a3,a4,a5,a6⟩|⟨a1,fm,a2,a3⟩
  ·exact .inl ⟨a1,s',a2,a3,by simp only[QK.toO,a4],by simp only[QK.toO,a4],a5,a6⟩
  ·exact .inr ⟨a1,by simp only[QK.toO,a2],by simp only[QK.toO,a2];exact a3⟩
 ·intro fe os x dj fm h;unfold rL at h
  split at h
  ·rename_i b q hq;cases b with
   |false=>simp[RT.val]at h
   |true=>
    obtain⟨h1,h2,h3⟩:=hd _ _ _ _ hq rfl;simp only[RT.val,ag]at h;exact⟨q,h1,fun p hp=>by rw[<-h2];exact hp,h3.symm,by simp only[QK.toO,h],by simp only[QK.toO,h]⟩
  ·simp[RT.val]at h
end
open Go.Proofs
def QnO:bW->bO
 |[.bI (.int .i64 o) (.bI (.int .i64 p) (.bI (.int .i64 j) (.bI (.int .i64 k) (.bI (.int .i64 v) .bN))))]=>some (true,.bool (!QY ⟨o,p,j,k,v⟩))
 |_=>none
def QvX(o p j k v:Int):=eU cF zL 60 150 [.bI (.int .i64 o) (cG p (cG j (cG k (cG v .bN))))]
theorem QzD o p j k v:QvX o p j k v=(let Z0:fG:=some (D.bool true);bif ep o 4194304 then bif decide ((1:Int)<=p/\p<1048576)then bif ep j 4 then bif ep k 8 then some (D.bool !ep v 256)else Z0 else Z0 else Z0 else Z0):=by kernel_rfl
theorem QzE o p j k v(h:(true)=true):QvX o p j k v=some (.bool (!QY ⟨o,p,j,k,v⟩)):=by
 (rw[QzD];delta ep;conv=>zeta)
 have no:(¬(0<=o/\o<4194304/\1<=p/\p<=1048575/\0<=j/\j<=3/\0<=k/\k<=7/\0<=v/\v<=255))->some (D.bool (C:=RC) true)=some (.bool (!QY ⟨o,p,j,k,v⟩)):=fun e=>by rw[Gy e];rfl
 iterate 4
  refine Qy (fun _=>?_) fun e=>no (by simp only[ae]at e;omega)
 simp only[aa]at *
 by_cases q:0<=v/\v<256
 ·rw[ab q,Gz (by omega)]
 ·rw[ad q];exact no (by omega)
def zM:=zL.cm 150 QnO
theorem QvY:Qj Tryz.prog cF zM:=QvS.c6 Qb fun args d h=>by
 unfold QnO at h
 split at h
 ·obtain⟨h1,rfl⟩:=ak h;exact⟨by simp[D.refs],60,QzE _ _ _ _ _ h1⟩
 ·cases h
structure SC where
 (c:Bool)(l:bJ)(i:Nat)
def Lf(c:Bool)(l:bJ)(i:Nat):bX:=[(0,.sl (C:=RC) .bP c l),(1,.fn 150 .bN),(4,.int .i64 0),(7,.int .i64 (l.length)),(8,.int .i64 (i:Int))]
def HV(c:Bool)(l:bJ)(i:Nat):bR:=[]
def Tc c l i:=eF cF zM 185 2 40 0 [0,1,4,7,8] [4] [] (Lf c l i) (HV c l i)
theorem QFc c l i:Tc c l i=(let Z0:Int:=(i:Int);let Z1:Int:=(l.length:Int);let Z2:cC:=List.getD l Z0.toNat (cC.mk 0 0 0 0 0);let Z3:Nat×bQ:=(4,cq 0);bif decide (Z0<Z1)then cb (ep Z0 Z1) (bif !QY (cC.mk (cC.offset Z2) (cC.b8 Z2) (cC.j Z2) (cC.key Z2) (cC.value Z2))then some ((X.ret,[(4,cq Z0)]),[])else some ((X.normal,[(0,D.sl ca.bP c l),(1,D.fn 150 .bN),Z3,(7,cq Z1),(8,cq (cX (Z0+1)))]),[]))else some ((X.exit 0,[Z3]),[])):=by kernel_rfl
def Hl(c:Bool)(l:bJ)(i:Nat):RT RC:=.br (l.all QY) (.leaf (.exit 0) [(4,.int .i64 0)] []) (.leaf .ret [(4,.int .i64 (dZ (fun x=>!QY x) l:Int))] [])
def B2(c:Bool)(l:bJ)(i:Nat):Prop:=i<=dZ (fun x=>!QY x) l/\l.length<=100000
def uI:QK RC SC where
 k:=0
 cS q:=Lf q.c q.l q.i
 cR q:=HV q.c q.l q.i
 fin q:=Hl q.c q.l q.i
 Inv q:=B2 q.c q.l q.i
 μ q:=q.l.length-q.i
theorem QvZ c l i(hI:B2 c l i):dw (Tc c l i) (dF uI ⟨c,l,i⟩):=by
 (rw[QFc];delta cb ep cq cX;conv=>zeta)
 unfold B2 at hI;obtain⟨h1,h2⟩:=hI;have hi:=Gb (fun x=>!QY x) l;have ha:=T2 (p:=QY) (l:=l)
 by_cases cY:i<l.length
 ·have cN:=fa i (by omega)
  have ei:=gv (show i<l.length by omega)
  have ef:=fV (show i<l.length by omega)
  have dp:=bw i
  simp only[cN,ei,ef,dp,ag];have jq:=Gc (fun x=>!QY x) (d:=(⟨0,0,0,0,0⟩:cC)) cY h1;simp only[Ds,ag];cases hk:QY (l.getD i ⟨0,0,0,0,0⟩)
  ·have e:i=dZ (fun x=>!QY x) l:=by
    rcases Nat.lt_or_ge i (dZ (fun x=>!QY x) l)with q|q
    ·have:=jq.1 q;simp only[hk]at this;cases this
    ·omega
   simp only[bh,ag];refine QT [] ?_ rfl;simp only[uI,Hl,RT.val,ha.1 (by omega),ah,<-e]
  ·simp only[bg,ah];exact Qg (S:=uI) ⟨c,l,i+1⟩ (show B2 (c) (l) (i+1)from⟨jq.2 (by simp only[hk];rfl),h2⟩) (by simp only[uI];omega) rfl rfl rfl
 ·have d1:decide ((i:Int)<l.length)=false:=by simp;omega
  rw[d1];simp only[ah];refine Qi [] ?_ rfl
  have:l.all QY=true:=by
   cases q:l.all QY
   ·have:=ha.2 q;omega
   ·rfl
  simp only[uI,Hl,RT.val,this,ag]
def Lg(env:bX)(os:bR):Option (Bool×SC):=match env,os with
 |[(0,.sl .bP c l),(1,.fn 150 .bN),(4,.int .i64 0),(7,.int .i64 x0),(8,.int .i64 x1)],[]=>some (decide (x0=l.length)&&decide (x1=0)&&decide (l.length<=100000),⟨c,l,0⟩)
 |_,_=>none
def zN:=zM.cP 185 2 (eZ cF [] [0,1,4,7,8] uI Lg)
theorem Qv0:Qj Tryz.prog cF zN:=by
 refine QvY.cJ Qb (by kernel_rfl) uI 40 [0,1,4,7,8] [4] [] [0,1,4,7,8] Lg (fun q hI=>?_) ?_
 ·obtain⟨c,l,i⟩:=q;refine⟨?_,?_,QvZ c l i hI⟩
  ·simp_all[Qk,uI,Lf,HV,B2,D.refs,Obj.refs,de]
  ·simp_all[uI,Hl,HV,B2,RT.da,Qk,D.refs,Obj.refs,de]
 ·intro env os b q cW hb;unfold Lg at cW
  split at cW
  ·cases cW;simp only[ai,aa]at hb;obtain⟨⟨rfl,rfl⟩,hl⟩:=hb;exact⟨⟨aK _,hl⟩,rfl,rfl⟩
  ·cases cW
def QnP:bW->bO
 |[.sl .bP c l,.fn 150 .bN]=>some (decide (l.length<=100000),.bool (!l.all QY))
 |_=>none
def Qv2(c:Bool)(l:bJ):=eU cF zN 40 149 [.sl (C:=RC) .bP c l,.fn 150 .bN]
theorem QzG c l:Qv2 c l=(let Z0:=l.length;cb (Qc Z0) (cb (decide ((Z0:Int)=(Z0:Int))&&true&&decide (Z0<=100000)) (bif List.all l QY then some (D.bool false)else some (D.bool (decide ((0:Int)<=(↑(dZ (fun(x:cC)=>!QY x) l):Int))))))):=by kernel_rfl
theorem QzH c l(h:(decide (l.length<=100000))=true):Qv2 c l=some (.bool (!l.all QY)):=by
 (rw[QzG];delta cb;conv=>zeta)
 have hl:l.length<=100000:=by simpa using h
 refine Qa (Qd (by omega)) (Qa (by simp[hl]) ?_);cases l.all QY
 ·simp only[ah];rw[ab (by omega)];rfl
 ·rfl
def zO:=zN.cm 149 QnP
theorem Qv3:Qj Tryz.prog cF zO:=Qv0.c6 Qb fun args d h=>by
 unfold QnP at h
 split at h
 ·obtain⟨h1,rfl⟩:=ak h;exact⟨by simp[D.refs],40,QzH _ _ h1⟩
 ·cases h
structure SD where
 (w:bJ)(cut:Int)(i:Nat)
def Lh(w:bJ)(cut:Int)(i:Nat):bX:=[(0,.vs 0 (w.length)),(1,.fn 155 (.bI (.ptr 1 []) .bN)),(4,.int .i64 0),(7,.int .i64 (w.length)),(8,.int .i64 (i:Int))]
def uJ(w:bJ)(cut:Int)(i:Nat):bR:=[.cj .bP true w,.var 3 (.int .i64 cut)]
def Td w cut i:=eF cF zO 185 2 40 2 [0,1,4,7,8] [4] [.slot 0 0,.slot 1 0] (Lh w cut i) (uJ w cut i)
theorem QFe w cut i:Td w cut i=(let Z0:Int:=(i:Int);let Z1:=w.length;let Z2:b9:=[some (Obj.cj ca.bP true w),some (Obj.var 3 (cq cut))];let Z3:Nat×bQ:=(4,cq 0);bif decide (Z0<(Z1:Int))then cb (Nat.beq Z1 Z1&&ep Z0 (Z1:Int)) (cb (Nat.beq Z1 Z1) (bif decide (cC.b8 (List.getD w Z0.toNat (cC.mk 0 0 0 0 0))<=cut)then some ((X.ret,[(4,cq Z0)]),Z2)else some ((X.normal,[(0,D.vs 0 Z1),(1,D.fn 155 (.bI (D.ptr 1 []) .bN)),Z3,(7,cq (Z1:Int)),(8,cq (cX (Z0+1)))]),Z2)))else some ((X.exit 0,[Z3]),Z2)):=by kernel_rfl
def DF(w:bJ)(cut:Int)(i:Nat):RT RC:=.br (w.any fun x=>decide (x.b8<=cut)) (.leaf .ret [(4,.int .i64 (dZ (fun x=>decide (x.b8<=cut)) w:Int))] (uJ w cut i)) (.leaf (.exit 0) [(4,.int .i64 0)] (uJ w cut i))
def B3(w:bJ)(cut:Int)(i:Nat):Prop:=i<=dZ (fun x=>decide (x.b8<=cut)) w/\w.length<=100000
def ug:QK RC SD where
 k:=2
 cS q:=Lh q.w q.cut q.i
 cR q:=uJ q.w q.cut q.i
 fin q:=DF q.w q.cut q.i
 Inv q:=B3 q.w q.cut q.i
 μ q:=q.w.length-q.i
theorem Qv4 w cut i(hI:B3 w cut i):dw (Td w cut i) (dF ug ⟨w,cut,i⟩):=by
 (rw[QFe];delta cb ep cq cX;conv=>zeta)
 unfold B3 at hI;obtain⟨h1,h2⟩:=hI;have hi:=Gb (fun x:cC=>decide (x.b8<=cut)) w;have ha:=JQ (fun x:cC=>decide (x.b8<=cut)) w;have nb:Nat.beq w.length w.length=true:=Za rfl
 by_cases cY:i<w.length
 ·have cN:=fa i (by omega)
  have ei:=gv (show i<w.length by omega)
  have ef:=fV (show i<w.length by omega)
  have dp:=bw i
  simp only[cN,ei,ef,dp,ag];have jq:=Gc (fun x:cC=>decide (x.b8<=cut)) (d:=(⟨0,0,0,0,0⟩:cC)) cY h1;simp only[nb,au,ag];cases hk:decide ((w.getD i ⟨0,0,0,0,0⟩).b8<=cut)
  ·simp only[ah];exact Qg (S:=ug) ⟨w,cut,i+1⟩ (show B3 (w) (cut) (i+1)from⟨jq.2 hk,h2⟩) (by simp only[ug];omega) rfl rfl rfl
  ·have e:i=dZ (fun x=>decide (x.b8<=cut)) w:=by
    rcases Nat.lt_or_ge i (dZ (fun x:cC=>decide (x.b8<=cut)) w)with q|q
    ·have:=jq.1 q;simp only[hk]at this;cases this
    ·omega
   simp only[ag];refine QT (uJ w cut i) ?_ rfl;simp only[ug,DF,RT.val,ha.1 (by omega),ag,<-e]
 ·have d1:decide ((i:Int)<w.length)=false:=by simp;omega
  rw[d1];simp only[ah];refine Qi (uJ w cut i) ?_ rfl
  have:(w.any fun x=>decide (x.b8<=cut))=false:=by
   cases q:w.any fun x=>decide (x.b8<=cut)
   ·rfl
   ·have:=ha.2 q;omega
  simp only[ug,DF,RT.val,this,ah]
def Li(env:bX)(os:bR):Option (Bool×SD):=match env,os with
 |[(0,.vs 0 x0),(1,.fn 155 (.bI (.ptr 1 []) .bN)),(4,.int .i64 0),(7,.int .i64 x1),(8,.int .i64 x2)],[.cj .bP true w,.var 3 (.int .i64 cut)]=>some (decide (x0=w.length)&&decide (x1=w.length)&&decide (x2=0)&&decide (w.length<=100000),⟨w,cut,0⟩)
 |_,_=>none
def zP:=zO.cP 185 2 (Cn cF [.slot 0 0,.slot 1 0] [0,1,4,7,8] 0 ug Li)
theorem Qv5:Qj Tryz.prog cF zP:=by
 refine Qv3.ji Qb (by kernel_rfl) ug 0 (fun q _=>by simp[RT.keeps,ug,DF,uJ]) 40 [0,1,4,7,8] [4] [.slot 0 0,.slot 1 0] [0,1,4,7,8] Li (fun q hI=>?_) ?_
 ·obtain⟨w,cut,i⟩:=q;refine⟨?_,?_,Qv4 w cut i hI⟩
  ·simp_all[Qk,ug,Lh,uJ,B3,D.refs,Obj.refs,de]
  ·simp_all[ug,DF,uJ,B3,RT.da,Qk,D.refs,Obj.refs,de]
 ·intro env os b q cW hb;unfold Li at cW
  split at cW
  ·cases cW;simp only[ai,aa]at hb;obtain⟨⟨⟨rfl,rfl⟩,rfl⟩,hl⟩:=hb;exact⟨⟨aK _,hl⟩,rfl,rfl⟩
  ·cases cW
structure QnQ where
 (l:bJ)(o:Bool)(p:Int)(y cw:Bool)(ws:cA)(q nx cut:Int)(i:Nat)
def Nb(l:bJ)(o:Bool)(p:Int)(y cw:Bool)(ws:cA)(q nx cut:Int)(i:Nat):bX:=[(3,.int .i64 q),(5,.ptr 2 []),(6,.ptr 0 []),(10,.vs 1 (l.length)),(11,.int .i64 nx),(47,.sl (C:=RC) .write ((cw)) ((ws))),(48,.int .i64 (ws.length)),(49,.int .i64 (i:Int))]
def Ko(l:bJ)(o:Bool)(p:Int)(y cw:Bool)(ws:cA)(q nx cut:Int)(i:Nat):bR:=[.var 51 (cG p (.bI (.bool y) (cL .write cw ws .bN))),.cj .bP o l,.var 3 (.int .i64 cut)]
def Qv6 l o p y cw ws q nx cut i:=eF cF zP 92 10 40 3 [3,5,6,10,11,47,48,49] [10] [.slot 6 0,.wW 10,.slot 5 0] (Nb l o p y cw ws q nx cut i) (Ko l o p y cw ws q nx cut i)
theorem QzI l o p y cw ws q nx cut i:Qv6 l o p y cw ws q nx cut i=(let Z0:Int:=(i:Int);let Z1:Int:=(ws.length:Int);let Z2:Qq:=List.getD ws Z0.toNat (Qq.mk 0 0);let Z3:Nat×bQ:=(3,cq q);let Z4:Nat×bQ:=(5,D.ptr 2 []);let Z5:Nat×bQ:=(6,D.ptr 0 []);let Z6:=l.length;let Z7:Nat×bQ:=(10,D.vs 1 Z6);let Z8:fB:=[(47,D.sl ca.write cw ws),(48,cq Z1),(49,cq (cX (Z0+1)))];let Z9:bZ:=some (Obj.var 51 (.bI (cq p) (.bI (D.bool y) (.bI (D.sl ca.write cw ws) .bN))));let dg:b9:=[some (Obj.var 3 (cq cut))];let dq:bJ:=[cC.mk nx p Z0 (Int.tmod (Qq.key Z2) 8) (Qq.value Z2)];bif decide (Z0<Z1)then cb (ep Z0 Z1) (bif cX (Int.tdiv (Qq.key Z2) 8)!=q then some ((X.normal,Z3::Z4::Z5::Z7::(11,cq nx)::Z8),Z9::some (Obj.cj ca.bP o l)::dg)else cb (Nat.beq Z6 Z6&&Qf (Z6+dq.length) 40) (some ((X.normal,Z3::Z4::Z5::(10,D.vs 1 (Z6+dq.length))::(11,cq (cX (nx+1)))::Z8),Z9::some (Obj.cj ca.bP o (l++dq))::dg)))else some ((X.exit 0,[Z7]),Z9::some (Obj.cj ca.bP o l)::dg)):=by kernel_rfl
def JR(l:bJ)(o:Bool)(p:Int)(y cw:Bool)(ws:cA)(q nx cut:Int)(i:Nat):RT RC:=.leaf (.exit 0) [(10,.vs 1 (l++Ja p q nx i (ws.drop i)).length)] (Ko (l++Ja p q nx i (ws.drop i)) o p y cw ws q nx cut i)
def Jc(l:bJ)(o:Bool)(p:Int)(y cw:Bool)(ws:cA)(q nx cut:Int)(i:Nat):Prop:=i<=ws.length/\ws.length<=1000/\l.length<=1000+i/\tU ws=true/\0<=nx/\nx<=5000000+i
def Y8:QK RC QnQ where
 k:=3
 cS q:=Nb q.l q.o q.p q.y q.cw q.ws q.q q.nx q.cut q.i
 cR q:=Ko q.l q.o q.p q.y q.cw q.ws q.q q.nx q.cut q.i
 fin q:=JR q.l q.o q.p q.y q.cw q.ws q.q q.nx q.cut q.i
 Inv q:=Jc q.l q.o q.p q.y q.cw q.ws q.q q.nx q.cut q.i
 μ q:=q.ws.length-q.i
theorem Qk6 l o p y cw ws q nx cut i(hI:Jc l o p y cw ws q nx cut i):dw (Qv6 l o p y cw ws q nx cut i) (dF Y8 ⟨l,o,p,y,cw,ws,q,nx,cut,i⟩):=by
 (rw[QzI];delta cb ep cq cX;conv=>zeta)
 unfold Jc at hI;obtain⟨h1,h2,h3,h4,h5,h6⟩:=hI
 by_cases cY:i<ws.length
 ·have cN:=fa i (by omega)
  have ei:=gv (show i<ws.length by omega)
  have ef:=fV (show i<ws.length by omega)
  have dp:=bw i
  simp only[cN,ei,ef,dp,ag];have hd:ws.drop i=ws.getD i ⟨0,0⟩::ws.drop (i+1):=by rw[aJ cY];simp[cY]
  have j9:=Xm h4 cY;generalize ws.getD i ⟨0,0⟩=x at *;have e1:IntKind.i64.wrap (x.key.tdiv 8)=x.key/8:=by rw[Int.tdiv_eq_ediv_of_nonneg (by omega)];exact cu (by omega) (by omega)
  have e2:x.key.tmod 8=x.key%8:=Int.tmod_eq_emod_of_nonneg (by omega);have e3:IntKind.i64.wrap (nx+1)=nx+1:=cu (by omega) (by omega);simp only[e1,e2,e3,ag]
  by_cases hq:x.key/8=q
  ·have hb:(x.key/8 !=q)=false:=by simpa using hq
   have e4:l.length+([cC.mk nx p i (x.key%8) x.value]:bJ).length=(l++[cC.mk nx p i (x.key%8) x.value]).length:=by simp
   have s1:Qf (l++[cC.mk nx p i (x.key%8) x.value]).length 40=true:=Zb (by simp;omega);have b1:Nat.beq l.length l.length=true:=Za rfl;simp only[hb,e4,s1,b1,au,ag,ah];refine Qg (S:=Y8) ⟨l++[cC.mk nx p i (x.key%8) x.value],o,p,y,cw,ws,q,nx+1,cut,i+1⟩ (show Jc (l++[cC.mk nx p i (x.key%8) x.value]) (o) (p) (y) (cw) (ws) (q) (nx+1) (cut) (i+1)from⟨by omega,h2,by simp;omega,h4,by omega,by omega⟩) (by simp only[Y8];omega) ?_ rfl rfl;simp only[Y8,JR,Ko,hd,Ja,ax hq,ay,List.singleton_append]
  ·have hb:(x.key/8 !=q)=true:=by simpa using hq
   simp only[hb,ag];refine Qg (S:=Y8) ⟨l,o,p,y,cw,ws,q,nx,cut,i+1⟩ (show Jc (l) (o) (p) (y) (cw) (ws) (q) (nx) (cut) (i+1)from⟨by omega,h2,by omega,h4,by omega,by omega⟩) (by simp only[Y8];omega) ?_ rfl rfl;simp only[Y8,JR,Ko,hd,Ja,aw hq]
 ·have d1:decide ((i:Int)<ws.length)=false:=by simp;omega
  rw[d1];simp only[ah];have e:ws.drop i=[]:=aO (by omega);refine Qi (Ko l o p y cw ws q nx cut i) ?_ rfl;simp only[Y8,JR,e,Ja,aR,RT.val]
def Nc(env:bX)(os:bR):Option (Bool×QnQ):=match env,os with
 |[(3,.int .i64 q),(5,.ptr 2 []),(6,.ptr 0 []),(10,.vs 1 x0),(11,.int .i64 nx),(47,.sl .write x1 x2),(48,.int .i64 x3),(49,.int .i64 x4)],[.var 51 (.bI (.int .i64 p) (.bI (.bool y) (.bI (.sl .write cw ws) .bN))),.cj .bP o l,.var 3 (.int .i64 cut)]=>some (decide (x0=l.length)&&decide (x1=(cw))&&decide (x2=(ws))&&decide (x3=ws.length)&&decide (x4=0)&&decide (ws.length<=1000/\l.length<=1000)&&tU ws&&decide (0<=nx/\nx<=5000000),⟨l,o,p,y,cw,ws,q,nx,cut,0⟩)
 |_,_=>none
def zQ:=zP.cP 92 10 (Cn cF [.slot 6 0,.wW 10,.slot 5 0] [3,5,6,10,11,47,48,49] 3 Y8 Nc)
theorem Qv7:Qj Tryz.prog cF zQ:=by
 refine Qv5.ji Qb (by kernel_rfl) Y8 3 (fun q _=>by simp[RT.keeps,Y8,JR,Ko]) 40 [3,5,6,10,11,47,48,49] [10] [.slot 6 0,.wW 10,.slot 5 0] [3,5,6,10,11,47,48,49] Nc (fun q hI=>?_) ?_
 ·obtain⟨l,o,p,y,cw,ws,q,nx,cut,i⟩:=q;refine⟨?_,?_,Qk6 l o p y cw ws q nx cut i hI⟩
  ·simp_all[Qk,Y8,Nb,Ko,Jc,D.refs,Obj.refs,de]
  ·simp_all[Y8,JR,Ko,Jc,RT.da,Qk,D.refs,Obj.refs,de]
 ·intro env os b q cW hb;unfold Nc at cW
  split at cW
  ·cases cW;simp only[ai,aa]at hb;obtain⟨⟨⟨⟨⟨⟨⟨rfl,rfl⟩,rfl⟩,rfl⟩,rfl⟩,h1,h2⟩,h3⟩,h4,h5⟩:=hb;exact⟨⟨aK _,h1,by simpa using h2,h3,h4,by simpa using h5⟩,rfl,rfl⟩
  ·cases cW
structure Qv8 where
 (w:bJ)(cut i j:Int)
def HE(w:bJ)(cut i j:Int):bX:=[(0,.vs 0 (w.length)),(1,.fn 155 (.bI (.ptr 1 []) .bN)),(5,.int .i64 i),(6,.int .i64 j)]
def tV(w:bJ)(cut i j:Int):bR:=[.cj .bP true w,.var 3 (.int .i64 cut)]
def SE w cut i j:=eF cF zQ 153 5 40 2 [0,1,5,6] [5] [.slot 0 0,.slot 1 0] (HE w cut i j) (tV w cut i j)
theorem QDR w cut i j:SE w cut i j=(let Z0:=w.length;let Z1:=Nat.beq Z0 Z0;let Z2:cC:=List.getD w j.toNat (cC.mk 0 0 0 0 0);let Z3:Nat×bQ:=(0,D.vs 0 Z0);let Z4:Nat×bQ:=(1,D.fn 155 (.bI (D.ptr 1 []) .bN));let Z5:fB:=[(6,cq (cX (j+1)))];let Z6:b9:=[some (Obj.var 3 (cq cut))];let Z7:Nat×bQ:=(5,cq i);cb (Qc Z0) (bif decide (j<(Z0:Int))then cb (Z1&&ep j (Z0:Int)) (cb Z1 (bif !decide (cC.b8 Z2<=cut)then cb (Z1&&ep i (Z0:Int)) (cb Z1 (some ((X.normal,Z3::Z4::(5,cq (cX (i+1)))::Z5),some (Obj.cj ca.bP true (List.set w i.toNat (cC.mk (cC.offset Z2) (cC.b8 Z2) (cC.j Z2) (cC.key Z2) (cC.value Z2))))::Z6)))else some ((X.normal,Z3::Z4::Z7::Z5),some (Obj.cj ca.bP true w)::Z6)))else some ((X.exit 0,[Z7]),some (Obj.cj ca.bP true w)::Z6))):=by kernel_rfl
def BT(w:bJ)(cut i j:Int):RT RC:=.leaf (.exit 0) [(5,.int .i64 ((kF cut (w.length-j.toNat) w i.toNat j.toNat).2:Int))] (tV (kF cut (w.length-j.toNat) w i.toNat j.toNat).1 cut i j)
def Kq(w:bJ)(cut i j:Int):Prop:=0<=i/\i<=j/\j<=w.length/\w.length<=100000
def Jp:QK RC Qv8 where
 k:=2
 cS q:=HE q.w q.cut q.i q.j
 cR q:=tV q.w q.cut q.i q.j
 fin q:=BT q.w q.cut q.i q.j
 Inv q:=Kq q.w q.cut q.i q.j
 μ q:=(q.w.length-q.j).toNat
theorem Qqa w cut i j(hI:Kq w cut i j):dw (SE w cut i j) (dF Jp ⟨w,cut,i,j⟩):=by
 (rw[QDR];delta cb ep cq cX;conv=>zeta)
 unfold Kq at hI;obtain⟨h1,h2,h3,h4⟩:=hI;have lk:Qc w.length=true:=Qd (by omega);have nb:Nat.beq w.length w.length=true:=Za rfl
 by_cases cY:j<w.length
 ·have d1:decide (j<(w.length:Int))=true:=by simpa using cY
  have d2:decide (0<=j/\j<(w.length:Int))=true:=by simp;omega
  have d3:decide (0<=i/\i<(w.length:Int))=true:=by simp;omega
  have w1:IntKind.i64.wrap (j+1)=j+1:=cu (by omega) (by omega);have w2:IntKind.i64.wrap (i+1)=i+1:=cu (by omega) (by omega);have n1:w.length-j.toNat=(w.length-(j+1).toNat)+1:=by omega
  have n2:(j+1).toNat=j.toNat+1:=by omega
  have n3:(i+1).toNat=i.toNat+1:=by omega
  simp only[lk,nb,d1,d2,d3,w1,w2,Ds,ag,au]
  by_cases hp:(w.getD j.toNat ⟨0,0,0,0,0⟩).b8<=cut
  ·rw[ab hp];simp only[bg,ah];refine Qg (S:=Jp) ⟨w,cut,i,j+1⟩ (show Kq (w) (cut) (i) (j+1)from⟨h1,by omega,by omega,h4⟩) (by simp only[Jp];omega) ?_ rfl rfl;simp only[Jp,BT,tV,n1,n2,kF,ax hp]
  ·rw[ad hp];simp only[bh,ag];refine Qg (S:=Jp) ⟨w.set i.toNat (w.getD j.toNat ⟨0,0,0,0,0⟩),cut,i+1,j+1⟩ (show Kq (w.set i.toNat (w.getD j.toNat ⟨0,0,0,0,0⟩)) (cut) (i+1) (j+1)from⟨by omega,by omega,by simp;omega,by simpa using h4⟩) (by simp only[Jp,bf];omega) ?_ (by simp only[Jp,HE,bf]) rfl;simp only[Jp,BT,tV,n1,n2,n3,kF,aw hp,bf]
 ·have d1:decide (j<(w.length:Int))=false:=by simpa using cY
  have n1:w.length-j.toNat=0:=by omega
  simp only[lk,d1,ag,ah];refine Qi (tV w cut i j) ?_ rfl;simp only[Jp,BT,tV,n1,kF,RT.val];rw[Int.toNat_of_nonneg h1]
def Oo(env:bX)(os:bR):Option (Bool×Qv8):=match env,os with
 |[(0,.vs 0 x0),(1,.fn 155 (.bI (.ptr 1 []) .bN)),(5,.int .i64 i),(6,.int .i64 j)],[.cj .bP true w,.var 3 (.int .i64 cut)]=>some (decide (x0=w.length)&&decide (0<=i/\i<=j/\j<=w.length/\w.length<=100000),⟨w,cut,i,j⟩)
 |_,_=>none
def zS:=zQ.cP 153 5 (Cn cF [.slot 0 0,.slot 1 0] [0,1,5,6] 1 Jp Oo)
theorem Qwa:Qj Tryz.prog cF zS:=by
 refine Qv7.ji Qb (by kernel_rfl) Jp 1 (fun q _=>by simp[RT.keeps,Jp,BT,tV]) 40 [0,1,5,6] [5] [.slot 0 0,.slot 1 0] [0,1,5,6] Oo (fun q hI=>?_) ?_
 ·obtain⟨w,cut,i,j⟩:=q;refine⟨?_,?_,Qqa w cut i j hI⟩
  ·simp_all[Qk,Jp,HE,tV,Kq,D.refs,Obj.refs,de]
  ·simp_all[Jp,BT,tV,Kq,RT.da,Qk,D.refs,Obj.refs,de]
 ·intro env os b q cW hb;unfold Oo at cW
  split at cW
  ·cases cW;simp only[ai,aa]at hb;obtain⟨rfl,h1⟩:=hb;exact⟨h1,rfl,rfl⟩
  ·cases cW
def Qwb:bW->bO
 |[.sl .bP c l,.int .i64 cut,.bI (.int .i64 p) (.bI (.bool y) (.bI (.sl .write cw ws) .bN)),.int .i64 q]=>some (decide (l.length<=1000/\ws.length<=1000),.cH (cL .bP (bif ra l ⟨p,y,ws⟩then !y else c) (VC l ⟨p,y,ws⟩ q) (cG (Jb l cut ⟨p,y,ws⟩ q) .bN)))
 |_=>none
def SF(c:Bool)(l:bJ)(cut p:Int)(y cw:Bool)(ws:cA)(q:Int):=eU cF zS 100 92 [.sl (C:=RC) .bP c l,.int .i64 cut,.bI (.int .i64 p) (.bI (.bool y) (cL .write cw ws .bN)),.int .i64 q]
theorem QDS c l cut p y cw ws q:SF c l cut p y cw ws q=(let Z0:=l.length;let Z1:bQ:=D.bI (cq cut) .bN;let Z2:fG:=some (D.cH (D.bI (D.sl ca.bP c l) Z1));let Z3:=ws.length;let Z4:=Qc Z0;let Z5:Int:=(Z0:Int);let Z6:=cX (Z5-1);let Z7:bJ:=List.drop 0 (List.take Z5.toNat l);let Z8:fG:=some (D.cH (D.bI (D.sl ca.bP true Z7) Z1));let Z9:=Z7.length;let dg:Bool:=decide (Z9=Z9)&&decide (cw=cw)&&decide (ws=ws)&&decide ((Z3:Int)=(Z3:Int))&&true&&decide (Z3<=1000/\Z9<=1000)&&tU ws;let dq:cC:=cC.mk 0 0 0 0 0;let dE:=cX (cC.offset (List.getD l Z6.toNat dq)+1);let dQ:bJ:=Z7++Ja p q dE 0 (List.drop 0 ws);let dv:=dQ.length;let dT:Int:=(dv:Int);let dL:=cX (dT-16);let eK:=Nat.beq dv dv;let eo:fG:=none;let eX:=cX (dL-1);let eC:bJ:=List.drop dL.toNat dQ;let eP:Nat:=(0:Nat)+eC.length;let fF:bJ:=List.replicate 0 dq++eC;let fz:=fF.length;let fM:=cC.b8 (List.getD dQ eX.toNat dq);let gf:Int:=(↑(dZ (fun(x:cC)=>decide (cC.b8 x<=fM)) fF):Int);let gK:=cX (gf+1);let iW:bJ×Nat:=kF fM (fz-Int.toNat gK) fF gf.toNat gK.toNat;let jO:=List.length iW.1;let gC:Int:=(iW.2:Int);let jh:=Int.toNat gC;let jy:bJ:=List.take jh iW.1++List.replicate (jO-jh) dq;let jP:bQ:=D.bI (cq fM) .bN;let jo:fG:=bif dg&&decide ((0:Int)<=dE/\dE<=5000000)then bif Qc dv then bif decide (dL<=0)then bif eK then some (D.cH (D.bI (D.sl ca.bP false dQ) Z1))else eo else bif eK&&ep eX dT then bif eK then bif eK then bif eK then bif decide ((0:Int)<=dL/\dL<=dT)then bif List.isEmpty eC then eo else bif Qf eP 40 then bif Qc eP then bif decide (eP=fz)&&decide ((eP:Int)=(fz:Int))&&true&&decide (fz<=100000)then bif List.any fF fun(x:cC)=>decide (cC.b8 x<=fM)then bif decide (eP=fz)&&decide ((0:Int)<=gf/\gf<=gK/\gK<=(fz:Int)/\fz<=100000)then bif Nat.beq eP jO&&decide ((0:Int)<=gC/\gC<=(jO:Int))then bif Nat.beq eP jy.length then bif decide ((0:Int)<=0/\(0:Int)<=gC/\gC<=(jy.length:Int))then some (D.cH (D.bI (D.sl ca.bP false (List.drop 0 (List.take jh jy))) jP))else eo else eo else eo else eo else bif Nat.beq eP fz then some (D.cH (D.bI (D.sl ca.bP false fF) jP))else eo else eo else eo else eo else eo else eo else eo else eo else eo else eo else eo;let kb:bJ:=Z7++Ja p q 0 0 (List.drop 0 ws);let iI:=kb.length;let jx:Int:=(iI:Int);let iP:=cX (jx-16);let jE:=Nat.beq iI iI;let jr:=cX (iP-1);let ki:bJ:=List.drop iP.toNat kb;let ke:Nat:=(0:Nat)+ki.length;let lx:bJ:=List.replicate 0 dq++ki;let j4:=lx.length;let kj:=cC.b8 (List.getD kb jr.toNat dq);let jQ:Int:=(↑(dZ (fun(x:cC)=>decide (cC.b8 x<=kj)) lx):Int);let dY:=cX (jQ+1);let kY:bJ×Nat:=kF kj (j4-Int.toNat dY) lx jQ.toNat dY.toNat;let lT:=List.length kY.1;let lU:Int:=(kY.2:Int);let nO:=Int.toNat lU;let nP:bJ:=List.take nO kY.1++List.replicate (lT-nO) dq;let pi:bQ:=D.bI (cq kj) .bN;let lc:fG:=bif dg&&true then bif Qc iI then bif decide (iP<=0)then bif jE then some (D.cH (D.bI (D.sl ca.bP false kb) Z1))else eo else bif jE&&ep jr jx then bif jE then bif jE then bif jE then bif decide ((0:Int)<=iP/\iP<=jx)then bif List.isEmpty ki then eo else bif Qf ke 40 then bif Qc ke then bif decide (ke=j4)&&decide ((ke:Int)=(j4:Int))&&true&&decide (j4<=100000)then bif List.any lx fun(x:cC)=>decide (cC.b8 x<=kj)then bif decide (ke=j4)&&decide ((0:Int)<=jQ/\jQ<=dY/\dY<=(j4:Int)/\j4<=100000)then bif Nat.beq ke lT&&decide ((0:Int)<=lU/\lU<=(lT:Int))then bif Nat.beq ke nP.length then bif decide ((0:Int)<=0/\(0:Int)<=lU/\lU<=(nP.length:Int))then some (D.cH (D.bI (D.sl ca.bP false (List.drop 0 (List.take nO nP))) pi))else eo else eo else eo else eo else bif Nat.beq ke j4 then some (D.cH (D.bI (D.sl ca.bP false lx) pi))else eo else eo else eo else eo else eo else eo else eo else eo else eo else eo else eo;bif decide (Z0<=100000)then bif !List.all l QY then Z2 else bif Qc Z3 then bif !gj (Rec.mk p y ws)then Z2 else bif Z4 then bif Z4 then bif decide ((0:Int)<=0/\(0:Int)<=Z5/\Z5<=Z5/\Z5=Z5)then bif Z4 then bif decide ((0:Int)<Z5)then bif Z4 then bif ep Z6 Z5 then bif !y then Z8 else bif Qc Z3 then bif List.isEmpty Z7 then jo else jo else eo else eo else eo else bif !y then Z8 else bif Qc Z3 then bif List.isEmpty Z7 then lc else lc else eo else eo else eo else eo else eo else eo else eo):=by kernel_rfl
theorem QDT c l cut p y cw ws q(h:(decide (l.length<=1000/\ws.length<=1000))=true):SF c l cut p y cw ws q=some (.cH (cL .bP (bif ra l ⟨p,y,ws⟩then !y else c) (VC l ⟨p,y,ws⟩ q) (cG (Jb l cut ⟨p,y,ws⟩ q) .bN))):=by
 (rw[QDS];delta ep cq cX;conv=>zeta)
 obtain⟨hl,hw⟩:=af h;have t0:List.drop 0 (List.take (Int.toNat (l.length:Int)) l)=l:=by simp
 have lk:Qc l.length=true:=Qd (by omega);have wk:Qc ws.length=true:=Qd (by omega);have wl:=GB p q ws (sa l) 0;simp only[t0,bG];refine Qa (by simp;omega) ?_;cases ha:l.all QY
 ·refine Qa rfl ?_;simp only[ra,VC,Jb,ha,Bool.false_and,ah]
 refine Qn rfl (Qa wk ?_);cases hm:gj ⟨p,y,ws⟩
 ·refine Qa rfl ?_;simp only[ra,VC,Jb,ha,hm,Bool.and_false,Bool.false_and,ah]
 refine Qn rfl ?_;have hk:tU ws=true:=QnN hm;have ok:ra l ⟨p,y,ws⟩=true:=by simp only[ra,ha,hm];rfl
 refine Qa lk (Qa lk (Qa (by simp) (Qa lk ?_)))
 by_cases gm:0<l.length
 ·have hv:QY (l.getD (l.length-1) ⟨0,0,0,0,0⟩)=true:=by
   have:=aX.1 ha l[l.length-1] (bA (by omega))
   simpa[show l.length-1<l.length by omega]using this
  simp only[QY,aa]at hv;have w1:IntKind.i64.wrap ((l.length:Int)-1)=(l.length:Int)-1:=cu (by omega) (by omega);have w2:((l.length:Int)-1).toNat=l.length-1:=by omega
  have hn:sa l=(l.getD (l.length-1) ⟨0,0,0,0,0⟩).offset+1:=by unfold sa;rw[ax gm]
  have w3:IntKind.i64.wrap ((l.getD (l.length-1) ⟨0,0,0,0,0⟩).offset+1)=sa l:=by rw[hn];exact cu (by omega) (by omega)
  simp only[w1,w2,w3];refine Qa (by simpa using gm) (Qa lk (Qa (by simp;omega) ?_));cases y
  ·refine Qa rfl ?_;simp only[ok,VC,Jb,Bool.and_false,ag,ah,bh]
  refine Qn rfl (Qa wk (Qn (by cases l with|nil=>simp at gm|cons x l=>rfl) (Qa ?_ ?_)))
  ·simp only[hk,Bool.and_true,ai,aa,true_and,and_true];omega
  simp only[ok,VC,Jb,au,ag,bg];rw[show l++Ja p q (sa l) 0 ws=VB l ⟨p,true,ws⟩ q from rfl];have hL:(VB l ⟨p,true,ws⟩ q).length<=2000:=by simp only[VB,aC];omega
  generalize VB l ⟨p,true,ws⟩ q=L at hL ⊢;have d1:Qc L.length=true:=Qd (by omega);have k1:IntKind.i64.wrap ((L.length:Int)-16)=(L.length:Int)-16:=cu (by omega) (by omega);have k2:IntKind.i64.wrap ((L.length:Int)-16-1)=(L.length:Int)-17:=by rw[cu (by omega) (by omega)];omega
  have k3:((L.length:Int)-16).toNat=L.length-16:=by omega
  have k4:((L.length:Int)-17).toNat=L.length-17:=by omega
  simp only[k1,k2,k3,k4,bF,aH,aN];refine Qa d1 ?_
  by_cases hle:L.length<=16
  ·refine Qa (by simp;omega) (Qa (Za rfl) ?_);rw[ab hle];rfl
  refine Qn (by simp;omega) ?_;rw[ad hle];refine Qa (by rw[ai];exact⟨Za rfl,by simp;omega⟩) (Qa (Za rfl) (Qa (Za rfl) (Qa (Za rfl) (Qa (by simp;omega) ?_))));simp only[ah,HD];rw[show(L.getD (L.length-17) ⟨0,0,0,0,0⟩).b8=xF L from rfl];generalize xF L=C;have hM:(L.drop (L.length-16)).length=16:=by simp;omega
  generalize L.drop (L.length-16)=M at hM ⊢;refine Qn (by cases M with|nil=>simp at hM|cons x M=>rfl) (Qa (Zb (by omega)) (Qa (Qd (by omega)) (Qa (by simp;omega) ?_)));cases qf:M.any fun x=>decide (x.b8<=C)
  ·refine Qn rfl (Qa (Za rfl) ?_);rw[T3 C qf]
  have hF:=(JQ (fun x:cC=>decide (x.b8<=C)) M).2 qf;have sL:=Jy C qf;generalize dZ (fun x:cC=>decide (x.b8<=C)) M=F at *;have f1:=fa F (by omega)
  simp only[f1,bw];obtain⟨e1,e2,e3⟩:=Hk C (M.length-(F+1)) M F (F+1) (by omega) (by omega);generalize kF C (M.length-(F+1)) M F (F+1)=Dd at *;rw[sL,<-e3];have e4:(Dd.1.take Dd.2).length=Dd.2:=by simp;omega
  refine Qa rfl (Qa (by simp;omega) (Qa (by rw[ai];exact⟨Za e1.symm,by simp;omega⟩) (Qa (Za (by simp;omega)) (Qa (by simp;omega) ?_))));rw[List.take_append_of_le_length (by omega),List.take_of_length_le (by omega)]
 ·have rX:l=[]:=List.eq_nil_of_length_eq_zero (by omega);refine Qn (by simp[rX]) ?_;cases y
  ·refine Qa rfl ?_;simp only[ok,VC,Jb,Bool.and_false,ag,ah,bh]
  refine Qn rfl (Qa wk (Qa (by rw[rX];rfl) (Qa ?_ ?_)))
  ·simp only[hk,Bool.and_true,ai,aa,true_and,and_true];omega
  simp only[ok,VC,Jb,au,ag,bg];rw[show l++Ja p q 0 0 ws=VB l ⟨p,true,ws⟩ q by rw[rX];rfl];have hL:(VB l ⟨p,true,ws⟩ q).length<=2000:=by simp only[VB,aC];omega
  generalize VB l ⟨p,true,ws⟩ q=L at hL ⊢;have d1:Qc L.length=true:=Qd (by omega);have k1:IntKind.i64.wrap ((L.length:Int)-16)=(L.length:Int)-16:=cu (by omega) (by omega);have k2:IntKind.i64.wrap ((L.length:Int)-16-1)=(L.length:Int)-17:=by rw[cu (by omega) (by omega)];omega
  have k3:((L.length:Int)-16).toNat=L.length-16:=by omega
  have k4:((L.length:Int)-17).toNat=L.length-17:=by omega
  simp only[k1,k2,k3,k4,bF,aH,aN];refine Qa d1 ?_
  by_cases hle:L.length<=16
  ·refine Qa (by simp;omega) (Qa (Za rfl) ?_);rw[ab hle];rfl
  refine Qn (by simp;omega) ?_;rw[ad hle];refine Qa (by rw[ai];exact⟨Za rfl,by simp;omega⟩) (Qa (Za rfl) (Qa (Za rfl) (Qa (Za rfl) (Qa (by simp;omega) ?_))));simp only[ah,HD];rw[show(L.getD (L.length-17) ⟨0,0,0,0,0⟩).b8=xF L from rfl];generalize xF L=C;have hM:(L.drop (L.length-16)).length=16:=by simp;omega
  generalize L.drop (L.length-16)=M at hM ⊢;refine Qn (by cases M with|nil=>simp at hM|cons x M=>rfl) (Qa (Zb (by omega)) (Qa (Qd (by omega)) (Qa (by simp;omega) ?_)));cases qf:M.any fun x=>decide (x.b8<=C)
  ·refine Qn rfl (Qa (Za rfl) ?_);rw[T3 C qf]
  have hF:=(JQ (fun x:cC=>decide (x.b8<=C)) M).2 qf;have sL:=Jy C qf;generalize dZ (fun x:cC=>decide (x.b8<=C)) M=F at *;have f1:=fa F (by omega)
  simp only[f1,bw];obtain⟨e1,e2,e3⟩:=Hk C (M.length-(F+1)) M F (F+1) (by omega) (by omega);generalize kF C (M.length-(F+1)) M F (F+1)=Dd at *;rw[sL,<-e3];have e4:(Dd.1.take Dd.2).length=Dd.2:=by simp;omega
  refine Qa rfl (Qa (by simp;omega) (Qa (by rw[ai];exact⟨Za e1.symm,by simp;omega⟩) (Qa (Za (by simp;omega)) (Qa (by simp;omega) ?_))));rw[List.take_append_of_le_length (by omega),List.take_of_length_le (by omega)]
def zT:=zS.cm 92 Qwb
theorem Qwc:Qj Tryz.prog cF zT:=Qwa.c6 Qb fun args d h=>by
 unfold Qwb at h
 split at h
 ·obtain⟨h1,rfl⟩:=ak h;exact⟨by simp[D.refs],100,QDT _ _ _ _ _ _ _ _ h1⟩
 ·cases h
open Go.Proofs
structure QnS where
 (c:Bool)(l:bJ)(cut:Int)(w:bJ)(i:Nat)
def Nd(c:Bool)(l:bJ)(cut:Int)(w:bJ)(i:Nat):bX:=[(0,.sl (C:=RC) .bP c l),(1,.int .i64 cut),(10,.vs 0 (w.length)),(11,.int .i64 (i:Int))]
def vL(c:Bool)(l:bJ)(cut:Int)(w:bJ)(i:Nat):bR:=[.cj .bP true w]
def Qwd c l cut w i:=eF cF zT 100 4 40 1 [0,1,10,11] [8,9] [.slot 10 0] (Nd c l cut w i) (vL c l cut w i)
theorem QzJ c l cut w i:Qwd c l cut w i=(let Z0:Int:=(i:Int);let Z1:cC:=List.getD l Z0.toNat (cC.mk 0 0 0 0 0);let Z2:bQ:=D.vs 0 w.length;let Z3:bQ:=cq cut;let Z4:b9:=[some (Obj.cj ca.bP true w)];cb (Qc l.length) (bif decide (Z0<(l.length:Int))then cb (ep Z0 (l.length:Int)) (bif !QY (cC.mk (cC.offset Z1) (cC.b8 Z1) (cC.j Z1) (cC.key Z1) (cC.value Z1))then some ((X.ret,[(8,Z2),(9,Z3)]),Z4)else some ((X.normal,[(0,D.sl ca.bP c l),(1,Z3),(10,Z2),(11,cq (cX (Z0+1)))]),Z4))else some ((X.exit 0,[(8,D.top),(9,D.top)]),Z4))):=by kernel_rfl
def GC(c:Bool)(l:bJ)(cut:Int)(w:bJ)(i:Nat):RT RC:=.br (l.all QY) (.leaf (.exit 0) [(8,.top),(9,.top)] (vL c l cut w i)) (.leaf .ret [(8,.vs 0 w.length),(9,.int .i64 cut)] (vL c l cut w i))
def JS(c:Bool)(l:bJ)(cut:Int)(w:bJ)(i:Nat):Prop:=i<=dZ (fun x=>!QY x) l/\l.length<=100000
def Kr:QK RC QnS where
 k:=1
 cS q:=Nd q.c q.l q.cut q.w q.i
 cR q:=vL q.c q.l q.cut q.w q.i
 fin q:=GC q.c q.l q.cut q.w q.i
 Inv q:=JS q.c q.l q.cut q.w q.i
 μ q:=q.l.length-q.i
theorem Qk9 c l cut w i(hI:JS c l cut w i):dw (Qwd c l cut w i) (dF Kr ⟨c,l,cut,w,i⟩):=by
 (rw[QzJ];delta cb ep cq cX;conv=>zeta)
 unfold JS at hI;obtain⟨h1,h2⟩:=hI;have hi:=Gb (fun x=>!QY x) l;have ha:=T2 (p:=QY) (l:=l);have lk:Qc l.length=true:=Qd (by omega)
 by_cases cY:i<l.length
 ·have cN:=fa i (by omega)
  have ei:=gv (show i<l.length by omega)
  have ef:=fV (show i<l.length by omega)
  have dp:=bw i
  simp only[cN,ei,ef,dp,ag];have jq:=Gc (fun x=>!QY x) (d:=(⟨0,0,0,0,0⟩:cC)) cY h1;simp only[Ds,lk,ag];cases hk:QY (l.getD i ⟨0,0,0,0,0⟩)
  ·have e:i=dZ (fun x=>!QY x) l:=by
    rcases Nat.lt_or_ge i (dZ (fun x=>!QY x) l)with q|q
    ·have:=jq.1 q;simp only[hk]at this;cases this
    ·omega
   simp only[bh,ag];refine QT (vL c l cut w i) ?_ rfl;simp only[Kr,GC,RT.val,ha.1 (by omega),ah]
  ·simp only[bg,ah];exact Qg (S:=Kr) ⟨c,l,cut,w,i+1⟩ (show JS (c) (l) (cut) (w) (i+1)from⟨jq.2 (by simp only[hk];rfl),h2⟩) (by simp only[Kr];omega) rfl rfl rfl
 ·have d1:decide ((i:Int)<l.length)=false:=by simp;omega
  rw[lk,d1];simp only[ag,ah];refine Qi (vL c l cut w i) ?_ rfl
  have:l.all QY=true:=by
   cases q:l.all QY
   ·have:=ha.2 q;omega
   ·rfl
  simp only[Kr,GC,RT.val,this,ag]
def NG(env:bX)(os:bR):Option (Bool×QnS):=match env,os with
 |[(0,.sl .bP c l),(1,.int .i64 cut),(10,.vs 0 x0),(11,.int .i64 x1)],[.cj .bP true w]=>some (decide (x0=w.length)&&decide (x1=0)&&decide (l.length<=100000),⟨c,l,cut,w,0⟩)
 |_,_=>none
def zU:=zT.cP 100 4 (eZ cF [.slot 10 0] [0,1,10,11] Kr NG)
theorem Qwe:Qj Tryz.prog cF zU:=by
 refine Qwc.cJ Qb (by kernel_rfl) Kr 40 [0,1,10,11] [8,9] [.slot 10 0] [0,1,10,11] NG (fun q hI=>?_) ?_
 ·obtain⟨c,l,cut,w,i⟩:=q;refine⟨?_,?_,Qk9 c l cut w i hI⟩
  ·simp_all[Qk,Kr,Nd,vL,JS,D.refs,Obj.refs,de]
  ·simp_all[Kr,GC,vL,JS,RT.da,Qk,D.refs,Obj.refs,de]
 ·intro env os b q cW hb;unfold NG at cW
  split at cW
  ·cases cW;simp only[ai,aa]at hb;obtain⟨⟨rfl,rfl⟩,hl⟩:=hb;exact⟨⟨aK _,hl⟩,rfl,rfl⟩
  ·cases cW
structure QnT where
 (l:bJ)(p:Int)(y cw:Bool)(ws:cA)(q nx:Int)(i:Nat)
def NH(l:bJ)(p:Int)(y cw:Bool)(ws:cA)(q nx:Int)(i:Nat):bX:=[(3,.int .i64 q),(6,.ptr 0 []),(10,.vs 1 (l.length)),(12,.int .i64 nx),(13,.int .i64 (i:Int))]
def vM(l:bJ)(p:Int)(y cw:Bool)(ws:cA)(q nx:Int)(i:Nat):bR:=[.var 51 (cG p (.bI (.bool y) (cL .write cw ws .bN))),.cj .bP true l]
def Qwf l p y cw ws q nx i:=eF cF zU 100 14 40 2 [3,6,10,12,13] [10] [.slot 6 0,.slot 10 0] (NH l p y cw ws q nx i) (vM l p y cw ws q nx i)
theorem QzK l p y cw ws q nx i:Qwf l p y cw ws q nx i=(let Z0:Int:=(i:Int);let Z1:Qq:=List.getD ws Z0.toNat (Qq.mk 0 0);let Z2:=l.length;let Z3:bJ:=[cC.mk nx p Z0 (Int.tmod (Qq.key Z1) 8) (Qq.value Z1)];let Z4:Nat×bQ:=(3,cq q);let Z5:Nat×bQ:=(6,D.ptr 0 []);let Z6:fB:=[(13,cq (cX (Z0+1)))];let Z7:bZ:=some (Obj.var 51 (.bI (cq p) (.bI (D.bool y) (.bI (D.sl ca.write cw ws) .bN))));let Z8:Nat×bQ:=(10,D.vs 1 Z2);cb (Qc ws.length) (bif decide (Z0<(ws.length:Int))then cb (ep Z0 (ws.length:Int)) (bif cX (Int.tdiv (Qq.key Z1) 8)==q then cb (Nat.beq Z2 Z2&&Qf (Z2+Z3.length) 40) (some ((X.normal,Z4::Z5::(10,D.vs 1 (Z2+Z3.length))::(12,cq (cX (nx+1)))::Z6),[Z7,some (Obj.cj ca.bP true (l++Z3))]))else some ((X.normal,Z4::Z5::Z8::(12,cq nx)::Z6),[Z7,some (Obj.cj ca.bP true l)]))else some ((X.exit 2,[Z8]),[Z7,some (Obj.cj ca.bP true l)]))):=by kernel_rfl
def CZ(l:bJ)(p:Int)(y cw:Bool)(ws:cA)(q nx:Int)(i:Nat):RT RC:=.leaf (.exit 2) [(10,.vs 1 (l++Ja p q nx i (ws.drop i)).length)] (vM (l++Ja p q nx i (ws.drop i)) p y cw ws q nx i)
def Jd(l:bJ)(p:Int)(y cw:Bool)(ws:cA)(q nx:Int)(i:Nat):Prop:=i<=ws.length/\ws.length<=1000/\l.length<=1000+i/\tU ws=true/\0<=nx/\nx<=5000000+i
def VD:QK RC QnT where
 k:=2
 cS q:=NH q.l q.p q.y q.cw q.ws q.q q.nx q.i
 cR q:=vM q.l q.p q.y q.cw q.ws q.q q.nx q.i
 fin q:=CZ q.l q.p q.y q.cw q.ws q.q q.nx q.i
 Inv q:=Jd q.l q.p q.y q.cw q.ws q.q q.nx q.i
 μ q:=q.ws.length-q.i
theorem Qlc l p y cw ws q nx i(hI:Jd l p y cw ws q nx i):dw (Qwf l p y cw ws q nx i) (dF VD ⟨l,p,y,cw,ws,q,nx,i⟩):=by
 (rw[QzK];delta cb ep cq cX;conv=>zeta)
 unfold Jd at hI;obtain⟨h1,h2,h3,h4,h5,h6⟩:=hI;have lk:Qc ws.length=true:=Qd (by omega)
 by_cases cY:i<ws.length
 ·have cN:=fa i (by omega)
  have ei:=gv (show i<ws.length by omega)
  have ef:=fV (show i<ws.length by omega)
  have dp:=bw i
  simp only[cN,ei,ef,dp,ag];have hd:ws.drop i=ws.getD i ⟨0,0⟩::ws.drop (i+1):=by rw[aJ cY];simp[cY]
  have j9:=Xm h4 cY;generalize ws.getD i ⟨0,0⟩=x at *;have e1:IntKind.i64.wrap (x.key.tdiv 8)=x.key/8:=by rw[Int.tdiv_eq_ediv_of_nonneg (by omega)];exact cu (by omega) (by omega)
  have e2:x.key.tmod 8=x.key%8:=Int.tmod_eq_emod_of_nonneg (by omega);have e3:IntKind.i64.wrap (nx+1)=nx+1:=cu (by omega) (by omega);simp only[e1,e2,e3,lk,ag]
  by_cases hq:x.key/8=q
  ·have hb:(x.key/8==q)=true:=by simpa using hq
   have e4:l.length+([cC.mk nx p i (x.key%8) x.value]:bJ).length=(l++[cC.mk nx p i (x.key%8) x.value]).length:=by simp
   have s1:Qf (l++[cC.mk nx p i (x.key%8) x.value]).length 40=true:=Zb (by simp;omega);have b1:Nat.beq l.length l.length=true:=Za rfl;simp only[hb,e4,s1,b1,au,ag];refine Qg (S:=VD) ⟨l++[cC.mk nx p i (x.key%8) x.value],p,y,cw,ws,q,nx+1,i+1⟩ (show Jd (l++[cC.mk nx p i (x.key%8) x.value]) (p) (y) (cw) (ws) (q) (nx+1) (i+1)from⟨by omega,h2,by simp;omega,h4,by omega,by omega⟩) (by simp only[VD];omega) ?_ rfl rfl;simp only[VD,CZ,vM,hd,Ja,ax hq,ay,List.singleton_append]
  ·have hb:(x.key/8==q)=false:=by simpa using hq
   simp only[hb,ah];refine Qg (S:=VD) ⟨l,p,y,cw,ws,q,nx,i+1⟩ (show Jd (l) (p) (y) (cw) (ws) (q) (nx) (i+1)from⟨by omega,h2,by omega,h4,by omega,by omega⟩) (by simp only[VD];omega) ?_ rfl rfl;simp only[VD,CZ,vM,hd,Ja,aw hq]
 ·have d1:decide ((i:Int)<ws.length)=false:=by simp;omega
  rw[lk,d1];simp only[ag,ah];have e:ws.drop i=[]:=aO (by omega);refine Qi (vM l p y cw ws q nx i) ?_ rfl;simp only[VD,CZ,e,Ja,aR,RT.val]
def NI(env:bX)(os:bR):Option (Bool×QnT):=match env,os with
 |[(3,.int .i64 q),(6,.ptr 0 []),(10,.vs 1 x0),(12,.int .i64 nx),(13,.int .i64 x1)],[.var 51 (.bI (.int .i64 p) (.bI (.bool y) (.bI (.sl .write cw ws) .bN))),.cj .bP true l]=>some (decide (x0=l.length)&&decide (x1=0)&&decide (ws.length<=1000/\l.length<=1000)&&tU ws&&decide (0<=nx/\nx<=5000000),⟨l,p,y,cw,ws,q,nx,0⟩)
 |_,_=>none
def zV:=zU.cP 100 14 (eZ cF [.slot 6 0,.slot 10 0] [3,6,10,12,13] VD NI)
theorem Qwg:Qj Tryz.prog cF zV:=by
 refine Qwe.cJ Qb (by kernel_rfl) VD 40 [3,6,10,12,13] [10] [.slot 6 0,.slot 10 0] [3,6,10,12,13] NI (fun q hI=>?_) ?_
 ·obtain⟨l,p,y,cw,ws,q,nx,i⟩:=q;refine⟨?_,?_,Qlc l p y cw ws q nx i hI⟩
  ·simp_all[Qk,VD,NH,vM,Jd,D.refs,Obj.refs,de]
  ·simp_all[VD,CZ,vM,Jd,RT.da,Qk,D.refs,Obj.refs,de]
 ·intro env os b q cW hb;unfold NI at cW
  split at cW
  ·cases cW;simp only[ai,aa]at hb;obtain⟨⟨⟨⟨rfl,rfl⟩,h1,h2⟩,h3⟩,h4,h5⟩:=hb;exact⟨⟨aK _,h1,by simpa using h2,h3,h4,by simpa using h5⟩,rfl,rfl⟩
  ·cases cW
structure QnU where
 (l w:bJ)(cut i:Int)
def NJ(l w:bJ)(cut i:Int):bX:=[(1,.int .i64 cut),(10,.vs 0 (l.length)),(15,.vs 1 (w.length)),(16,.int .i64 i)]
def vN(l w:bJ)(cut i:Int):bR:=[.cj .bP true l,.cj .bP true w]
def Qwh l w cut i:=eF cF zV 100 24 40 2 [1,10,15,16] [15] [.slot 10 0,.slot 15 0] (NJ l w cut i) (vN l w cut i)
theorem QzL l w cut i:Qwh l w cut i=(let Z0:=l.length;let Z1:=Nat.beq Z0 Z0;let Z2:Bool:=Z1&&ep i (Z0:Int);let Z3:cC:=List.getD l i.toNat (cC.mk 0 0 0 0 0);let Z4:=w.length;let Z5:bJ:=[cC.mk (cC.offset Z3) (cC.b8 Z3) (cC.j Z3) (cC.key Z3) (cC.value Z3)];let Z6:Nat×bQ:=(1,cq cut);let Z7:Nat×bQ:=(10,D.vs 0 Z0);let Z8:fB:=[(16,cq (cX (i+1)))];let Z9:Nat×bQ:=(15,D.vs 1 Z4);let dg:b9:=[some (Obj.cj ca.bP true l),some (Obj.cj ca.bP true w)];cb (Qc Z0) (bif decide (i<(Z0:Int))then cb Z2 (cb Z1 (cb Z1 (bif decide (cut<cC.b8 Z3)then cb Z2 (cb Z1 (cb (Nat.beq Z4 Z4&&Qf (Z4+Z5.length) 40) (some ((X.normal,Z6::Z7::(15,D.vs 1 (Z4+Z5.length))::Z8),[some (Obj.cj ca.bP true l),some (Obj.cj ca.bP true (w++Z5))]))))else some ((X.normal,Z6::Z7::Z9::Z8),dg))))else some ((X.exit 4,[Z9]),dg))):=by kernel_rfl
def C0(l w:bJ)(cut i:Int):RT RC:=.leaf (.exit 4) [(15,.vs 1 (w++(l.drop i.toNat).filter fun x=>decide (cut<x.b8)).length)] (vN l (w++(l.drop i.toNat).filter fun x=>decide (cut<x.b8)) cut i)
def Je(l w:bJ)(cut i:Int):Prop:=0<=i/\i<=l.length/\l.length<=100000/\w.length<=i
def VE:QK RC QnU where
 k:=2
 cS q:=NJ q.l q.w q.cut q.i
 cR q:=vN q.l q.w q.cut q.i
 fin q:=C0 q.l q.w q.cut q.i
 Inv q:=Je q.l q.w q.cut q.i
 μ q:=(q.l.length-q.i).toNat
theorem Qlf l w cut i(hI:Je l w cut i):dw (Qwh l w cut i) (dF VE ⟨l,w,cut,i⟩):=by
 (rw[QzL];delta cb ep cq cX;conv=>zeta)
 unfold Je at hI;obtain⟨h1,h2,h3,h4⟩:=hI;have lk:Qc l.length=true:=Qd (by omega);have nb:Nat.beq l.length l.length=true:=Za rfl;have nw:Nat.beq w.length w.length=true:=Za rfl
 by_cases cY:i<l.length
 ·have d1:decide (i<(l.length:Int))=true:=by simpa using cY
  have d2:decide (0<=i/\i<(l.length:Int))=true:=by simp;omega
  have w1:IntKind.i64.wrap (i+1)=i+1:=cu (by omega) (by omega);have n2:(i+1).toNat=i.toNat+1:=by omega
  have hd:l.drop i.toNat=l.getD i.toNat ⟨0,0,0,0,0⟩::l.drop (i.toNat+1):=by rw[aJ (by omega)];simp[show i.toNat<l.length by omega]
  simp only[lk,nb,d1,d2,w1,Ds,ag,au];generalize l.getD i.toNat ⟨0,0,0,0,0⟩=x at *
  by_cases hp:cut<x.b8
  ·have e5:(x::l.drop (i.toNat+1)).filter (fun x=>decide (cut<x.b8))=x::(l.drop (i.toNat+1)).filter fun x=>decide (cut<x.b8):=List.filter_cons_of_pos (by simpa using hp);have e4:w.length+([x]:bJ).length=(w++[x]).length:=by simp
   have s1:Qf (w++[x]).length 40=true:=Zb (by simp;omega);rw[ab hp];simp only[e4,s1,nw,au,ag];refine Qg (S:=VE) ⟨l,w++[x],cut,i+1⟩ (show Je (l) (w++[x]) (cut) (i+1)from⟨by omega,by omega,h3,by simp;omega⟩) (by simp only[VE];omega) ?_ rfl rfl;simp only[VE,C0,vN,n2,hd,e5,ay,List.singleton_append]
  ·have e5:(x::l.drop (i.toNat+1)).filter (fun x=>decide (cut<x.b8))=(l.drop (i.toNat+1)).filter fun x=>decide (cut<x.b8):=List.filter_cons_of_neg (by simpa using hp);rw[ad hp];simp only[ah];refine Qg (S:=VE) ⟨l,w,cut,i+1⟩ (show Je (l) (w) (cut) (i+1)from⟨by omega,by omega,h3,by omega⟩) (by simp only[VE];omega) ?_ rfl rfl;simp only[VE,C0,vN,n2,hd,e5]
 ·have d1:decide (i<(l.length:Int))=false:=by simpa using cY
  have e:l.drop i.toNat=[]:=aO (by omega);simp only[lk,d1,ag,ah];refine Qi (vN l w cut i) ?_ rfl;simp only[VE,C0,e,List.filter_nil,aR,RT.val]
def NK(env:bX)(os:bR):Option (Bool×QnU):=match env,os with
 |[(1,.int .i64 cut),(10,.vs 0 x0),(15,.vs 1 x1),(16,.int .i64 i)],[.cj .bP true l,.cj .bP true w]=>some (decide (x0=l.length)&&decide (x1=w.length)&&decide (0<=i/\i<=l.length/\l.length<=100000/\w.length<=i),⟨l,w,cut,i⟩)
 |_,_=>none
def zW:=zV.cP 100 24 (eZ cF [.slot 10 0,.slot 15 0] [1,10,15,16] VE NK)
theorem Qwi:Qj Tryz.prog cF zW:=by
 refine Qwg.cJ Qb (by kernel_rfl) VE 40 [1,10,15,16] [15] [.slot 10 0,.slot 15 0] [1,10,15,16] NK (fun q hI=>?_) ?_
 ·obtain⟨l,w,cut,i⟩:=q;refine⟨?_,?_,Qlf l w cut i hI⟩
  ·simp_all[Qk,VE,NJ,vN,Je,D.refs,Obj.refs,de]
  ·simp_all[VE,C0,vN,Je,RT.da,Qk,D.refs,Obj.refs,de]
 ·intro env os b q cW hb;unfold NK at cW
  split at cW
  ·cases cW;simp only[ai,aa]at hb;obtain⟨⟨rfl,rfl⟩,h1⟩:=hb;exact⟨h1,rfl,rfl⟩
  ·cases cW
def QnV:bW->bO
 |[.sl .bP c l,.int .i64 cut,.bI (.int .i64 p) (.bI (.bool y) (.bI (.sl .write cw ws) .bN)),.int .i64 q]=>some (decide (l.length<=1000/\ws.length<=1000),.cH (cL .bP false (VC l ⟨p,y,ws⟩ q) (cG (Jb l cut ⟨p,y,ws⟩ q) .bN)))
 |_=>none
def Qwk(c:Bool)(l:bJ)(cut p:Int)(y cw:Bool)(ws:cA)(q:Int):=eU cF zW 100 100 [.sl (C:=RC) .bP c l,.int .i64 cut,.bI (.int .i64 p) (.bI (.bool y) (cL .write cw ws .bN)),.int .i64 q]
theorem QzM c l cut p y cw ws q:Qwk c l cut p y cw ws q=(let Z0:=l.length;let Z1:Nat:=(0:Nat)+Z0;let Z2:=List.length ([]++l);let Z3:Bool:=decide (Z1=Z2)&&true;let Z4:bQ:=D.bI (cq cut) .bN;let Z5:fG:=some (D.cH (D.bI (D.sl ca.bP false ([]++l)) Z4));let Z6:fG:=none;let Z7:fG:=bif Nat.beq Z1 Z2 then Z5 else Z6;let Z8:Int:=(Z0:Int);let Z9:=cX (Z8-1);let dg:Bool:=Z3&&decide (ws.length<=1000/\Z2<=1000)&&tU ws;let dq:cC:=cC.mk 0 0 0 0 0;let dE:=cX (cC.offset (List.getD l Z9.toNat dq)+1);let dQ:bJ:=[]++l++Ja p q dE 0 (List.drop 0 ws);let dv:=dQ.length;let dT:Int:=(dv:Int);let dL:=Nat.beq dv dv;let eK:=cX (dT-16);let eo:=cX (eK-1);let eX:=cC.b8 (List.getD dQ eo.toNat dq);let eC:bJ:=[]++List.filter (fun(x:cC)=>decide (eX<cC.b8 x)) (List.drop eK.toNat dQ);let eP:bJ:=[]++l++Ja p q 0 0 (List.drop 0 ws);let fF:=eP.length;let fz:Int:=(fF:Int);let fM:=Nat.beq fF fF;let gf:=cX (fz-16);let gK:=cX (gf-1);let iW:=cC.b8 (List.getD eP gK.toNat dq);let jO:bJ:=[]++List.filter (fun(x:cC)=>decide (iW<cC.b8 x)) (List.drop gf.toNat eP);bif Qf Z1 40 then bif Z3&&decide (Z0<=100000)then bif List.all l QY then bif Qc ws.length then bif !gj (Rec.mk p y ws)then Z7 else bif !y then Z7 else bif Qc Z0 then bif decide ((0:Int)<Z8)then bif Qc Z0 then bif ep Z9 Z8 then bif dg&&decide ((0:Int)<=dE/\dE<=5000000)then bif Qc dv then bif decide ((16:Int)<dT)then bif Qc dv then bif dL&&ep eo dT then bif dL then bif dL then bif Qc dv then bif decide (dv=dv)&&true&&decide ((0:Int)<=eK/\eK<=dT/\dv<=100000/\(0:Int)<=eK)then bif Nat.beq eC.length eC.length then some (D.cH (D.bI (D.sl ca.bP false eC) (.bI (cq eX) .bN)))else Z6 else Z6 else Z6 else Z6 else Z6 else Z6 else Z6 else bif dL then some (D.cH (D.bI (D.sl ca.bP false dQ) Z4))else Z6 else Z6 else Z6 else Z6 else Z6 else bif dg&&true then bif Qc fF then bif decide ((16:Int)<fz)then bif Qc fF then bif fM&&ep gK fz then bif fM then bif fM then bif Qc fF then bif decide (fF=fF)&&true&&decide ((0:Int)<=gf/\gf<=fz/\fF<=100000/\(0:Int)<=gf)then bif Nat.beq jO.length jO.length then some (D.cH (D.bI (D.sl ca.bP false jO) (.bI (cq iW) .bN)))else Z6 else Z6 else Z6 else Z6 else Z6 else Z6 else Z6 else bif fM then some (D.cH (D.bI (D.sl ca.bP false eP) Z4))else Z6 else Z6 else Z6 else Z6 else Z6 else bif Nat.beq Z2 Z2 then Z5 else Z6 else Z6 else Z6):=by kernel_rfl
theorem QzN c l cut p y cw ws q(h:(decide (l.length<=1000/\ws.length<=1000))=true):Qwk c l cut p y cw ws q=some (.cH (cL .bP false (VC l ⟨p,y,ws⟩ q) (cG (Jb l cut ⟨p,y,ws⟩ q) .bN))):=by
 (rw[QzM];delta ep cq cX;conv=>zeta)
 obtain⟨hl,hw⟩:=af h;have lk:Qc l.length=true:=Qd (by omega);have wk:Qc ws.length=true:=Qd (by omega);have wl:=GB p q ws (sa l) 0;simp only[aH,aN,bG];refine Qa (Zb (by omega)) (Qa (by simp;omega) ?_);cases ha:l.all QY
 ·refine Qn rfl (Qa (Za rfl) ?_);simp only[ra,VC,Jb,ha,Bool.false_and,ah]
 refine Qa rfl (Qa wk ?_);cases hm:gj ⟨p,y,ws⟩
 ·refine Qa rfl (Qa (Za rfl) ?_);simp only[ra,VC,Jb,ha,hm,Bool.and_false,Bool.false_and,ah]
 refine Qn rfl ?_;have hk:tU ws=true:=QnN hm;have ok:ra l ⟨p,y,ws⟩=true:=by simp only[ra,ha,hm];rfl
 cases y
 ·refine Qa rfl (Qa (Za rfl) ?_);simp only[ok,VC,Jb,Bool.and_false,ah]
 refine Qn rfl (Qa lk ?_);simp only[ok,VC,Jb,au,ag]
 by_cases gm:0<l.length
 ·have hv:QY (l.getD (l.length-1) ⟨0,0,0,0,0⟩)=true:=by
   have:=aX.1 ha l[l.length-1] (bA (by omega))
   simpa[show l.length-1<l.length by omega]using this
  simp only[QY,aa]at hv;have w1:IntKind.i64.wrap ((l.length:Int)-1)=(l.length:Int)-1:=cu (by omega) (by omega);have w2:((l.length:Int)-1).toNat=l.length-1:=by omega
  have hn:sa l=(l.getD (l.length-1) ⟨0,0,0,0,0⟩).offset+1:=by unfold sa;rw[ax gm]
  have w3:IntKind.i64.wrap ((l.getD (l.length-1) ⟨0,0,0,0,0⟩).offset+1)=sa l:=by rw[hn];exact cu (by omega) (by omega)
  simp only[w1,w2,w3];refine Qa (by simpa using gm) (Qa lk (Qa (by simp;omega) (Qa ?_ ?_)))
  ·simp only[hk,Bool.and_true,ai,aa,true_and,and_true];omega
  rw[show l++Ja p q (sa l) 0 ws=VB l ⟨p,true,ws⟩ q from rfl];have hL:(VB l ⟨p,true,ws⟩ q).length<=2000:=by simp only[VB,aC];omega
  generalize VB l ⟨p,true,ws⟩ q=L at hL ⊢;have d1:Qc L.length=true:=Qd (by omega);have k1:IntKind.i64.wrap ((L.length:Int)-16)=(L.length:Int)-16:=cu (by omega) (by omega);have k2:IntKind.i64.wrap ((L.length:Int)-16-1)=(L.length:Int)-17:=by rw[cu (by omega) (by omega)];omega
  have k3:((L.length:Int)-16).toNat=L.length-16:=by omega
  have k4:((L.length:Int)-17).toNat=L.length-17:=by omega
  simp only[k1,k2,k3,k4];refine Qa d1 ?_
  by_cases hle:L.length<=16
  ·refine Qn (by simp;omega) (Qa (Za rfl) ?_);rw[ab hle];rfl
  refine Qa (by simp;omega) ?_;rw[ad hle];exact Qa d1 (Qa (by rw[ai];exact⟨Za rfl,by simp;omega⟩) (Qa (Za rfl) (Qa (Za rfl) (Qa d1 (Qa (by simp;omega) (Qa (Za rfl) rfl))))))
 ·have rX:l=[]:=List.eq_nil_of_length_eq_zero (by omega);refine Qn (by simp[rX]) (Qa ?_ ?_)
  ·simp only[hk,Bool.and_true,ai,aa,true_and,and_true];omega
  rw[show l++Ja p q 0 0 ws=VB l ⟨p,true,ws⟩ q by rw[rX];rfl];have hL:(VB l ⟨p,true,ws⟩ q).length<=2000:=by simp only[VB,aC];omega
  generalize VB l ⟨p,true,ws⟩ q=L at hL ⊢;have d1:Qc L.length=true:=Qd (by omega);have k1:IntKind.i64.wrap ((L.length:Int)-16)=(L.length:Int)-16:=cu (by omega) (by omega);have k2:IntKind.i64.wrap ((L.length:Int)-16-1)=(L.length:Int)-17:=by rw[cu (by omega) (by omega)];omega
  have k3:((L.length:Int)-16).toNat=L.length-16:=by omega
  have k4:((L.length:Int)-17).toNat=L.length-17:=by omega
  simp only[k1,k2,k3,k4];refine Qa d1 ?_
  by_cases hle:L.length<=16
  ·refine Qn (by simp;omega) (Qa (Za rfl) ?_);rw[ab hle];rfl
  refine Qa (by simp;omega) ?_;rw[ad hle];exact Qa d1 (Qa (by rw[ai];exact⟨Za rfl,by simp;omega⟩) (Qa (Za rfl) (Qa (Za rfl) (Qa d1 (Qa (by simp;omega) (Qa (Za rfl) rfl))))))
def zX:=zW.cm 100 QnV
theorem Qwl:Qj Tryz.prog cF zX:=Qwi.c6 Qb fun args d h=>by
 unfold QnV at h
 split at h
 ·obtain⟨h1,rfl⟩:=ak h;exact⟨by simp[D.refs],100,QzN _ _ _ _ _ _ _ _ h1⟩
 ·cases h
def rR(p:Int)(it:bM)(ws:cA):bM:=ws.foldl (fun l w=>lH l ⟨w.key,p,w.value⟩) it
theorem Xn(p:Int):∀(ws:cA) (it:bM),(rR p it ws).length<=it.length+ws.length
 |[],it=>by simp[rR]
 |w::ws,it=>by
  have h1:=Xn p ws (lH it ⟨w.key,p,w.value⟩);have h2:=MX it ⟨w.key,p,w.value⟩;simp only[rR,List.foldl_cons,aE]at h1 ⊢;omega
def Zx(s:St)(r:Rec):St:=bif r.yes then⟨r.b8,rR r.b8 s.bV r.dV,VC s.l0 r 0,VC s.l1 r 1,VC s.l2 r 2,Jb s.l0 s.c0 r 0,Jb s.l1 s.c1 r 1,Jb s.l2 s.c2 r 2⟩else⟨r.b8,s.bV,s.l0,s.l1,s.l2,s.c0,s.c1,s.c2⟩
theorem Mf s r:(Zx s r).bV.length<=s.bV.length+r.dV.length/\(Zx s r).l0.length<=max s.l0.length 16/\(Zx s r).l1.length<=max s.l1.length 16/\(Zx s r).l2.length<=max s.l2.length 16:=by
 unfold Zx;cases r.yes
 ·simp only[ah];omega
 ·simp only[ag];exact⟨Xn _ _ _,Mo _ _ _,Mo _ _ _,Mo _ _ _⟩
def re(now sure:bL):St:=⟨iS now sure,(dh (dy now sure)).bV,(dh (dy now sure)).l0,(dh (dy now sure)).l1,(dh (dy now sure)).l2,(dh (dy now sure)).c0,(dh (dy now sure)).c1,(dh (dy now sure)).c2⟩
def ZN(now sure:bL):St:=bif Qt now sure then(jL now sure (iS now sure)).foldl Zx (re now sure)else⟨0,[],[],[],[],0,0,0⟩
theorem UN:∀(l:dC) (s:St) (n m:Nat),(∀r∈l,gj r=true)->s.bV.length<=n->s.l0.length<=max m 16->s.l1.length<=max m 16->s.l2.length<=max m 16 ->
 (l.foldl Zx s).bV.length<=n+4*l.length/\(l.foldl Zx s).l0.length<=max m 16/\(l.foldl Zx s).l1.length<=max m 16/\(l.foldl Zx s).l2.length<=max m 16
 |[],s,n,m,_,h0,h1,h2,h3=>⟨by simpa using h0,h1,h2,h3⟩
 |r::l,s,n,m,hl,h0,h1,h2,h3=>by
  have hr:=No (hl r aV);obtain⟨q0,q1,q2,q3⟩:=Mf s r;obtain⟨a,b,c,d⟩:=UN l (Zx s r) (n+4) m (fun x hx=>hl x (aS _ hx)) (by omega) (by omega) (by omega) (by omega);simp only[List.foldl_cons,aE];exact⟨by omega,b,c,d⟩
theorem M0 now sure:(re now sure).bV.length<=24/\(re now sure).l0.length<=16/\(re now sure).l1.length<=16/\(re now sure).l2.length<=16:=by
 unfold re;cases h:dy now sure with
 |none=>simp[dh]
 |some s=>
  obtain⟨p,it,l0,l1,l2,c0,c1,c2⟩:=s;obtain⟨hp,hn,hi,⟨_,h0,_⟩,⟨_,h1,_⟩,⟨_,h2,_⟩⟩:=Vj (QkT h);simp only[dh,ba];omega
theorem QnW now sure:(ZN now sure).bV.length<=152/\(ZN now sure).l0.length<=16/\(ZN now sure).l1.length<=16/\(ZN now sure).l2.length<=16:=by
 unfold ZN;cases Qt now sure
 ·simp
 ·simp only[ag];obtain⟨h0,h1,h2,h3⟩:=M0 now sure;have:=UN (jL now sure (iS now sure)) (re now sure) 24 16 (MW now sure _) h0 (by omega) (by omega) (by omega);have hp:=MV now sure (iS now sure);omega
theorem QnX{now sure:bL}(h:(im now sure==0)=false):dy now sure=none:=by
 unfold im at h;unfold dy;cases h1:YS now sure 32
 ·rfl
 ·cases h2:((iE now sure 32).n==0)
  ·rw[h1,h2]at h;simp only[ag,ah]at h ⊢;cases h3:jS (iE now sure 32)with
   |none=>rfl
   |some s=>rw[h3]at h;cases h
  ·rfl
open Go.Proofs
def pe(s:St):bQ:=.bI (.int .i64 s.b8) (cL .cE false s.bV (.bI (cL .bP false s.l0 (cL .bP false s.l1 (cL .bP false s.l2 .bN))) (.bI (.arr (C:=RC) .int 3 [s.c0,s.c1,s.c2]) .bN)))
structure SG where
 (sp:Int)(ci:Bool)(it:bM)(f0:Bool)(l0:bJ)(f1:Bool)(l1:bJ)(f2:Bool)(l2:bJ)(c0 c1 c2 p:Int)(y cw:Bool)(ws:cA)(i:Nat)
def Lj(sp:Int)(ci:Bool)(it:bM)(f0:Bool)(l0:bJ)(f1:Bool)(l1:bJ)(f2:Bool)(l2:bJ)(c0 c1 c2 p:Int)(y cw:Bool)(ws:cA)(i:Nat):bX:=[(2,.ptr 0 []),(3,.ptr 1 []),(16,.sl (C:=RC) .write ((cw)) ((ws))),(17,.int .i64 (ws.length)),(18,.int .i64 (i:Int))]
def xK(sp:Int)(ci:Bool)(it:bM)(f0:Bool)(l0:bJ)(f1:Bool)(l1:bJ)(f2:Bool)(l2:bJ)(c0 c1 c2 p:Int)(y cw:Bool)(ws:cA)(i:Nat):bR:=[.var 34 (cG sp (cL .cE ci it (.bI (cL .bP f0 l0 (cL .bP f1 l1 (cL .bP f2 l2 .bN))) (.bI (.arr (C:=RC) .int 3 [c0,c1,c2]) .bN)))),.var 51 (cG p (.bI (.bool y) (cL .write cw ws .bN)))]
def Te sp ci it f0 l0 f1 l1 f2 l2 c0 c1 c2 p y cw ws i:=eF cF zX 36 5 40 2 [2,3,16,17,18] [] [.slot 2 0,.slot 3 0] (Lj sp ci it f0 l0 f1 l1 f2 l2 c0 c1 c2 p y cw ws i) (xK sp ci it f0 l0 f1 l1 f2 l2 c0 c1 c2 p y cw ws i)
theorem QFg sp ci it f0 l0 f1 l1 f2 l2 c0 c1 c2 p y cw ws i:Te sp ci it f0 l0 f1 l1 f2 l2 c0 c1 c2 p y cw ws i=(let Z0:Int:=(i:Int);let Z1:Int:=(ws.length:Int);let Z2:Qq:=List.getD ws Z0.toNat (Qq.mk 0 0);let Z3:bQ:=D.bI (D.bI (D.sl ca.bP f0 l0) (.bI (D.sl ca.bP f1 l1) (.bI (D.sl ca.bP f2 l2) .bN))) (.bI (D.arr ca.int 3 [c0,c1,c2]) .bN);let Z4:b9:=[some (Obj.var 51 (.bI (cq p) (.bI (D.bool y) (.bI (D.sl ca.write cw ws) .bN))))];bif decide (Z0<Z1)then cb (ep Z0 Z1) (cb (decide (it.length<=1000)) (some ((X.normal,[(2,D.ptr 0 []),(3,D.ptr 1 []),(16,D.sl ca.write cw ws),(17,cq Z1),(18,cq (cX (Z0+1)))]),some (Obj.var 34 (.bI (cq sp) (.bI (D.sl ca.cE false (lH it (Item.mk (Qq.key Z2) p (Qq.value Z2)))) Z3)))::Z4)))else some ((X.exit 0,[]),some (Obj.var 34 (.bI (cq sp) (.bI (D.sl ca.cE ci it) Z3)))::Z4)):=by kernel_rfl
def Hm(sp:Int)(ci:Bool)(it:bM)(f0:Bool)(l0:bJ)(f1:Bool)(l1:bJ)(f2:Bool)(l2:bJ)(c0 c1 c2 p:Int)(y cw:Bool)(ws:cA)(i:Nat):RT RC:=.leaf (.exit 0) [] (xK sp (bif decide (i<ws.length)then false else ci) (rR p it (ws.drop i)) f0 l0 f1 l1 f2 l2 c0 c1 c2 p y cw ws i)
def B4(sp:Int)(ci:Bool)(it:bM)(f0:Bool)(l0:bJ)(f1:Bool)(l1:bJ)(f2:Bool)(l2:bJ)(c0 c1 c2 p:Int)(y cw:Bool)(ws:cA)(i:Nat):Prop:=i<=ws.length/\ws.length<=1000/\it.length+(ws.length-i)<=1000
def uK:QK RC SG where
 k:=2
 cS q:=Lj q.sp q.ci q.it q.f0 q.l0 q.f1 q.l1 q.f2 q.l2 q.c0 q.c1 q.c2 q.p q.y q.cw q.ws q.i
 cR q:=xK q.sp q.ci q.it q.f0 q.l0 q.f1 q.l1 q.f2 q.l2 q.c0 q.c1 q.c2 q.p q.y q.cw q.ws q.i
 fin q:=Hm q.sp q.ci q.it q.f0 q.l0 q.f1 q.l1 q.f2 q.l2 q.c0 q.c1 q.c2 q.p q.y q.cw q.ws q.i
 Inv q:=B4 q.sp q.ci q.it q.f0 q.l0 q.f1 q.l1 q.f2 q.l2 q.c0 q.c1 q.c2 q.p q.y q.cw q.ws q.i
 μ q:=q.ws.length-q.i
theorem Qwm sp ci it f0 l0 f1 l1 f2 l2 c0 c1 c2 p y cw ws i(hI:B4 sp ci it f0 l0 f1 l1 f2 l2 c0 c1 c2 p y cw ws i):dw (Te sp ci it f0 l0 f1 l1 f2 l2 c0 c1 c2 p y cw ws i) (dF uK ⟨sp,ci,it,f0,l0,f1,l1,f2,l2,c0,c1,c2,p,y,cw,ws,i⟩):=by
 (rw[QFg];delta cb ep cq cX;conv=>zeta)
 unfold B4 at hI;obtain⟨h1,h3,h2⟩:=hI
 by_cases cY:i<ws.length
 ·have cN:=fa i (by omega)
  have ei:=gv (show i<ws.length by omega)
  have ef:=fV (show i<ws.length by omega)
  have dp:=bw i
  simp only[cN,ei,ef,dp,ag];have hd:ws.drop i=ws.getD i ⟨0,0⟩::ws.drop (i+1):=by rw[aJ cY];simp[cY]
  generalize ws.getD i ⟨0,0⟩=x at *
  have hc:decide (it.length<=1000)=true:=by simp;omega
  have hp:=MX it ⟨x.key,p,x.value⟩;simp only[hc,ag];refine Qg (S:=uK) ⟨sp,false,lH it ⟨x.key,p,x.value⟩,f0,l0,f1,l1,f2,l2,c0,c1,c2,p,y,cw,ws,i+1⟩ (show B4 (sp) (false) (lH it ⟨x.key,p,x.value⟩) (f0) (l0) (f1) (l1) (f2) (l2) (c0) (c1) (c2) (p) (y) (cw) (ws) (i+1)from⟨by omega,h3,by omega⟩) (by simp only[uK];omega) ?_ rfl rfl
  have e:(bif decide (i+1<ws.length)then false else false)=(bif decide (i<ws.length)then false else ci):=by
   rw[ab cY];cases decide (i+1<ws.length)<;>rfl
  simp only[uK,Hm,xK,hd,rR,List.foldl_cons,e]
 ·have d1:decide ((i:Int)<ws.length)=false:=by simp;omega
  have d2:decide (i<ws.length)=false:=by simp;omega
  rw[d1];simp only[ah];have e:ws.drop i=[]:=aO (by omega);refine Qi (xK sp ci it f0 l0 f1 l1 f2 l2 c0 c1 c2 p y cw ws i) ?_ rfl;simp only[uK,Hm,e,rR,List.foldl_nil,d2,ah,RT.val]
def Lk(env:bX)(os:bR):Option (Bool×SG):=match env,os with
 |[(2,.ptr 0 []),(3,.ptr 1 []),(16,.sl .write x0 x1),(17,.int .i64 x2),(18,.int .i64 x3)],[.var 34 (.bI (.int .i64 sp) (.bI (.sl .cE ci it) (.bI (.bI (.sl .bP f0 l0) (.bI (.sl .bP f1 l1) (.bI (.sl .bP f2 l2) .bN))) (.bI (.arr .int 3 [c0,c1,c2]) .bN)))),.var 51 (.bI (.int .i64 p) (.bI (.bool y) (.bI (.sl .write cw ws) .bN)))]=>some (decide (x0=(cw))&&decide (x1=(ws))&&decide (x2=ws.length)&&decide (x3=0)&&decide (it.length+ws.length<=1000),⟨sp,ci,it,f0,l0,f1,l1,f2,l2,c0,c1,c2,p,y,cw,ws,0⟩)
 |_,_=>none
def zY:=zX.cP 36 5 (eZ cF [.slot 2 0,.slot 3 0] [2,3,16,17,18] uK Lk)
theorem Qwn:Qj Tryz.prog cF zY:=by
 refine Qwl.cJ Qb (by kernel_rfl) uK 40 [2,3,16,17,18] [] [.slot 2 0,.slot 3 0] [2,3,16,17,18] Lk (fun q hI=>?_) ?_
 ·obtain⟨sp,ci,it,f0,l0,f1,l1,f2,l2,c0,c1,c2,p,y,cw,ws,i⟩:=q;refine⟨?_,?_,Qwm sp ci it f0 l0 f1 l1 f2 l2 c0 c1 c2 p y cw ws i hI⟩
  ·simp_all[Qk,uK,Lj,xK,B4,D.refs,Obj.refs,de]
  ·simp_all[uK,Hm,xK,B4,RT.da,Qk,D.refs,Obj.refs,de]
 ·intro env os b q cW hb;unfold Lk at cW
  split at cW
  ·cases cW;simp only[ai,aa]at hb;obtain⟨⟨⟨⟨rfl,rfl⟩,rfl⟩,rfl⟩,h1⟩:=hb;exact⟨⟨aK _,bk (Nat.le_add_left _ _) h1,by simpa using h1⟩,rfl,rfl⟩
  ·cases cW
def Xo:bW->bO
 |[.bI (.int .i64 sp) (.bI (.sl .cE ci it) (.bI (.bI (.sl .bP f0 l0) (.bI (.sl .bP f1 l1) (.bI (.sl .bP f2 l2) .bN))) (.bI (.arr .int 3 [c0,c1,c2]) .bN))),.bI (.int .i64 p) (.bI (.bool y) (.bI (.sl .write cw ws) .bN))]=>some (decide (it.length+ws.length<=1000/\l0.length<=1000/\l1.length<=1000/\l2.length<=1000),pe (Zx ⟨sp,it,l0,l1,l2,c0,c1,c2⟩ ⟨p,y,ws⟩))
 |_=>none
def QnZ(sp:Int)(ci:Bool)(it:bM)(f0:Bool)(l0:bJ)(f1:Bool)(l1:bJ)(f2:Bool)(l2:bJ)(c0 c1 c2 p:Int)(y cw:Bool)(ws:cA):=lY cF zY 200 36 [.bI (.int .i64 sp) (cL .cE ci it (.bI (cL .bP f0 l0 (cL .bP f1 l1 (cL .bP f2 l2 .bN))) (.bI (.arr (C:=RC) .int 3 [c0,c1,c2]) .bN))),.bI (.int .i64 p) (.bI (.bool y) (cL .write cw ws .bN))]
theorem Qwo sp ci it f0 l0 f1 l1 f2 l2 c0 c1 c2 p y cw ws:QnZ sp ci it f0 l0 f1 l1 f2 l2 c0 c1 c2 p y cw ws=(let Z0:=ws.length;let Z1:Rec:=Rec.mk p y ws;bif !y then some (D.bI (cq p) (.bI (D.sl ca.cE false it) (.bI (D.bI (D.sl ca.bP false l0) (.bI (D.sl ca.bP false l1) (.bI (D.sl ca.bP false l2) .bN))) (.bI (D.arr ca.int 3 [c0,c1,c2]) .bN))))else cb (Qc Z0) (cb (decide (cw=cw)&&decide (ws=ws)&&decide ((Z0:Int)=(Z0:Int))&&true&&decide (it.length+Z0<=1000)) (cb (decide (l0.length<=1000/\Z0<=1000)) (cb (decide (l1.length<=1000/\Z0<=1000)) (cb (decide (l2.length<=1000/\Z0<=1000)) (some (D.bI (cq p) (.bI (D.sl ca.cE false (rR p it (List.drop 0 ws))) (.bI (D.bI (D.sl ca.bP false (VC l0 Z1 0)) (.bI (D.sl ca.bP false (VC l1 Z1 1)) (.bI (D.sl ca.bP false (VC l2 Z1 2)) .bN))) (.bI (D.arr ca.int 3 [Jb l0 c0 Z1 0,Jb l1 c1 Z1 1,Jb l2 c2 Z1 2]) .bN)))))))))):=by kernel_rfl
theorem Qwp sp ci it f0 l0 f1 l1 f2 l2 c0 c1 c2 p y cw ws(h:(decide (it.length+ws.length<=1000/\l0.length<=1000/\l1.length<=1000/\l2.length<=1000))=true):QnZ sp ci it f0 l0 f1 l1 f2 l2 c0 c1 c2 p y cw ws=some (pe (Zx ⟨sp,it,l0,l1,l2,c0,c1,c2⟩ ⟨p,y,ws⟩)):=by
 (rw[Qwo];delta cb cq;conv=>zeta)
 obtain⟨h0,h1,h2,h3⟩:=af h;cases y
 ·exact Qa rfl rfl
 exact Qn rfl (Qa (Qd (by omega)) (Qa (by simp;omega) (Qa (by simp;omega) (Qa (by simp;omega) (Qa (by simp;omega) rfl)))))
def zZ:=zY.cm 36 Xo
theorem Qwq:Qj Tryz.prog cF zZ:=Qwn.j5 Qb fun args d h=>by
 unfold Xo at h
 split at h
 ·obtain⟨h1,rfl⟩:=ak h;exact⟨by simp[D.refs,pe],200,Qwp _ _ _ _ _ _ _ _ _ _ _ _ _ _ _ _ h1⟩
 ·cases h
structure SH where
 (sp:Int)(ci:Bool)(it:bM)(f0:Bool)(l0:bJ)(f1:Bool)(l1:bJ)(f2:Bool)(l2:bJ)(c0 c1 c2 p:Int)(y cw:Bool)(ws:cA)(i:Nat)
def Ll(sp:Int)(ci:Bool)(it:bM)(f0:Bool)(l0:bJ)(f1:Bool)(l1:bJ)(f2:Bool)(l2:bJ)(c0 c1 c2 p:Int)(y cw:Bool)(ws:cA)(i:Nat):bX:=[(2,.ptr 0 []),(3,.ptr 1 []),(5,.int .i64 (i:Int))]
def xL(sp:Int)(ci:Bool)(it:bM)(f0:Bool)(l0:bJ)(f1:Bool)(l1:bJ)(f2:Bool)(l2:bJ)(c0 c1 c2 p:Int)(y cw:Bool)(ws:cA)(i:Nat):bR:=[.var 34 (cG sp (cL .cE ci it (.bI (cL .bP f0 l0 (cL .bP f1 l1 (cL .bP f2 l2 .bN))) (.bI (.arr (C:=RC) .int 3 [c0,c1,c2]) .bN)))),.var 51 (cG p (.bI (.bool y) (cL .write cw ws .bN)))]
def Tf sp ci it f0 l0 f1 l1 f2 l2 c0 c1 c2 p y cw ws i:=eF cF zZ 40 5 40 2 [2,3,5] [] [.slot 2 0,.slot 3 0] (Ll sp ci it f0 l0 f1 l1 f2 l2 c0 c1 c2 p y cw ws i) (xL sp ci it f0 l0 f1 l1 f2 l2 c0 c1 c2 p y cw ws i)
theorem QFi sp ci it f0 l0 f1 l1 f2 l2 c0 c1 c2 p y cw ws i:Tf sp ci it f0 l0 f1 l1 f2 l2 c0 c1 c2 p y cw ws i=(let Z0:Int:=(i:Int);let Z1:Bool:=ep Z0 (ws.length:Int);let Z2:Qq:=List.getD ws Z0.toNat (Qq.mk 0 0);let Z3:bQ:=D.bI (D.bI (D.sl ca.bP f0 l0) (.bI (D.sl ca.bP f1 l1) (.bI (D.sl ca.bP f2 l2) .bN))) (.bI (D.arr ca.int 3 [c0,c1,c2]) .bN);let Z4:b9:=[some (Obj.var 51 (.bI (cq p) (.bI (D.bool y) (.bI (D.sl ca.write cw ws) .bN))))];cb (Qc ws.length) (bif decide (Z0<(ws.length:Int))then cb Z1 (cb Z1 (cb (decide (it.length<=1000)) (some ((X.normal,[(2,D.ptr 0 []),(3,D.ptr 1 []),(5,cq (cX (Z0+1)))]),some (Obj.var 34 (.bI (cq sp) (.bI (D.sl ca.cE false (lH it (Item.mk (Qq.key Z2) p (Qq.value Z2)))) Z3)))::Z4))))else some ((X.exit 0,[]),some (Obj.var 34 (.bI (cq sp) (.bI (D.sl ca.cE ci it) Z3)))::Z4))):=by kernel_rfl
def Hn(sp:Int)(ci:Bool)(it:bM)(f0:Bool)(l0:bJ)(f1:Bool)(l1:bJ)(f2:Bool)(l2:bJ)(c0 c1 c2 p:Int)(y cw:Bool)(ws:cA)(i:Nat):RT RC:=.leaf (.exit 0) [] (xL sp (bif decide (i<ws.length)then false else ci) (rR p it (ws.drop i)) f0 l0 f1 l1 f2 l2 c0 c1 c2 p y cw ws i)
def B5(sp:Int)(ci:Bool)(it:bM)(f0:Bool)(l0:bJ)(f1:Bool)(l1:bJ)(f2:Bool)(l2:bJ)(c0 c1 c2 p:Int)(y cw:Bool)(ws:cA)(i:Nat):Prop:=i<=ws.length/\ws.length<=1000/\it.length+(ws.length-i)<=1000
def uL:QK RC SH where
 k:=2
 cS q:=Ll q.sp q.ci q.it q.f0 q.l0 q.f1 q.l1 q.f2 q.l2 q.c0 q.c1 q.c2 q.p q.y q.cw q.ws q.i
 cR q:=xL q.sp q.ci q.it q.f0 q.l0 q.f1 q.l1 q.f2 q.l2 q.c0 q.c1 q.c2 q.p q.y q.cw q.ws q.i
 fin q:=Hn q.sp q.ci q.it q.f0 q.l0 q.f1 q.l1 q.f2 q.l2 q.c0 q.c1 q.c2 q.p q.y q.cw q.ws q.i
 Inv q:=B5 q.sp q.ci q.it q.f0 q.l0 q.f1 q.l1 q.f2 q.l2 q.c0 q.c1 q.c2 q.p q.y q.cw q.ws q.i
 μ q:=q.ws.length-q.i
theorem Qwr sp ci it f0 l0 f1 l1 f2 l2 c0 c1 c2 p y cw ws i(hI:B5 sp ci it f0 l0 f1 l1 f2 l2 c0 c1 c2 p y cw ws i):dw (Tf sp ci it f0 l0 f1 l1 f2 l2 c0 c1 c2 p y cw ws i) (dF uL ⟨sp,ci,it,f0,l0,f1,l1,f2,l2,c0,c1,c2,p,y,cw,ws,i⟩):=by
 (rw[QFi];delta cb ep cq cX;conv=>zeta)
 unfold B5 at hI;obtain⟨h1,h3,h2⟩:=hI;have lk:Qc ws.length=true:=Qd (by omega)
 by_cases cY:i<ws.length
 ·have cN:=fa i (by omega)
  have ei:=gv (show i<ws.length by omega)
  have ef:=fV (show i<ws.length by omega)
  have dp:=bw i
  simp only[cN,ei,ef,dp,ag];have hd:ws.drop i=ws.getD i ⟨0,0⟩::ws.drop (i+1):=by rw[aJ cY];simp[cY]
  generalize ws.getD i ⟨0,0⟩=x at *
  have hc:decide (it.length<=1000)=true:=by simp;omega
  have hp:=MX it ⟨x.key,p,x.value⟩;simp only[hc,lk,ag];refine Qg (S:=uL) ⟨sp,false,lH it ⟨x.key,p,x.value⟩,f0,l0,f1,l1,f2,l2,c0,c1,c2,p,y,cw,ws,i+1⟩ (show B5 (sp) (false) (lH it ⟨x.key,p,x.value⟩) (f0) (l0) (f1) (l1) (f2) (l2) (c0) (c1) (c2) (p) (y) (cw) (ws) (i+1)from⟨by omega,h3,by omega⟩) (by simp only[uL];omega) ?_ rfl rfl
  have e:(bif decide (i+1<ws.length)then false else false)=(bif decide (i<ws.length)then false else ci):=by
   rw[ab cY];cases decide (i+1<ws.length)<;>rfl
  simp only[uL,Hn,xL,hd,rR,List.foldl_cons,e]
 ·have d1:decide ((i:Int)<ws.length)=false:=by simp;omega
  have d2:decide (i<ws.length)=false:=by simp;omega
  rw[lk,d1];simp only[ag,ah];have e:ws.drop i=[]:=aO (by omega);refine Qi (xL sp ci it f0 l0 f1 l1 f2 l2 c0 c1 c2 p y cw ws i) ?_ rfl;simp only[uL,Hn,e,rR,List.foldl_nil,d2,ah,RT.val]
def Lm(env:bX)(os:bR):Option (Bool×SH):=match env,os with
 |[(2,.ptr 0 []),(3,.ptr 1 []),(5,.int .i64 x0)],[.var 34 (.bI (.int .i64 sp) (.bI (.sl .cE ci it) (.bI (.bI (.sl .bP f0 l0) (.bI (.sl .bP f1 l1) (.bI (.sl .bP f2 l2) .bN))) (.bI (.arr .int 3 [c0,c1,c2]) .bN)))),.var 51 (.bI (.int .i64 p) (.bI (.bool y) (.bI (.sl .write cw ws) .bN)))]=>some (decide (x0=0)&&decide (it.length+ws.length<=1000),⟨sp,ci,it,f0,l0,f1,l1,f2,l2,c0,c1,c2,p,y,cw,ws,0⟩)
 |_,_=>none
def z0:=zZ.cP 40 5 (eZ cF [.slot 2 0,.slot 3 0] [2,3,5] uL Lm)
theorem Qws:Qj Tryz.prog cF z0:=by
 refine Qwq.cJ Qb (by kernel_rfl) uL 40 [2,3,5] [] [.slot 2 0,.slot 3 0] [2,3,5] Lm (fun q hI=>?_) ?_
 ·obtain⟨sp,ci,it,f0,l0,f1,l1,f2,l2,c0,c1,c2,p,y,cw,ws,i⟩:=q;refine⟨?_,?_,Qwr sp ci it f0 l0 f1 l1 f2 l2 c0 c1 c2 p y cw ws i hI⟩
  ·simp_all[Qk,uL,Ll,xL,B5,D.refs,Obj.refs,de]
  ·simp_all[uL,Hn,xL,B5,RT.da,Qk,D.refs,Obj.refs,de]
 ·intro env os b q cW hb;unfold Lm at cW
  split at cW
  ·cases cW;simp only[ai,aa]at hb;obtain⟨rfl,h1⟩:=hb;exact⟨⟨aK _,bk (Nat.le_add_left _ _) h1,by simpa using h1⟩,rfl,rfl⟩
  ·cases cW
def Xp:bW->bO
 |[.bI (.int .i64 sp) (.bI (.sl .cE ci it) (.bI (.bI (.sl .bP f0 l0) (.bI (.sl .bP f1 l1) (.bI (.sl .bP f2 l2) .bN))) (.bI (.arr .int 3 [c0,c1,c2]) .bN))),.bI (.int .i64 p) (.bI (.bool y) (.bI (.sl .write cw ws) .bN))]=>some (decide (it.length+ws.length<=1000/\l0.length<=1000/\l1.length<=1000/\l2.length<=1000),pe (Zx ⟨sp,it,l0,l1,l2,c0,c1,c2⟩ ⟨p,y,ws⟩))
 |_=>none
def Qn1(sp:Int)(ci:Bool)(it:bM)(f0:Bool)(l0:bJ)(f1:Bool)(l1:bJ)(f2:Bool)(l2:bJ)(c0 c1 c2 p:Int)(y cw:Bool)(ws:cA):=lY cF z0 200 40 [.bI (.int .i64 sp) (cL .cE ci it (.bI (cL .bP f0 l0 (cL .bP f1 l1 (cL .bP f2 l2 .bN))) (.bI (.arr (C:=RC) .int 3 [c0,c1,c2]) .bN))),.bI (.int .i64 p) (.bI (.bool y) (cL .write cw ws .bN))]
theorem Qwt sp ci it f0 l0 f1 l1 f2 l2 c0 c1 c2 p y cw ws:Qn1 sp ci it f0 l0 f1 l1 f2 l2 c0 c1 c2 p y cw ws=(let Z0:Rec:=Rec.mk p y ws;bif !y then some (D.bI (cq p) (.bI (D.sl ca.cE false it) (.bI (D.bI (D.sl ca.bP false l0) (.bI (D.sl ca.bP false l1) (.bI (D.sl ca.bP false l2) .bN))) (.bI (D.arr ca.int 3 [c0,c1,c2]) .bN))))else cb (decide (it.length+ws.length<=1000)) (cb (decide (l0.length<=1000/\ws.length<=1000)) (cb (decide (l1.length<=1000/\ws.length<=1000)) (cb (decide (l2.length<=1000/\ws.length<=1000)) (some (D.bI (cq p) (.bI (D.sl ca.cE false (rR p it (List.drop 0 ws))) (.bI (D.bI (D.sl ca.bP false (VC l0 Z0 0)) (.bI (D.sl ca.bP false (VC l1 Z0 1)) (.bI (D.sl ca.bP false (VC l2 Z0 2)) .bN))) (.bI (D.arr ca.int 3 [Jb l0 c0 Z0 0,Jb l1 c1 Z0 1,Jb l2 c2 Z0 2]) .bN))))))))):=by kernel_rfl
theorem Qwu sp ci it f0 l0 f1 l1 f2 l2 c0 c1 c2 p y cw ws(h:(decide (it.length+ws.length<=1000/\l0.length<=1000/\l1.length<=1000/\l2.length<=1000))=true):Qn1 sp ci it f0 l0 f1 l1 f2 l2 c0 c1 c2 p y cw ws=some (pe (Zx ⟨sp,it,l0,l1,l2,c0,c1,c2⟩ ⟨p,y,ws⟩)):=by
 (rw[Qwt];delta cb cq;conv=>zeta)
 obtain⟨h0,h1,h2,h3⟩:=af h;cases y
 ·exact Qa rfl rfl
 exact Qn rfl (Qa (by simp;omega) (Qa (by simp;omega) (Qa (by simp;omega) (Qa (by simp;omega) rfl))))
def z4:=z0.cm 40 Xp
theorem Qwv:Qj Tryz.prog cF z4:=Qws.j5 Qb fun args d h=>by
 unfold Xp at h
 split at h
 ·obtain⟨h1,rfl⟩:=ak h;exact⟨by simp[D.refs,pe],200,Qwu _ _ _ _ _ _ _ _ _ _ _ _ _ _ _ _ h1⟩
 ·cases h
end Go.Ev
