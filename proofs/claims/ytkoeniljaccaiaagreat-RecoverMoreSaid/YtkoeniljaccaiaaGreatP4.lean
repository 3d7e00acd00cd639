/-
  A part of the proof of a statement of this seat: the model is run over values by content, proved sound; what the functions come to. No condition beyond the given statements. (text 5)
-/
import Derived.Test.YtkoeniljaccaiaaGreatP3
namespace Go.Ev
open Go.Proofs
set_option maxRecDepth 100000
set_option linter.unusedVariables false
set_option linter.unusedSimpArgs false
def Qhc (n:Int):Option (Bool × D RC):=some (decide (n <= 1000000),.int .i64 (bif decide (n < 0) || decide (600 < n) then 0 else n+12))
def Qen:List (D RC)->Option (Bool × D RC)
 | [.int .i64 n]=>Qhc n
 | _=>none
noncomputable def Qhd (n:Int):=evF s28 Qtf 40 204 [.int .i64 n]
theorem Ql9 (n:Int):Qhd n=(let Z0:DO_:=some (D.int .i64 0);bif decide (n < (0:Int)) then Z0 else bif decide ((600:Int) < n) then Z0 else some (D.int .i64 (IntKind.wrap .i64 (IntKind.wrap .i64 ((8:Int)+n)+(4:Int))))):=by kernel_rfl
theorem Qma (n:Int) (h:(decide (n <= 1000000))=true):Qhd n=some (.int .i64 (bif decide (n < 0) || decide (600 < n) then 0 else n+12)):=by
 (rw [Ql9];conv=>zeta)
 have hl:=of_decide_eq_true h
 by_cases h0:n < 0
 · simp [h0]
 by_cases h6:600 < n
 · simp [h0,h6]
 have w1:IntKind.i64.wrap (8+n)=8+n:=wrap_id (by omega) (by omega)
 have w2:IntKind.i64.wrap (8+n+4)=8+n+4:=wrap_id (by omega) (by omega)
 simp [h0,h6,w1,w2];omega
noncomputable def uf_1:=Qtf.addSpec 204 Qen
theorem Qmb:Qi Tryz.prog s28 uf_1:=QiQ.addEv Qb fun args d h=>by
 unfold Qen at h
 split at h
 · unfold Qhc at h;have h1:=congrArg Prod.fst (Option.some.inj h);obtain rfl:_=d:=congrArg Prod.snd (Option.some.inj h);exact ⟨by simp [D.refs],40,Qma _ h1⟩
 · cases h
def Qeo (n:Int) (b:List UInt8):Option (Bool × D RC):=some (decide (b.length <= 1000000),.tup (.acons (.str (bif okF n b then ZX n b else [])) (.acons (.int .i64 (bif okF n b then 0 else 2)) .anil)))
def Qb6:List (D RC)->Option (Bool × D RC)
 | [.int .i64 n,.str b]=>Qeo n b
 | _=>none
noncomputable def Qep (n:Int) (b:List UInt8):=evF s28 uf_1 60 189 [.int .i64 n,.str b]
theorem QiR (n:Int) (b:List UInt8):Qep n b=(let Z0:DO_:=some (D.tup (D.acons (D.str (Array.toList #[])) (.acons (D.int .i64 2) .anil)));let Z1:Nat:=List.length b;let Z2:Int:=(↑Z1:Int);let Z3:Nat:=(0:Nat)+List.length (putL [] n (6:Nat));let Z4:Nat:=List.length ([]++putL [] n (6:Nat));let Z5:Nat:=List.length (putL [] Z2 (2:Nat));let Z6:List UInt8:=[]++putL [] n (6:Nat)++putL [] Z2 (2:Nat);let Z7:Nat:=List.length (Z6++b);let Z8:DO_:=none;bif (bif Q2 n (6:Nat) then (0:Int) else (2:Int)) != (0:Int) then Z0 else bif decide (n < (1:Int)) then Z0 else bif decide ((1048575:Int) < n) then Z0 else bif Qh Z1 then bif decide (Z2 <= (1000000:Int)) then bif (bif decide (Z2 < (0:Int)) || decide ((600:Int) < Z2) then (0:Int) else Z2+(12:Int)) == (0:Int) then Z0 else bif Qh Z1 then bif Qk Z1 (1:Nat) then bif Qk Z3 (1:Nat) then bif Nat.beq Z3 Z4 && Qk (Z3+Z5) (1:Nat) then bif Nat.beq (Z4+Z5) Z6.length && Qk (Z4+Z5+Z1) (1:Nat) then bif Nat.beq (List.length Z6+Z1) Z7 then bif decide (Z7 <= (1000000:Nat)) then some (D.tup (D.acons (D.str (ZG (Z6++b))) (.acons (D.int .i64 0) .anil))) else Z8 else Z8 else Z8 else Z8 else Z8 else Z8 else Z8 else Z8 else Z8):=by kernel_rfl
theorem QiS (n:Int) (b:List UInt8) (h:(decide (b.length <= 1000000))=true):Qep n b=some (.tup (.acons (.str (bif okF n b then ZX n b else [])) (.acons (.int .i64 (bif okF n b then 0 else 2)) .anil))):=by
 (rw [QiR];conv=>zeta)
 have hl:=of_decide_eq_true h;have lb:Qh b.length=true:=Qe (by omega)
 have ld:decide ((b.length:Int) <= 1000000)=true:=by simp;omega
 have no:okF n b=false->some (D.tup (.acons (.str []) (.acons (.int .i64 2) .anil)))=some (.tup (.acons (.str (bif okF n b then ZX n b else [])) (.acons (.int .i64 (bif okF n b then 0 else 2)) .anil)):D RC):=fun e=>by rw [e];rfl
 refine QD (fun e=>no (JN fun f=>by rw [show Q2 n 6=true by rw [ZU];omega] at e;cases e)) fun e0=>?_
 refine QD (fun e=>no (JN fun f=>by simp only [decide_eq_true_eq] at e;omega)) fun e1=>?_
 refine QD (fun e=>no (JN fun f=>by simp only [decide_eq_true_eq] at e;omega)) fun e2=>?_
 refine Qa lb (Qa ld ?_);simp only [decide_eq_false_iff_not] at e1 e2
 by_cases h6:600 < (b.length:Int)
 · refine Qa ?_ (no (JN fun f=>by omega))
   simp [h6]
 refine Qy ?_ ?_
 · have:¬ (b.length:Int) < 0:=by omega
   simp [this,h6];omega
 have ok:okF n b=true:=by simp only [okF,Bool.and_eq_true,decide_eq_true_eq];omega
 have f6:Q2 n 6=true:=by rw [ZU];omega
 have f2:Q2 (b.length:Int) 2=true:=by rw [ZU];omega
 have p6:putL [] n 6=leB n 6:=(QdZ f6).trans (List.nil_append _);have p2:putL [] (b.length:Int) 2=leB b.length 2:=(QdZ f2).trans (List.nil_append _);simp only [p6,p2,List.nil_append,Zh,List.length_append,Nat.zero_add];have hb6:b.length <= 600:=by omega
 have es:∀ k:Nat,k <= 700->Qk k 1=true:=fun k hk=>YO (by omega)
 have eb:∀ n:Nat,n.beq n=true:=fun n=>by simp
 have ed:decide (6+2+b.length <= 1000000)=true:=by simp;omega
 simp (disch:=omega) only [es,eb,lb,ed,Bool.and_self,cond_true];rw [ok];rfl
noncomputable def uf_2:=uf_1.addSpec 189 Qb6
theorem Qmc:Qi Tryz.prog s28 uf_2:=Qmb.addEv Qb fun args d h=>by
 unfold Qb6 at h
 split at h
 · unfold Qeo at h;have h1:=congrArg Prod.fst (Option.some.inj h);obtain rfl:_=d:=congrArg Prod.snd (Option.some.inj h);exact ⟨by simp [D.refs],60,QiS _ _ h1⟩
 · cases h
def Qhe (b:List UInt8):Option (Bool × D RC):=some (decide (b.length <= 1000000),.tup (.acons (.int .i64 (frN b)) (.acons (.str (frL b)) (.acons (.int .i64 (bif (VO b).isNone then 50 else 0)) .anil))))
def Qeq:List (D RC)->Option (Bool × D RC)
 | [.str b]=>Qhe b
 | _=>none
noncomputable def Qhf (b:List UInt8):=evF s28 uf_2 60 144 [.str b]
theorem Qmd (b:List UInt8):Qhf b=(let Z0:List UInt8:=(fun (l:List UInt8)=>l) b;let Z1:List UInt8:=Option.getD (Zj Z0) [];let Z2:Nat:=List.length Z1;let Z3:Bool:=decide (Z2 <= (1000000000000:Nat));let Z4:D RC:=D.int .i64 0;let Z5:DO_:=some (D.tup (D.acons Z4 (D.acons (D.str (Array.toList #[])) (.acons (D.int .i64 50) .anil))));let Z6:Int × Int:=getP Z1 (6:Int) (2:Int);let Z7:Int:=(↑Z2:Int);let Z8:Int:=Prod.fst (getP Z1 (0:Int) (6:Int));bif Qk b.length (1:Nat) then bif decide (List.length Z0 <= (1000000:Nat)) then bif Z3 then bif Z3 then bif (bif Option.isNone (Zj Z0) then (50:Int) else (0:Int)) != (0:Int) then Z5 else bif Prod.snd Z6 != (0:Int) then Z5 else bif Qh Z2 then bif bif Prod.fst Z6 != IntKind.wrap .i64 (IntKind.wrap .i64 (Z7 - (6:Int)) - (2:Int)) then true else bif decide ((600:Int) < Prod.fst Z6) then true else bif decide (Z8 < (1:Int)) then true else decide ((1048575:Int) < Z8) then Z5 else bif Qh Z2 then bif Qh Z2 then bif decide ((0:Int) <= (8:Int) /\ (8:Int) <= Z7 /\ Z7 <= Z7 /\ Z7=Z7) then some (D.tup (D.acons (D.int .i64 Z8) (.acons (D.str (List.drop (8:Nat) (List.take Z7.toNat Z1))) (.acons Z4 .anil)))) else none else none else none else none else none else none else none else none):=by kernel_rfl
theorem Qme (b:List UInt8) (h:(decide (b.length <= 1000000))=true):Qhf b=some (.tup (.acons (.int .i64 (frN b)) (.acons (.str (frL b)) (.acons (.int .i64 (bif (VO b).isNone then 50 else 0)) .anil)))):=by
 (rw [Qmd];conv=>zeta)
 have hl:=of_decide_eq_true h;have hs:Qk b.length 1=true:=YO (by omega)
 cases hq:Zj b with
 | none =>
  have hr:VO b=none:=by simp [VO,hq]
  simp [hs,hl,hq,hr,frN,frL]
 | some x =>
  have hx:=Qk4 hq;have lk:Qh x.length=true:=Qe (by omega)
  have d1:x.length <= 1000000000000:=by omega
  have hr:VO b=if 8 <= x.length /\ leVal ((x.drop 6).take 2)+8=x.length /\ x.length <= 608 /\ 1 <= leVal (x.take 6) /\ leVal (x.take 6) <= 1048575 then some ((leVal (x.take 6):Int),x.drop 8) else none:=by simp only [VO,hq]
  by_cases h8:x.length < 8
  · have g2:getP x 6 2=(0,50):=QpN (by omega) (by omega) (by omega)
    have hr':VO b=none:=by rw [hr,if_neg (by omega)]
    simp [hs,hl,hq,hr',g2,d1,frN,frL]
  · have g2:getP x 6 2=((leVal ((x.drop 6).take 2):Int),0):=Ql8 (by omega) (by omega) (by omega) (by omega)
    have g6:getP x 0 6=((leVal (x.take 6):Int),0):=Ql8 (by omega) (by omega) (by omega) (by omega)
    have w1:IntKind.i64.wrap ((x.length:Int) - 6)=x.length - 6:=wrap_id (by omega) (by omega)
    have w2:IntKind.i64.wrap ((x.length:Int) - 6 - 2)=x.length - 6 - 2:=wrap_id (by omega) (by omega)
    have dd:(0:Int) <= 8 /\ 8 <= (x.length:Int) /\ (x.length:Int) <= x.length /\ (x.length:Int)=x.length:=by omega
    generalize leVal ((x.drop 6).take 2)=v2 at hr g2;generalize leVal (x.take 6)=v6 at hr g6
    by_cases C:8 <= x.length /\ v2+8=x.length /\ x.length <= 608 /\ 1 <= v6 /\ v6 <= 1048575
    · rw [if_pos C] at hr;have c1:((v2:Int) != (x.length:Int) - 6 - 2)=false:=by simp [bne];omega
      have c2:¬ 600 < (v2:Int):=by omega
      have c3:¬ (v6:Int) < 1:=by omega
      have c4:¬ 1048575 < (v6:Int):=by omega
      have dx:(8:Int) <= x.length:=by omega
      simp [hs,hl,hq,hr,g2,g6,d1,frN,frL,lk,w1,w2,c1,c2,c3,c4,dx]
    · rw [if_neg C] at hr
      have c5:(bif ((v2:Int) != (x.length:Int) - 6 - 2) then true else bif decide (600 < (v2:Int)) then true else bif decide ((v6:Int) < 1) then true else decide (1048575 < (v6:Int)))=true:=by
       cases c1:((v2:Int) != (x.length:Int) - 6 - 2)
       · simp [bne] at c1
         by_cases c2:600 < (v2:Int)
         · simp [c2]
         by_cases c3:(v6:Int) < 1
         · simp [c3]
         by_cases c4:1048575 < (v6:Int)
         · simp [c4]
         · exact absurd ⟨by omega,by omega,by omega,by omega,by omega⟩ C
       · rfl
      simp only [hs,hl,hq,hr,g2,g6,d1,frN,frL,lk,w1,w2,c5,Option.getD_some,Option.getD_none,Option.isNone_some,Option.isNone_none,cond_true,cond_false,decide_true];rfl
noncomputable def uf_3:=uf_2.addSpec 144 Qeq
theorem Qmf:Qi Tryz.prog s28 uf_3:=Qmc.addEv Qb fun args d h=>by
 unfold Qeq at h
 split at h
 · unfold Qhe at h;have h1:=congrArg Prod.fst (Option.some.inj h);obtain rfl:_=d:=congrArg Prod.snd (Option.some.inj h);exact ⟨by simp [D.refs],60,Qme _ h1⟩
 · cases h
def Qrj (n:Int) (b:List UInt8):Option (Bool × D RC):=some (decide (b.length <= 1000000),.tup (.acons (.str ((ofF ⟨n,b⟩).getD [])) (.acons (.bool (ofF ⟨n,b⟩).isSome) .anil)))
def Qmg:List (D RC)->Option (Bool × D RC)
 | [.acons (.int .i64 n) (.acons (.str b) .anil)]=>Qrj n b
 | _=>none
noncomputable def Qrk (n:Int) (b:List UInt8):=evF s28 uf_3 40 87 [.acons (.int .i64 n) (.acons (.str b) .anil)]
theorem Qth (n:Int) (b:List UInt8):Qrk n b=(let Z0:DO_:=some (D.tup (D.acons (D.str (Array.toList #[])) (.acons (D.bool false) .anil)));bif decide (List.length b <= (1000000:Nat)) then bif (bif Option.isNone (VO b) then (50:Int) else (0:Int)) != (0:Int) then Z0 else bif frN b != n then Z0 else some (D.tup (D.acons (D.str (frL b)) (.acons (D.bool true) .anil))) else none):=by kernel_rfl
theorem Qti (n:Int) (b:List UInt8) (h:(decide (b.length <= 1000000))=true):Qrk n b=some (.tup (.acons (.str ((ofF ⟨n,b⟩).getD [])) (.acons (.bool (ofF ⟨n,b⟩).isSome) .anil))):=by
 (rw [Qth];conv=>zeta)
 rw [h];simp only [frN,frL,ofF,cond_true];cases hr:VO b with
 | none=>rfl
 | some p =>
  obtain ⟨m,l⟩:=p
  by_cases e:m=n
  · subst e;simp [bne]
  · have e2:(m != n)=true:=by simpa [bne] using e
    simp [e,e2]
noncomputable def uf_4:=uf_3.addSpec 87 Qmg
theorem Qmh:Qi Tryz.prog s28 uf_4:=Qmf.addEv Qb fun args d h=>by
 unfold Qmg at h
 split at h
 · unfold Qrj at h;have h1:=congrArg Prod.fst (Option.some.inj h);obtain rfl:_=d:=congrArg Prod.snd (Option.some.inj h);exact ⟨by simp [D.refs],40,Qti _ _ h1⟩
 · cases h
open Go.Proofs
noncomputable def ug_1:=uf_4.addSpec 88 (fun _=>some (false,.tup .anil))
theorem Qmi:Qi Tryz.prog s28 ug_1:=Qmh.addEv Qb fun args d h=>by cases h
noncomputable def Qer (c:Bool) (now:List Sector) (d:Bool) (sure:List Sector):Option (Bool × D RC):=some (Qs now && Qs sure && decide ((now.getD 32 sec0).n=0),.tup (.acons (.int .i64 0) (.acons (.acons (.int .i64 0) (.acons (.sl (C:=RC) .item true []) (.acons (.acons (.sl (C:=RC) .line true []) (.acons (.sl (C:=RC) .line true []) (.acons (.sl (C:=RC) .line true []) .anil))) (.acons (.arr (C:=RC) .int 3 [0,0,0]) .anil)))) (.acons (.int .i64 (bif Qq now sure then 60 else 2)) .anil))))
noncomputable def Qb7:List (D RC)->Option (Bool × D RC)
 | [.acons (.sl .sector c now) (.acons (.sl .sector d sure) .anil)]=>Qer c now d sure
 | _=>none
noncomputable def Qes (c:Bool) (now:List Sector) (d:Bool) (sure:List Sector):=evF s28 ug_1 40 34 [.acons (.sl (C:=RC) .sector c now) (.acons (.sl (C:=RC) .sector d sure) .anil)]
theorem QiT (c:Bool) (now:List Sector) (d:Bool) (sure:List Sector):Qes c now d sure=(let Z0:Int:=bif KL now sure (32:Int) then (0:Int) else (2:Int);let Z1:D RC:=D.int .i64 0;let Z2:D RC:=D.sl RTy.line true [];let Z3:D RC:=D.acons Z1 (D.acons (D.sl RTy.item true []) (.acons (D.acons Z2 (D.acons Z2 (D.acons Z2 .anil))) (.acons (D.arr RTy.int (3:Nat) (List.replicate (3:Nat) (0:Int))) .anil)));let Z4:Sector:=getS now sure (32:Int);bif Qs now && Qs sure then bif Z0 != (0:Int) then some (D.tup (D.acons Z1 (D.acons Z3 (D.acons (D.int .i64 Z0) .anil)))) else bif Sector.n Z4 == (0:Int) then some (D.tup (D.acons Z1 (D.acons Z3 (D.acons (D.int .i64 60) .anil)))) else bif decide (List.length (Sector.b Z4) <= (1000000:Nat)) then bif Qk (Option.getD (ofF (Sector.mk (Sector.n Z4) (Sector.b Z4))) []).length (1:Nat) then none else none else none else none):=by kernel_rfl
theorem QiU (c:Bool) (now:List Sector) (d:Bool) (sure:List Sector) (h:(Qs now && Qs sure && decide ((now.getD 32 sec0).n=0))=true):Qes c now d sure=some (.tup (.acons (.int .i64 0) (.acons (.acons (.int .i64 0) (.acons (.sl (C:=RC) .item true []) (.acons (.acons (.sl (C:=RC) .line true []) (.acons (.sl (C:=RC) .line true []) (.acons (.sl (C:=RC) .line true []) .anil))) (.acons (.arr (C:=RC) .int 3 [0,0,0]) .anil)))) (.acons (.int .i64 (bif Qq now sure then 60 else 2)) .anil)))):=by
 (rw [QiT];conv=>zeta)
 rw [Bool.and_eq_true] at h;obtain ⟨hg,hn⟩:=h;have hn:=of_decide_eq_true hn;refine Qa hg ?_;have hk:KL now sure 32=Qq now sure:=by simp [KL]
 rw [hk];cases hd:Qq now sure
 · exact Qa rfl rfl
 refine Qy rfl ?_
 have hs:(getS now sure 32).n=0:=by
  unfold getS;rw [hk,hd];exact hn
 exact Qa (by rw [hs];rfl) rfl
noncomputable def ug_2:=ug_1.addSpec 34 Qb7
theorem Qmj:Qi Tryz.prog s28 ug_2:=Qmi.addEv Qb fun args d h=>by
 unfold Qb7 at h
 split at h
 · unfold Qer at h;have h1:=congrArg Prod.fst (Option.some.inj h);obtain rfl:_=d:=congrArg Prod.snd (Option.some.inj h);exact ⟨by simp [D.refs],40,QiU _ _ _ _ h1⟩
 · cases h
noncomputable def Qet (n:Int) (b:List UInt8):Option (Bool × D RC):=some (decide (b.length <= 1000000),.tup (.acons (.str (bif okF n b then ZX n b else [])) (.acons (.int .i64 (bif okF n b then 0 else 2)) .anil)))
noncomputable def Qb8:List (D RC)->Option (Bool × D RC)
 | [.int .i64 n,.str b]=>Qet n b
 | _=>none
noncomputable def Qeu (n:Int) (b:List UInt8):=evF s28 ug_2 60 107 [.int .i64 n,.str b]
theorem QiV (n:Int) (b:List UInt8):Qeu n b=(let Z0:DO_:=some (D.tup (D.acons (D.str (Array.toList #[])) (.acons (D.int .i64 2) .anil)));let Z1:Bool:=Qh b.length;let Z2:Int:=(↑b.length:Int);let Z3:List UInt8:=[]++[]++leB n (6:Nat);let Z4:Nat:=List.length ([]++Z3);let Z5:List UInt8:=[]++Z3++leB Z2 (2:Nat);let Z6:Nat:=List.length Z5;let Z7:List UInt8:=(fun (l:List UInt8)=>l) b;let Z8:Nat:=List.length (Z5++Z7);let Z9:DO_:=none;bif decide (n < (1:Int)) then Z0 else bif decide ((1048575:Int) < n) then Z0 else bif Z1 then bif decide ((600:Int) < Z2) then Z0 else bif decide (n <= (9223372036854775807:Int) /\ (1:Int) <= (6:Int) /\ (6:Int) <= (6:Int)) && Q2 n (6:Nat) then bif decide ((0:Int) <= n /\ n <= (9223372036854775807:Int) /\ (0:Int) <= (6:Int) /\ (6:Int) <= (6:Int) /\ (0:Nat) <= (1000000:Nat)) then bif Z1 then bif decide (Z2 <= (9223372036854775807:Int) /\ (1:Int) <= (2:Int) /\ (2:Int) <= (6:Int)) && Q2 Z2 (2:Nat) then bif decide ((0:Nat)+List.length Z3=Z4) && true && decide ((0:Int) <= Z2 /\ Z2 <= (9223372036854775807:Int) /\ (0:Int) <= (2:Int) /\ (2:Int) <= (6:Int) /\ Z4 <= (1000000:Nat)) then bif Nat.beq Z6 Z6 && Qk (Z6+List.length Z7) (1:Nat) then bif Nat.beq (Z6+List.length Z7) Z8 then bif decide (Z8 <= (1000000:Nat)) then some (D.tup (D.acons (D.str (ZG (Z5++Z7))) (.acons (D.int .i64 0) .anil))) else Z9 else Z9 else Z9 else Z9 else Z9 else Z9 else Z9 else Z9 else Z9):=by kernel_rfl
theorem QiW (n:Int) (b:List UInt8) (h:(decide (b.length <= 1000000))=true):Qeu n b=some (.tup (.acons (.str (bif okF n b then ZX n b else [])) (.acons (.int .i64 (bif okF n b then 0 else 2)) .anil))):=by
 (rw [QiV];conv=>zeta)
 have hl:=of_decide_eq_true h;have lb:Qh b.length=true:=Qe (by omega)
 have no:okF n b=false->some (D.tup (.acons (.str []) (.acons (.int .i64 2) .anil)))=some (.tup (.acons (.str (bif okF n b then ZX n b else [])) (.acons (.int .i64 (bif okF n b then 0 else 2)) .anil)):D RC):=fun e=>by rw [e];rfl
 refine QD (fun e=>no (JN fun f=>by simp only [decide_eq_true_eq] at e;omega)) fun e1=>?_
 refine QD (fun e=>no (JN fun f=>by simp only [decide_eq_true_eq] at e;omega)) fun e2=>?_
 refine Qa lb (QD (fun e=>no (JN fun f=>by simp only [decide_eq_true_eq] at e;omega)) fun e3=>?_)
 simp only [decide_eq_false_iff_not] at e1 e2 e3;have ok:okF n b=true:=by simp only [okF,Bool.and_eq_true,decide_eq_true_eq];omega
 have f6:Q2 n 6=true:=by rw [ZU];omega
 have f2:Q2 (b.length:Int) 2=true:=by rw [ZU];omega
 have eb:∀ n:Nat,n.beq n=true:=fun n=>by simp
 have s1:Qk (6+2+b.length) 1=true:=YO (by omega)
 have g1:decide (n <= 9223372036854775807 /\ (1:Int) <= 6 /\ (6:Int) <= 6)=true:=decide_eq_true (by omega)
 have g2:decide (0 <= n /\ n <= 9223372036854775807 /\ (0:Int) <= 6 /\ (6:Int) <= 6 /\ 0 <= 1000000)=true:=decide_eq_true (by omega)
 have g3:decide ((b.length:Int) <= 9223372036854775807 /\ (1:Int) <= 2 /\ (2:Int) <= 6)=true:=decide_eq_true (by omega)
 have g4:decide (0 <= (b.length:Int) /\ (b.length:Int) <= 9223372036854775807 /\ (0:Int) <= 2 /\ (2:Int) <= 6 /\ 6 <= 1000000)=true:=decide_eq_true (by omega)
 have g5:decide (6+2+b.length <= 1000000)=true:=decide_eq_true (by omega)
 simp only [List.nil_append,Zh,List.length_append,f6,f2,eb,lb,s1,Nat.zero_add,Bool.and_self,cond_true];refine Qa (by rw [g1];rfl) (Qa g2 (Qa (by rw [g3];rfl) (Qa (by rw [g4];rfl) (Qa g5 ?_))))
 rw [ok];rfl
noncomputable def ug_3:=ug_2.addSpec 107 Qb8
theorem Qmk:Qi Tryz.prog s28 ug_3:=Qmj.addEv Qb fun args d h=>by
 unfold Qb8 at h
 split at h
 · unfold Qet at h;have h1:=congrArg Prod.fst (Option.some.inj h);obtain rfl:_=d:=congrArg Prod.snd (Option.some.inj h);exact ⟨by simp [D.refs],60,QiW _ _ h1⟩
 · cases h
theorem VV {l:List Sector} (h:Zm l=true):∀ s ∈ l,QM s=true:=by
 simp only [Zm,Bool.and_eq_true] at h;exact List.all_eq_true.1 h.2
theorem Qc6 {l:List Sector} (h1:l.length=33) (h2:∀ s ∈ l,QM s=true):Zm l=true:=by
 simp only [Zm,Bool.and_eq_true,decide_eq_true_eq];exact ⟨h1,List.all_eq_true.2 h2⟩
theorem Qb9 {l:List Sector} (h:Zm l=true):Qs l=true:=by
 have h1:=Yq h;rw [Zx];refine ⟨by omega,fun s hs=>Qe ?_⟩
 have:=VV h s hs;simp only [QM,Bool.and_eq_true,decide_eq_true_eq] at this;omega
theorem YA {now sure:List Sector} (h:Qq now sure=true):Zm now=true /\ Zm sure=true /\ JL now sure 0=true:=by
 simp only [Qq,Bool.and_eq_true] at h;exact ⟨h.1.1,h.1.2,h.2⟩
theorem Qbb {now sure:List Sector} (hl:now.length=sure.length):JL now sure 0=true ↔ ∀ i,i < now.length->(sure.getD i sec0).n <= (now.getD i sec0).n:=by
 unfold JL;rw [List.drop_zero,List.all_eq_true];constructor
 · intro h i hi;have hz:i < (now.zip sure).length:=by simp;omega
   have h3:=h _ (List.getElem_mem hz);simp only [List.getElem_zip,decide_eq_true_eq] at h3;have hi2:i < sure.length:=by omega
   simpa [hi,hi2] using h3
 · intro h p hp;obtain ⟨i,hi,rfl⟩:=List.getElem_of_mem hp;have h1:i < now.length:=by simp at hi;omega
   have h2:i < sure.length:=by omega
   have:=h i h1;simp only [List.getElem_zip,decide_eq_true_eq]
   simpa [h1,h2] using this
theorem ZH {now sure:List Sector} (h:Qq now sure=true):Qs now=true /\ Qs sure=true :=
 ⟨Qb9 (YA h).1,Qb9 (YA h).2.1⟩
theorem putNow_mem {now:List Sector} {k:Nat} {n:Int} {b:List UInt8} {s:Sector} (h:s ∈ VP now k n b):s ∈ now \/ s=⟨n,b⟩:=by
 unfold VP at h
 split at h
 · exact List.mem_or_eq_of_mem_set h
 · exact .inl h
theorem Qml {now:List Sector} {k:Nat} {n:Int} {b:List UInt8} (hk:k < now.length) (j:Nat):(VP now k n b).getD j sec0=if j=k /\ (now.getD k sec0).n < n then ⟨n,b⟩ else now.getD j sec0:=by
 unfold VP
 by_cases h:(now.getD k sec0).n < n
 · rw [if_pos h]
   by_cases hj:j=k
   · subst hj;rw [if_pos ⟨rfl,h⟩];simp [hk]
   · rw [if_neg (fun q=>hj q.1)];simp only [List.getD_eq_getElem?_getD];rw [List.getElem?_set_ne (fun q=>hj q.symm)]
 · rw [if_neg h,if_neg (fun q=>h q.2)]
theorem QiX {now sure:List Sector} {k n:Int} {b:List UInt8} (h:Ze now sure k n b=true):Qq (pNow now sure k n b) (Vs now sure k n b)=true:=by
 obtain ⟨hd,h0,h1,h2,h3,h4⟩:=Qba h;obtain ⟨d1,d2,d3⟩:=YA hd;obtain ⟨l1,l2⟩:=YR hd;simp only [pNow,Vs,h,cond_true,Qq,Bool.and_eq_true];have hk:k.toNat < now.length:=by omega
 refine ⟨⟨Qc6 (by rw [KK];exact l1) fun s hs=>?_,d2⟩,?_⟩
 · rcases putNow_mem hs with q | rfl
   · exact VV d1 s q
   · exact h4
 · rw [Qbb (by rw [KK];omega)]
   intro i hi;rw [KK] at hi;have:=(Qbb (by omega)).1 d3 i hi
   rw [Qml hk]
   split
   · rename_i q;obtain ⟨rfl,q⟩:=q;have h5:(sure.getD k.toNat sec0).n <= (now.getD k.toNat sec0).n:=this;show (sure.getD k.toNat sec0).n <= n;omega
   · exact this
theorem QpO {l:List Sector} {s:Sector} (h:s ∈ l):∃ j,j < l.length /\ s=l.getD j sec0:=by
 obtain ⟨i,hi,rfl⟩:=List.getElem_of_mem h;exact ⟨i,hi,by simp [hi]⟩
theorem Qbc {l:List Sector} (h:Zm l=true):Qq l l=true:=by
 simp only [Qq,h,Bool.true_and];rw [Qbb rfl];intro i _;exact Int.le_refl _
def secI (p:Int):Int:=if p < 0 then 0 else p % 32
def entL (r:Rec):List UInt8:=bif mayB r then ZX r.place (Ya r) else []
def atS (s:Sector) (p:Int):Option Rec:=if s.n=p then (ofF s).bind fun l=>(Zd l).bind fun r=>if r.place=p then some r else none else none
def atF (now sure:List Sector) (p:Int):Option Rec:=if Qq now sure=true /\ 1 <= p /\ p <= 1048575 then atS (now.getD (secI p).toNat sec0) p else none
def preL (now sure:List Sector):Nat->Int->List Rec
 | 0,_=>[]
 | n+1,p=>match atF now sure p with
  | some r=>r::preL now sure n (p+1)
  | none=>[]
def preF (now sure:List Sector) (b:Int):List Rec:=bif Qq now sure && decide (0 <= b /\ b <= 1048575) then preL now sure 32 (b+1) else []
def preE (now sure:List Sector) (b:Int):Int:=bif Qq now sure && decide (0 <= b /\ b <= 1048575) then 0 else 2
theorem YS (p:Int):0 <= secI p /\ secI p < 32:=by
 unfold secI;split <;> omega
theorem Qhg (now sure:List Sector):∀ (n:Nat) (p:Int),(preL now sure n p).length <= n
 | 0,p=>by simp [preL]
 | n+1,p=>by
  unfold preL
  split
  · have:=Qhg now sure n (p+1);simp;omega
  · simp
theorem Qtj {now sure:List Sector} {p:Int} {r:Rec} (h:atF now sure p=some r):mayB r=true /\ r.place=p /\ Qq now sure=true /\ 1 <= p /\ p <= 1048575:=by
 unfold atF at h
 split at h
 · rename_i q;unfold atS at h
   split at h
   · rw [Option.bind_eq_some_iff] at h;obtain ⟨w,_,h⟩:=h;rw [Option.bind_eq_some_iff] at h;obtain ⟨r',h1,h⟩:=h
     split at h
     · rename_i e;cases h;exact ⟨Ql7 h1,e,q⟩
     · cases h
   · cases h
 · cases h
theorem JO {r:Rec} (h:mayB r=true):r.writes.length <= 4:=(Yi (p:=r.place) (y:=r.yes) (l:=r.writes) h).2.1
theorem Qhh (now sure:List Sector):∀ (n:Nat) (p:Int),∀ r ∈ preL now sure n p,mayB r=true
 | 0,p,r,h=>by simp [preL] at h
 | n+1,p,r,h=>by
  unfold preL at h
  split at h
  · rename_i r' h';rcases List.mem_cons.1 h with rfl | h
    · exact (Qtj h').1
    · exact Qhh now sure n (p+1) r h
  · simp at h
theorem QpP (now sure:List Sector) (b:Int):(preF now sure b).length <= 32:=by
 unfold preF;cases Qq now sure && decide (0 <= b /\ b <= 1048575)
 · simp
 · exact Qhg _ _ _ _
theorem QpQ (now sure:List Sector) (b:Int):∀ r ∈ preF now sure b,mayB r=true:=by
 unfold preF;cases Qq now sure && decide (0 <= b /\ b <= 1048575)
 · simp
 · exact Qhh _ _ _ _
open Go.Proofs
def entE (r:Rec):Int:=bif mayB r then 0 else 2
theorem Qtk (p:Int):(if p < 0 then 0 else p).tmod 32=secI p:=by
 unfold secI
 split
 · rfl
 · rw [Int.tmod_eq_emod_of_nonneg (by omega)]
theorem Qrl {r:Rec} (h:mayB r=true):okF r.place (Ya r)=true /\ (Ya r).length <= 13:=by
 have h1:=Qb5 h;have h2:=(Yi (p:=r.place) (y:=r.yes) (l:=r.writes) h).1;refine ⟨?_,h1⟩;simp only [okF,Bool.and_eq_true,decide_eq_true_eq];omega
theorem Qtl {now sure:List Sector} {p:Int} (h:Qq now sure=false):atF now sure p=none:=if_neg (by rw [h];simp)
theorem Qmm {now sure:List Sector} {p:Int} (h:¬ (1 <= p /\ p <= 1048575)):atF now sure p=none:=if_neg (fun e=>h e.2)
theorem Qv4 {now sure:List Sector} (h:Qq now sure=true) (k:Nat):(now.getD k sec0).b.length <= 640:=by
 by_cases hk:k < now.length
 · have e:now.getD k sec0=now[k]:=by simp [hk]
   have:=VV (YA h).1 _ (List.getElem_mem hk);rw [e];simp only [QM,Bool.and_eq_true,decide_eq_true_eq] at this;exact this.1.2
 · have e:now.getD k sec0=sec0:=by simp [hk]
   rw [e];simp [sec0]
def Qev (p:Int):Option (Bool × D RC):=some (true,.int .i64 (secI p))
def Qca:List (D RC)->Option (Bool × D RC)
 | [.int .i64 p]=>Qev p
 | _=>none
noncomputable def Qew (p:Int):=evF s28 ug_3 20 180 [.int .i64 p]
theorem QiY (p:Int):Qew p=(some (D.int .i64 (Int.tmod (if p < (0:Int) then (0:Int) else p) (32:Int)))):=by kernel_rfl
theorem QiZ (p:Int) (h:(true)=true):Qew p=some (.int .i64 (secI p)):=by
 rw [QiY];rw [Qtk]
noncomputable def uh_1:=ug_3.addSpec 180 Qca
theorem Qmn:Qi Tryz.prog s28 uh_1:=Qmk.addEv Qb fun args d h=>by
 unfold Qca at h
 split at h
 · unfold Qev at h;have h1:=congrArg Prod.fst (Option.some.inj h);obtain rfl:_=d:=congrArg Prod.snd (Option.some.inj h);exact ⟨by simp [D.refs],20,QiZ _ h1⟩
 · cases h
def Qex (p:Int):Option (Bool × D RC):=some (true,.int .i64 (secI p))
def Qcb:List (D RC)->Option (Bool × D RC)
 | [.int .i64 p]=>Qex p
 | _=>none
noncomputable def Qey (p:Int):=evF s28 uh_1 20 56 [.int .i64 p]
theorem Qi0 (p:Int):Qey p=(bif decide (p < (0:Int)) then some (D.int .i64 0) else some (D.int .i64 (Int.tmod p (32:Int)))):=by kernel_rfl
theorem Qi1 (p:Int) (h:(true)=true):Qey p=some (.int .i64 (secI p)):=by
 rw [Qi0];refine QD (fun e=>?_) fun e=>?_
 · simp only [decide_eq_true_eq] at e;rw [secI,if_pos e]
 · simp only [decide_eq_false_iff_not] at e;rw [secI,if_neg e,Int.tmod_eq_emod_of_nonneg (by omega)]
noncomputable def uh_2:=uh_1.addSpec 56 Qcb
theorem Qmo:Qi Tryz.prog s28 uh_2:=Qmn.addEv Qb fun args d h=>by
 unfold Qcb at h
 split at h
 · unfold Qex at h;have h1:=congrArg Prod.fst (Option.some.inj h);obtain rfl:_=d:=congrArg Prod.snd (Option.some.inj h);exact ⟨by simp [D.refs],20,Qi1 _ h1⟩
 · cases h
def Qhi (p:Int) (y:Bool) (c:Bool) (l:List Qc):Option (Bool × D RC):=some (Qh l.length,.tup (.acons (.str (entL ⟨p,y,l⟩)) (.acons (.int .i64 (entE ⟨p,y,l⟩)) .anil)))
def Qez:List (D RC)->Option (Bool × D RC)
 | [.acons (.int .i64 p) (.acons (.bool y) (.acons (.sl .write c l) .anil))]=>Qhi p y c l
 | _=>none
noncomputable def Qhj (p:Int) (y:Bool) (c:Bool) (l:List Qc):=evF s28 uh_2 20 55 [.acons (.int .i64 p) (.acons (.bool y) (.acons (.sl (C:=RC) .write c l) .anil))]
theorem Qmp (p:Int) (y:Bool) (c:Bool) (l:List Qc):Qhj p y c l=(let Z0:List (RA RTy.u8):=(fun (l:List (RA RTy.u8))=>l) (bif mayB (Rec.mk p y l) then Ya (Rec.mk p y l) else []);bif Qh l.length then bif (bif mayB (Rec.mk p y l) then (0:Int) else (2:Int)) != (0:Int) then some (D.tup (D.acons (D.str (Array.toList #[])) (.acons (D.int .i64 2) .anil))) else bif decide (List.length Z0 <= (1000000:Nat)) then some (D.tup (D.acons (D.str (bif okF p Z0 then ZX p Z0 else [])) (.acons (D.int .i64 (bif okF p Z0 then (0:Int) else (2:Int))) .anil))) else none else none):=by kernel_rfl
theorem Qmq (p:Int) (y:Bool) (c:Bool) (l:List Qc) (h:(Qh l.length)=true):Qhj p y c l=some (.tup (.acons (.str (entL ⟨p,y,l⟩)) (.acons (.int .i64 (entE ⟨p,y,l⟩)) .anil))):=by
 (rw [Qmp];conv=>zeta)
 refine Qa h ?_;cases hm:mayB ⟨p,y,l⟩
 · simp only [entL,entE,hm];rfl
 · obtain ⟨h1,h2⟩:=Qrl hm;have h3:decide ((Ya ⟨p,y,l⟩).length <= 1000000)=true:=decide_eq_true (by omega)
   simp only [entL,entE,hm,h1,h3,cond_true,cond_false,Bool.not_true];rfl
noncomputable def uh_3:=uh_2.addSpec 55 Qez
theorem Qmr:Qi Tryz.prog s28 uh_3:=Qmo.addEv Qb fun args d h=>by
 unfold Qez at h
 split at h
 · unfold Qhi at h;have h1:=congrArg Prod.fst (Option.some.inj h);obtain rfl:_=d:=congrArg Prod.snd (Option.some.inj h);exact ⟨by simp [D.refs],20,Qmq _ _ _ _ h1⟩
 · cases h
def QuU (c:Bool) (now:List Sector) (d:Bool) (sure:List Sector) (p:Int):Option (Bool × D RC):=some (Qs now && Qs sure,.tup (.acons (.acons (.int .i64 (recG (atF now sure p)).place) (.acons (.bool (recG (atF now sure p)).yes) (.acons (.sl (C:=RC) .write (atF now sure p).isNone (recG (atF now sure p)).writes) .anil))) (.acons (.bool (atF now sure p).isSome) .anil)))
def Qrm:List (D RC)->Option (Bool × D RC)
 | [.acons (.sl .sector c now) (.acons (.sl .sector d sure) .anil),.int .i64 p]=>QuU c now d sure p
 | _=>none
noncomputable def QuV (c:Bool) (now:List Sector) (d:Bool) (sure:List Sector) (p:Int):=evF s28 uh_3 60 148 [.acons (.sl (C:=RC) .sector c now) (.acons (.sl (C:=RC) .sector d sure) .anil),.int .i64 p]
theorem QuW (c:Bool) (now:List Sector) (d:Bool) (sure:List Sector) (p:Int):QuV c now d sure p=(let Z0:DO_:=some (D.tup (D.acons (D.acons (D.int .i64 0) (.acons (D.bool false) (.acons (D.sl RTy.write true []) .anil))) (.acons (D.bool false) .anil)));let Z1:Sector:=List.getD now (secI p).toNat (Sector.mk (0:Int) []);let Z2:Option (List UInt8):=ofF (Sector.mk (Sector.n Z1) (Sector.b Z1));let Z3:List UInt8:=(fun (l:List UInt8)=>l) (Option.getD Z2 []);let Z4:Bool:=Option.isNone (Zd Z3);let Z5:Rec:=recG (Zd Z3);bif Qs now && Qs sure then bif (bif Qq now sure then (0:Int) else (2:Int)) != (0:Int) then Z0 else bif decide (p < (1:Int)) then Z0 else bif decide ((0:Int) <= p) then bif !decide (p <= (1048575:Int)) then Z0 else bif decide ((0:Int) <= secI p /\ secI p < (↑now.length:Int)) then bif !Sector.n Z1 == p then Z0 else bif decide (List.length (Sector.b Z1) <= (1000000:Nat)) then bif !Option.isSome Z2 then Z0 else bif Qk (Option.getD Z2 []).length (1:Nat) then bif decide (List.length Z3 <= (1000000:Nat)) then bif (bif Z4 then (50:Int) else (0:Int)) == (0:Int) then bif !Rec.place Z5 == p then Z0 else some (D.tup (D.acons (D.acons (D.int .i64 Z5.place) (.acons (D.bool Z5.yes) (.acons (D.sl RTy.write Z4 Z5.writes) .anil))) (.acons (D.bool true) .anil))) else Z0 else none else none else none else none else Z0 else none):=by kernel_rfl
theorem QuX (c:Bool) (now:List Sector) (d:Bool) (sure:List Sector) (p:Int) (h:(Qs now && Qs sure)=true):QuV c now d sure p=some (.tup (.acons (.acons (.int .i64 (recG (atF now sure p)).place) (.acons (.bool (recG (atF now sure p)).yes) (.acons (.sl (C:=RC) .write (atF now sure p).isNone (recG (atF now sure p)).writes) .anil))) (.acons (.bool (atF now sure p).isSome) .anil))):=by
 (rw [QuW];conv=>zeta)
 have no:atF now sure p=none->some (D.tup (.acons (.acons (.int .i64 0) (.acons (.bool false) (.acons (.sl (C:=RC) .write true []) .anil))) (.acons (.bool false) .anil)))=some (.tup (.acons (.acons (.int .i64 (recG (atF now sure p)).place) (.acons (.bool (recG (atF now sure p)).yes) (.acons (.sl (C:=RC) .write (atF now sure p).isNone (recG (atF now sure p)).writes) .anil))) (.acons (.bool (atF now sure p).isSome) .anil))):=fun e=>by simp only [e];rfl
 refine Qa h ?_;cases hd:Qq now sure
 · exact Qa rfl (no (Qtl hd))
 obtain ⟨l1,l2⟩:=YR hd;refine Qy rfl ?_;refine QD (fun e=>no (Qmm (by simp only [decide_eq_true_eq] at e;omega))) fun e1=>?_
 simp only [decide_eq_false_iff_not] at e1;refine Qa (decide_eq_true (by omega)) ?_
 refine QD (fun e=>no (Qmm (by simp only [Bool.not_eq_true',decide_eq_false_iff_not] at e;omega))) fun e2=>?_
 simp only [Bool.not_eq_false',decide_eq_true_eq] at e2;obtain ⟨s0,s1⟩:=YS p;refine Qa (decide_eq_true (by omega)) ?_
 have hb:=Qv4 hd (secI p).toNat;have eq:atF now sure p=atS (now.getD (secI p).toNat sec0) p:=if_pos ⟨hd,by omega,e2⟩
 have e0:(⟨0,[]⟩:Sector)=sec0:=rfl;rw [e0];generalize now.getD (secI p).toNat sec0=s at hb eq ⊢;obtain ⟨n,b⟩:=s
 dsimp only at hb eq ⊢
 have hf:=Qtg ⟨n,b⟩
 dsimp only at hf
 rcases Decidable.em (n=p) with hn | hn;rotate_left
 · exact Qa (by rw [Qkm hn];rfl) (no (eq.trans (if_neg hn)))
 refine Qy (by rw [Qkl hn];rfl) ?_
 have eq:=eq.trans (if_pos hn);refine Qa (decide_eq_true (by omega)) ?_
 cases ho:ofF ⟨n,b⟩ with
 | none=>exact Qa rfl (no (by rw [eq,ho];rfl))
 | some w =>
  rw [ho] at hf eq;simp only [Option.getD_some,Option.bind_some] at hf eq;refine Qy rfl ?_;simp only [Option.getD_some];refine Qa (YO (by omega)) ?_
  refine Qa (decide_eq_true (by show w.length <= 1000000;omega)) ?_
  have hr:Zd w=none \/ ∃ r,Zd w=some r:=by cases Zd w <;> simp
  rcases hr with hr | ⟨r,hr⟩
  · rw [hr] at eq ⊢;exact Qy rfl (no eq)
  · rw [hr] at eq ⊢;refine Qa rfl ?_;simp only [Option.bind_some] at eq
    by_cases hp:r.place=p
    · refine Qy (by show (!(r.place == p))=false;rw [Qkl hp];rfl) ?_
      rw [eq.trans (if_pos hp)];rfl
    · exact Qa (by show (!(r.place == p))=true;rw [Qkm hp];rfl) (no (eq.trans (if_neg hp)))
noncomputable def uh_4:=uh_3.addSpec 148 Qrm
theorem Qms:Qi Tryz.prog s28 uh_4:=Qmr.addEv Qb fun args d h=>by
 unfold Qrm at h
 split at h
 · unfold QuU at h;have h1:=congrArg Prod.fst (Option.some.inj h);obtain rfl:_=d:=congrArg Prod.snd (Option.some.inj h);exact ⟨by simp [D.refs],60,QuX _ _ _ _ _ h1⟩
 · cases h
def Qmt (c:Bool) (now:List Sector) (d:Bool) (sure:List Sector) (p:Int) (y:Bool) (cw:Bool) (l:List Qc):Option (Bool × D RC):=some (Qs now && Qs sure && Qh l.length,.tup (.acons (.acons (.sl (C:=RC) .sector (!Ze now sure (secI p) p (entL ⟨p,y,l⟩)) (pNow now sure (secI p) p (entL ⟨p,y,l⟩))) (.acons (.sl (C:=RC) .sector (!Ze now sure (secI p) p (entL ⟨p,y,l⟩)) (Vs now sure (secI p) p (entL ⟨p,y,l⟩))) .anil)) (.acons (.int .i64 (bif Ze now sure (secI p) p (entL ⟨p,y,l⟩) then 0 else 2)) .anil)))
def Qhk:List (D RC)->Option (Bool × D RC)
 | [.acons (.sl .sector c now) (.acons (.sl .sector d sure) .anil),.acons (.int .i64 p) (.acons (.bool y) (.acons (.sl .write cw l) .anil))]=>Qmt c now d sure p y cw l
 | _=>none
noncomputable def Qmu (c:Bool) (now:List Sector) (d:Bool) (sure:List Sector) (p:Int) (y:Bool) (cw:Bool) (l:List Qc):=evF s28 uh_4 60 22 [.acons (.sl (C:=RC) .sector c now) (.acons (.sl (C:=RC) .sector d sure) .anil),.acons (.int .i64 p) (.acons (.bool y) (.acons (.sl (C:=RC) .write cw l) .anil))]
theorem QpR (c:Bool) (now:List Sector) (d:Bool) (sure:List Sector) (p:Int) (y:Bool) (cw:Bool) (l:List Qc):Qmu c now d sure p y cw l=(let Z0:D RC:=D.sl RTy.sector true [];let Z1:DO_:=some (D.tup (D.acons (D.acons Z0 (D.acons Z0 .anil)) (.acons (D.int .i64 2) .anil)));let Z2:Bool:=Qs now && Qs sure;let Z3:List UInt8:=entL (Rec.mk p y l);let Z4:Bool:=Ze now sure (secI p) p Z3;bif Qh l.length then bif entE (Rec.mk p y l) != (0:Int) then Z1 else bif Z2 then bif (bif Qq now sure then (0:Int) else (2:Int)) != (0:Int) then Z1 else bif Z2 && Qh Z3.length then some (D.tup (D.acons (D.acons (D.sl RTy.sector (!Z4) (pNow now sure (secI p) p Z3)) (.acons (D.sl RTy.sector (!Z4) (Vs now sure (secI p) p Z3)) .anil)) (.acons (D.int .i64 (bif Z4 then (0:Int) else (2:Int))) .anil))) else none else none else none):=by kernel_rfl
theorem QpS (c:Bool) (now:List Sector) (d:Bool) (sure:List Sector) (p:Int) (y:Bool) (cw:Bool) (l:List Qc) (h:(Qs now && Qs sure && Qh l.length)=true):Qmu c now d sure p y cw l=some (.tup (.acons (.acons (.sl (C:=RC) .sector (!Ze now sure (secI p) p (entL ⟨p,y,l⟩)) (pNow now sure (secI p) p (entL ⟨p,y,l⟩))) (.acons (.sl (C:=RC) .sector (!Ze now sure (secI p) p (entL ⟨p,y,l⟩)) (Vs now sure (secI p) p (entL ⟨p,y,l⟩))) .anil)) (.acons (.int .i64 (bif Ze now sure (secI p) p (entL ⟨p,y,l⟩) then 0 else 2)) .anil))):=by
 (rw [QpR];conv=>zeta)
 simp only [Bool.and_eq_true] at h;obtain ⟨⟨hg,hgs⟩,hl⟩:=h;refine Qa hl ?_;cases hm:mayB ⟨p,y,l⟩
 · have e1:entL ⟨p,y,l⟩=[]:=by simp only [entL,hm];rfl
   have e2:Ze now sure (secI p) p []=false:=Zy fun f=>f.2.2.2.2.1 rfl;rw [e1,e2];simp only [entE,hm,pNow,Vs,e2];rfl
 · have e3:Qh (entL ⟨p,y,l⟩).length=true:=by
    have:=(Qrl hm).2;simp only [entL,hm,cond_true,Jj];exact Qe (by omega)
   refine Qy (by simp only [entE,hm];rfl) ?_
   rw [hg,hgs,e3];cases hd:Qq now sure
   · have e2:Ze now sure (secI p) p (entL ⟨p,y,l⟩)=false:=Zy fun f=>by rw [hd] at f;cases f.1
     simp only [pNow,Vs,e2];rfl
   · rfl
noncomputable def uh_5:=uh_4.addSpec 22 Qhk
theorem Qmv:Qi Tryz.prog s28 uh_5:=Qms.addEv Qb fun args d h=>by
 unfold Qhk at h
 split at h
 · unfold Qmt at h;have h1:=congrArg Prod.fst (Option.some.inj h);obtain rfl:_=d:=congrArg Prod.snd (Option.some.inj h);exact ⟨by simp [D.refs],60,QpS _ _ _ _ _ _ _ _ h1⟩
 · cases h
open Go.Proofs
def eR (o:Option Rec):Rec:=⟨(recG o).place,(recG o).yes,(recG o).writes⟩
def resP (e:Bool) (l:List Rec):Option (D RC):=some (.tup (.acons (.sl (C:=RC) .recd e l) (.acons (.int .i64 0) .anil)))
def preT (now sure:List Sector) (b:Int):Nat->Nat->Bool->List Rec->Option (D RC)
 | 0,_,e,acc=>resP e acc
 | n+1,i,e,acc=>bif Qs now && Qs sure then (bif !(atF now sure (IntKind.i64.wrap (b+(i:Int)))).isSome then resP e acc else preT now sure b n (i+1) false (acc++[eR (atF now sure (IntKind.i64.wrap (b+(i:Int))))])) else none
theorem Qmw {now sure:List Sector} {n:Nat} {p:Int} {r:Rec} (h:atF now sure p=some r):preL now sure (n+1) p=r::preL now sure n (p+1):=by
 conv=>lhs;unfold preL
 rw [h]
theorem Qmx {now sure:List Sector} {b:Int} (hg:(Qs now && Qs sure)=true) (h0:0 <= b) (h1:b <= 1048575):∀ (n i:Nat) (e:Bool) (acc:List Rec),i+n <= 1000 ->
 preT now sure b n i e acc=resP (e && (preL now sure n (b+(i:Int))).isEmpty) (acc++preL now sure n (b+(i:Int)))
 | 0,i,e,acc,_=>by simp [preT,preL]
 | n+1,i,e,acc,h=>by
  have w:IntKind.i64.wrap (b+(i:Int))=b+(i:Int):=wrap_id (by omega) (by omega)
  unfold preT;rw [hg,w];cases ha:atF now sure (b+(i:Int)) with
  | none=>simp [preL,ha]
  | some r =>
   have e1:b+((i+1:Nat):Int)=b+(i:Int)+1:=by omega
   have:=Qmx hg h0 h1 n (i+1) false (acc++[eR (some r)]) (by omega)
   rw [e1] at this;simp only [Option.isSome_some,Bool.not_true,cond_true,cond_false,this];rw [Qmw ha];simp [eR,recG]
def preW (now sure:List Sector) (b:Int):Option (D RC) :=
 bif Qs now && Qs sure then (bif (bif Qq now sure then (0:Int) else 2) != 0 then some (.tup (.acons (.sl (C:=RC) .recd true []) (.acons (.int .i64 2) .anil))) else bif decide (0 <= b) then (bif !decide (b <= 1048575) then some (.tup (.acons (.sl (C:=RC) .recd true []) (.acons (.int .i64 2) .anil))) else preT now sure b 32 1 true []) else some (.tup (.acons (.sl (C:=RC) .recd true []) (.acons (.int .i64 2) .anil)))) else none
theorem Qtm {now sure:List Sector} {b:Int} (h:(Qs now && Qs sure)=true):preW now sure b=some (.tup (.acons (.sl (C:=RC) .recd (preF now sure b).isEmpty (preF now sure b)) (.acons (.int .i64 (preE now sure b)) .anil))):=by
 unfold preW preF preE;rw [h];cases hd:Qq now sure
 · rfl
 by_cases q:0 <= b /\ b <= 1048575
 · have t:=Qmx h q.1 q.2 32 1 true [] (by omega)
   rw [decide_eq_true q,decide_eq_true q.1,decide_eq_true q.2,t];rfl
 · rw [decide_eq_false q];cases h1:decide (0 <= b)
   · rfl
   cases h2:decide (b <= 1048575)
   · rfl
   simp only [decide_eq_true_eq] at h1 h2;exact absurd ⟨h1,h2⟩ q
def Qmy (c:Bool) (now:List Sector) (d:Bool) (sure:List Sector) (b:Int):Option (Bool × D RC):=some (Qs now && Qs sure,.tup (.acons (.sl (C:=RC) .recd (preF now sure b).isEmpty (preF now sure b)) (.acons (.int .i64 (preE now sure b)) .anil)))
def Qhl:List (D RC)->Option (Bool × D RC)
 | [.acons (.sl .sector c now) (.acons (.sl .sector d sure) .anil),.int .i64 b]=>Qmy c now d sure b
 | _=>none
noncomputable def Qmz (c:Bool) (now:List Sector) (d:Bool) (sure:List Sector) (b:Int):=evF s28 uh_5 800 35 [.acons (.sl (C:=RC) .sector c now) (.acons (.sl (C:=RC) .sector d sure) .anil),.int .i64 b]
theorem Qtn (c:Bool) (now:List Sector) (d:Bool) (sure:List Sector) (b:Int):Qmz c now d sure b=preW now sure b:=by kernel_rfl
theorem QpT (c:Bool) (now:List Sector) (d:Bool) (sure:List Sector) (b:Int) (h:(Qs now && Qs sure)=true):Qmz c now d sure b=some (.tup (.acons (.sl (C:=RC) .recd (preF now sure b).isEmpty (preF now sure b)) (.acons (.int .i64 (preE now sure b)) .anil))):=by
 rw [Qtn];exact Qtm h
noncomputable def ui_1:=uh_5.addSpec 35 Qhl
theorem QmA:Qi Tryz.prog s28 ui_1:=Qmv.addEv Qb fun args d h=>by
 unfold Qhl at h
 split at h
 · unfold Qmy at h;have h1:=congrArg Prod.fst (Option.some.inj h);obtain rfl:_=d:=congrArg Prod.snd (Option.some.inj h);exact ⟨by simp [D.refs],800,QpT _ _ _ _ _ h1⟩
 · cases h
def lRow (first n many:Int):Int:=if 0 <= n /\ n < many then first+n else -1
def lRing (p w:Int):Int:=if 0 <= p /\ 2 <= w /\ w <= 8 then 13+p % w else -1
def Vh (q o:Int):Int:=if 0 <= q /\ q <= 2 /\ 0 <= o then 51+16 * q+o % 16 else -1
def YB (first slot f many fields:Int):Int:=if 0 <= slot /\ slot < many /\ 0 <= f /\ f < fields then first+slot * fields+f else -1
def YT (c w d n:Int):Bool:=Qf c 1 4 && Qf w 2 8 && Qf d 1 4 && Qf n 4 40
def lOwn (c w d n:Int) (client:Int) (node:Bool):Int × Int:=if YT c w d n=true /\ 0 <= client /\ client < c then (client * (bif node then n else d),bif node then n else d) else (0,0)
theorem Qcc (n:Int):(BitVec.ofInt IntKind.i64.bits n).toNat=(n % 18446744073709551616).toNat:=by
 rw [BitVec.toNat_ofInt];simp only [IntKind.bits]
 congr 1
theorem QmB {p w:Int} (hw:0 < w):0 <= p % w /\ p % w < w:=⟨Int.emod_nonneg _ (by omega),Int.emod_lt_of_pos _ hw⟩
theorem Jk {x a b:Int} (h:Qf x a b=false):¬ (a <= x /\ x <= b):=by rw [<- Qt];simp [h]
theorem Qto {p w:Int} (h:0 <= p):p.tmod w=p % w:=Int.tmod_eq_emod_of_nonneg h
theorem QeA {α:Type} {c:Bool} {x y z:α} (h1:c=true->x=z) (h2:c=false->y=z):cond c x y=z:=by cases c;exact h2 rfl;exact h1 rfl
theorem QpU {c w d n:Int} (h:YT c w d n=true):(1 <= c /\ c <= 4) /\ (2 <= w /\ w <= 8) /\ (1 <= d /\ d <= 4) /\ 4 <= n /\ n <= 40:=by
 simp only [YT,Bool.and_eq_true,Qt] at h;omega
def Jl:List Int:=0::1::List.replicate 289 0++(List.replicate 160 [(0:Int),-1,0]).flatten
open Go.Proofs
def QuY (n:Int) (a:Int) (b:Int):Option (Bool × D RC):=some (true,.bool (Qf n a b))
def Qrn:List (D RC)->Option (Bool × D RC)
 | [.int .i64 n,.int .i64 a,.int .i64 b]=>QuY n a b
 | _=>none
noncomputable def QuZ (n:Int) (a:Int) (b:Int):=evF s28 ui_1 20 101 [.int .i64 n,.int .i64 a,.int .i64 b]
theorem Qu0 (n:Int) (a:Int) (b:Int):QuZ n a b=(bif decide (a <= n) then some (D.bool (decide (n <= b))) else some (D.bool false)):=by kernel_rfl
theorem Qu1 (n:Int) (a:Int) (b:Int) (h:(true)=true):QuZ n a b=some (.bool (Qf n a b)):=by
 rw [Qu0];rw [Qf];cases decide (a <= n) <;> simp
noncomputable def uj_1:=ui_1.addSpec 101 Qrn
theorem QmC:Qi Tryz.prog s28 uj_1:=QmA.addEv Qb fun args d h=>by
 unfold Qrn at h
 split at h
 · unfold QuY at h;have h1:=congrArg Prod.fst (Option.some.inj h);obtain rfl:_=d:=congrArg Prod.snd (Option.some.inj h);exact ⟨by simp [D.refs],20,Qu1 _ _ _ h1⟩
 · cases h
def QeB (q:Int) (o:Int):Option (Bool × D RC):=some (true,.int .i64 (Vh q o))
def Qcd:List (D RC)->Option (Bool × D RC)
 | [.int .i64 q,.int .i64 o]=>QeB q o
 | _=>none
noncomputable def QeC (q:Int) (o:Int):=evF s28 uj_1 20 118 [.int .i64 q,.int .i64 o]
theorem Qi2 (q:Int) (o:Int):QeC q o=(let Z0:DO_:=some (D.int .i64 (-1:Int));bif !Qf q (0:Int) (2:Int) then Z0 else bif decide (o < (0:Int)) then Z0 else some (D.int .i64 (IntKind.wrap .i64 (IntKind.wrap .i64 ((51:Int)+IntKind.wrap .i64 ((16:Int) * q))+Int.tmod o (16:Int))))):=by kernel_rfl
theorem Qi3 (q:Int) (o:Int) (h:(true)=true):QeC q o=some (.int .i64 (Vh q o)):=by
 (rw [Qi2];conv=>zeta)
 unfold Vh;cases h1:Qf q 0 2
 · have h2:=Jk h1;rw [if_neg (by omega)];rfl
 · rw [Qt] at h1;simp only [Bool.not_true,cond_false];refine QeA (fun h0=>?_) fun h0=>?_ <;> simp only [decide_eq_true_eq,decide_eq_false_iff_not] at h0
   · rw [if_neg (by omega)]
   · rw [Qto (by omega),wrap_id (n:=16 * q) (by omega) (by omega),wrap_id (n:=51+16 * q) (by omega) (by omega),wrap_id (by omega) (by omega),if_pos ⟨h1.1,h1.2,by omega⟩]
noncomputable def uj_2:=uj_1.addSpec 118 Qcd
theorem QmD:Qi Tryz.prog s28 uj_2:=QmC.addEv Qb fun args d h=>by
 unfold Qcd at h
 split at h
 · unfold QeB at h;have h1:=congrArg Prod.fst (Option.some.inj h);obtain rfl:_=d:=congrArg Prod.snd (Option.some.inj h);exact ⟨by simp [D.refs],20,Qi3 _ _ h1⟩
 · cases h
def QmE (a:Int) (n:Int) (m:Int):Option (Bool × D RC):=some (true,.int .i64 (bif decide (0 <= n) && decide (n < m) then IntKind.i64.wrap (a+n) else -1))
def Qhm:List (D RC)->Option (Bool × D RC)
 | [.int .i64 a,.int .i64 n,.int .i64 m]=>QmE a n m
 | _=>none
noncomputable def QmF (a:Int) (n:Int) (m:Int):=evF s28 uj_2 20 133 [.int .i64 a,.int .i64 n,.int .i64 m]
theorem QpV (a:Int) (n:Int) (m:Int):QmF a n m=(let Z0:DO_:=some (D.int .i64 (-1:Int));bif decide (n < (0:Int)) then Z0 else bif decide (m <= n) then Z0 else some (D.int .i64 (IntKind.wrap .i64 (a+n)))):=by kernel_rfl
theorem QpW (a:Int) (n:Int) (m:Int) (h:(true)=true):QmF a n m=some (.int .i64 (bif decide (0 <= n) && decide (n < m) then IntKind.i64.wrap (a+n) else -1)):=by
 (rw [QpV];conv=>zeta)
 refine QeA (fun h0=>?_) fun h0=>?_ <;> simp only [decide_eq_true_eq,decide_eq_false_iff_not] at h0
 · rw [decide_eq_false (p:=0 <= n) (by omega)];rfl
 refine QeA (fun h1=>?_) fun h1=>?_ <;> simp only [decide_eq_true_eq,decide_eq_false_iff_not] at h1
 · rw [decide_eq_false (p:=n < m) (by omega),Bool.and_false];rfl
 · rw [decide_eq_true (p:=0 <= n) (by omega),decide_eq_true (p:=n < m) (by omega)];rfl
noncomputable def uj_3:=uj_2.addSpec 133 Qhm
theorem QmG:Qi Tryz.prog s28 uj_3:=QmD.addEv Qb fun args d h=>by
 unfold Qhm at h
 split at h
 · unfold QmE at h;have h1:=congrArg Prod.fst (Option.some.inj h);obtain rfl:_=d:=congrArg Prod.snd (Option.some.inj h);exact ⟨by simp [D.refs],20,QpW _ _ _ h1⟩
 · cases h
def QmH (a:Int) (s:Int) (n:Int) (m:Int):Option (Bool × D RC):=some (true,.int .i64 (bif decide (0 <= n) && decide (n < m) then IntKind.i64.wrap (a+IntKind.i64.wrap (s * n)) else -1))
def Qhn:List (D RC)->Option (Bool × D RC)
 | [.int .i64 a,.int .i64 s,.int .i64 n,.int .i64 m]=>QmH a s n m
 | _=>none
noncomputable def QmI (a:Int) (s:Int) (n:Int) (m:Int):=evF s28 uj_3 20 127 [.int .i64 a,.int .i64 s,.int .i64 n,.int .i64 m]
theorem QpX (a:Int) (s:Int) (n:Int) (m:Int):QmI a s n m=(let Z0:DO_:=some (D.int .i64 (-1:Int));bif decide (n < (0:Int)) then Z0 else bif decide (m <= n) then Z0 else some (D.int .i64 (IntKind.wrap .i64 (a+IntKind.wrap .i64 (s * n))))):=by kernel_rfl
theorem QpY (a:Int) (s:Int) (n:Int) (m:Int) (h:(true)=true):QmI a s n m=some (.int .i64 (bif decide (0 <= n) && decide (n < m) then IntKind.i64.wrap (a+IntKind.i64.wrap (s * n)) else -1)):=by
 (rw [QpX];conv=>zeta)
 refine QeA (fun h0=>?_) fun h0=>?_ <;> simp only [decide_eq_true_eq,decide_eq_false_iff_not] at h0
 · rw [decide_eq_false (p:=0 <= n) (by omega)];rfl
 refine QeA (fun h1=>?_) fun h1=>?_ <;> simp only [decide_eq_true_eq,decide_eq_false_iff_not] at h1
 · rw [decide_eq_false (p:=n < m) (by omega),Bool.and_false];rfl
 · rw [decide_eq_true (p:=0 <= n) (by omega),decide_eq_true (p:=n < m) (by omega)];rfl
noncomputable def uj_4:=uj_3.addSpec 127 Qhn
theorem QmJ:Qi Tryz.prog s28 uj_4:=QmG.addEv Qb fun args d h=>by
 unfold Qhn at h
 split at h
 · unfold QmH at h;have h1:=congrArg Prod.fst (Option.some.inj h);obtain rfl:_=d:=congrArg Prod.snd (Option.some.inj h);exact ⟨by simp [D.refs],20,QpY _ _ _ _ h1⟩
 · cases h
def Qho (n:Int):Option (Bool × D RC):=some (true,.int .i64 (lRow 21 n 24))
def QeD:List (D RC)->Option (Bool × D RC)
 | [.int .i64 n]=>Qho n
 | _=>none
noncomputable def Qhp (n:Int):=evF s28 uj_4 20 124 [.int .i64 n]
theorem QmK (n:Int):Qhp n=(some (D.int .i64 (bif decide ((0:Int) <= n) && decide (n < (24:Int)) then IntKind.wrap .i64 ((21:Int)+n) else (-1:Int)))):=by kernel_rfl
theorem QmL (n:Int) (h:(true)=true):Qhp n=some (.int .i64 (lRow 21 n 24)):=by
 rw [QmK]
 congr 2
 unfold lRow
 by_cases h0:0 <= n
 · by_cases h1:n < 24
   · simp (disch:=omega) only [decide_eq_true h0,decide_eq_true h1,Bool.and_self,cond_true,Qpj];rw [if_pos ⟨h0,h1⟩]
   · simp only [decide_eq_false h1,Bool.and_false,cond_false];rw [if_neg (by omega)]
 · simp only [decide_eq_false h0,Bool.false_and,cond_false];rw [if_neg (by omega)]
noncomputable def uj_5:=uj_4.addSpec 124 QeD
theorem QmM:Qi Tryz.prog s28 uj_5:=QmJ.addEv Qb fun args d h=>by
 unfold QeD at h
 split at h
 · unfold Qho at h;have h1:=congrArg Prod.fst (Option.some.inj h);obtain rfl:_=d:=congrArg Prod.snd (Option.some.inj h);exact ⟨by simp [D.refs],20,QmL _ h1⟩
 · cases h
def QeE (n:Int):Option (Bool × D RC):=some (true,.int .i64 (lRow 45 n 3))
def Qce:List (D RC)->Option (Bool × D RC)
 | [.int .i64 n]=>QeE n
 | _=>none
noncomputable def QeF (n:Int):=evF s28 uj_5 20 119 [.int .i64 n]
theorem Qi4 (n:Int):QeF n=(some (D.int .i64 (bif decide ((0:Int) <= n) && decide (n < (3:Int)) then IntKind.wrap .i64 ((45:Int)+n) else (-1:Int)))):=by kernel_rfl
theorem Qi5 (n:Int) (h:(true)=true):QeF n=some (.int .i64 (lRow 45 n 3)):=by
 rw [Qi4]
 congr 2
 unfold lRow
 by_cases h0:0 <= n
 · by_cases h1:n < 3
   · simp (disch:=omega) only [decide_eq_true h0,decide_eq_true h1,Bool.and_self,cond_true,Qpj];rw [if_pos ⟨h0,h1⟩]
   · simp only [decide_eq_false h1,Bool.and_false,cond_false];rw [if_neg (by omega)]
 · simp only [decide_eq_false h0,Bool.false_and,cond_false];rw [if_neg (by omega)]
noncomputable def uj_6:=uj_5.addSpec 119 Qce
theorem QmN:Qi Tryz.prog s28 uj_6:=QmM.addEv Qb fun args d h=>by
 unfold Qce at h
 split at h
 · unfold QeE at h;have h1:=congrArg Prod.fst (Option.some.inj h);obtain rfl:_=d:=congrArg Prod.snd (Option.some.inj h);exact ⟨by simp [D.refs],20,Qi5 _ h1⟩
 · cases h
def QmO (n:Int):Option (Bool × D RC):=some (true,.int .i64 (lRow 48 n 3))
def Qhq:List (D RC)->Option (Bool × D RC)
 | [.int .i64 n]=>QmO n
 | _=>none
noncomputable def QmP (n:Int):=evF s28 uj_6 20 74 [.int .i64 n]
theorem QpZ (n:Int):QmP n=(some (D.int .i64 (bif decide ((0:Int) <= n) && decide (n < (3:Int)) then IntKind.wrap .i64 ((48:Int)+n) else (-1:Int)))):=by kernel_rfl
theorem Qp0 (n:Int) (h:(true)=true):QmP n=some (.int .i64 (lRow 48 n 3)):=by
 rw [QpZ]
 congr 2
 unfold lRow
 by_cases h0:0 <= n
 · by_cases h1:n < 3
   · simp (disch:=omega) only [decide_eq_true h0,decide_eq_true h1,Bool.and_self,cond_true,Qpj];rw [if_pos ⟨h0,h1⟩]
   · simp only [decide_eq_false h1,Bool.and_false,cond_false];rw [if_neg (by omega)]
 · simp only [decide_eq_false h0,Bool.false_and,cond_false];rw [if_neg (by omega)]
noncomputable def uj_7:=uj_6.addSpec 74 Qhq
theorem QmQ:Qi Tryz.prog s28 uj_7:=QmN.addEv Qb fun args d h=>by
 unfold Qhq at h
 split at h
 · unfold QmO at h;have h1:=congrArg Prod.fst (Option.some.inj h);obtain rfl:_=d:=congrArg Prod.snd (Option.some.inj h);exact ⟨by simp [D.refs],20,Qp0 _ h1⟩
 · cases h
def QeG (a:Int) (s:Int) (f:Int) (m:Int) (k:Int):Option (Bool × D RC):=some (true,.int .i64 (bif Qf s 0 (IntKind.i64.wrap (m - 1)) && Qf f 0 (IntKind.i64.wrap (k - 1)) then IntKind.i64.wrap (IntKind.i64.wrap (a+IntKind.i64.wrap (s * k))+f) else -1))
def Qcf:List (D RC)->Option (Bool × D RC)
 | [.int .i64 a,.int .i64 s,.int .i64 f,.int .i64 m,.int .i64 k]=>QeG a s f m k
 | _=>none
noncomputable def QeH (a:Int) (s:Int) (f:Int) (m:Int) (k:Int):=evF s28 uj_7 20 168 [.int .i64 a,.int .i64 s,.int .i64 f,.int .i64 m,.int .i64 k]
theorem Qi6 (a:Int) (s:Int) (f:Int) (m:Int) (k:Int):QeH a s f m k=(let Z0:DO_:=some (D.int .i64 (-1:Int));bif !Qf s (0:Int) (IntKind.wrap .i64 (m - (1:Int))) then Z0 else bif !Qf f (0:Int) (IntKind.wrap .i64 (k - (1:Int))) then Z0 else some (D.int .i64 (IntKind.wrap .i64 (IntKind.wrap .i64 (a+IntKind.wrap .i64 (s * k))+f)))):=by kernel_rfl
theorem Qi7 (a:Int) (s:Int) (f:Int) (m:Int) (k:Int) (h:(true)=true):QeH a s f m k=some (.int .i64 (bif Qf s 0 (IntKind.i64.wrap (m - 1)) && Qf f 0 (IntKind.i64.wrap (k - 1)) then IntKind.i64.wrap (IntKind.i64.wrap (a+IntKind.i64.wrap (s * k))+f) else -1)):=by
 (rw [Qi6];conv=>zeta)
 cases Qf s 0 (IntKind.i64.wrap (m - 1)) <;> cases Qf f 0 (IntKind.i64.wrap (k - 1)) <;> rfl
noncomputable def uj_8:=uj_7.addSpec 168 Qcf
theorem QmR:Qi Tryz.prog s28 uj_8:=QmQ.addEv Qb fun args d h=>by
 unfold Qcf at h
 split at h
 · unfold QeG at h;have h1:=congrArg Prod.fst (Option.some.inj h);obtain rfl:_=d:=congrArg Prod.snd (Option.some.inj h);exact ⟨by simp [D.refs],20,Qi7 _ _ _ _ _ h1⟩
 · cases h
def Qhr (s:Int) (f:Int):Option (Bool × D RC):=some (true,.int .i64 (YB 291 s f 160 3))
def QeI:List (D RC)->Option (Bool × D RC)
 | [.int .i64 s,.int .i64 f]=>Qhr s f
 | _=>none
noncomputable def Qhs (s:Int) (f:Int):=evF s28 uj_8 20 120 [.int .i64 s,.int .i64 f]
theorem QmS (s:Int) (f:Int):Qhs s f=(some (D.int .i64 (bif Qf s (0:Int) (159:Int) && Qf f (0:Int) (2:Int) then IntKind.wrap .i64 (IntKind.wrap .i64 ((291:Int)+IntKind.wrap .i64 (s * (3:Int)))+f) else (-1:Int)))):=by kernel_rfl
theorem QmT (s:Int) (f:Int) (h:(true)=true):Qhs s f=some (.int .i64 (YB 291 s f 160 3)):=by
 rw [QmS]
 congr 2
 unfold YB;cases h0:Qf s 0 159
 · have:=Jk h0;rw [if_neg (by omega)];rfl
 cases h1:Qf f 0 2
 · have:=Jk h1;rw [if_neg (by omega)];rfl
 rw [Qt] at h0 h1;rw [if_pos (by omega)]
 simp (disch:=omega) only [Bool.and_self,cond_true,Qpj]
noncomputable def uj_9:=uj_8.addSpec 120 QeI
theorem QmU:Qi Tryz.prog s28 uj_9:=QmR.addEv Qb fun args d h=>by
 unfold QeI at h
 split at h
 · unfold Qhr at h;have h1:=congrArg Prod.fst (Option.some.inj h);obtain rfl:_=d:=congrArg Prod.snd (Option.some.inj h);exact ⟨by simp [D.refs],20,QmT _ _ h1⟩
 · cases h
def Qcg (c:Int) (w:Int) (d:Int) (k:Int):Option (Bool × D RC):=some (true,.int .i64 (bif YT c w d k then 0 else 2))
def Qbd:List (D RC)->Option (Bool × D RC)
 | [.acons (.int .i64 c) (.acons (.int .i64 w) (.acons (.int .i64 d) (.acons (.int .i64 k) .anil)))]=>Qcg c w d k
 | _=>none
noncomputable def Qch (c:Int) (w:Int) (d:Int) (k:Int):=evF s28 uj_9 20 41 [.acons (.int .i64 c) (.acons (.int .i64 w) (.acons (.int .i64 d) (.acons (.int .i64 k) .anil)))]
theorem QfK (c:Int) (w:Int) (d:Int) (k:Int):Qch c w d k=(let Z0:DO_:=some (D.int .i64 2);bif Qf c (1:Int) (4:Int) then bif Qf w (2:Int) (8:Int) then bif Qf d (1:Int) (4:Int) then bif Qf k (4:Int) (40:Int) then some (D.int .i64 0) else Z0 else Z0 else Z0 else Z0):=by kernel_rfl
theorem QfL (c:Int) (w:Int) (d:Int) (k:Int) (h:(true)=true):Qch c w d k=some (.int .i64 (bif YT c w d k then 0 else 2)):=by
 (rw [QfK];conv=>zeta)
 unfold YT;cases Qf c 1 4 <;> cases Qf w 2 8 <;> cases Qf d 1 4 <;> cases Qf k 4 40 <;> rfl
noncomputable def Qtp:=uj_9.addSpec 41 Qbd
theorem Qi8:Qi Tryz.prog s28 Qtp:=QmU.addEv Qb fun args d h=>by
 unfold Qbd at h
 split at h
 · unfold Qcg at h;have h1:=congrArg Prod.fst (Option.some.inj h);obtain rfl:_=d:=congrArg Prod.snd (Option.some.inj h);exact ⟨by simp [D.refs],20,QfL _ _ _ _ h1⟩
 · cases h
def Qro (c:Int) (w:Int) (d:Int) (k:Int) (i:Int) (b:Bool):Option (Bool × D RC):=some (true,.tup (.acons (.int .i64 (lOwn c w d k i b).1) (.acons (.int .i64 (lOwn c w d k i b).2) .anil)))
def QmV:List (D RC)->Option (Bool × D RC)
 | [.acons (.int .i64 c) (.acons (.int .i64 w) (.acons (.int .i64 d) (.acons (.int .i64 k) .anil))),.int .i64 i,.bool b]=>Qro c w d k i b
 | _=>none
noncomputable def Qrp (c:Int) (w:Int) (d:Int) (k:Int) (i:Int) (b:Bool):=evF s28 Qtp 20 170 [.acons (.int .i64 c) (.acons (.int .i64 w) (.acons (.int .i64 d) (.acons (.int .i64 k) .anil))),.int .i64 i,.bool b]
theorem Qtq (c:Int) (w:Int) (d:Int) (k:Int) (i:Int) (b:Bool):Qrp c w d k i b=(let Z0:D RC:=D.int .i64 0;let Z1:DO_:=some (D.tup (D.acons Z0 (D.acons Z0 .anil)));bif (bif YT c w d k then (0:Int) else (2:Int)) != (0:Int) then Z1 else bif !Qf i (0:Int) (IntKind.wrap .i64 (c - (1:Int))) then Z1 else bif b then some (D.tup (D.acons (D.int .i64 (IntKind.wrap .i64 (i * k))) (.acons (D.int .i64 k) .anil))) else some (D.tup (D.acons (D.int .i64 (IntKind.wrap .i64 (i * d))) (.acons (D.int .i64 d) .anil)))):=by kernel_rfl
theorem Qtr (c:Int) (w:Int) (d:Int) (k:Int) (i:Int) (b:Bool) (h:(true)=true):Qrp c w d k i b=some (.tup (.acons (.int .i64 (lOwn c w d k i b).1) (.acons (.int .i64 (lOwn c w d k i b).2) .anil))):=by
 (rw [Qtq];conv=>zeta)
 unfold lOwn;cases hk:YT c w d k
 · simp;done
 · have hb:=QpU hk;simp only [wrap_id (n:=c - 1) (by omega) (by omega),cond_true,bne_self_eq_false,cond_false]
   cases h0:Qf i 0 (c - 1)
   · have:=Jk h0;rw [if_neg (by omega)];rfl
   rw [Qt] at h0;simp only [Bool.not_true,cond_false]
   have hmul:∀ x:Int,1 <= x->x <= 40->IntKind.i64.wrap (i * x)=i * x:=fun x h1 h2=>by
    have hi:i=0 \/ i=1 \/ i=2 \/ i=3:=by omega
    rcases hi with rfl | rfl | rfl | rfl <;> exact wrap_id (by omega) (by omega)
   rw [if_pos ⟨trivial,by omega,by omega⟩,hmul k (by omega) (by omega),hmul d (by omega) (by omega)]
   cases b <;> rfl
noncomputable def Qts:=Qtp.addSpec 170 QmV
theorem Qi9:Qi Tryz.prog s28 Qts:=Qi8.addEv Qb fun args d h=>by
 unfold QmV at h
 split at h
 · unfold Qro at h;have h1:=congrArg Prod.fst (Option.some.inj h);obtain rfl:_=d:=congrArg Prod.snd (Option.some.inj h);exact ⟨by simp [D.refs],20,Qtr _ _ _ _ _ _ h1⟩
 · cases h
def Qht (w:Int):Int:=if 0 <= w /\ w <= 1099510841343 then w else 0
def plc (w:Int):Int:=Qht w / 1048576
def bare (w:Int):Int:=Qht w % 1048576
def Qae (p h:Int):Prop:=0 <= p /\ p <= 1048575 /\ (256 <= h /\ h <= 262143 \/ h=0 /\ p=0)
instance instOkWord (p h:Int):Decidable (Qae p h):=by unfold Qae;infer_instance
def wordN (p h:Int):Int:=if Qae p h then p * 1048576+h else 0
def Qja (p h:Int):Int:=if Qae p h then 0 else 2
theorem QeJ {w:Int} (h:¬ (0 <= w /\ w <= 1099510841343)):Qht w=0:=if_neg h
theorem QeK {w:Int} (h:0 <= w /\ w <= 1099510841343):Qht w=w:=if_pos h
theorem Qu2 {w:Int} (h:0 <= w):w.fdiv 1048576=w / 1048576:=Int.fdiv_eq_ediv_of_nonneg _ (by decide)
theorem Qv5 {n:Int} (h:0 <= n /\ n < 1099511627776):bits .i64 (fun _ u v=>u &&& v) n 1099511627775=n:=by
 unfold bits;rw [BitVec.toNat_and,Qcc,Qcc];have e:((1099511627775:Int) % 18446744073709551616).toNat=2 ^ 40 - 1:=by decide
 rw [e,Nat.and_two_pow_sub_one_eq_mod,wrap_id (by omega) (by omega)]
 omega
theorem or20 {p h:Int} (hp:0 <= p /\ p <= 1048575) (hh:0 <= h /\ h < 1048576):bits .i64 (fun _ u v=>u ||| v) (p * 1048576) h=p * 1048576+h:=by
 obtain ⟨p,rfl⟩:∃ n:Nat,p=n:=⟨p.toNat,by omega⟩
 obtain ⟨h,rfl⟩:∃ n:Nat,h=n:=⟨h.toNat,by omega⟩
 unfold bits;have e:(p:Int) * 1048576=((p * 1048576:Nat):Int):=by simp
 rw [e]
 have h1:∀ x:Nat,x < 2 ^ 64->(BitVec.ofInt IntKind.i64.bits (x:Int)).toNat=x:=by
  intro x hx;rw [BitVec.toNat_ofInt];simp only [IntKind.bits];omega
 rw [BitVec.toNat_or,h1 _ (by omega),h1 _ (by omega)]
 have h2:p * 1048576 ||| h=p * 1048576+h:=by
  rw [Nat.mul_comm p 1048576,show (1048576:Nat)=2 ^ 20 from rfl,<- Nat.two_pow_add_eq_or_of_lt (by omega)]
 rw [h2,wrap_id (by omega) (by omega)]
 simp
theorem QmW {C:Cdc} {p h:Int} (hw:Qae p h):(D.tup (.acons (.int .i64 (p * 1048576+h)) (.acons (.int .i64 0) .anil)):D C)=.tup (.acons (.int .i64 (wordN p h)) (.acons (.int .i64 (Qja p h)) .anil)):=by
 rw [wordN,Qja,if_pos hw,if_pos hw]
theorem QmX {C:Cdc} {p h:Int} (hw:¬ Qae p h):(D.tup (.acons (.int .i64 0) (.acons (.int .i64 2) .anil)):D C)=.tup (.acons (.int .i64 (wordN p h)) (.acons (.int .i64 (Qja p h)) .anil)):=by
 rw [wordN,Qja,if_neg hw,if_neg hw]
def Qrq (k a b v g:Int) (tl al:Nat):Prop :=
 -1 <= b /\ b <= 1152921504606846976 /\ -1 <= v /\ v <= 1152921504606846976 /\ -1 <= g /\ g <= 1152921504606846976 /\ al <= 96 /\ tl <= 640 /\ 0 <= a /\ a <= 4095 /\
 (k=0 /\ b=0 /\ v=0 /\ tl=0 /\ al=0 \/ k=2 /\ tl=0 /\ al=0 \/ k=7 /\ a=0 /\ b=0 /\ v=0 /\ g=0 /\ tl=0)
instance instMayAct (k a b v g:Int) (tl al:Nat):Decidable (Qrq k a b v g tl al):=by unfold Qrq;infer_instance
structure GoR where
 st:List Frame
 got:List Int
 over:Bool
 kind:Int
 a:Int
 b:Int
 v:Int
 is:Bool
def gLoad (r got:List Int) (n cell:Int):GoR:=⟨[⟨68,n,r⟩],got,false,0,cell,0,0,true⟩
def gCas (r got:List Int) (n cell b v:Int):GoR:=⟨[⟨68,n,r⟩],got,false,2,cell,b,v,true⟩
def gEnd (l:List Int):GoR:=⟨[],l,true,0,0,0,0,false⟩
def goF (k:Int) (r got:List Int) (x:Int):GoR :=
 if k=0 \/ k=5 then gLoad r got 1 1
 else if k=1 then gLoad (r.set 2 x) got 2 0
 else if k=2 then (if x+r.getD 0 0 < r.getD 2 0 then gEnd [170] else if 1048575 < r.getD 2 0 then gEnd [172] else gLoad r got 3 4)
 else if k=3 then (if x < r.getD 2 0 - 32 then gEnd [171] else gLoad r got 4 (lRing (r.getD 2 0) (r.getD 0 0)))
 else if k=4 then (if plc x=r.getD 2 0 then gCas (r.set 3 x) got 5 1 (r.getD 2 0) (r.getD 2 0+1) else if r.getD 2 0 < plc x then gLoad (r.set 3 x) got 1 1
  else gCas (r.set 3 x) got 6 (lRing (r.getD 2 0) (r.getD 0 0)) x (wordN (r.getD 2 0) (r.getD 1 0)))
 else if k=6 then (if x=0 then gLoad r got 1 1 else gCas r got 7 1 (r.getD 2 0) (r.getD 2 0+1))
 else gEnd [0,r.getD 2 0]
def goR (st:List Frame) (got:List Int):GoR:=match st with
 | [f]=>goF f.at' f.r got (got.headD 0)
 | _=>gEnd []
def OkF (k:Int) (r:List Int) (x:Int):Prop:=1 <= k /\ k <= 7 /\ 0 <= x /\ x <= 1152921504606846976 /\ 2 <= r.getD 0 0 /\ r.getD 0 0 <= 8 /\ 0 <= r.getD 2 0 /\ r.getD 2 0 <= 1099511627776
instance instOkF (k:Int) (r:List Int) (x:Int):Decidable (OkF k r x):=by unfold OkF;infer_instance
def okFr (k:Int) (r got:List Int):Bool:=match got with
 | []=>decide (k=0)
 | [x]=>decide (OkF k r x)
 | _=>false
def okG (c:Int) (st:List Frame) (got:List Int):Bool:=match st with
 | [f]=>decide (0 <= c /\ c <= 3 /\ f.prog=68 /\ f.r.length=96) && okFr f.at' f.r got
 | _=>false
theorem Qw {l:List Int} {i j:Nat} {x d:Int} (h:i ≠ j):(l.set i x).getD j d=l.getD j d:=by
 simp [List.getD_eq_getElem?_getD,List.getElem?_set_ne h]
def Qtt (n:Int):Bool:=decide (-1152921504606846976 <= n) && decide (n <= 1152921504606846976)
def cellsOK (l:List Int):Bool:=decide (l.length <= 1024) && l.all Qtt
def OkDo (l:List Int) (k a b v:Int):Prop:=(k=0 /\ b=0 /\ v=0 \/ k=2) /\ 0 <= a /\ a < l.length /\ -1152921504606846976 <= b /\ b <= 1152921504606846976 /\ -1152921504606846976 <= v /\ v <= 1152921504606846976
instance instOkDo (l:List Int) (k a b v:Int):Decidable (OkDo l k a b v):=by unfold OkDo;infer_instance
def doG (l:List Int) (k a b:Int):Int:=if k=0 then l.getD a.toNat 0 else if l.getD a.toNat 0=b then 1 else 0
def stG (t:Task):GoR:=goR t.stack t.got
def stX (cs:List Int) (t:Task):Int:=doG cs (stG t).kind (stG t).a (stG t).b
def Qrr (cs:List Int) (t:Task) (now sure:List Sector):Prop :=
 okG t.client t.stack t.got=true /\ t.over=false /\ (stG t).is=true /\ OkDo cs (stG t).kind (stG t).a (stG t).b (stG t).v /\ cellsOK cs=true /\ Qq now sure=true /\ Qs now=true /\ Qs sure=true /\ okG t.client (stG t).st [stX cs t]=true
instance instOkStep (cs:List Int) (t:Task) (now sure:List Sector):Decidable (Qrr cs t now sure):=by unfold Qrr;infer_instance
def hnd (c n:Int):Int:=(n % 1000+1) * 256+c
structure GS where
 cs:List Int
 ts:List Task
 busy:List Bool
 n:Int
 has:List Int
 told:List Int
def wd (p:Int) (hs:List Int):Int:=if p <= 0 then 0 else p * 1048576+hs.getD (p - 1).toNat 0
structure RW (w:Int) (cs hs:List Int):Prop where
 w0:2 <= w
 w1:w <= 8
 lc:cs.length=771
 fit:∀ i,-1152921504606846976 <= cs.getD i 0 /\ cs.getD i 0 <= 1152921504606846976
 q0:0 <= cs.getD 4 0
 qf:cs.getD 4 0 <= cs.getD 0 0
 fT:cs.getD 0 0 <= hs.length
 Tf:(hs.length:Int) <= cs.getD 0 0+w
 Tt:(hs.length:Int) <= cs.getD 1 0
 tT:cs.getD 1 0 <= hs.length+1
 t1:1 <= cs.getD 1 0
 hv:∀ d ∈ hs,256 <= d /\ d <= 262143
 Tk:(hs.length:Int) <= 100000
 TL:(hs.length:Int) - 32 <= cs.getD 4 0
 ring:∀ p:Int,hs.length - w < p->p <= hs.length->cs.getD (13+p % w).toNat 0=wd p hs
theorem Qtu {l:List Int} {i:Nat} {d:Int} (h:i < l.length):l.getD i d=l[i]:=by
 rw [List.getD_eq_getElem?_getD,List.getElem?_eq_getElem h];rfl
theorem QH {l:List Int} {i:Nat} {x d:Int} (h:i < l.length):(l.set i x).getD i d=x:=by
 rw [List.getD_eq_getElem?_getD,List.getElem?_set_self h];rfl
theorem Qat (l:List Int) (i j:Nat) (x d:Int) (h:i < l.length):(l.set i x).getD j d=if i=j then x else l.getD j d:=by
 by_cases e:i=j
 · subst e;rw [if_pos rfl];exact QH h
 · rw [if_neg e];exact Qw e
theorem Qv6 {p:Int} {hs:List Int} (hv:∀ d ∈ hs,256 <= d /\ d <= 262143) (h1:1 <= p) (h2:p <= hs.length) (h3:(hs.length:Int) <= 100000) :
 wd p hs=p * 1048576+hs.getD (p - 1).toNat 0 /\ 256 <= hs.getD (p - 1).toNat 0 /\ hs.getD (p - 1).toNat 0 <= 262143:=by
 have hlt:(p - 1).toNat < hs.length:=by omega
 have e:hs.getD (p - 1).toNat 0=hs[(p - 1).toNat]:=Qtu hlt;refine ⟨by rw [wd,if_neg (by omega)],?_⟩
 rw [e];exact hv _ (List.getElem_mem hlt)
theorem Qp1 {p d:Int} (h1:0 <= p) (h2:p <= 1048575) (h3:0 <= d) (h4:d <= 262143):plc (p * 1048576+d)=p /\ bare (p * 1048576+d)=d:=by
 unfold plc bare;rw [QeK (by omega)]
 omega
theorem Qu3 {p:Int} {hs:List Int} (hv:∀ d ∈ hs,256 <= d /\ d <= 262143) (h2:p <= hs.length) (h3:(hs.length:Int) <= 100000) (h1:0 <= p):plc (wd p hs)=p /\ 0 <= wd p hs /\ wd p hs <= 1099510841343:=by
 by_cases h:1 <= p
 · obtain ⟨e,a,b⟩:=Qv6 hv h h2 h3;rw [e];exact ⟨(Qp1 (by omega) (by omega) (by omega) (by omega)).1,by omega,by omega⟩
 · have:p=0:=by omega
   subst this;rw [wd,if_pos (by decide)]
   exact ⟨by decide,by decide,by decide⟩
theorem Qu4 {p:Int} {hs:List Int} (h:p <= 0):wd p hs=0:=by rw [wd,if_pos h]
theorem QmY {w T p:Int} (hw:0 < w):T - w < T - (T - p) % w /\ T - (T - p) % w <= T /\ (T - (T - p) % w) % w=p % w:=by
 have h1:0 <= (T - p) % w:=Int.emod_nonneg _ (by omega)
 have h2:(T - p) % w < w:=Int.emod_lt_of_pos _ hw;refine ⟨by omega,by omega,?_⟩
 have e:T - (T - p) % w=p+w * ((T - p) / w):=by
  have:=Int.mul_ediv_add_emod (T - p) w;omega
 rw [e,Int.add_mul_emod_self_left]
theorem RW.read {w:Int} {cs hs:List Int} (h:RW w cs hs) (p:Int):∃ p',hs.length - w < p' /\ p' <= hs.length /\ p' % w=p % w /\ cs.getD (13+p % w).toNat 0=wd p' hs:=by
 have hw:=h.w0;obtain ⟨a,b,c⟩:=QmY (w:=w) (T:=hs.length) (p:=p) (by omega)
 exact ⟨_,a,b,c,by rw [<- c];exact h.ring _ a b⟩
theorem RW.read_le {w:Int} {cs hs:List Int} (h:RW w cs hs) (p:Int):0 <= cs.getD (13+p % w).toNat 0 /\ cs.getD (13+p % w).toNat 0 <= 1099510841343 /\ plc (cs.getD (13+p % w).toNat 0) <= hs.length:=by
 obtain ⟨p',a,b,c,e⟩:=h.read p;rw [e]
 by_cases h0:0 <= p'
 · obtain ⟨x,y,z⟩:=Qu3 h.hv b h.Tk h0;exact ⟨y,z,by rw [x];exact b⟩
 · rw [Qu4 (by omega)]
   refine ⟨by decide,by decide,?_⟩
   have:plc 0=0:=by decide
   omega
theorem RW.cell {w:Int} {cs hs:List Int} (h:RW w cs hs) (p:Int):(13+p % w).toNat < 21 /\ 13 <= (13+p % w).toNat /\ ((13+p % w).toNat:Int)=13+p % w:=by
 have hw:=h.w0;have hw1:=h.w1;have:=QmB (p:=p) (w:=w) (by omega)
 omega
theorem RW.set_low {w:Int} {cs hs:List Int} (h:RW w cs hs) {i:Nat} {v:Int} (hi:i=0 \/ i=4) (hv:-1152921504606846976 <= v /\ v <= 1152921504606846976)
 (hq:0 <= (cs.set i v).getD 4 0 /\ (cs.set i v).getD 4 0 <= (cs.set i v).getD 0 0 /\ (cs.set i v).getD 0 0 <= hs.length /\ (hs.length:Int) <= (cs.set i v).getD 0 0+w) (hL:cs.getD 4 0 <= (cs.set i v).getD 4 0):RW w (cs.set i v) hs:=by
 have hl:=h.lc;have g:∀ j,(cs.set i v).getD j 0=if i=j then v else cs.getD j 0:=fun j=>Qat cs i j _ _ (by omega)
 refine ⟨h.w0,h.w1,by simpa using hl,fun j=>?_,hq.1,hq.2.1,hq.2.2.1,hq.2.2.2,?_,?_,?_,h.hv,h.Tk,Int.le_trans h.TL hL,fun p a b=>?_⟩
 · rw [g]
   split
   · exact hv
   · exact h.fit j
 · rw [g,if_neg (by omega)];exact h.Tt
 · rw [g,if_neg (by omega)];exact h.tT
 · rw [g,if_neg (by omega)];exact h.t1
 · have hc:=h.cell p;rw [g,if_neg (by omega)]
   exact h.ring p a b
theorem QmZ {p w:Int} (h0:0 <= p) (h1:2 <= w) (h2:w <= 8):lRing p w=13+p % w:=by rw [lRing,if_pos ⟨h0,h1,h2⟩]
theorem RW.done {w:Int} {cs hs:List Int} (h:RW w cs hs) (hp:plc (cs.getD (lRing (cs.getD 0 0+1) w).toNat 0)=cs.getD 0 0+1):RW w (cs.set 0 (cs.getD 0 0+1)) hs:=by
 have hl:=h.lc;have hq0:=h.q0;have hqf:=h.qf;have hfT:=h.fT;have hTk:=h.Tk;have hTf:=h.Tf;have g0:(cs.set 0 (cs.getD 0 0+1)).getD 0 0=cs.getD 0 0+1:=QH (by omega)
 have g4:(cs.set 0 (cs.getD 0 0+1)).getD 4 0=cs.getD 4 0:=Qw (by decide)
 rw [QmZ (by omega) h.w0 h.w1] at hp
 have:=(h.read_le (cs.getD 0 0+1)).2.2;rw [hp] at this;exact h.set_low (.inl rfl) (by omega) (by rw [g0,g4];omega) (by rw [g4];omega)
theorem RW.cellsOK {w:Int} {cs hs:List Int} (h:RW w cs hs):cellsOK cs=true:=by
 simp only [Go.Ev.cellsOK,Bool.and_eq_true,decide_eq_true_eq];refine ⟨by rw [h.lc];decide,List.all_eq_true.2 fun x hx=>?_⟩
 obtain ⟨i,hi,rfl⟩:=List.getElem_of_mem hx;have:=h.fit i;have e:cs.getD i 0=cs[i]:=by simp [hi]
 rw [e] at this;simp only [Qtt,Bool.and_eq_true,decide_eq_true_eq];exact this
def MayA (k a b v g:Int) (tl al:Nat):Prop :=
 -1 <= b /\ b <= 1152921504606846976 /\ -1 <= v /\ v <= 1152921504606846976 /\ -1 <= g /\ g <= 1152921504606846976 /\ al <= 96 /\ tl <= 640 /\ 0 <= a /\ a <= 4095 /\
 (k=0 /\ b=0 /\ v=0 /\ tl=0 /\ al=0 \/ k=1 /\ b=0 /\ tl=0 /\ al=0 \/ k=2 /\ tl=0 /\ al=0 \/ k=3 /\ b=0 /\ g=0 /\ tl=0 /\ al=0 \/ k=4 /\ v=0 /\ g=0 /\ al=0 \/
  k=5 /\ a=0 /\ b=0 /\ v=0 /\ g=0 /\ tl=0 /\ al=0 \/ k=6 /\ a <= 127 /\ b=0 /\ v=0 /\ g=0 /\ tl=0 \/ k=7 /\ a=0 /\ b=0 /\ v=0 /\ g=0 /\ tl=0)
instance instMayA (k a b v g:Int) (tl al:Nat):Decidable (MayA k a b v g tl al):=by unfold MayA;infer_instance
theorem MayA.k0 {a b v g:Int} {tl al:Nat}:MayA 0 a b v g tl al ↔ (-1 <= b /\ b <= 1152921504606846976 /\ -1 <= v /\ v <= 1152921504606846976 /\ -1 <= g /\ g <= 1152921504606846976 /\ al <= 96 /\ tl <= 640 /\ 0 <= a /\ a <= 4095) /\ b=0 /\ v=0 /\ tl=0 /\ al=0:=by
 unfold MayA;refine ⟨fun ⟨q1,q2,q3,q4,q5,q6,q7,q8,q9,q10,h⟩=>⟨⟨q1,q2,q3,q4,q5,q6,q7,q8,q9,q10⟩,?_⟩,fun ⟨⟨q1,q2,q3,q4,q5,q6,q7,q8,q9,q10⟩,h⟩=>⟨q1,q2,q3,q4,q5,q6,q7,q8,q9,q10,.inl ⟨rfl,h⟩⟩⟩;rcases h with ⟨e,h⟩ | ⟨e,h⟩ | ⟨e,h⟩ | ⟨e,h⟩ | ⟨e,h⟩ | ⟨e,h⟩ | ⟨e,h⟩ | ⟨e,h⟩
 · exact h
 · exact absurd e (by decide)
 · exact absurd e (by decide)
 · exact absurd e (by decide)
 · exact absurd e (by decide)
 · exact absurd e (by decide)
 · exact absurd e (by decide)
 · exact absurd e (by decide)
theorem MayA.k1 {a b v g:Int} {tl al:Nat}:MayA 1 a b v g tl al ↔ (-1 <= b /\ b <= 1152921504606846976 /\ -1 <= v /\ v <= 1152921504606846976 /\ -1 <= g /\ g <= 1152921504606846976 /\ al <= 96 /\ tl <= 640 /\ 0 <= a /\ a <= 4095) /\ b=0 /\ tl=0 /\ al=0:=by
 unfold MayA;refine ⟨fun ⟨q1,q2,q3,q4,q5,q6,q7,q8,q9,q10,h⟩=>⟨⟨q1,q2,q3,q4,q5,q6,q7,q8,q9,q10⟩,?_⟩,fun ⟨⟨q1,q2,q3,q4,q5,q6,q7,q8,q9,q10⟩,h⟩=>⟨q1,q2,q3,q4,q5,q6,q7,q8,q9,q10,.inr (.inl ⟨rfl,h⟩)⟩⟩;rcases h with ⟨e,h⟩ | ⟨e,h⟩ | ⟨e,h⟩ | ⟨e,h⟩ | ⟨e,h⟩ | ⟨e,h⟩ | ⟨e,h⟩ | ⟨e,h⟩
 · exact absurd e (by decide)
 · exact h
 · exact absurd e (by decide)
 · exact absurd e (by decide)
 · exact absurd e (by decide)
 · exact absurd e (by decide)
 · exact absurd e (by decide)
 · exact absurd e (by decide)
theorem MayA.k2 {a b v g:Int} {tl al:Nat}:MayA 2 a b v g tl al ↔ (-1 <= b /\ b <= 1152921504606846976 /\ -1 <= v /\ v <= 1152921504606846976 /\ -1 <= g /\ g <= 1152921504606846976 /\ al <= 96 /\ tl <= 640 /\ 0 <= a /\ a <= 4095) /\ tl=0 /\ al=0:=by
 unfold MayA;refine ⟨fun ⟨q1,q2,q3,q4,q5,q6,q7,q8,q9,q10,h⟩=>⟨⟨q1,q2,q3,q4,q5,q6,q7,q8,q9,q10⟩,?_⟩,fun ⟨⟨q1,q2,q3,q4,q5,q6,q7,q8,q9,q10⟩,h⟩=>⟨q1,q2,q3,q4,q5,q6,q7,q8,q9,q10,.inr (.inr (.inl ⟨rfl,h⟩))⟩⟩;rcases h with ⟨e,h⟩ | ⟨e,h⟩ | ⟨e,h⟩ | ⟨e,h⟩ | ⟨e,h⟩ | ⟨e,h⟩ | ⟨e,h⟩ | ⟨e,h⟩
 · exact absurd e (by decide)
 · exact absurd e (by decide)
 · exact h
 · exact absurd e (by decide)
 · exact absurd e (by decide)
 · exact absurd e (by decide)
 · exact absurd e (by decide)
 · exact absurd e (by decide)
theorem MayA.k3 {a b v g:Int} {tl al:Nat}:MayA 3 a b v g tl al ↔ (-1 <= b /\ b <= 1152921504606846976 /\ -1 <= v /\ v <= 1152921504606846976 /\ -1 <= g /\ g <= 1152921504606846976 /\ al <= 96 /\ tl <= 640 /\ 0 <= a /\ a <= 4095) /\ b=0 /\ g=0 /\ tl=0 /\ al=0:=by
 unfold MayA;refine ⟨fun ⟨q1,q2,q3,q4,q5,q6,q7,q8,q9,q10,h⟩=>⟨⟨q1,q2,q3,q4,q5,q6,q7,q8,q9,q10⟩,?_⟩,fun ⟨⟨q1,q2,q3,q4,q5,q6,q7,q8,q9,q10⟩,h⟩=>⟨q1,q2,q3,q4,q5,q6,q7,q8,q9,q10,.inr (.inr (.inr (.inl ⟨rfl,h⟩)))⟩⟩;rcases h with ⟨e,h⟩ | ⟨e,h⟩ | ⟨e,h⟩ | ⟨e,h⟩ | ⟨e,h⟩ | ⟨e,h⟩ | ⟨e,h⟩ | ⟨e,h⟩
 · exact absurd e (by decide)
 · exact absurd e (by decide)
 · exact absurd e (by decide)
 · exact h
 · exact absurd e (by decide)
 · exact absurd e (by decide)
 · exact absurd e (by decide)
 · exact absurd e (by decide)
theorem MayA.k4 {a b v g:Int} {tl al:Nat}:MayA 4 a b v g tl al ↔ (-1 <= b /\ b <= 1152921504606846976 /\ -1 <= v /\ v <= 1152921504606846976 /\ -1 <= g /\ g <= 1152921504606846976 /\ al <= 96 /\ tl <= 640 /\ 0 <= a /\ a <= 4095) /\ v=0 /\ g=0 /\ al=0:=by
 unfold MayA;refine ⟨fun ⟨q1,q2,q3,q4,q5,q6,q7,q8,q9,q10,h⟩=>⟨⟨q1,q2,q3,q4,q5,q6,q7,q8,q9,q10⟩,?_⟩,fun ⟨⟨q1,q2,q3,q4,q5,q6,q7,q8,q9,q10⟩,h⟩=>⟨q1,q2,q3,q4,q5,q6,q7,q8,q9,q10,.inr (.inr (.inr (.inr (.inl ⟨rfl,h⟩))))⟩⟩;rcases h with ⟨e,h⟩ | ⟨e,h⟩ | ⟨e,h⟩ | ⟨e,h⟩ | ⟨e,h⟩ | ⟨e,h⟩ | ⟨e,h⟩ | ⟨e,h⟩
 · exact absurd e (by decide)
 · exact absurd e (by decide)
 · exact absurd e (by decide)
 · exact absurd e (by decide)
 · exact h
 · exact absurd e (by decide)
 · exact absurd e (by decide)
 · exact absurd e (by decide)
theorem MayA.k5 {a b v g:Int} {tl al:Nat}:MayA 5 a b v g tl al ↔ (-1 <= b /\ b <= 1152921504606846976 /\ -1 <= v /\ v <= 1152921504606846976 /\ -1 <= g /\ g <= 1152921504606846976 /\ al <= 96 /\ tl <= 640 /\ 0 <= a /\ a <= 4095) /\ a=0 /\ b=0 /\ v=0 /\ g=0 /\ tl=0 /\ al=0:=by
 unfold MayA;refine ⟨fun ⟨q1,q2,q3,q4,q5,q6,q7,q8,q9,q10,h⟩=>⟨⟨q1,q2,q3,q4,q5,q6,q7,q8,q9,q10⟩,?_⟩,fun ⟨⟨q1,q2,q3,q4,q5,q6,q7,q8,q9,q10⟩,h⟩=>⟨q1,q2,q3,q4,q5,q6,q7,q8,q9,q10,.inr (.inr (.inr (.inr (.inr (.inl ⟨rfl,h⟩)))))⟩⟩;rcases h with ⟨e,h⟩ | ⟨e,h⟩ | ⟨e,h⟩ | ⟨e,h⟩ | ⟨e,h⟩ | ⟨e,h⟩ | ⟨e,h⟩ | ⟨e,h⟩
 · exact absurd e (by decide)
 · exact absurd e (by decide)
 · exact absurd e (by decide)
 · exact absurd e (by decide)
 · exact absurd e (by decide)
 · exact h
 · exact absurd e (by decide)
 · exact absurd e (by decide)
theorem MayA.k6 {a b v g:Int} {tl al:Nat}:MayA 6 a b v g tl al ↔ (-1 <= b /\ b <= 1152921504606846976 /\ -1 <= v /\ v <= 1152921504606846976 /\ -1 <= g /\ g <= 1152921504606846976 /\ al <= 96 /\ tl <= 640 /\ 0 <= a /\ a <= 4095) /\ a <= 127 /\ b=0 /\ v=0 /\ g=0 /\ tl=0:=by
 unfold MayA;refine ⟨fun ⟨q1,q2,q3,q4,q5,q6,q7,q8,q9,q10,h⟩=>⟨⟨q1,q2,q3,q4,q5,q6,q7,q8,q9,q10⟩,?_⟩,fun ⟨⟨q1,q2,q3,q4,q5,q6,q7,q8,q9,q10⟩,h⟩=>⟨q1,q2,q3,q4,q5,q6,q7,q8,q9,q10,.inr (.inr (.inr (.inr (.inr (.inr (.inl ⟨rfl,h⟩))))))⟩⟩;rcases h with ⟨e,h⟩ | ⟨e,h⟩ | ⟨e,h⟩ | ⟨e,h⟩ | ⟨e,h⟩ | ⟨e,h⟩ | ⟨e,h⟩ | ⟨e,h⟩
 · exact absurd e (by decide)
 · exact absurd e (by decide)
 · exact absurd e (by decide)
 · exact absurd e (by decide)
 · exact absurd e (by decide)
 · exact absurd e (by decide)
 · exact h
 · exact absurd e (by decide)
theorem MayA.k7 {a b v g:Int} {tl al:Nat}:MayA 7 a b v g tl al ↔ (-1 <= b /\ b <= 1152921504606846976 /\ -1 <= v /\ v <= 1152921504606846976 /\ -1 <= g /\ g <= 1152921504606846976 /\ al <= 96 /\ tl <= 640 /\ 0 <= a /\ a <= 4095) /\ a=0 /\ b=0 /\ v=0 /\ g=0 /\ tl=0:=by
 unfold MayA;refine ⟨fun ⟨q1,q2,q3,q4,q5,q6,q7,q8,q9,q10,h⟩=>⟨⟨q1,q2,q3,q4,q5,q6,q7,q8,q9,q10⟩,?_⟩,fun ⟨⟨q1,q2,q3,q4,q5,q6,q7,q8,q9,q10⟩,h⟩=>⟨q1,q2,q3,q4,q5,q6,q7,q8,q9,q10,.inr (.inr (.inr (.inr (.inr (.inr (.inr (⟨rfl,h⟩)))))))⟩⟩;rcases h with ⟨e,h⟩ | ⟨e,h⟩ | ⟨e,h⟩ | ⟨e,h⟩ | ⟨e,h⟩ | ⟨e,h⟩ | ⟨e,h⟩ | ⟨e,h⟩
 · exact absurd e (by decide)
 · exact absurd e (by decide)
 · exact absurd e (by decide)
 · exact absurd e (by decide)
 · exact absurd e (by decide)
 · exact absurd e (by decide)
 · exact absurd e (by decide)
 · exact h
def QfM (l:List Int) (k a b v:Int):Prop:=(k=0 /\ b=0 /\ v=0 \/ k=1 /\ b=0 \/ k=2 \/ k=3 /\ b=0) /\ 0 <= a /\ a < l.length /\ -1152921504606846976 <= b /\ b <= 1152921504606846976 /\ -1152921504606846976 <= v /\ v <= 1152921504606846976
instance instOkDo4 (l:List Int) (k a b v:Int):Decidable (QfM l k a b v):=by unfold QfM;infer_instance
def addC (n v:Int):Int:=max (min (n+v) 1152921504606846976) (-1152921504606846976)
def doC4 (l:List Int) (k a b v:Int):List Int:=if k=1 \/ k=2 /\ l.getD a.toNat 0=b then l.set a.toNat v else if k=3 then l.set a.toNat (addC (l.getD a.toNat 0) v) else l
def doG4 (l:List Int) (k a b:Int):Int:=if k=0 \/ k=3 then l.getD a.toNat 0 else if k=2 /\ l.getD a.toNat 0=b then 1 else 0
structure GoR4 where
 st:List Frame
 got:List Int
 over:Bool
 kind:Int
 a:Int
 b:Int
 v:Int
 g:Int
 is:Bool
def g4 (p n:Int) (r got:List Int) (kind a b v g:Int):GoR4:=⟨[⟨p,n,r⟩],got,false,kind,a,b,v,g,true⟩
def Qbe (l:List Int):GoR4:=⟨[],l,true,0,0,0,0,0,false⟩
theorem Qm0 (x:Nat) (hx:x < 2 ^ 64):(BitVec.ofInt IntKind.i64.bits (x:Int)).toNat=x:=by
 rw [BitVec.toNat_ofInt];simp only [IntKind.bits];omega
theorem QfN (a b:Int) (k:Nat) (ha:0 <= a) (hb:0 <= b) (h1:b < ((2 ^ k:Nat):Int)) (h2:a * ((2 ^ k:Nat):Int)+b < 9223372036854775808) :
 bits .i64 (fun _ u v=>u ||| v) (a * ((2 ^ k:Nat):Int)) b=a * ((2 ^ k:Nat):Int)+b:=by
 obtain ⟨a,rfl⟩:=Int.eq_ofNat_of_zero_le ha;obtain ⟨b,rfl⟩:=Int.eq_ofNat_of_zero_le hb;have e:(a:Int) * ((2 ^ k:Nat):Int)=((a * 2 ^ k:Nat):Int):=by simp
 have h2':a * 2 ^ k+b < 9223372036854775808:=by rw [e] at h2;omega
 have h1':b < 2 ^ k:=by omega
 unfold bits;rw [e,BitVec.toNat_or,Qm0 _ (by omega),Qm0 _ (by omega)]
 have h3:a * 2 ^ k ||| b=a * 2 ^ k+b:=by
  rw [Nat.mul_comm,<- Nat.two_pow_add_eq_or_of_lt h1']
 rw [h3,wrap_id (by omega) (by omega)]
 simp
theorem YC (m a b:Int) (k:Nat) (hm:m=((2 ^ k:Nat):Int)) (ha:0 <= a) (hb:0 <= b) (h1:b < m) (h2:a * m+b < 9223372036854775808) :
 bits .i64 (fun _ u v=>u ||| v) (a * m) b=a * m+b:=by
 subst hm;exact QfN a b k ha hb h1 h2
def Q5 (l:Line):Bool:=decide (0 <= l.offset /\ l.offset < 4194304 /\ 1 <= l.place /\ l.place <= 1048575 /\ 0 <= l.j /\ l.j <= 3 /\ 0 <= l.key /\ l.key <= 7 /\ 0 <= l.value /\ l.value <= 255)
def Qtv (l:Line):Int:=(l.offset+1) * 8589934592+l.place * 8192+l.j * 2048+l.key * 256+l.value
def Qc7 (l:Line):Int:=bif Q5 l then Qtv l else 0
theorem Qp2 {o p j k v:Int} (h:Q5 ⟨o,p,j,k,v⟩=true) :
 bits .i64 (fun _ u v=>u ||| v) (bits .i64 (fun _ u v=>u ||| v) (bits .i64 (fun _ u v=>u ||| v) (bits .i64 (fun _ u v=>u ||| v) ((o+1) * 8589934592) (p * 8192)) (j * 2048)) (k * 256)) v=Qtv ⟨o,p,j,k,v⟩:=by
 unfold Q5 at h;rw [decide_eq_true_eq] at h;simp only at h;have e1:=YC 8589934592 (o+1) (p * 8192) 33 (by decide) (by omega) (by omega) (by omega) (by omega)
 have e2:=YC 8192 ((o+1) * 1048576+p) (j * 2048) 13 (by decide) (by omega) (by omega) (by omega) (by omega)
 have e3:=YC 2048 (((o+1) * 1048576+p) * 4+j) (k * 256) 11 (by decide) (by omega) (by omega) (by omega) (by omega)
 have e4:=YC 256 ((((o+1) * 1048576+p) * 4+j) * 8+k) v 8 (by decide) (by omega) (by omega) (by omega) (by omega)
 rw [e1,show (o+1) * 8589934592+p * 8192=((o+1) * 1048576+p) * 8192 by omega,e2,
  show ((o+1) * 1048576+p) * 8192+j * 2048=(((o+1) * 1048576+p) * 4+j) * 2048 by omega,e3,
  show (((o+1) * 1048576+p) * 4+j) * 2048+k * 256=((((o+1) * 1048576+p) * 4+j) * 8+k) * 256 by omega,e4]
 unfold Qtv;simp only;omega
def flo:Int->List Int->Int
 | n,[]=>n
 | n,s::l=>flo (if 0 < s /\ s - 1 < n then s - 1 else n) l
def oBeg (k:Int) (r got:List Int) (x:Int):GoR4 :=
 if k=0 then g4 92 1 r got 0 0 0 0 0
 else if k=1 then g4 92 2 (r.set 1 x) got 1 (lRow 9 (r.getD 0 0) 4) 0 (x+1) 0
 else if k=2 then g4 92 3 r got 0 3 0 0 0
 else if r.getD 1 0 < x then g4 92 1 r got 0 0 0 0 0 else Qbe [r.getD 1 0]
def Qu5 (k:Int) (r got:List Int) (x:Int):GoR4 :=
 if k=0 then g4 93 1 r got 0 0 0 0 0
 else if k=1 then g4 93 2 (r.set 0 x) got 0 3 0 0 0
 else if k=2 then (if x < r.getD 0 0 then g4 93 3 r got 2 3 x (r.getD 0 0) 0 else g4 93 4 (r.set 1 0) got 0 9 0 0 0)
 else if k=3 then (if x=0 then g4 93 2 r got 0 3 0 0 0 else g4 93 4 (r.set 1 0) got 0 9 0 0 0)
 else if r.getD 1 0=3 then Qbe [flo (r.getD 0 0) [r.getD 2 0,r.getD 3 0,r.getD 4 0,x]]
 else g4 93 4 ((r.set (2+(r.getD 1 0).toNat) x).set 1 (r.getD 1 0+1)) got 0 (10+r.getD 1 0) 0 0 0
def Qu6 (k:Int) (r got:List Int) (x:Int):GoR4 :=
 if k=0 then g4 93 1 r got 0 0 0 0 0
 else if k=1 then g4 93 2 (r.set 0 x) got 0 3 0 0 0
 else if k=2 then (if x < r.getD 0 0 then g4 93 3 (r.set 1 x) got 2 3 x (r.getD 0 0) 0 else g4 93 4 (r.set 2 0) got 0 9 0 0 0)
 else if k=3 then (if x=0 then g4 93 2 r got 0 3 0 0 0 else g4 93 4 (r.set 2 0) got 0 9 0 0 0)
 else if r.getD 2 0=3 then Qbe [flo (r.getD 0 0) [r.getD 3 0,r.getD 4 0,r.getD 5 0,x]]
 else g4 93 4 ((r.set (3+(r.getD 2 0).toNat) x).set 2 (r.getD 2 0+1)) got 0 (10+r.getD 2 0) 0 0 0
def goO (own:Bool) (st:List Frame) (got:List Int):GoR4:=match st with
 | [f]=>if f.prog=92 then oBeg f.at' f.r got (got.headD 0) else bif own then Qu6 f.at' f.r got (got.headD 0) else Qu5 f.at' f.r got (got.headD 0)
 | _=>Qbe []
def Qv7 (k:Int) (r got:List Int):Prop :=
 k=0 /\ got=[] \/ ∃ x,got=[x] /\ 1 <= k /\ k <= 3 /\ 0 <= x /\ x <= 1000000000 /\ 0 <= r.getD 0 0 /\ r.getD 0 0 <= 3
def Qu7 (own:Bool) (k:Int) (r got:List Int):Prop :=
 k=0 /\ got=[] \/ ∃ x,got=[x] /\ 1 <= k /\ k <= 4 /\ 0 <= x /\ x <= 1000000000 /\ (2 <= k->0 <= r.getD 0 0 /\ r.getD 0 0 <= 1000000000) /\
  (k=4->bif own then 0 <= r.getD 2 0 /\ r.getD 2 0 <= 3 /\ (r.getD 2 0=3->r.getD 3 0 <= 1000000000 /\ r.getD 4 0 <= 1000000000 /\ r.getD 5 0 <= 1000000000)
   else 0 <= r.getD 1 0 /\ r.getD 1 0 <= 3 /\ (r.getD 1 0=3->r.getD 2 0 <= 1000000000 /\ r.getD 3 0 <= 1000000000 /\ r.getD 4 0 <= 1000000000))
def okO (own:Bool) (c:Int) (st:List Frame) (got:List Int):Prop :=
 0 <= c /\ c <= 3 /\ ∃ p k r,st=[⟨p,k,r⟩] /\ r.length=96 /\ (p=92 /\ Qv7 k r got \/ p=93 /\ Qu7 own k r got)
def Qtw (A B:GoR4):Prop:=A.is=B.is /\ A.kind=B.kind /\ A.a=B.a /\ A.b=B.b /\ A.v=B.v /\ A.g=B.g /\ A.got=B.got
theorem Km {p n:Int} {r q got:List Int} {kd a b v g:Int}:Qtw (g4 p n r got kd a b v g) (g4 p n q got kd a b v g):=⟨rfl,rfl,rfl,rfl,rfl,rfl,rfl⟩
theorem Qm1 {l:List Int}:Qtw (Qbe l) (Qbe l):=⟨rfl,rfl,rfl,rfl,rfl,rfl,rfl⟩
theorem oB0 (own:Bool) (r got:List Int):goO own [⟨92,0,r⟩] got=g4 92 1 r got 0 0 0 0 0:=rfl
theorem oB1 (own:Bool) (r:List Int) (x:Int):goO own [⟨92,1,r⟩] [x]=g4 92 2 (r.set 1 x) [x] 1 (lRow 9 (r.getD 0 0) 4) 0 (x+1) 0:=rfl
theorem oB2 (own:Bool) (r got:List Int):goO own [⟨92,2,r⟩] got=g4 92 3 r got 0 3 0 0 0:=rfl
theorem oB3 (own:Bool) (r:List Int) (x:Int):goO own [⟨92,3,r⟩] [x]=if r.getD 1 0 < x then g4 92 1 r [x] 0 0 0 0 0 else Qbe [r.getD 1 0]:=rfl
theorem oM0 (own:Bool) (r got:List Int):goO own [⟨93,0,r⟩] got=g4 93 1 r got 0 0 0 0 0:=by cases own <;> rfl
theorem oM1 (own:Bool) (r:List Int) (x:Int):goO own [⟨93,1,r⟩] [x]=g4 93 2 (r.set 0 x) [x] 0 3 0 0 0:=by cases own <;> rfl
theorem oA2 (r:List Int) (x:Int):goO false [⟨93,2,r⟩] [x]=if x < r.getD 0 0 then g4 93 3 r [x] 2 3 x (r.getD 0 0) 0 else g4 93 4 (r.set 1 0) [x] 0 9 0 0 0:=rfl
theorem oC2 (r:List Int) (x:Int):goO true [⟨93,2,r⟩] [x]=if x < r.getD 0 0 then g4 93 3 (r.set 1 x) [x] 2 3 x (r.getD 0 0) 0 else g4 93 4 (r.set 2 0) [x] 0 9 0 0 0:=rfl
theorem oA3 (r:List Int) (x:Int):goO false [⟨93,3,r⟩] [x]=if x=0 then g4 93 2 r [x] 0 3 0 0 0 else g4 93 4 (r.set 1 0) [x] 0 9 0 0 0:=rfl
theorem oC3 (r:List Int) (x:Int):goO true [⟨93,3,r⟩] [x]=if x=0 then g4 93 2 r [x] 0 3 0 0 0 else g4 93 4 (r.set 2 0) [x] 0 9 0 0 0:=rfl
theorem oA4 (r:List Int) (x:Int):goO false [⟨93,4,r⟩] [x]=if r.getD 1 0=3 then Qbe [flo (r.getD 0 0) [r.getD 2 0,r.getD 3 0,r.getD 4 0,x]]
 else g4 93 4 ((r.set (2+(r.getD 1 0).toNat) x).set 1 (r.getD 1 0+1)) [x] 0 (10+r.getD 1 0) 0 0 0:=rfl
theorem oC4 (r:List Int) (x:Int):goO true [⟨93,4,r⟩] [x]=if r.getD 2 0=3 then Qbe [flo (r.getD 0 0) [r.getD 3 0,r.getD 4 0,r.getD 5 0,x]]
 else g4 93 4 ((r.set (3+(r.getD 2 0).toNat) x).set 2 (r.getD 2 0+1)) [x] 0 (10+r.getD 2 0) 0 0 0:=rfl
def frC (cs:List Int):Int:=cs.getD 0 0
def mkC (cs:List Int):Int:=cs.getD 3 0
def scC (cs:List Int) (i:Nat):Int:=cs.getD (9+i) 0
def opB (opn:List Bool) (i:Nat):Bool:=opn.getD i false
def stA (start:List Int) (i:Nat):Int:=start.getD i 0
def QfO (opn:List Bool) (start:List Int) (w:Int) (i:Nat) (v:Int):Prop:=opB opn i=true->w <= stA start i \/ 0 < v /\ v - 1 <= stA start i
def JB (cs:List Int) (opn:List Bool) (c k:Int) (r got:List Int):Prop :=
 r.length=96 /\ r.getD 0 0=c /\ opB opn c.toNat=false /\
 (k=0 /\ got=[] \/ ∃ x,got=[x] /\ 0 <= x /\ x <= frC cs /\ (k=1 \/ 0 <= r.getD 1 0 /\ r.getD 1 0 <= frC cs /\ scC cs c.toNat=r.getD 1 0+1 /\ (k=2 \/ k=3)))
def JM4 (cs:List Int) (opn:List Bool) (start:List Int) (r q:List Int) (x:Int):Prop :=
 r.getD 0 0 <= mkC cs /\ ∃ j:Nat,j <= 3 /\ r.getD 1 0=j /\ q.getD 2 0=j /\ (∀ i,i < j->r.getD (2+i) 0=q.getD (3+i) 0 /\ 0 <= r.getD (2+i) 0 /\ r.getD (2+i) 0 <= frC cs+1 /\ QfO opn start (r.getD 0 0) i (r.getD (2+i) 0)) /\ QfO opn start (r.getD 0 0) j x
def JM (cs:List Int) (opn:List Bool) (start:List Int) (k:Int) (r q got:List Int):Prop :=
 r.length=96 /\ q.length=96 /\
 (k=0 /\ got=[] \/ ∃ x,got=[x] /\ 0 <= x /\ x <= frC cs+1 /\ (k=1 /\ x <= frC cs \/ r.getD 0 0=q.getD 0 0 /\ 0 <= r.getD 0 0 /\ r.getD 0 0 <= frC cs /\
  (k=2 /\ x <= mkC cs \/ k=3 /\ (x=0 \/ r.getD 0 0 <= mkC cs) \/ k=4 /\ JM4 cs opn start r q x)))
theorem JB.ok {cs:List Int} {opn:List Bool} {c k:Int} {r got:List Int} (h:JB cs opn c k r got) (hf:frC cs <= 1000000) (c0:0 <= c) (c3:c <= 3) (own:Bool):okO own c [⟨92,k,r⟩] got:=by
 obtain ⟨h1,h2,_,h⟩:=h;refine ⟨c0,c3,92,k,r,rfl,h1,.inl ⟨rfl,?_⟩⟩;rcases h with h | ⟨x,e,x0,x1,h⟩
 · exact .inl h
 · refine .inr ⟨x,e,?_,?_,x0,by omega,by omega,by omega⟩
   · rcases h with h | ⟨_,_,_,h | h⟩ <;> omega
   · rcases h with h | ⟨_,_,_,h | h⟩ <;> omega
theorem JM.ok {cs:List Int} {opn:List Bool} {start:List Int} {k c:Int} {r q got:List Int} (h:JM cs opn start k r q got) (hf:frC cs <= 1000000) (c0:0 <= c) (c3:c <= 3) :
 okO false c [⟨93,k,r⟩] got /\ okO true c [⟨93,k,q⟩] got /\ Qtw (goO false [⟨93,k,r⟩] got) (goO true [⟨93,k,q⟩] got):=by
 obtain ⟨h1,h2,h⟩:=h;rcases h with ⟨rfl,rfl⟩ | ⟨x,rfl,x0,x1,⟨rfl,x2⟩ | ⟨e,w0,w1,⟨rfl,x2⟩ | ⟨rfl,x2⟩ | ⟨rfl,h4⟩⟩⟩
 · exact ⟨⟨c0,c3,93,0,r,rfl,h1,.inr ⟨rfl,.inl ⟨rfl,rfl⟩⟩⟩,⟨c0,c3,93,0,q,rfl,h2,.inr ⟨rfl,.inl ⟨rfl,rfl⟩⟩⟩,by rw [oM0,oM0];exact Km⟩
 · exact ⟨⟨c0,c3,93,1,r,rfl,h1,.inr ⟨rfl,.inr ⟨x,rfl,by omega,by omega,x0,by omega,by omega,by omega⟩⟩⟩,⟨c0,c3,93,1,q,rfl,h2,.inr ⟨rfl,.inr ⟨x,rfl,by omega,by omega,x0,by omega,by omega,by omega⟩⟩⟩,by rw [oM1,oM1];exact Km⟩
 · refine ⟨⟨c0,c3,93,2,r,rfl,h1,.inr ⟨rfl,.inr ⟨x,rfl,by omega,by omega,x0,by omega,by omega,by omega⟩⟩⟩,⟨c0,c3,93,2,q,rfl,h2,.inr ⟨rfl,.inr ⟨x,rfl,by omega,by omega,x0,by omega,by omega,by omega⟩⟩⟩,?_⟩
   rw [oA2,oC2,<- e]
   split <;> exact Km
 · refine ⟨⟨c0,c3,93,3,r,rfl,h1,.inr ⟨rfl,.inr ⟨x,rfl,by omega,by omega,x0,by omega,by omega,by omega⟩⟩⟩,⟨c0,c3,93,3,q,rfl,h2,.inr ⟨rfl,.inr ⟨x,rfl,by omega,by omega,x0,by omega,by omega,by omega⟩⟩⟩,?_⟩
   rw [oA3,oC3]
   split <;> exact Km
 · obtain ⟨h5,j,j3,e1,e2,hj,_⟩:=h4;refine ⟨⟨c0,c3,93,4,r,rfl,h1,.inr ⟨rfl,.inr ⟨x,rfl,by omega,by omega,x0,by omega,by omega,fun _=>?_⟩⟩⟩,⟨c0,c3,93,4,q,rfl,h2,.inr ⟨rfl,.inr ⟨x,rfl,by omega,by omega,x0,by omega,by omega,fun _=>?_⟩⟩⟩,?_⟩
   · refine ⟨by omega,by omega,fun h3=>?_⟩
     have a0:r.getD 2 0 <= frC cs+1:=(hj 0 (by omega)).2.2.1
     have a1:r.getD 3 0 <= frC cs+1:=(hj 1 (by omega)).2.2.1
     have a2:r.getD 4 0 <= frC cs+1:=(hj 2 (by omega)).2.2.1
     exact ⟨by omega,by omega,by omega⟩
   · refine ⟨by omega,by omega,fun h3=>?_⟩
     have a0:r.getD 2 0=q.getD 3 0 /\ _ /\ r.getD 2 0 <= frC cs+1 /\ _:=hj 0 (by omega)
     have a1:r.getD 3 0=q.getD 4 0 /\ _ /\ r.getD 3 0 <= frC cs+1 /\ _:=hj 1 (by omega)
     have a2:r.getD 4 0=q.getD 5 0 /\ _ /\ r.getD 4 0 <= frC cs+1 /\ _:=hj 2 (by omega)
     exact ⟨by omega,by omega,by omega⟩
   · rw [oA4,oC4,e1,e2]
     split
     · have a0:r.getD 2 0=q.getD 3 0:=(hj 0 (by omega)).1
       have a1:r.getD 3 0=q.getD 4 0:=(hj 1 (by omega)).1
       have a2:r.getD 4 0=q.getD 5 0:=(hj 2 (by omega)).1
       rw [<- e,a0,a1,a2];exact Qm1
     · exact Km
theorem JB.mono {cs cs':List Int} {opn opn':List Bool} {c k:Int} {r got:List Int} (h:JB cs opn c k r got) (hf:frC cs <= frC cs') (hs:scC cs' c.toNat=scC cs c.toNat) (ho:opB opn' c.toNat=opB opn c.toNat):JB cs' opn' c k r got:=by
 obtain ⟨h1,h2,h3,h⟩:=h;refine ⟨h1,h2,by rw [ho];exact h3,?_⟩
 rcases h with h | ⟨x,e,x0,x1,h⟩
 · exact .inl h
 · refine .inr ⟨x,e,x0,by omega,?_⟩
   rcases h with h | ⟨a,b,d,h⟩
   · exact .inl h
   · exact .inr ⟨a,by omega,by omega,h⟩
theorem JM.mono {cs cs':List Int} {opn opn':List Bool} {start start':List Int} {k:Int} {r q got:List Int} (h:JM cs opn start k r q got) (hf:frC cs <= frC cs') (hm:mkC cs <= mkC cs')
 (ho:∀ i,opB opn' i=true->opB opn i=true /\ stA start' i=stA start i \/ mkC cs <= stA start' i):JM cs' opn' start' k r q got:=by
 obtain ⟨h1,h2,h⟩:=h;refine ⟨h1,h2,?_⟩;rcases h with h | ⟨x,e,x0,x1,h⟩
 · exact .inl h
 · refine .inr ⟨x,e,x0,by omega,?_⟩
   rcases h with h | ⟨e,w0,w1,h⟩
   · exact .inl ⟨h.1,by omega⟩
   refine .inr ⟨e,w0,by omega,?_⟩
   rcases h with h | h | ⟨hk,w2,j,j3,e1,e2,hj,hx⟩
   · exact .inl ⟨h.1,by omega⟩
   · exact .inr (.inl ⟨h.1,by omega⟩)
   · have saw:∀ i v,QfO opn start (r.getD 0 0) i v->QfO opn' start' (r.getD 0 0) i v:=fun i v hv ho'=>by
      rcases ho i ho' with ⟨a,b⟩ | b
      · rw [b];exact hv a
      · exact .inl (by omega)
     refine .inr (.inr ⟨hk,by omega,j,j3,e1,e2,fun i hi=>?_,saw _ _ hx⟩)
     obtain ⟨a,b,d,f⟩:=hj i hi;exact ⟨a,b,by omega,saw _ _ f⟩
theorem doC4_load {l:List Int} {a b v:Int}:doC4 l 0 a b v=l:=by simp [doC4]
theorem QW {l:List Int} {a b:Int}:doG4 l 0 a b=l.getD a.toNat 0:=by simp [doG4]
theorem Qci {l:List Int} {a b v:Int}:doC4 l 1 a b v=l.set a.toNat v:=by simp [doC4]
theorem Qcj {l:List Int} {a b:Int}:doG4 l 1 a b=0:=by simp [doG4]
theorem Qhu {l:List Int} {a b v:Int}:doC4 l 2 a b v=if l.getD a.toNat 0=b then l.set a.toNat v else l:=by simp [doC4]
theorem Qp3 {l:List Int} {a b:Int}:doG4 l 2 a b=if l.getD a.toNat 0=b then 1 else 0:=by simp [doG4]
theorem Qbf {l:List Int} {i:Nat} {v:Int} (h:cellsOK l=true) (hv:-1152921504606846976 <= v /\ v <= 1152921504606846976):cellsOK (l.set i v)=true:=by
 unfold cellsOK at *
 simp only [Bool.and_eq_true,decide_eq_true_eq,List.length_set,List.all_eq_true] at *
 refine ⟨h.1,fun x hx=>?_⟩;rcases List.mem_or_eq_of_mem_set hx with hx | rfl
 · exact h.2 x hx
 · unfold Qtt;rw [decide_eq_true hv.1,decide_eq_true hv.2];rfl
theorem Qhv:∀ (l:List Int) (n:Int),flo n l <= n
 | [],n=>Int.le_refl n
 | s::l,n=>by
  have:=Qhv l (if 0 < s /\ s - 1 < n then s - 1 else n)
  unfold flo
  split at this <;> rename_i h
  · rw [if_pos h];omega
  · rw [if_neg h];omega
theorem Qm2:∀ (l:List Int) (n v:Int),v ∈ l->0 < v->flo n l <= v - 1
 | s::l,n,v,hv,h0=>by
  unfold flo;rcases List.mem_cons.1 hv with rfl | hv
  · have:=Qhv l (if 0 < v /\ v - 1 < n then v - 1 else n)
    split at this <;> rename_i h
    · rw [if_pos h];omega
    · rw [if_neg h];omega
  · exact Qm2 l _ v hv h0
structure Qck (p:Int) (cs cs':List Int) (c:Nat):Prop where
 len:cs'.length=771
 ok:cellsOK cs'=true
 fr:frC cs'=frC cs
 mr:mkC cs <= mkC cs' /\ mkC cs' <= frC cs
 sc:∀ i,i ≠ c \/ p=93->scC cs' i=scC cs i
 sb:∀ i,i < 4->0 <= scC cs' i /\ scC cs' i <= frC cs+1
structure OC (cs:List Int):Prop where
 len:cs.length=771
 ok:cellsOK cs=true
 mr:0 <= mkC cs /\ mkC cs <= frC cs
 fr:frC cs <= 1000000
 sb:∀ i,i < 4->0 <= scC cs i /\ scC cs i <= frC cs+1
theorem OC.same {cs:List Int} (h:OC cs) (p:Int) (c:Nat):Qck p cs cs c:=⟨h.len,h.ok,rfl,⟨Int.le_refl _,h.mr.2⟩,fun _ _=>rfl,h.sb⟩
theorem Qck.next {p:Int} {cs cs':List Int} {c:Nat} (h:Qck p cs cs' c) (hc:OC cs):OC cs' :=
 ⟨h.len,h.ok,⟨by have:=hc.mr;have:=h.mr;omega,by rw [h.fr];exact h.mr.2⟩,by rw [h.fr];exact hc.fr,fun i hi=>by rw [h.fr];exact h.sb i hi⟩
theorem JB.step {cs:List Int} {opn:List Bool} {c k:Int} {r got:List Int} (h:JB cs opn c k r got) (hc:OC cs) (c0:0 <= c) (c3:c <= 3) (hi:(goO false [⟨92,k,r⟩] got).is=true) :
 ∃ n r' kd a b v,(∀ own,goO own [⟨92,k,r⟩] got=g4 92 n r' got kd a b v 0) /\ QfM cs kd a b v /\ Qck 92 cs (doC4 cs kd a b v) c.toNat /\ JB (doC4 cs kd a b v) opn c n r' [doG4 cs kd a b] /\
  ((goO false [⟨92,n,r'⟩] [doG4 cs kd a b]).is=false -> ∃ s,(goO false [⟨92,n,r'⟩] [doG4 cs kd a b])=Qbe [s] /\ mkC (doC4 cs kd a b v) <= s /\ scC (doC4 cs kd a b v) c.toNat=s+1 /\ s <= frC cs):=by
 obtain ⟨h1,h2,h3,h⟩:=h;have hl:=hc.len;have hf:=hc.fr;have hm:=hc.mr;have hoL:∀ a:Int,0 <= a->a < 771->QfM cs 0 a 0 0:=fun a a0 a1=>⟨.inl ⟨rfl,rfl,rfl⟩,a0,by rw [hl];exact a1,by decide,by decide,by decide,by decide⟩
 rcases h with ⟨rfl,rfl⟩ | ⟨x,rfl,x0,x1,rfl | ⟨s0,s1,s2,rfl | rfl⟩⟩
 · refine ⟨1,r,0,0,0,0,fun own=>oB0 own r [],hoL 0 (by decide) (by decide),by rw [doC4_load];exact hc.same _ _,?_,fun q=>by rw [QW,oB1] at q;cases q⟩
   rw [doC4_load,QW];exact ⟨h1,h2,h3,.inr ⟨_,rfl,by show 0 <= frC cs;omega,Int.le_refl _,.inl rfl⟩⟩
 · have ha:lRow 9 (r.getD 0 0) 4=9+c:=by rw [h2,lRow,if_pos ⟨c0,by omega⟩]
   have hn:(9+c).toNat=9+c.toNat:=by omega
   refine ⟨2,r.set 1 x,1,9+c,0,x+1,fun own=>by rw [oB1,ha],⟨.inr (.inl ⟨rfl,rfl⟩),by omega,by omega,by decide,by decide,by omega,by omega⟩,?_,?_,fun q=>by rw [Qcj,oB2] at q;cases q⟩
   · rw [Qci,hn]
     have hsc:∀ i,scC (cs.set (9+c.toNat) (x+1)) i=if i=c.toNat then x+1 else scC cs i:=fun i=>by
      unfold scC;rw [Qat _ _ _ _ _ (by omega)]
      by_cases e:i=c.toNat
      · rw [if_pos (by omega),if_pos e]
      · rw [if_neg (by omega),if_neg e]
     have hmk:mkC (cs.set (9+c.toNat) (x+1))=mkC cs:=by unfold mkC;rw [Qw (by omega)]
     have hfr:frC (cs.set (9+c.toNat) (x+1))=frC cs:=by unfold frC;rw [Qw (by omega)]
     refine ⟨by rw [List.length_set];exact hl,Qbf hc.ok (by omega),hfr,by rw [hmk];omega,fun i hi=>?_,fun i hi=>?_⟩
     · rw [hsc,if_neg (by omega)]
     · rw [hsc]
       split
       · omega
       · exact hc.sb i hi
   · rw [Qci,Qcj,hn];refine ⟨by rw [List.length_set];exact h1,by rw [Qw (by decide)];exact h2,h3,.inr ⟨0,rfl,Int.le_refl _,?_,.inr ⟨?_,?_,?_,.inl rfl⟩⟩⟩
     · unfold frC;rw [Qw (by omega)];have:frC cs=cs.getD 0 0:=rfl;omega
     · rw [QH (by omega)];exact x0
     · rw [QH (by omega)];unfold frC;rw [Qw (by omega)];exact x1
     · unfold scC;rw [QH (by omega),QH (by omega)]
 · refine ⟨3,r,0,3,0,0,fun own=>oB2 own r [x],hoL 3 (by decide) (by decide),by rw [doC4_load];exact hc.same _ _,?_,fun q=>?_⟩
   · rw [doC4_load,QW];exact ⟨h1,h2,h3,.inr ⟨_,rfl,hm.1,hm.2,.inr ⟨s0,s1,s2,.inr rfl⟩⟩⟩
   · rw [QW,oB3] at q ⊢
     split at q
     · cases q
     · rename_i hlt;rw [if_neg hlt,doC4_load];have:mkC cs=cs.getD (Int.toNat 3) 0:=rfl;exact ⟨_,rfl,by omega,s2,s1⟩
 · rw [oB3] at hi
   split at hi
   · rename_i hlt;refine ⟨1,r,0,0,0,0,fun own=>by rw [oB3,if_pos hlt],hoL 0 (by decide) (by decide),by rw [doC4_load];exact hc.same _ _,?_,fun q=>by rw [QW,oB1] at q;cases q⟩
     rw [doC4_load,QW];exact ⟨h1,h2,h3,.inr ⟨_,rfl,by show 0 <= frC cs;omega,Int.le_refl _,.inl rfl⟩⟩
   · cases hi
theorem JM.look {cs:List Int} {opn:List Bool} {start:List Int} {r q:List Int} (h1:r.length=96) (h2:q.length=96) (e:r.getD 0 0=q.getD 0 0) (w0:0 <= r.getD 0 0) (w1:r.getD 0 0 <= mkC cs) (hc:OC cs)
 (ho:∀ i,i < 4->opB opn i=true->scC cs i=stA start i+1 /\ 0 <= stA start i) :
 QfM cs 0 9 0 0 /\ Qck 93 cs (doC4 cs 0 9 0 0) 0 /\ JM (doC4 cs 0 9 0 0) opn start 4 (r.set 1 0) (q.set 2 0) [doG4 cs 0 9 0] /\ (goO false [⟨93,4,r.set 1 0⟩] [doG4 cs 0 9 0]).is=true:=by
 have hl:=hc.len;have hm:=hc.mr;have hs:=hc.sb 0 (by decide)
 refine ⟨⟨.inl ⟨rfl,rfl,rfl⟩,by decide,by omega,by decide,by decide,by decide,by decide⟩,by rw [doC4_load];exact hc.same _ _,?_,?_⟩
 · rw [doC4_load,QW];have hx:cs.getD (Int.toNat 9) 0=scC cs 0:=rfl;rw [hx];have er:(r.set 1 0).getD 0 0=r.getD 0 0:=Qw (by decide)
   have eq:(q.set 2 0).getD 0 0=q.getD 0 0:=Qw (by decide)
   refine ⟨by rw [List.length_set];exact h1,by rw [List.length_set];exact h2,.inr ⟨_,rfl,hs.1,hs.2,.inr ⟨by rw [er,eq];exact e,by rw [er];exact w0,by rw [er];omega,.inr (.inr ⟨rfl,by rw [er];exact w1,0,by decide,QH (by omega),QH (by omega),fun i hi=>by omega,fun hop=>?_⟩)⟩⟩⟩
   have:=ho 0 (by decide) hop
   exact .inr ⟨by omega,by omega⟩
 · rw [oA4,QH (by omega),if_neg (by decide)];rfl
theorem JM.step {cs:List Int} {opn:List Bool} {start:List Int} {k:Int} {r q got:List Int} (h:JM cs opn start k r q got) (hc:OC cs) (ho:∀ i,i < 4->opB opn i=true->scC cs i=stA start i+1 /\ 0 <= stA start i)
 (hi:(goO false [⟨93,k,r⟩] got).is=true) :
 ∃ n r' q' kd a b v,goO false [⟨93,k,r⟩] got=g4 93 n r' got kd a b v 0 /\ goO true [⟨93,k,q⟩] got=g4 93 n q' got kd a b v 0 /\ QfM cs kd a b v /\ Qck 93 cs (doC4 cs kd a b v) 0 /\ JM (doC4 cs kd a b v) opn start n r' q' [doG4 cs kd a b] /\
  ((goO false [⟨93,n,r'⟩] [doG4 cs kd a b]).is=false -> ∃ s,(goO false [⟨93,n,r'⟩] [doG4 cs kd a b])=Qbe [s] /\ s <= mkC (doC4 cs kd a b v) /\ ∀ i,i < 4->opB opn i=true->s <= stA start i):=by
 obtain ⟨h1,h2,h⟩:=h;have hl:=hc.len;have hf:=hc.fr;have hm:=hc.mr;have hoL:∀ a:Int,0 <= a->a < 771->QfM cs 0 a 0 0:=fun a a0 a1=>⟨.inl ⟨rfl,rfl,rfl⟩,a0,by rw [hl];exact a1,by decide,by decide,by decide,by decide⟩
 rcases h with ⟨rfl,rfl⟩ | ⟨x,rfl,x0,x1,⟨rfl,x2⟩ | ⟨e,w0,w1,⟨rfl,x2⟩ | ⟨rfl,x2⟩ | ⟨rfl,h4⟩⟩⟩
 · refine ⟨1,r,q,0,0,0,0,oM0 _ _ _,oM0 _ _ _,hoL 0 (by decide) (by decide),by rw [doC4_load];exact hc.same _ _,?_,fun q=>by rw [QW,oM1] at q;cases q⟩
   rw [doC4_load,QW];have hx:cs.getD (Int.toNat 0) 0=frC cs:=rfl;rw [hx];exact ⟨h1,h2,.inr ⟨_,rfl,by omega,by omega,.inl ⟨rfl,Int.le_refl _⟩⟩⟩
 · refine ⟨2,r.set 0 x,q.set 0 x,0,3,0,0,oM1 _ _ _,oM1 _ _ _,hoL 3 (by decide) (by decide),by rw [doC4_load];exact hc.same _ _,?_,fun q=>?_⟩
   · rw [doC4_load,QW];have hx:cs.getD (Int.toNat 3) 0=mkC cs:=rfl;have er:(r.set 0 x).getD 0 0=x:=QH (by omega)
     have eq:(q.set 0 x).getD 0 0=x:=QH (by omega)
     rw [hx];exact ⟨by rw [List.length_set];exact h1,by rw [List.length_set];exact h2,.inr ⟨_,rfl,hm.1,by omega,.inr ⟨by rw [er,eq],by rw [er];exact x0,by rw [er];exact x2,.inl ⟨rfl,Int.le_refl _⟩⟩⟩⟩
   · rw [QW,oA2] at q
     split at q <;> cases q
 · by_cases hlt:x < r.getD 0 0
   · refine ⟨3,r,q.set 1 x,2,3,x,r.getD 0 0,by rw [oA2,if_pos hlt],by rw [oC2,<- e,if_pos hlt],⟨.inr (.inr (.inl rfl)),by decide,by omega,by omega,by omega,by omega,by omega⟩,?_,?_,fun q=>?_⟩
     · rw [Qhu]
       split
       · rename_i hb;have hmk:mkC (cs.set (Int.toNat 3) (r.getD 0 0))=r.getD 0 0:=QH (by omega)
         have hfr:frC (cs.set (Int.toNat 3) (r.getD 0 0))=frC cs:=Qw (by decide)
         have hsc:∀ i,scC (cs.set (Int.toNat 3) (r.getD 0 0)) i=scC cs i:=fun i=>Qw (by omega)
         have hb:mkC cs=x:=hb;exact ⟨by rw [List.length_set];exact hl,Qbf hc.ok (by omega),hfr,by rw [hmk];omega,fun i _=>hsc i,fun i hi=>by rw [hsc];exact hc.sb i hi⟩
       · exact hc.same _ _
     · rw [Qhu,Qp3];have eq:(q.set 1 x).getD 0 0=q.getD 0 0:=Qw (by decide)
       split
       · have hmk:mkC (cs.set (Int.toNat 3) (r.getD 0 0))=r.getD 0 0:=QH (by omega)
         have hfr:frC (cs.set (Int.toNat 3) (r.getD 0 0))=frC cs:=Qw (by decide)
         exact ⟨h1,by rw [List.length_set];exact h2,.inr ⟨_,rfl,by decide,by omega,.inr ⟨by rw [eq];exact e,w0,by rw [hfr];exact w1,.inr (.inl ⟨rfl,.inr (by rw [hmk];exact Int.le_refl _)⟩)⟩⟩⟩
       · exact ⟨h1,by rw [List.length_set];exact h2,.inr ⟨_,rfl,by decide,by omega,.inr ⟨by rw [eq];exact e,w0,w1,.inr (.inl ⟨rfl,.inl rfl⟩)⟩⟩⟩
     · rw [oA3] at q
       split at q <;> cases q
   · obtain ⟨a1,a2,a3,a4⟩:=JM.look h1 h2 e w0 (by omega) hc ho
     refine ⟨4,r.set 1 0,q.set 2 0,0,9,0,0,by rw [oA2,if_neg hlt],by rw [oC2,<- e,if_neg hlt],a1,a2,a3,fun q=>by rw [a4] at q;cases q⟩
 · by_cases hx:x=0
   · refine ⟨2,r,q,0,3,0,0,by rw [oA3,if_pos hx],by rw [oC3,if_pos hx],hoL 3 (by decide) (by decide),by rw [doC4_load];exact hc.same _ _,?_,fun q=>?_⟩
     · rw [doC4_load,QW];have hx:cs.getD (Int.toNat 3) 0=mkC cs:=rfl;rw [hx];exact ⟨h1,h2,.inr ⟨_,rfl,hm.1,by omega,.inr ⟨e,w0,w1,.inl ⟨rfl,Int.le_refl _⟩⟩⟩⟩
     · rw [QW,oA2] at q
       split at q <;> cases q
   · obtain ⟨a1,a2,a3,a4⟩:=JM.look h1 h2 e w0 (by omega) hc ho
     exact ⟨4,r.set 1 0,q.set 2 0,0,9,0,0,by rw [oA3,if_neg hx],by rw [oC3,if_neg hx],a1,a2,a3,fun q=>by rw [a4] at q;cases q⟩
 · obtain ⟨w2,j,j3,e1,e2,hj,hx⟩:=h4;rw [oA4] at hi
   split at hi
   · cases hi
   rename_i hne;have hj3:j <= 2:=by omega
   have t1:(r.getD 1 0).toNat=j:=by omega
   have t2:(q.getD 2 0).toNat=j:=by omega
   have hr0:((r.set (2+j) x).set 1 ((j:Int)+1)).getD 0 0=r.getD 0 0:=by rw [Qw (by decide),Qw (by omega)]
   have hq0:((q.set (3+j) x).set 2 ((j:Int)+1)).getD 0 0=q.getD 0 0:=by rw [Qw (by decide),Qw (by omega)]
   have hr1:((r.set (2+j) x).set 1 ((j:Int)+1)).getD 1 0=j+1:=QH (by rw [List.length_set];omega)
   have hq2:((q.set (3+j) x).set 2 ((j:Int)+1)).getD 2 0=j+1:=QH (by rw [List.length_set];omega)
   have hri:∀ i,((r.set (2+j) x).set 1 ((j:Int)+1)).getD (2+i) 0=if i=j then x else r.getD (2+i) 0:=fun i=>by
    rw [Qw (by omega),Qat _ _ _ _ _ (by omega)]
    by_cases e:i=j
    · rw [if_pos (by omega),if_pos e]
    · rw [if_neg (by omega),if_neg e]
   have hqi:∀ i,((q.set (3+j) x).set 2 ((j:Int)+1)).getD (3+i) 0=if i=j then x else q.getD (3+i) 0:=fun i=>by
    rw [Qw (by omega),Qat _ _ _ _ _ (by omega)]
    by_cases e:i=j
    · rw [if_pos (by omega),if_pos e]
    · rw [if_neg (by omega),if_neg e]
   have hsb:=hc.sb (j+1) (by omega)
   have hvx:cs.getD (10+(j:Int)).toNat 0=scC cs (j+1):=by unfold scC;congr 1;omega
   have hsaw:∀ i,i < j+1->QfO opn start (r.getD 0 0) i (if i=j then x else r.getD (2+i) 0):=fun i hi=>by
    by_cases e:i=j
    · rw [if_pos e,e];exact hx
    · rw [if_neg e];exact (hj i (by omega)).2.2.2
   have hlast:QfO opn start (r.getD 0 0) (j+1) (scC cs (j+1)):=fun hop=>by
    have:=ho (j+1) (by omega) hop
    exact .inr ⟨by omega,by omega⟩
   refine ⟨4,(r.set (2+j) x).set 1 (j+1),(q.set (3+j) x).set 2 (j+1),0,10+j,0,0,by rw [oA4,if_neg hne,t1,e1],by rw [oC4,if_neg (by omega),t2,e2],hoL _ (by omega) (by omega),by rw [doC4_load];exact hc.same _ _,?_,fun q=>?_⟩
   · rw [doC4_load,QW,hvx];refine ⟨by rw [List.length_set,List.length_set];exact h1,by rw [List.length_set,List.length_set];exact h2,.inr ⟨_,rfl,hsb.1,hsb.2,.inr ⟨by rw [hr0,hq0];exact e,by rw [hr0];exact w0,by rw [hr0];exact w1,.inr (.inr ⟨rfl,by rw [hr0];exact w2,j+1,by omega,by rw [hr1];simp,by rw [hq2];simp,fun i hi=>?_,by rw [hr0];exact hlast⟩)⟩⟩⟩
     rw [hri,hqi,hr0];refine ⟨?_,?_,?_,hsaw i hi⟩
     · by_cases e:i=j
       · rw [if_pos e,if_pos e]
       · rw [if_neg e,if_neg e];exact (hj i (by omega)).1
     · by_cases e:i=j
       · rw [if_pos e];exact x0
       · rw [if_neg e];exact (hj i (by omega)).2.1
     · by_cases e:i=j
       · rw [if_pos e];exact x1
       · rw [if_neg e];exact (hj i (by omega)).2.2.1
   · rw [doC4_load];rw [QW,hvx,oA4,hr1,hr0] at q ⊢
     split at q
     · rename_i h3;rw [if_pos h3];have hjj:j=2:=by omega
       refine ⟨_,rfl,Int.le_trans (Qhv _ _) w2,fun i hi hop=>?_⟩;have k2:((r.set (2+j) x).set 1 ((j:Int)+1)).getD 2 0=if (0:Nat)=j then x else r.getD 2 0:=hri 0
       have k3:((r.set (2+j) x).set 1 ((j:Int)+1)).getD 3 0=if (1:Nat)=j then x else r.getD 3 0:=hri 1
       have k4:((r.set (2+j) x).set 1 ((j:Int)+1)).getD 4 0=if (2:Nat)=j then x else r.getD 4 0:=hri 2
       have s:∃ v,v ∈ [((r.set (2+j) x).set 1 ((j:Int)+1)).getD 2 0,((r.set (2+j) x).set 1 ((j:Int)+1)).getD 3 0,((r.set (2+j) x).set 1 ((j:Int)+1)).getD 4 0,scC cs (j+1)] /\ QfO opn start (r.getD 0 0) i v:=by
        rw [k2,k3,k4];obtain rfl | rfl | rfl | rfl:i=0 \/ i=1 \/ i=2 \/ i=3:=by omega
        · exact ⟨_,by simp,hsaw 0 (by omega)⟩
        · exact ⟨_,by simp,hsaw 1 (by omega)⟩
        · exact ⟨_,by simp,hsaw 2 (by omega)⟩
        · exact ⟨scC cs (j+1),by simp,by have:=hlast;rwa [hjj] at this ⊢⟩
       obtain ⟨v,hv,hs⟩:=s;rcases hs hop with h | ⟨v0,h⟩
       · exact Int.le_trans (Qhv _ _) h
       · exact Int.le_trans (Qm2 _ _ v hv v0) h
     · cases q
section
variable {C:Cdc} {P:Program} {T:Tab C} {Φ:Fns C}
open Pg (Ex)
noncomputable def cdec (P:Prop):Bool := @decide P (Classical.propDecidable P)
theorem ZN {P:Prop}:cdec P=true ↔ P:=by
 unfold cdec;exact @decide_eq_true_iff P (Classical.propDecidable P)
theorem Zf {P:Prop} (h:P):cdec P=true:=ZN.2 h
structure FunR (C:Cdc) (σ:Type) where
 k:Nat
 args:σ->List (D C)
 objs:σ->List (Obj C)
 fin:σ->RT C
 Inv:σ->Prop
theorem Qu.args (K:QX P T) {X:Cx} {nx:Nat} {lim:Lim} {args:List (D C)} {vs:List Value} (h:RVs T X args vs) (hr:∀ a ∈ args,∀ id ∈ D.refs a,old nx lim id):Qu T X nx lim (eargs 0 args) (⟨vs⟩:Array Value):=by
 intro t;rw [QdO];simp only [Nat.zero_le,if_true,Nat.sub_zero];refine ⟨?_,?_⟩
 · have:=h.get t;have e:(⟨vs⟩:Array Value).getD t undef=vs.getD t undef:=by simp [Array.getD_eq_getD_getElem?]
   rw [e];exact this
 · by_cases ht:t < args.length
   · exact hr _ (by simp [List.getD_eq_getElem?_getD,ht])
   · have:args.getD t .top=.top:=by
      simp only [List.getD_eq_getElem?_getD];rw [List.getElem?_eq_none (by omega)];rfl
     rw [this];simp [D.refs]
end
structure NA where
 f:Frame
 a:Qj9
 fl:Bool
structure GoM where
 st:List Frame
 got:List Int
 gf:Bool
 a:Qj9
 af:Bool
 is:Bool
open Go.Proofs
def Qrs (w:Int):Option (Bool × D RC):=some (true,.int .i64 (plc w))
def Qm3:List (D RC)->Option (Bool × D RC)
 | [.int .i64 w]=>Qrs w
 | _=>none
noncomputable def Qrt (w:Int):=evF s28 Qts 20 174 [.int .i64 w]
theorem Qtx (w:Int):Qrt w=(let Z0:DO_:=some (D.int .i64 0);bif decide (w < (0:Int)) then Z0 else bif decide ((1099510841343:Int) < w) then Z0 else some (D.int .i64 (bits .i64 (fun (x:Nat) (u v:BitVec x)=>u &&& v) (Int.fdiv w (1048576:Int)) (1099511627775:Int)))):=by kernel_rfl
theorem Qty (w:Int) (h:(true)=true):Qrt w=some (.int .i64 (plc w)):=by
 (rw [Qtx];conv=>zeta)
 unfold plc;refine QeA (fun h0=>?_) fun h0=>QeA (fun h1=>?_) fun h1=>?_ <;> simp only [decide_eq_true_eq,decide_eq_false_iff_not] at *
 · rw [QeJ (by omega)];rfl
 · rw [QeJ (by omega)];rfl
 · rw [QeK (by omega),Qu2 (by omega),Qv5 (by omega)]
noncomputable def uk_1:=Qts.addSpec 174 Qm3
theorem Qm4:Qi Tryz.prog s28 uk_1:=Qi9.addEv Qb fun args d h=>by
 unfold Qm3 at h
 split at h
 · unfold Qrs at h;have h1:=congrArg Prod.fst (Option.some.inj h);obtain rfl:_=d:=congrArg Prod.snd (Option.some.inj h);exact ⟨by simp [D.refs],20,Qty _ h1⟩
 · cases h
def Qm5 (p:Int) (d:Int):Option (Bool × D RC):=some (true,.tup (.acons (.int .i64 (wordN p d)) (.acons (.int .i64 (Qja p d)) .anil)))
def Qhw:List (D RC)->Option (Bool × D RC)
 | [.int .i64 p,.int .i64 d]=>Qm5 p d
 | _=>none
noncomputable def Qm6 (p:Int) (d:Int):=evF s28 uk_1 20 123 [.int .i64 p,.int .i64 d]
theorem Qp4 (p:Int) (d:Int):Qm6 p d=(let Z0:Bool:=decide (p < (0:Int));let Z1:D RC:=D.int .i64 0;let Z2:DO_:=some (D.tup (D.acons Z1 (D.acons (D.int .i64 2) .anil)));let Z3:Bool:=decide ((1048575:Int) < p);let Z4:DO_:=some (D.tup (D.acons (D.int .i64 (bits .i64 (fun (x:Nat) (u v:BitVec x)=>u ||| v) (IntKind.wrap .i64 (p * (1048576:Int))) d)) (.acons Z1 .anil)));let Z5:DO_:=bif d != (0:Int) then Z2 else bif p != (0:Int) then Z2 else Z4;bif decide ((256:Int) <= d) then bif Z0 then Z2 else bif Z3 then Z2 else bif !decide (d <= (262143:Int)) then Z5 else Z4 else bif Z0 then Z2 else bif Z3 then Z2 else Z5):=by kernel_rfl
theorem Qp5 (p:Int) (d:Int) (h:(true)=true):Qm6 p d=some (.tup (.acons (.int .i64 (wordN p d)) (.acons (.int .i64 (Qja p d)) .anil))):=by
 (rw [Qp4];conv=>zeta)
 have ww:0 <= p->p <= 1048575->IntKind.i64.wrap (p * 1048576)=p * 1048576:=fun h1 h2=>wrap_id (by omega) (by omega)
 repeat' (refine QeA (fun hc=>?_) fun hc=>?_)
 all_goals
  simp only [decide_eq_true_eq,decide_eq_false_iff_not,beq_iff_eq,bne_iff_ne,ne_eq,Bool.not_eq_true',Bool.not_eq_false',bne_eq_false_iff_eq,beq_eq_false_iff_ne] at *
  first
  | exact congrArg some (QmX (by unfold Qae;omega))
  | (rw [ww (by omega) (by omega),or20 (by omega) (by omega)];exact congrArg some (QmW (by unfold Qae;omega)))
noncomputable def uk_2:=uk_1.addSpec 123 Qhw
theorem Qm7:Qi Tryz.prog s28 uk_2:=Qm4.addEv Qb fun args d h=>by
 unfold Qhw at h
 split at h
 · unfold Qm5 at h;have h1:=congrArg Prod.fst (Option.some.inj h);obtain rfl:_=d:=congrArg Prod.snd (Option.some.inj h);exact ⟨by simp [D.refs],20,Qp5 _ _ h1⟩
 · cases h
open Go.Proofs
theorem Qv8 {n:Int} (k:Nat) (h:0 <= n):(n.fdiv (2 ^ k) == 0)=decide (n < 2 ^ k):=by
 have hp:(0:Int) < 2 ^ k:=Int.pow_pos (by decide)
 rw [Int.fdiv_eq_ediv_of_nonneg _ (Int.le_of_lt hp)]
 by_cases q:n < 2 ^ k
 · rw [decide_eq_true q,Int.ediv_eq_zero_of_lt h q];rfl
 · rw [decide_eq_false q]
   have:n / 2 ^ k ≠ 0:=fun e=>q (by
    have h1:=Int.ediv_mul_add_emod n (2 ^ k);have h2:=Int.emod_lt_of_pos n hp;rw [e] at h1;omega)
   simpa using this
theorem QeL {o p j k v:Int} (h:¬ (0 <= o /\ o < 4194304 /\ 1 <= p /\ p <= 1048575 /\ 0 <= j /\ j <= 3 /\ 0 <= k /\ k <= 7 /\ 0 <= v /\ v <= 255)):Q5 ⟨o,p,j,k,v⟩=false:=decide_eq_false h
theorem QeM {o p j k v:Int} (h:0 <= o /\ o < 4194304 /\ 1 <= p /\ p <= 1048575 /\ 0 <= j /\ j <= 3 /\ 0 <= k /\ k <= 7 /\ 0 <= v /\ v <= 255):Q5 ⟨o,p,j,k,v⟩=true:=decide_eq_true h
def Qm8 (n:Int) (a:Int) (b:Int):Option (Bool × D RC):=some (decide (0 <= a /\ 0 <= b /\ b <= 63),.bool (decide (a <= n /\ n < 2 ^ b.toNat)))
def Qhx:List (D RC)->Option (Bool × D RC)
 | [.int .i64 n,.int .i64 a,.int .i64 b]=>Qm8 n a b
 | _=>none
noncomputable def Qm9 (n:Int) (a:Int) (b:Int):=evF s28 uk_2 20 186 [.int .i64 n,.int .i64 a,.int .i64 b]
theorem Qp6 (n:Int) (a:Int) (b:Int):Qm9 n a b=(bif decide (a <= n) then bif decide (b < (0:Int)) then none else some (D.bool (Int.fdiv n ((2:Int) ^ min b.toNat (64:Nat)) == (0:Int))) else some (D.bool false)):=by kernel_rfl
theorem Qp7 (n:Int) (a:Int) (b:Int) (h:(decide (0 <= a /\ 0 <= b /\ b <= 63))=true):Qm9 n a b=some (.bool (decide (a <= n /\ n < 2 ^ b.toNat))):=by
 rw [Qp6];obtain ⟨h1,h2,h3⟩:=of_decide_eq_true h;have hm:min b.toNat 64=b.toNat:=by omega
 rw [decide_eq_false (show ¬ b < 0 by omega),hm]
 simp only [cond_false];refine QD (fun q=>?_) fun q=>?_
 · have q:=of_decide_eq_true q;rw [Qv8 _ (by omega)]
   by_cases q2:n < 2 ^ b.toNat
   · rw [decide_eq_true q2,decide_eq_true (show a <= n /\ n < 2 ^ b.toNat from ⟨q,q2⟩)]
   · rw [decide_eq_false q2,decide_eq_false (fun e=>q2 e.2)]
 · have q:=of_decide_eq_false q;rw [decide_eq_false (fun e=>q e.1)]
noncomputable def ul_1:=uk_2.addSpec 186 Qhx
theorem Qna:Qi Tryz.prog s28 ul_1:=Qm7.addEv Qb fun args d h=>by
 unfold Qhx at h
 split at h
 · unfold Qm8 at h;have h1:=congrArg Prod.fst (Option.some.inj h);obtain rfl:_=d:=congrArg Prod.snd (Option.some.inj h);exact ⟨by simp [D.refs],20,Qp7 _ _ _ h1⟩
 · cases h
def Qhy (o:Int) (p:Int) (j:Int) (k:Int) (v:Int):Option (Bool × D RC):=some (true,.tup (.acons (.int .i64 (Qc7 ⟨o,p,j,k,v⟩)) (.acons (.int .i64 (bif Q5 ⟨o,p,j,k,v⟩ then 0 else 2)) .anil)))
def QeN:List (D RC)->Option (Bool × D RC)
 | [.acons (.int .i64 o) (.acons (.int .i64 p) (.acons (.int .i64 j) (.acons (.int .i64 k) (.acons (.int .i64 v) .anil))))]=>Qhy o p j k v
 | _=>none
noncomputable def Qhz (o:Int) (p:Int) (j:Int) (k:Int) (v:Int):=evF s28 ul_1 60 117 [.acons (.int .i64 o) (.acons (.int .i64 p) (.acons (.int .i64 j) (.acons (.int .i64 k) (.acons (.int .i64 v) .anil))))]
theorem Qnb (o:Int) (p:Int) (j:Int) (k:Int) (v:Int):Qhz o p j k v=(let Z0:D RC:=D.int .i64 0;let Z1:DO_:=some (D.tup (D.acons Z0 (D.acons (D.int .i64 2) .anil)));bif decide ((0:Int) <= o /\ o < (4194304:Int)) then bif decide ((1:Int) <= p /\ p < (1048576:Int)) then bif decide ((0:Int) <= j /\ j < (4:Int)) then bif decide ((0:Int) <= k /\ k < (8:Int)) then bif !decide ((0:Int) <= v /\ v < (256:Int)) then Z1 else some (D.tup (D.acons (D.int .i64 (bits .i64 (fun (x:Nat) (u v:BitVec x)=>u ||| v) (bits .i64 (fun (x:Nat) (u v:BitVec x)=>u ||| v) (bits .i64 (fun (x:Nat) (u v:BitVec x)=>u ||| v) (bits .i64 (fun (x:Nat) (u v:BitVec x)=>u ||| v) (IntKind.wrap .i64 (IntKind.wrap .i64 (o+(1:Int)) * (8589934592:Int))) (IntKind.wrap .i64 (p * (8192:Int)))) (IntKind.wrap .i64 (j * (2048:Int)))) (IntKind.wrap .i64 (k * (256:Int)))) v)) (.acons Z0 .anil))) else Z1 else Z1 else Z1 else Z1):=by kernel_rfl
theorem Qnc (o:Int) (p:Int) (j:Int) (k:Int) (v:Int) (h:(true)=true):Qhz o p j k v=some (.tup (.acons (.int .i64 (Qc7 ⟨o,p,j,k,v⟩)) (.acons (.int .i64 (bif Q5 ⟨o,p,j,k,v⟩ then 0 else 2)) .anil))):=by
 (rw [Qnb];conv=>zeta)
 have no:(¬ (0 <= o /\ o < 4194304 /\ 1 <= p /\ p <= 1048575 /\ 0 <= j /\ j <= 3 /\ 0 <= k /\ k <= 7 /\ 0 <= v /\ v <= 255))->some (D.tup (C:=RC) (.acons (.int .i64 0) (.acons (.int .i64 2) .anil)))=some (.tup (.acons (.int .i64 (Qc7 ⟨o,p,j,k,v⟩)) (.acons (.int .i64 (bif Q5 ⟨o,p,j,k,v⟩ then 0 else 2)) .anil))):=fun e=>by simp only [Qc7,QeL e];rfl
 iterate 4
  refine QD (fun _=>?_) fun e=>no (by simp only [decide_eq_false_iff_not] at e;omega)
 refine QD (fun e=>no (by simp only [Bool.not_eq_true',decide_eq_false_iff_not] at e;omega)) fun e=>?_
 simp only [Bool.not_eq_false',decide_eq_true_eq] at *
 have hm:Q5 ⟨o,p,j,k,v⟩=true:=QeM (by omega)
 have w1:IntKind.i64.wrap (o+1)=o+1:=wrap_id (by omega) (by omega)
 have w2:IntKind.i64.wrap ((o+1) * 8589934592)=(o+1) * 8589934592:=wrap_id (by omega) (by omega)
 have w3:IntKind.i64.wrap (p * 8192)=p * 8192:=wrap_id (by omega) (by omega)
 have w4:IntKind.i64.wrap (j * 2048)=j * 2048:=wrap_id (by omega) (by omega)
 have w5:IntKind.i64.wrap (k * 256)=k * 256:=wrap_id (by omega) (by omega)
 simp only [Qc7,hm,w1,w2,w3,w4,w5,cond_true,Qp2 hm]
noncomputable def ul_2:=ul_1.addSpec 117 QeN
theorem Qnd:Qi Tryz.prog s28 ul_2:=Qna.addEv Qb fun args d h=>by
 unfold QeN at h
 split at h
 · unfold Qhy at h;have h1:=congrArg Prod.fst (Option.some.inj h);obtain rfl:_=d:=congrArg Prod.snd (Option.some.inj h);exact ⟨by simp [D.refs],60,Qnc _ _ _ _ _ h1⟩
 · cases h
def idxI:List Item->Int->Nat
 | [],_=>0
 | y::l,a=>if y.key < a then idxI l a+1 else 0
def Qjb (l:List Item) (a:Int):List Item:=match l.drop (idxI l a) with
 | y::r=>if y.key=a then r else y::r
 | []=>[]
def putI (l:List Item) (x:Item):List Item:=l.take (idxI l x.key)++x::Qjb l x.key
theorem Qc8:∀ (l:List Item) (a:Int),idxI l a <= l.length
 | [],_=>Nat.le_refl _
 | y::l,a=>by
  unfold idxI
  split
  · have:=Qc8 l a;simp;omega
  · simp
theorem Qne:∀ {l:List Item} {a:Int} {k:Nat} {d:Item},k < l.length->k <= idxI l a->(k < idxI l a ↔ (l.getD k d).key < a)
 | [],_,k,_,h,_=>by simp at h
 | y::l,a,0,d,_,_=>by
  unfold idxI
  by_cases h:y.key < a <;> simp [h]
 | y::l,a,k+1,d,h,hk=>by
  unfold idxI at hk ⊢
  by_cases hy:y.key < a
  · simp only [hy,if_true] at hk ⊢;have:=Qne (l:=l) (a:=a) (k:=k) (d:=d) (by simpa using h) (by omega)
    simp only [List.getD_cons_succ];omega
  · simp only [hy,if_false] at hk;omega
theorem Qcl (l:List Item) (a:Int) (d:Item):Qjb l a=if idxI l a < l.length /\ (l.getD (idxI l a) d).key=a then l.drop (idxI l a+1) else l.drop (idxI l a):=by
 unfold Qjb
 by_cases h:idxI l a < l.length
 · have e:l.drop (idxI l a)=l.getD (idxI l a) d::l.drop (idxI l a+1):=by
    rw [List.drop_eq_getElem_cons h];simp [h]
   rw [e]
   by_cases hk:(l.getD (idxI l a) d).key=a
   · rw [if_pos ⟨h,hk⟩];simp only [hk,if_true]
   · rw [if_neg (fun q=>hk q.2)];simp only [hk,if_false]
 · have e:l.drop (idxI l a)=[]:=List.drop_eq_nil_of_le (by omega)
   rw [e,if_neg (fun q=>h q.1)]
theorem QhA (l:List Item) (x:Item):(putI l x).length <= l.length+1:=by
 have:=Qc8 l x.key;rw [putI,Qcl l x.key ⟨0,0,0⟩]
 split <;> simp <;> omega
open Go.Proofs
structure QhB where
 c:Bool
 l:List Item
 a:Int
 p:Int
 v:Int
 k:Nat
def QfP (c:Bool) (l:List Item) (a:Int) (p:Int) (v:Int) (k:Nat):Env RC:=[(0,.sl (C:=RC) .item c l),(3,.ptr 0 []),(5,.int .i64 (k:Int))]
def JP (c:Bool) (l:List Item) (a:Int) (p:Int) (v:Int) (k:Nat):List (Obj RC):=[.var 56 (.acons (.int .i64 a) (.acons (.int .i64 p) (.acons (.int .i64 v) .anil)))]
noncomputable def Qnf (c:Bool) (l:List Item) (a:Int) (p:Int) (v:Int) (k:Nat):=rndO s28 ul_2 91 2 40 1 [0,3,5] [5] [.slot 3 0] (QfP c l a p v k) (JP c l a p v k)
theorem Qp8 (c:Bool) (l:List Item) (a:Int) (p:Int) (v:Int) (k:Nat):Qnf c l a p v k=(let Z0:Int:=(↑k:Int);let Z1:List (Option (Obj RC)):=[some (Obj.var 56 (.acons (D.int .i64 a) (.acons (D.int .i64 p) (.acons (D.int .i64 v) .anil))))];let Z2:RO_:=some ((X.exit (0:Nat),[(5,D.int .i64 Z0)]),Z1);bif Qh l.length then bif decide (Z0 < (↑l.length:Int)) then bif decide ((0:Int) <= Z0 /\ Z0 < (↑l.length:Int)) then bif decide (Item.key (List.getD l Z0.toNat (Item.mk (0:Int) (0:Int) (0:Int))) < a) then some ((X.normal,[(0,D.sl RTy.item c l),(3,D.ptr 0 []),(5,D.int .i64 (IntKind.wrap .i64 (Z0+(1:Int))))]),Z1) else Z2 else none else Z2 else none):=by kernel_rfl
def Kn (c:Bool) (l:List Item) (a:Int) (p:Int) (v:Int) (k:Nat):RT RC:=.leaf (.exit 0) [(5,.int .i64 (idxI l a:Int))] (JP c l a p v k)
def VW (c:Bool) (l:List Item) (a:Int) (p:Int) (v:Int) (k:Nat):Prop:=k <= idxI l a /\ Qh l.length=true
def Vi:QI RC QhB where
 k:=1
 canon q:=QfP q.c q.l q.a q.p q.v q.k
 objs q:=JP q.c q.l q.a q.p q.v q.k
 fin q:=Kn q.c q.l q.a q.p q.v q.k
 Inv q:=VW q.c q.l q.a q.p q.v q.k
 μ q:=q.l.length - q.k
theorem QfQ (c:Bool) (l:List Item) (a:Int) (p:Int) (v:Int) (k:Nat) (hI:VW c l a p v k):Leaf (Qnf c l a p v k) (LedR Vi ⟨c,l,a,p,v,k⟩):=by
 (rw [Qp8];conv=>zeta)
 unfold VW at hI;obtain ⟨h1,h2⟩:=hI;have hl:=V5 h2;have hi:=Qc8 l a
 by_cases hlt:k < l.length
 · have w_succ:IntKind.i64.wrap ((k:Int)+1)=((k+1:Nat):Int):=by rw [wrap_id (by omega) (by omega)];simp
   have d_lt:decide ((k:Int) < l.length)=true:=by simp;omega
   have d_in:decide (0 <= (k:Int) /\ (k:Int) < l.length)=true:=by simp;omega
   have t_nat:((k:Int)).toNat=k:=by simp
   simp only [w_succ,d_lt,d_in,t_nat,cond_true];simp only [h2,cond_true];have hat:=Qne (d:=(⟨0,0,0⟩:Item)) hlt h1
   by_cases hk:(l.getD k ⟨0,0,0⟩).key < a
   · rw [decide_eq_true hk];simp only [cond_true];exact Qp (S:=Vi) ⟨c,l,a,p,v,k+1⟩ ⟨hat.2 hk,h2⟩ (by simp only [Vi];omega) rfl rfl rfl
   · rw [decide_eq_false hk];simp only [cond_false];have e:k=idxI l a:=by omega
     exact Qm (JP c l a p v k) (by simp only [Vi,Kn,RT.val,<- e]) rfl
 · have d1:decide ((k:Int) < l.length)=false:=by simp;omega
   rw [h2,d1];simp only [cond_true,cond_false];have e:k=idxI l a:=by omega
   exact Qm (JP c l a p v k) (by simp only [Vi,Kn,RT.val,<- e]) rfl
def QfR (env:Env RC) (os:List (Obj RC)):Option (Bool × QhB):=match env,os with
 | [(0,.sl .item c l),(3,.ptr 0 []),(5,.int .i64 x0)],[.var 56 (.acons (.int .i64 a) (.acons (.int .i64 p) (.acons (.int .i64 v) .anil)))]=>QB (true) (decide (x0=0) && Qh l.length,⟨c,l,a,p,v,0⟩)
 | _,_=>none
noncomputable def um_1:=ul_2.addLoop 91 2 (sumR s28 [.slot 3 0] [0,3,5] Vi QfR)
theorem Qng:Qi Tryz.prog s28 um_1:=by
 refine Qnd.addRoundsR Qb (by kernel_rfl) Vi 40 [0,3,5] [5] [.slot 3 0] [0,3,5] QfR (fun q hI=>?_) ?_
 · obtain ⟨c,l,a,p,v,k⟩:=q;refine ⟨?_,?_,QfQ c l a p v k hI⟩
   · simp_all [Qj,Vi,QfP,JP,VW,D.refs,Obj.refs,rEnc]
   · simp_all [Vi,Kn,JP,VW,RT.refsOK,Qj,D.refs,Obj.refs,rEnc]
 · intro env os b q hd_ hb;unfold QfR at hd_
   split at hd_
   · obtain ⟨hs,hd_⟩:=Qg hd_;cases hd_;simp only [Bool.and_eq_true,decide_eq_true_eq] at hb;obtain ⟨rfl,h2⟩:=hb;exact ⟨⟨Nat.zero_le _,h2⟩,rfl,rfl⟩
   · cases hd_
def Qnh (c:Bool) (l:List Item) (a:Int) (p:Int) (v:Int):Option (Bool × D RC):=some (decide (l.length <= 1000),.sl (C:=RC) .item false (putI l ⟨a,p,v⟩))
def QhC:List (D RC)->Option (Bool × D RC)
 | [.sl .item c l,.acons (.int .i64 a) (.acons (.int .i64 p) (.acons (.int .i64 v) .anil))]=>Qnh c l a p v
 | _=>none
noncomputable def Qni (c:Bool) (l:List Item) (a:Int) (p:Int) (v:Int):=evF s28 um_1 40 91 [.sl (C:=RC) .item c l,.acons (.int .i64 a) (.acons (.int .i64 p) (.acons (.int .i64 v) .anil))]
theorem Qp9 (c:Bool) (l:List Item) (a:Int) (p:Int) (v:Int):Qni c l a p v=(let Z0:Int:=(↑(idxI l a):Int);let Z1:List Item:=List.drop Z0.toNat l;let Z2:Nat:=List.length Z1;let Z3:Bool:=decide ((0:Int) <= (0:Int) /\ (0:Int) <= Z0 /\ Z0 <= (↑l.length:Int) /\ Z0=Z0);let Z4:List Item:=List.drop (0:Nat) (List.take Z0.toNat l);let Z5:Nat:=List.length Z4+List.length [Item.mk a p v];let Z6:List Item:=Z4++[Item.mk a p v];let Z7:Nat:=List.length Z6;let Z8:Nat:=List.length (List.drop (1:Nat) Z1);let Z9:List Item:=Z6++List.drop (1:Nat) Z1;let Z10:DO_:=none;let Z11:DO_:=bif Z3 then bif Qk Z5 (24:Nat) then bif Nat.beq Z5 Z7 && Qk (Z5+Z2) (24:Nat) then bif Nat.beq (Z7+Z2) (Z6++Z1).length then some (D.sl RTy.item false (Z6++Z1)) else Z10 else Z10 else Z10 else Z10;bif Qh l.length then bif decide ((0:Int) <= Z0 /\ Z0 <= (↑l.length:Int)) then bif Qh Z2 then bif decide ((0:Int) < (↑Z2:Int)) then bif decide ((0:Int) <= (0:Int) /\ (0:Int) < (↑Z2:Int)) then bif Item.key (List.getD Z1 (0:Nat) (Item.mk (0:Int) (0:Int) (0:Int))) == a then bif decide ((0:Int) <= (1:Int) /\ (1:Int) <= (↑Z2:Int)) then bif Z3 then bif Qk Z5 (24:Nat) then bif Nat.beq Z5 Z7 && Qk (Z5+Z8) (24:Nat) then bif Nat.beq (Z7+Z8) Z9.length then some (D.sl RTy.item false Z9) else Z10 else Z10 else Z10 else Z10 else Z10 else Z11 else Z10 else Z11 else Z10 else Z10 else Z10):=by kernel_rfl
theorem Qqa (c:Bool) (l:List Item) (a:Int) (p:Int) (v:Int) (h:(decide (l.length <= 1000))=true):Qni c l a p v=some (.sl (C:=RC) .item false (putI l ⟨a,p,v⟩)):=by
 (rw [Qp9];conv=>zeta)
 have hl:l.length <= 1000:=by simpa using h
 have hi:=Qc8 l a;have hr:=Qcl l a ⟨0,0,0⟩;show _=some (D.sl (C:=RC) RTy.item false (l.take (idxI l a)++⟨a,p,v⟩::Qjb l a));rw [hr];generalize idxI l a=K at *;have t:((K:Int)).toNat=K:=by simp
 have g0:(l.drop K).getD 0 (⟨0,0,0⟩:Item)=l.getD K ⟨0,0,0⟩:=by simp [List.getD_eq_getElem?_getD]
 simp only [t,g0,List.length_drop,List.length_take,List.drop_zero,List.length_append,List.length_cons,List.length_nil];refine Qa (Qe (by omega)) (Qa (by simp;omega) (Qa (Qe (by omega)) ?_))
 by_cases hlt:K < l.length
 · refine Qa (by simp;omega) (Qa (by simp;omega) ?_)
   by_cases hk:(l.getD K ⟨0,0,0⟩).key=a
   · rw [if_pos ⟨hlt,hk⟩];refine Qa (by simpa using hk) (Qa (by simp;omega) (Qa (by simp;omega) (Qa (YO (by omega)) (Qa (by rw [Bool.and_eq_true];exact ⟨Zu (by omega),YO (by omega)⟩) (Qa (Zu (by omega)) ?_)))))
     simp [List.drop_drop,Nat.add_comm]
   · rw [if_neg fun q=>hk q.2];refine Qy (by simpa using hk) (Qa (by simp;omega) (Qa (YO (by omega)) (Qa (by rw [Bool.and_eq_true];exact ⟨Zu (by omega),YO (by omega)⟩) (Qa (Zu (by omega)) ?_))))
     simp
 · rw [if_neg fun q=>hlt q.1];refine Qy (by simp;omega) (Qa (by simp;omega) (Qa (YO (by omega)) (Qa (by rw [Bool.and_eq_true];exact ⟨Zu (by omega),YO (by omega)⟩) (Qa (Zu (by omega)) ?_))))
   simp
noncomputable def um_2:=um_1.addSpec 91 QhC
theorem Qnj:Qi Tryz.prog s28 um_2:=Qng.addEv Qb fun args d h=>by
 unfold QhC at h
 split at h
 · unfold Qnh at h;have h1:=congrArg Prod.fst (Option.some.inj h);obtain rfl:_=d:=congrArg Prod.snd (Option.some.inj h);exact ⟨by simp [D.refs],40,Qqa _ _ _ _ _ h1⟩
 · cases h
def firstIx {α:Type} (p:α->Bool):List α->Nat
 | []=>0
 | x::l=>bif p x then 0 else firstIx p l+1
theorem KM {α:Type} (p:α->Bool):∀ l:List α,firstIx p l <= l.length
 | []=>Nat.le_refl _
 | x::l=>by
  unfold firstIx;cases p x <;> simp [KM p l]
theorem YU {α:Type} (p:α->Bool):∀ l:List α,(firstIx p l < l.length) ↔ l.any p=true
 | []=>by simp [firstIx]
 | x::l=>by
  unfold firstIx;have:=YU p l;cases h:p x <;> simp [h,this]
theorem KN {α:Type} (p:α->Bool):∀ {l:List α} {k:Nat} {d:α},k < l.length->k <= firstIx p l->(k < firstIx p l ↔ p (l.getD k d)=false)
 | [],k,_,h,_=>by simp at h
 | x::l,0,d,_,_=>by
  unfold firstIx;cases h:p x <;> simp [h]
 | x::l,k+1,d,h,hk=>by
  unfold firstIx at hk ⊢;cases hx:p x
  · simp only [hx,cond_false] at hk ⊢;have:=KN p (l:=l) (k:=k) (d:=d) (by simpa using h) (by omega)
    simp only [List.getD_cons_succ];exact ⟨fun q=>this.1 (by omega),fun q=>by have:=this.2 q;omega⟩
  · simp only [hx,cond_true] at hk;omega
theorem QfS {α:Type} {p:α->Bool} {l:List α}:(firstIx (fun x => !p x) l < l.length) ↔ l.all p=false:=by
 rw [YU];simp
theorem QhD (x:Line):Line.mk x.offset x.place x.j x.key x.value=x:=rfl
def delW (cut:Int):Nat->List Line->Nat->Nat->List Line × Nat
 | 0,w,i,_=>(w,i)
 | n+1,w,i,j=>if (w.getD j ⟨0,0,0,0,0⟩).place <= cut then delW cut n w i (j+1) else delW cut n (w.set i (w.getD j ⟨0,0,0,0,0⟩)) (i+1) (j+1)
theorem Qc9 (cut:Int):∀ (n:Nat) (w:List Line) (i j:Nat),i <= j->j+n=w.length ->
 (delW cut n w i j).1.length=w.length /\ (delW cut n w i j).2 <= w.length /\ (delW cut n w i j).1.take (delW cut n w i j).2=w.take i++(w.drop j).filter fun x=>decide (cut < x.place)
 | 0,w,i,j,h1,h2=>by
  have:w.drop j=[]:=List.drop_eq_nil_of_le (by omega)
  rw [this];exact ⟨rfl,by simp only [delW];omega,by simp [delW]⟩
 | n+1,w,i,j,h1,h2=>by
  have hj:j < w.length:=by omega
  have e:w.drop j=w.getD j ⟨0,0,0,0,0⟩::w.drop (j+1):=by
   rw [List.drop_eq_getElem_cons hj];simp [hj]
  unfold delW;generalize w.getD j ⟨0,0,0,0,0⟩=x at e ⊢
  by_cases hp:x.place <= cut
  · rw [if_pos hp];obtain ⟨a,b,c⟩:=Qc9 cut n w i (j+1) (by omega) (by omega)
    refine ⟨a,b,?_⟩;rw [c,e,List.filter_cons_of_neg (by simpa using hp)]
  · rw [if_neg hp];obtain ⟨a,b,c⟩:=Qc9 cut n (w.set i x) (i+1) (j+1) (by omega) (by rw [List.length_set];omega)
    rw [List.length_set] at a b;refine ⟨a,b,?_⟩;rw [c,e,List.filter_cons_of_pos (by simpa using hp)]
    have e1:(w.set i x).take (i+1)=w.take i++[x]:=by
     rw [List.take_add_one,List.take_set_of_le (Nat.le_refl _)];simp [show i < w.length by omega]
    have e2:(w.set i x).drop (j+1)=w.drop (j+1):=by rw [List.drop_set_of_lt (by omega)]
    rw [e1,e2];simp
theorem YK (cut:Int):∀ {M:List Line},(M.any fun x=>decide (x.place <= cut))=true ->
 M.filter (fun x=>decide (cut < x.place))=M.take (firstIx (fun x=>decide (x.place <= cut)) M)++(M.drop (firstIx (fun x=>decide (x.place <= cut)) M+1)).filter fun x=>decide (cut < x.place)
 | [],h=>by simp at h
 | x::M,h=>by
  unfold firstIx
  by_cases hx:x.place <= cut
  · rw [List.filter_cons_of_neg (by simpa using hx)]
    simp [hx]
  · have hM:(M.any fun x=>decide (x.place <= cut))=true:=by simpa [hx] using h
    rw [List.filter_cons_of_pos (by simp;omega),YK cut hM]
    simp [hx]
theorem Qbg (cut:Int) {M:List Line} (h:(M.any fun x=>decide (x.place <= cut))=false):M.filter (fun x=>decide (cut < x.place))=M:=by
 rw [List.filter_eq_self];intro x hx;have:=List.any_eq_false.1 h x hx;simp only [decide_eq_true_eq] at this ⊢;omega
def ZI (p:Int) (q:Int):Int->Nat->List Qc->List Line
 | _,_,[]=>[]
 | nx,j,w::r=>if w.key / 8=q then ⟨nx,p,j,w.key % 8,w.value⟩::ZI p q (nx+1) (j+1) r else ZI p q nx (j+1) r
theorem Ko (p q:Int):∀ (w:List Qc) (nx:Int) (j:Nat),(ZI p q nx j w).length <= w.length
 | [],_,_=>Nat.le_refl _
 | w::r,nx,j=>by
  unfold ZI
  split
  · have:=Ko p q r (nx+1) (j+1);simp;omega
  · have:=Ko p q r nx (j+1);simp;omega
def Kq (l:List Line):Int:=if 0 < l.length then (l.getD (l.length - 1) ⟨0,0,0,0,0⟩).offset+1 else 0
def Qbh (l:List Line) (r:Rec):Bool:=l.all Q5 && mayB r
def Vt (l:List Line) (r:Rec) (q:Int):List Line:=l++ZI r.place q (Kq l) 0 r.writes
def Qda (l:List Line):Int:=(l.getD (l.length - 17) ⟨0,0,0,0,0⟩).place
def Qcm (l:List Line):List Line:=(l.drop (l.length - 16)).filter fun x=>decide (Qda l < x.place)
def Vu (l:List Line) (r:Rec) (q:Int):List Line :=
 bif Qbh l r && r.yes then (bif decide ((Vt l r q).length <= 16) then Vt l r q else Qcm (Vt l r q)) else l
def Js (l:List Line) (cut:Int) (r:Rec) (q:Int):Int :=
 bif Qbh l r && r.yes then (bif decide ((Vt l r q).length <= 16) then cut else Qda (Vt l r q)) else cut
theorem Qbi (l:List Line) (r:Rec) (q:Int):(Vu l r q).length <= max l.length 16:=by
 unfold Vu;cases Qbh l r && r.yes
 · simp;omega
 · simp only [cond_true]
   by_cases h:(Vt l r q).length <= 16
   · rw [decide_eq_true h];simp only [cond_true];omega
   · rw [decide_eq_false h];simp only [cond_false];have:=List.length_filter_le (fun x:Line=>decide (Qda (Vt l r q) < x.place)) ((Vt l r q).drop ((Vt l r q).length - 16));unfold Qcm;simp only [List.length_drop] at this;omega
theorem Qnk {r:Rec} (h:mayB r=true):∀ w ∈ r.writes,0 <= w.key /\ w.key <= 23:=by
 intro w hw;unfold mayB Q8 at h;simp only [Bool.and_eq_true] at h;have:=List.all_eq_true.1 (Zi h.1.2.2) w hw;unfold ZA at this;simp only [Bool.and_eq_true,Qt] at this;exact this.1
def Qcn (ws:List Qc):Bool:=ws.all fun w=>decide (0 <= w.key /\ w.key <= 23)
theorem Qnl {ws:List Qc} (h:Qcn ws=true) {i:Nat} (hi:i < ws.length):0 <= (ws.getD i ⟨0,0⟩).key /\ (ws.getD i ⟨0,0⟩).key <= 23:=by
 have:=List.all_eq_true.1 h ws[i] (List.getElem_mem hi);simp only [decide_eq_true_eq] at this
 simpa [hi] using this
theorem Qqb {r:Rec} (h:mayB r=true):Qcn r.writes=true:=List.all_eq_true.2 fun w hw=>by simpa using Qnk h w hw
section
variable {C:Cdc} {P:Program} {T:Tab C} {Φ:Fns C}
open Pg (Ex)
end
section
variable {C:Cdc} {P:Program} {T:Tab C} {Φ:Fns C}
open Pg (Ex)
end
section
variable {C:Cdc} {P:Program} {T:Tab C} {Φ:Fns C}
open Pg (Ex)
def D.slk:D C->D C
 | .acons d ds=>.acons d.slk ds.slk
 | .tup d=>.tup d.slk
 | .sl t _ l=>.sl t false l
 | d=>d
theorem D.slk_refs:∀ d:D C,d.slk.refs=d.refs
 | .acons d ds=>by simp [D.slk,D.refs,D.slk_refs d,D.slk_refs ds]
 | .tup d=>by simp [D.slk,D.refs,D.slk_refs d]
 | .sl _ _ _=>rfl
 | .bool _ | .int _ _ | .str _ | .anil | .arr _ _ _ | .nils | .vs _ _ | .ptr _ _ | .vptr _ _ _ | .cptr _ | .nilp | .fn _ _ | .nilfn | .nilm | .bm _ _ | .yl _ _ _ _ _ _ _ | .dsl _ _ _ | .itp _ | .mp _ | .asl _ _ _ _ _ | .top=>rfl
theorem D.slk_noYl:∀ d:D C,d.slk.noYl=d.noYl
 | .acons d ds=>by simp only [D.slk,D.noYl,D.slk_noYl d,D.slk_noYl ds]
 | .tup d=>by simp only [D.slk,D.noYl,D.slk_noYl d]
 | .sl _ _ _=>rfl
 | .bool _ | .int _ _ | .str _ | .anil | .arr _ _ _ | .nils | .vs _ _ | .ptr _ _ | .vptr _ _ _ | .cptr _ | .nilp | .fn _ _ | .nilfn | .nilm | .bm _ _ | .yl _ _ _ _ _ _ _ | .dsl _ _ _ | .itp _ | .mp _ | .asl _ _ _ _ _ | .top=>rfl
theorem D.slk_row:∀ d:D C,d.slk.isRow=d.isRow
 | .acons _ _ | .tup _ | .sl _ _ _=>rfl
 | .bool _ | .int _ _ | .str _ | .anil | .arr _ _ _ | .nils | .vs _ _ | .ptr _ _ | .vptr _ _ _ | .cptr _ | .nilp | .fn _ _ | .nilfn | .nilm | .bm _ _ | .yl _ _ _ _ _ _ _ | .dsl _ _ _ | .itp _ | .mp _ | .asl _ _ _ _ _ | .top=>rfl
theorem R.slk {X:Cx} {m:Bool} {d:D C} {vs:List Value} (h:R T X m d vs):R T X m d.slk vs:=by
 induction h with
 | acons _ _ i1 i2=>exact .acons i1 i2
 | tup _ ih=>exact .tup ih
 | sl0 t c a=>exact .sl0 t false a
 | sl ha h hc _ _=>exact .sl ha h hc (fun h=>by cases h)
 | vrow _ hr _ i1 i2=>exact .vrow i1 (by rw [D.slk_row];exact hr) i2
 | vone _ hr _ i1 i2=>exact .vone i1 (by rw [D.slk_row];exact hr) i2
 | bool b=>exact .bool b
 | int h=>exact .int h
 | str s=>exact .str s
 | anil=>exact .anil
 | arr0 t=>exact .arr0 t
 | arrS h1 h2 _ _=>exact .arrS h1 h2
 | nils=>exact .nils
 | vs h=>exact .vs h
 | ptr h=>exact .ptr h
 | vptr h=>exact .vptr h
 | cptr h1 h2 _=>exact .cptr h1 h2
 | nilp=>exact .nilp
 | fn h _=>exact .fn h
 | nilfn=>exact .nilfn
 | nilm=>exact .nilm
 | bm h1 h2 _=>exact .bm h1 h2
 | yl h1 h2 h3 _=>exact .yl h1 h2 h3
 | dsl h1 h2 h3 h4 h5 _=>exact .dsl h1 h2 h3 h4 h5
 | itp h=>exact .itp h
 | mp h=>exact .mp h
 | asl h1 h2 h3=>exact .asl h1 h2 h3
 | top v=>exact .top v
 | vnil=>exact .vnil
theorem RV.slk {X:Cx} {d:D C} {v:Value} (h:RV T X d v):RV T X d.slk v:=by
 rcases h with ⟨h1,cs,h2,h3⟩ | ⟨h1,h2⟩
 · exact .inl ⟨by rw [D.slk_row];exact h1,cs,h2.slk,h3⟩
 · exact .inr ⟨by rw [D.slk_row];exact h1,h2.slk⟩
def evFW (T:Tab C) (Φ:Fns C) (n:Nat) (f:FuncId) (args:List (D C)):Option (D C):=(QaE T Φ (evC T Φ n) f args).run (0,0) [] 0 [] fun d _ _ _=>bif d.refs.isEmpty && d.noYl then some d.slk else none
theorem Qnm {n:Nat} {f:FuncId} {args:List (D C)} {d:D C} (h:evFW T Φ n f args=some d):∃ d0,evF T Φ n f args=some d0 /\ d0.slk=d:=by
 unfold evFW at h;obtain ⟨a,h1,n1,t1,hx,hk⟩:=Pg.run_some h;cases hc:(a.refs.isEmpty && a.noYl) with
 | false=>rw [hc] at hk;cases hk
 | true =>
  rw [hc] at hk;refine ⟨a,?_,Option.some.inj hk⟩;unfold evF;rw [Pg.run_of_ex1 hx];simp only [hc,cond_true]
theorem Vz.slk {g:FuncId} {args:List (D C)} {d:D C} (h:Vz P T g args d):Vz P T g args d.slk:=by
 intro w O vs h1 h2 h3;obtain ⟨q1,q2⟩:=h w O vs h1 h2 h3;refine ⟨q1,q2.mono fun en w' hp=>?_⟩;obtain ⟨v,ρ,e,r,⟨d1,d2⟩,rest⟩:=hp;exact ⟨v,ρ,e,r.slk,⟨by rw [D.slk_refs];exact d1,by rw [D.slk_noYl];exact d2⟩,rest⟩
theorem Qi.addEvW (K:QX P T) (F:Qi P T Φ) {g:FuncId} {s:List (D C)->Option (Bool × D C)} (hs:∀ args d,s args=some (true,d)->(∀ a ∈ args,D.refs a=[]) /\ ∃ n,evFW T Φ n g args=some d):Qi P T (Φ.addSpec g s) :=
 F.addSpec fun args d h=>by
  obtain ⟨h1,n,h2⟩:=hs args d h;obtain ⟨d0,h3,rfl⟩:=Qnm h2;exact ⟨h1,(Qgy K F h3 h1).slk⟩
end
section
variable {C:Cdc} {P:Program} {T:Tab C} {Φ:Fns C}
open Pg (Ex)
def KO {α:Type} (T:Tab C):List Fnd->Env C->List Nat->(Env C->List Nat->Pg C α)->Pg C α
 | [],env,ids,k=>k env ids
 | .slot t i::r,env,ids,k=>match eget env t with
  | .sl ty true []=>.nw (.vec ty true []) fun id=>KO T r ((t,.vs id 0)::env) (ids++[id]) k
  | .sl ty true (x::l)=>.nw (.vec ty false (x::l)) fun id=>KO T r ((t,.vs id (x::l).length)::env) (ids++[id]) k
  | d=>match d.refs[i]? with
   | some id=>KO T r env (ids++[id]) k
   | none=>.fail
 | .lst t::r,env,ids,k=>match eget env t with
  | .sl ty true l=>.br l.isEmpty (.nw (.vec ty true l) fun id=>KO T r ((t,.vs id l.length)::env) (ids++[id]) k) (.nw (.vec ty false l) fun id=>KO T r ((t,.vs id l.length)::env) (ids++[id]) k)
  | _=>.fail
 | .path j p::r,env,ids,k=>match ids[j]? with
  | none=>.fail
  | some idj=>.rd idj fun
   | .var u d=>match getPath T d p with
    | some (.sl ty true [])=>match tyAt T u p with
     | some t'=>bif ZE T u p && fit T (.vs 0 0:D C) (.inl t') then .nw (.vec ty true []) fun id=>match Ev.setPath T d p (.vs id 0) with
      | some d'=>.wr idj (.var u d') (KO T r env (ids++[id]) k)
      | none=>.fail
      else .fail
     | none=>.fail
    | some (.sl ty true (x::l))=>match tyAt T u p with
     | some t'=>bif ZE T u p && fit T (.vs 0 0:D C) (.inl t') then .nw (.vec ty false (x::l)) fun id=>match Ev.setPath T d p (.vs id (x::l).length) with
      | some d'=>.wr idj (.var u d') (KO T r env (ids++[id]) k)
      | none=>.fail
      else .fail
     | none=>.fail
    | some x=>match x.refs with
     | id::_=>KO T r env (ids++[id]) k
     | []=>.fail
    | none=>.fail
   | _=>.fail
theorem Qqc (K:QX P T) {α:Type} {e:Pg.Lv} {a:α} {h':Heap C} {nx':Nat} {lim:Lim} (hlim:nx' <= lim.top) {k:Env C->List Nat->Pg C α} {tmps:Array Value}:∀ (l:List Fnd) (X:Cx) (h:Heap C) (nx:Nat) (tr:Tr) (env:Env C) (ids:List Nat),
 G T X h nx lim->Qu T X nx lim env tmps->Ex e (KO T l env ids k) h nx a h' nx' tr ->
 ∃ X1 h1 nx1 env1 ids1 tr1,X1.w=X.w /\ G T X1 h1 nx1 lim /\ Step X nx lim X1 /\ nx <= nx1 /\ Qu T X1 nx1 lim env1 tmps /\ Ex e (k env1 ids1) h1 nx1 a h' nx' tr1:=by
 intro l
 induction l with
 | nil=>intro X h nx tr env ids g he hx;exact ⟨X,h,nx,env,ids,tr,rfl,g,.refl _ _ _,Nat.le_refl _,he,hx⟩
 | cons f l ih =>
  intro X h nx tr env ids g he hx;cases f with
  | slot t i =>
   simp only [KO] at hx
   split at hx
   · rename_i ty hq;obtain ⟨t',hx,_⟩:=Ex.nw hx;have hle:=hx.le;obtain ⟨X1,w1,g1,s1,e1⟩:=Yd K g he (by omega) hq
     obtain ⟨X2,h2,n2,env2,ids2,tr2,w2,g2,s2,hn2,e2,hx2⟩:=ih X1 _ _ _ _ _ g1 e1 hx;exact ⟨X2,h2,n2,env2,ids2,tr2,by rw [w2,w1],g2,s1.trans s2 (by omega),by omega,e2,hx2⟩
   · rename_i ty x l0 hq;obtain ⟨t',hx,_⟩:=Ex.nw hx;have hle:=hx.le;obtain ⟨X1,w1,g1,s1,e1⟩:=Yd K g he (by omega) hq
     obtain ⟨X2,h2,n2,env2,ids2,tr2,w2,g2,s2,hn2,e2,hx2⟩:=ih X1 _ _ _ _ _ g1 e1 hx;exact ⟨X2,h2,n2,env2,ids2,tr2,by rw [w2,w1],g2,s1.trans s2 (by omega),by omega,e2,hx2⟩
   · split at hx
     · exact ih X h nx tr env _ g he hx
     · exact (Ex.fail hx).elim
  | lst t =>
   simp only [KO] at hx
   split at hx
   · rename_i ty l0 hq;rcases Ex.br hx with ⟨hb,hx⟩ | ⟨hb,hx⟩
     all_goals
      obtain ⟨t',hx,_⟩:=Ex.nw hx;have hle:=hx.le;obtain ⟨X1,w1,g1,s1,e1⟩:=Yd K g he (by omega) hq
      rw [hb] at g1;obtain ⟨X2,h2,n2,env2,ids2,tr2,w2,g2,s2,hn2,e2,hx2⟩:=ih X1 _ _ _ _ _ g1 e1 hx;exact ⟨X2,h2,n2,env2,ids2,tr2,by rw [w2,w1],g2,s1.trans s2 (by omega),by omega,e2,hx2⟩
   · exact (Ex.fail hx).elim
  | path j p =>
   simp only [KO] at hx
   split at hx
   · exact (Ex.fail hx).elim
   · rename_i idj hj;obtain ⟨o,t',ho,hx,_⟩:=Ex.rd hx;cases o with
     | vec _ _ _=>exact (Ex.fail hx).elim
     | map _ _ _=>exact (Ex.fail hx).elim
     | ctl _=>exact (Ex.fail hx).elim
     | var u d =>
      simp only at hx
      split at hx
      · rename_i ty hq
        split at hx
        · rename_i t' ht;cases hb:ZE T u p && fit T (.vs 0 0:D C) (.inl t') with
          | false=>rw [hb] at hx;exact (Ex.fail hx).elim
          | true =>
           rw [hb] at hx;simp only [cond_true] at hx;simp only [Bool.and_eq_true] at hb;obtain ⟨t1,hx,_⟩:=Ex.nw hx
           split at hx
           · rename_i d' hs;obtain ⟨o',t2,ho',hx,_⟩:=Ex.wr hx;have hle:=hx.le;obtain ⟨X1,w1,g1,s1,e1⟩:=Je K g he (by omega) ho hb.1 hq hs ht (by simpa [fit] using hb.2)
             obtain ⟨X2,h2,n2,env2,ids2,tr2,w2,g2,s2,hn2,e2,hx2⟩:=ih X1 _ _ _ _ _ g1 e1 hx;exact ⟨X2,h2,n2,env2,ids2,tr2,by rw [w2,w1],g2,s1.trans s2 (by omega),by omega,e2,hx2⟩
           · exact (Ex.fail hx).elim
        · exact (Ex.fail hx).elim
      · rename_i ty x l0 hq
        split at hx
        · rename_i t' ht;cases hb:ZE T u p && fit T (.vs 0 0:D C) (.inl t') with
          | false=>rw [hb] at hx;exact (Ex.fail hx).elim
          | true =>
           rw [hb] at hx;simp only [cond_true] at hx;simp only [Bool.and_eq_true] at hb;obtain ⟨t1,hx,_⟩:=Ex.nw hx
           split at hx
           · rename_i d' hs;obtain ⟨o',t2,ho',hx,_⟩:=Ex.wr hx;have hle:=hx.le;obtain ⟨X1,w1,g1,s1,e1⟩:=Je K g he (by omega) ho hb.1 hq hs ht (by simpa [fit] using hb.2)
             obtain ⟨X2,h2,n2,env2,ids2,tr2,w2,g2,s2,hn2,e2,hx2⟩:=ih X1 _ _ _ _ _ g1 e1 hx;exact ⟨X2,h2,n2,env2,ids2,tr2,by rw [w2,w1],g2,s1.trans s2 (by omega),by omega,e2,hx2⟩
           · exact (Ex.fail hx).elim
        · exact (Ex.fail hx).elim
      · split at hx
        · exact ih X h nx _ env _ g he hx
        · exact (Ex.fail hx).elim
      · exact (Ex.fail hx).elim
def RT.pgK (kp:Nat) (ids:List Nat):RT C->Pg C (Ev.X × Env C)
 | .fail=>.fail
 | .leaf x env os=>Qii (ids.take kp) ((os.map (Obj.ren fun j=>ids.getD j 0)).take kp) (.ret (x,renE (fun j=>ids.getD j 0) env))
 | .br b l r=>.br b (l.pgK kp ids) (r.pgK kp ids)
theorem RT.pgK_ok {e:Pg.Lv} {a:Ev.X × Env C} {h h':Heap C} {nx nx' kp:Nat} {ids:List Nat}:∀ (t:RT C) (tr:Tr),Ex e (t.pgK kp ids) h nx a h' nx' tr -> ∃ x env os,t.val=some ((x,env),os) /\ Ex e (Qii (ids.take kp) ((os.map (Obj.ren fun j=>ids.getD j 0)).take kp) (.ret (x,renE (fun j=>ids.getD j 0) env))) h nx a h' nx' tr
 | .fail,tr,hx=>(Ex.fail hx).elim
 | .leaf x env os,tr,hx=>⟨x,env,os,rfl,hx⟩
 | .br b l r,tr,hx=>by
  rcases Ex.br hx with ⟨rfl,hx⟩ | ⟨rfl,hx⟩
  · exact RT.pgK_ok l tr hx
  · exact RT.pgK_ok r tr hx
def sumK (T:Tab C) (fs:List Fnd) (slots:List Nat) (kp:Nat) (res:Env C->List (Obj C)->RT C) (env:Env C):Pg C (Ev.X × Env C) :=
 KO T fs env [] fun env ids=>bif Ju ids then Qph ids fun os =>
  bif inB ids (slots.flatMap fun t=>(eget env t).refs) && inB ids (os.flatMap Obj.refs) then
   (res (slots.map fun t=>(t,(eget env t).ren (idx ids))) (os.map (Obj.ren (idx ids)))).pgK kp ids
  else .fail
 else .fail
theorem Qnn (K:QX P T) (F:Qi P T Φ) {g key:Nat} {fs:List Fnd} {slots:List Nat} {res:Env C->List (Obj C)->RT C} {σ:Type} {S:QdX C σ} {kp:Nat} (hkeep:∀ q,S.Inv q->(S.fobjs q).drop kp=(S.objs q).drop kp)
 (hr:∀ fn body b,Φ.fn g=some fn->fn.body=some body->b ∈ QN body->Qv b=key->Qkj T Φ g b S)
 (hres:∀ env0 os x env' os',(res env0 os).val=some ((x,env'),os') -> ∃ q,S.Inv q /\ (∀ p ∈ S.canon q,p ∈ env0) /\ os=S.objs q /\ S.fin q=(x,env') /\ S.fobjs q=os'):QcP P T Φ g key (sumK T fs slots kp res):=by
 intro fn body b hf hb hbl hkey B hB X h nx lim e env x env' h' nx' tr a Q gg he hlim hsz hx hk;obtain ⟨f1,f2,f3⟩:=F.fn g fn hf;obtain ⟨c1,c2⟩:=Za body (f3 body hb) b hbl;have hround:=hr fn body b hf hb hbl hkey;obtain ⟨X1,h1,nx1,env1,ids,tr1,w1,g1,s1,hn1,e1,hx1⟩:=Qqc K hlim fs X h nx tr env [] gg he hx;cases hnd:Ju ids with
 | false=>rw [hnd] at hx1;exact (Ex.fail hx1).elim
 | true =>
 rw [hnd] at hx1;simp only [cond_true] at hx1;have hnodup:=Yh hnd;obtain ⟨os,tr2,hlen,hos,hx2⟩:=Qal ids _ _ hx1;cases hin:inB ids (slots.flatMap fun t=>(eget env1 t).refs) && inB ids (os.flatMap Obj.refs) with
 | false=>rw [hin] at hx2;exact (Ex.fail hx2).elim
 | true =>
 rw [hin] at hx2;simp only [cond_true] at hx2;simp only [Bool.and_eq_true] at hin;have hin1:=Yy hin.1;have hin2:=Yy hin.2;obtain ⟨xx,ee,os',hq,hx3⟩:=RT.pgK_ok _ _ hx2
 · · obtain ⟨q,hI,hsub,hobjs,hfin,hfo⟩:=hres _ _ _ _ _ hq;obtain ⟨hr1,hr2,_⟩:=hround q hI;obtain ⟨h2,tr3,hl2,hv1,hv2,hx4⟩:=Qam (ids.take kp) _ h1 _ ((List.take_sublist kp ids).nodup hnodup) hx3;have hw2:∀ id,id ∉ ids->h2.get id=h1.get id:=fun id hid=>hv2 id fun hm=>hid (List.mem_of_mem_take hm)
     have hw1:∀ (j id:Nat) (o:Obj C),ids[j]? = some id->(os'.map (Obj.ren fun j=>ids.getD j 0))[j]? = some o->h2.get id=some o:=by
      intro j id o hj ho
      by_cases hjk:j < kp
      · exact hv1 j id o (by rw [List.getElem?_take,if_pos hjk];exact hj) (by rw [List.getElem?_take,if_pos hjk];exact ho)
      · have hlt:j < ids.length:=(List.getElem?_eq_some_iff.1 hj).1
        rw [hv2 id fun hm=>by
         obtain ⟨i,hi,hii⟩:=List.getElem_of_mem hm;have hi':i < kp:=by simp only [List.length_take] at hi;omega
         have h1:ids[i]? = some id:=by rw [<- hii,List.getElem_take];exact List.getElem?_eq_getElem _
         have:=(List.getElem?_inj hlt hnodup (j:=i)).1 (by rw [hj,h1])
         omega]
        have hd:=hkeep q hI;rw [hfo,<- hobjs] at hd
        have hq:os'[j]? = (os.map (Obj.ren (idx ids)))[j]? := by
         have h1:=congrArg (fun l=>l[j - kp]?) hd;simp only [List.getElem?_drop] at h1;rw [show kp+(j - kp)=j by omega] at h1
         exact h1
        rw [List.getElem?_map,hq,List.getElem?_map] at ho;cases hoj:os[j]? with
        | none=>simp [hoj] at ho
        | some o0 =>
         simp only [hoj,Option.map_some,Option.some.injEq] at ho;rw [hos j id o0 hj hoj,<- ho,Obj.ren_ren];intro r hr;have hm:=hin2 r (List.mem_flatMap.2 ⟨o0,List.mem_of_getElem? hoj,hr⟩);have:=Jf ids r hm;simp only [List.getD_eq_getElem?_getD,this,Option.getD_some]
     obtain ⟨hxx,eh,en,_⟩:=Ex.ret hx4;obtain ⟨rfl,rfl⟩:=Prod.mk.inj hxx;subst eh;subst en
     let f:Nat->Nat:=fun j=>ids.getD j 0
     have hfj:∀ j,j < ids.length->ids[j]? = some (f j):=fun j hj=>by simp [f,hj]
     have hk0:ids.length=S.k:=by rw [<- hr1.1,<- hobjs];simp [hlen]
     have hff:∀ r,r ∈ ids->f (idx ids r)=r:=fun r hr=>by
      have:=Jf ids r hr;simp only [f,List.getD_eq_getElem?_getD,this,Option.getD_some]
     have hlenO:(S.objs q).length=ids.length:=by rw [hr1.1,hk0]
     have part:Part h1 (S.objs q) f:=by
      refine ⟨fun j o ho=>?_,fun i j hi hj hij=>?_,fun o ho r hr=>by rw [hr1.1];exact hr1.2.2 o ho r hr⟩
      · rw [<- hobjs,List.getElem?_map] at ho;cases hoj:os[j]? with
        | none=>simp [hoj] at ho
        | some o0 =>
         simp only [hoj,Option.map_some,Option.some.injEq] at ho;have hj:j < ids.length:=by rw [<- hlen];exact (List.getElem?_eq_some_iff.1 hoj).1
         rw [hos j (f j) o0 (hfj j hj) hoj,<- ho,Obj.ren_ren];intro id hid;exact hff id (hin2 id (List.mem_flatMap.2 ⟨o0,List.mem_of_getElem? hoj,hid⟩))
      · rw [hlenO] at hi hj;have:=(List.getElem?_inj hi hnodup (j:=j)).1 (by rw [hfj i hi,hfj j hj];simp only [f] at hij ⊢;rw [hij])
        exact this
     have g2:=Part.ctx K.base g1 part (S.objs q).length
     have e2:Qu T (X1.part (S.objs q).length f) (S.objs q).length (lim0 (S.objs q).length) (S.canon q) a.tmps:=by
      refine Qu.part K.base e1 part.inj (fun p hp=>?_) (fun p hp r hr=>by rw [hr1.1];exact hr1.2.1 p hp r hr)
      have:=hsub p hp;simp only [List.mem_map] at this;obtain ⟨t,ht,rfl⟩:=this;simp only;rw [D.ren_ren];intro id hid;exact hff id (hin1 id (List.mem_flatMap.2 ⟨t,ht,hid⟩))
     rw [hr1.1] at g2 e2;rw [<- w1];show (Code.loop b).wp P Q a (X1.part S.k f).w;refine wp_loop_rounds (S.μ q+1) (QbR K F hround hf hb c1 c2 hB (S.μ q+1) q (X1.part S.k f) a hI (by omega) g2 e2 hsz fun a' X' g' s' e' hs' hd' kp'=>?_)
     rw [hfo] at g';rw [hfin] at e';have hlen':os'.length=(S.objs q).length:=by rw [<- hfo,hr2.1,hr1.1]
     have hrefs':∀ o ∈ os',∀ r ∈ Obj.refs o,r < (S.objs q).length:=fun o ho r hr=>by rw [hr1.1];exact hr2.2.2 o (by rw [hfo];exact ho) r hr
     obtain ⟨X2,w2,g3,s3,hρ,hB2⟩:=Part.back K.base g1 part hlen' hrefs' (X1:=X') (lim1:=lim0 S.k) (h':=h') (by rw [hr1.1];exact g') (by rw [hr1.1];exact s') (fun j o hj=>by
      have hlt:j < ids.length:=by rw [<- hlenO,<- hlen'];exact (List.getElem?_eq_some_iff.1 hj).1
      exact hw1 j (f j) _ (hfj j hlt) (by rw [List.getElem?_map,hj];rfl)) (fun id hid=>by
      refine hw2 id fun hm=>?_;obtain ⟨j,hj,hjj⟩:=List.getElem_of_mem hm;refine hid j (by rw [hlenO];exact hj) ?_
      simp [f,hj,hjj])
     have hold:∀ j,j < S.k->old nx' lim (f j):=fun j hj=>by
      have hj':j < (S.objs q).length:=by rw [hr1.1];exact hj
      exact (g1.nums _ _ (part.at' j (S.objs q)[j] (by simp [hj']))).1
     have e3:=Qu.back (nx:=nx') (lim:=lim) (f:=f) K.base e' (fun p hp r hr=>hr2.2.1 p (by rw [hfin];exact hp) r hr) (fun j hj=>hρ j (by rw [hr1.1];exact hj)) ⟨hB2⟩ hold
     have:=hk a' X2 g3 (s1.trans s3 hn1) e3 hs' (hd'.of_g g3 (by show X.w.heap.size <= X1.w.heap.size;rw [w1];exact Nat.le_refl _) w2) kp'
     rw [w2] at this;rw [hfin];exact this
theorem Qi.addRoundsOK (K:QX P T) (F:Qi P T Φ) {g key:Nat} (hkeys:QcQ (Y8 Φ g)=true) {σ:Type} (S:QdX C σ) (kp:Nat) (hkeep:∀ q,S.Inv q->(S.fobjs q).drop kp=(S.objs q).drop kp) (n:Nat) (kc kf:List Nat) (fs0:List Fnd) (fs:List Fnd) (slots:List Nat) (res:Env C->List (Obj C)->RT C)
 (hr:∀ q,S.Inv q->Qj S.k (S.canon q) (S.objs q) /\ Qj S.k (S.fin q).2 (S.fobjs q) /\ Leaf (rndO T Φ g key n S.k kc kf fs0 (S.canon q) (S.objs q)) (LedO S q))
 (hres:∀ env0 os x env' os',(res env0 os).val=some ((x,env'),os') -> ∃ q,S.Inv q /\ (∀ p ∈ S.canon q,p ∈ env0) /\ os=S.objs q /\ S.fin q=(x,env') /\ S.fobjs q=os'):Qi P T (Φ.addLoop g key (sumK T fs slots kp res)):=by
 refine F.addLoop (Qnn K F hkeep (S:=S) (fun fn body b hf hb hm hkey q hI=>?_) hres);obtain ⟨h1,h2,r,h3,h4⟩:=hr q hI;rw [rndO,QaW hkeys hf hb hm hkey] at h3;obtain ⟨⟨x,env'⟩,h',nx',tr,h5,h6⟩:=Pg.run_some h3;refine ⟨h1,h2,n,x,env',h',nx',tr,h5,?_⟩;cases x with
 | normal =>
  simp only at h6;rcases settle_some h6 h1.1 with hs | ⟨env0,os',hs,f,f1,⟨f2,f3,f4⟩,f5⟩
  · subst hs;rcases h4 with ⟨h4,s',a1,a2,a3,a3b,a4,a5⟩ | ⟨h4,h7,h8⟩
    · have hg:=ZT S.k 0 h' _ a5;simp only [Nat.zero_add] at hg;exact .inl ⟨rfl,s',a1,a2,a3,a3b,by rw [<- a4];exact VB _ _,hg⟩
    · exact (h4 rfl).elim
  · subst hs;rcases h4 with ⟨h4,s',a1,a2,a3,a3b,a4,a5⟩ | ⟨h4,h7,h8⟩
    · simp only at a4 a5;have a5:os'=S.objs s':=List.map_inj_right (fun _ _ h=>Option.some.inj h) |>.1 a5;subst a4;subst a5;obtain ⟨b1,_⟩:=hr s' a1;exact .inr (.inl ⟨rfl,s',f,a1,a2,a3,a3b,f1,⟨f3,f4,by rw [b1.1];exact b1.2.2⟩,f5⟩)
    · exact (h4 rfl).elim
 | exit id =>
  simp only [Option.some.injEq] at h6;subst h6;rcases h4 with ⟨h4,_⟩ | ⟨h4,h7,h8⟩
  · cases h4
  · have hg:=ZT S.k 0 h' _ h8;simp only [Nat.zero_add] at hg;exact .inr (.inr ⟨by simp,by rw [<- h7],by rw [<- h7];exact VB _ _,hg⟩)
 | ret =>
  simp only [Option.some.injEq] at h6;subst h6;rcases h4 with ⟨h4,_⟩ | ⟨h4,h7,h8⟩
  · cases h4
  · have hg:=ZT S.k 0 h' _ h8;simp only [Nat.zero_add] at hg;exact .inr (.inr ⟨by simp,by rw [<- h7],by rw [<- h7];exact VB _ _,hg⟩)
def RT.keeps (kp:Nat) (os0:List (Obj C)):RT C->Prop
 | .fail=>True
 | .leaf _ _ os=>os.drop kp=os0.drop kp
 | .br _ l r=>l.keeps kp os0 /\ r.keeps kp os0
theorem RT.keeps_val {kp:Nat} {os0:List (Obj C)}:∀ {t:RT C},t.keeps kp os0 -> ∀ {x env os},t.val=some ((x,env),os)->os.drop kp=os0.drop kp
 | .fail,_,_,_,_,h=>by cases h
 | .leaf x env os,h,_,_,_,e=>by cases e;exact h
 | .br b l r,h,_,_,_,e=>by
  cases b with
  | true=>exact RT.keeps_val (t:=l) h.1 e
  | false=>exact RT.keeps_val (t:=r) h.2 e
def Qqd (T:Tab C) (fs:List Fnd) (slots:List Nat) (kp:Nat) {σ:Type} (S:QI C σ) (d:Env C->List (Obj C)->Option (Bool × σ)):Env C->Pg C (Ev.X × Env C):=sumK T fs slots kp (resR S d)
theorem Qi.addRoundsRK (K:QX P T) (F:Qi P T Φ) {g key:Nat} (hkeys:QcQ (Y8 Φ g)=true) {σ:Type} (S:QI C σ) (kp:Nat) (hkeep:∀ q,S.Inv q->(S.fin q).keeps kp (S.objs q)) (n:Nat) (kc kf:List Nat) (fs:List Fnd) (slots:List Nat) (d:Env C->List (Obj C)->Option (Bool × σ))
 (hr:∀ q,S.Inv q->Qj S.k (S.canon q) (S.objs q) /\ (S.fin q).refsOK S.k /\ Leaf (rndO T Φ g key n S.k kc kf fs (S.canon q) (S.objs q)) (LedR S q))
 (hd:∀ env os b q,d env os=some (b,q)->b=true->S.Inv q /\ S.canon q=env /\ S.objs q=os):Qi P T (Φ.addLoop g key (Qqd T fs slots kp S d)):=by
 refine F.addRoundsOK K hkeys S.toO kp (fun q hI=>?_) n kc kf fs fs slots (resR S d) (fun q hI=>?_) ?_
 · obtain ⟨h1,h2,_⟩:=hr q hI;obtain ⟨x,env,os,hv,hok⟩:=RT.refsOK_val h2;simp only [QI.toO,hv];exact RT.keeps_val (hkeep q hI) hv
 · obtain ⟨h1,h2,r,h3,h4⟩:=hr q hI;obtain ⟨x,env,os,hv,hok⟩:=RT.refsOK_val h2;refine ⟨h1,by simp only [QI.toO,hv];exact hok,r,h3,?_⟩
   rcases h4 with ⟨a1,s',a2,a3,a4,a5,a6⟩ | ⟨a1,os',a2,a3⟩
   · exact .inl ⟨a1,s',a2,a3,by simp only [QI.toO,a4],by simp only [QI.toO,a4],a5,a6⟩
   · exact .inr ⟨a1,by simp only [QI.toO,a2],by simp only [QI.toO,a2];exact a3⟩
 · intro env0 os x env' os' h;unfold resR at h
   split at h
   · rename_i b q hq;cases b with
     | false=>simp [RT.val] at h
     | true =>
      obtain ⟨h1,h2,h3⟩:=hd _ _ _ _ hq rfl;simp only [RT.val,cond_true] at h;exact ⟨q,h1,fun p hp=>by rw [<- h2];exact hp,h3.symm,by simp only [QI.toO,h],by simp only [QI.toO,h]⟩
   · simp [RT.val] at h
end
open Go.Proofs
def Qno (o:Int) (p:Int) (j:Int) (k:Int) (v:Int):Option (Bool × D RC):=some (true,.bool (!Q5 ⟨o,p,j,k,v⟩))
def QhE:List (D RC)->Option (Bool × D RC)
 | [.acons (.int .i64 o) (.acons (.int .i64 p) (.acons (.int .i64 j) (.acons (.int .i64 k) (.acons (.int .i64 v) .anil))))]=>Qno o p j k v
 | _=>none
noncomputable def Qnp (o:Int) (p:Int) (j:Int) (k:Int) (v:Int):=evF s28 um_2 60 150 [.acons (.int .i64 o) (.acons (.int .i64 p) (.acons (.int .i64 j) (.acons (.int .i64 k) (.acons (.int .i64 v) .anil))))]
theorem Qqe (o:Int) (p:Int) (j:Int) (k:Int) (v:Int):Qnp o p j k v=(let Z0:DO_:=some (D.bool true);bif decide ((0:Int) <= o /\ o < (4194304:Int)) then bif decide ((1:Int) <= p /\ p < (1048576:Int)) then bif decide ((0:Int) <= j /\ j < (4:Int)) then bif decide ((0:Int) <= k /\ k < (8:Int)) then some (D.bool !decide ((0:Int) <= v /\ v < (256:Int))) else Z0 else Z0 else Z0 else Z0):=by kernel_rfl
theorem Qqf (o:Int) (p:Int) (j:Int) (k:Int) (v:Int) (h:(true)=true):Qnp o p j k v=some (.bool (!Q5 ⟨o,p,j,k,v⟩)):=by
 (rw [Qqe];conv=>zeta)
 have no:(¬ (0 <= o /\ o < 4194304 /\ 1 <= p /\ p <= 1048575 /\ 0 <= j /\ j <= 3 /\ 0 <= k /\ k <= 7 /\ 0 <= v /\ v <= 255))->some (D.bool (C:=RC) true)=some (.bool (!Q5 ⟨o,p,j,k,v⟩)):=fun e=>by rw [QeL e];rfl
 iterate 4
  refine QD (fun _=>?_) fun e=>no (by simp only [decide_eq_false_iff_not] at e;omega)
 simp only [decide_eq_true_eq] at *
 by_cases q:0 <= v /\ v < 256
 · rw [decide_eq_true q,QeM (by omega)]
 · rw [decide_eq_false q];exact no (by omega)
noncomputable def un_1:=um_2.addSpec 150 QhE
theorem Qnq:Qi Tryz.prog s28 un_1:=Qnj.addEv Qb fun args d h=>by
 unfold QhE at h
 split at h
 · unfold Qno at h;have h1:=congrArg Prod.fst (Option.some.inj h);obtain rfl:_=d:=congrArg Prod.snd (Option.some.inj h);exact ⟨by simp [D.refs],60,Qqf _ _ _ _ _ h1⟩
 · cases h
structure Qru where
 c:Bool
 l:List Line
 i:Nat
def Qtz (c:Bool) (l:List Line) (i:Nat):Env RC:=[(0,.sl (C:=RC) .line c l),(1,.fn 150 .anil),(4,.int .i64 0),(7,.int .i64 (l.length)),(8,.int .i64 (i:Int))]
def Qqg (c:Bool) (l:List Line) (i:Nat):List (Obj RC):=[]
noncomputable def Qu8 (c:Bool) (l:List Line) (i:Nat):=rndO s28 un_1 185 2 40 0 [0,1,4,7,8] [4] [] (Qtz c l i) (Qqg c l i)
theorem Qu9 (c:Bool) (l:List Line) (i:Nat):Qu8 c l i=(let Z0:Int:=(↑i:Int);let Z1:Int:=(↑l.length:Int);let Z2:Line:=List.getD l Z0.toNat (Line.mk (0:Int) (0:Int) (0:Int) (0:Int) (0:Int));let Z3:Nat × D RC:=(4,D.int .i64 0);bif decide (Z0 < Z1) then bif decide ((0:Int) <= Z0 /\ Z0 < Z1) then bif !Q5 (Line.mk (Line.offset Z2) (Line.place Z2) (Line.j Z2) (Line.key Z2) (Line.value Z2)) then some ((X.ret,[(4,D.int .i64 Z0)]),[]) else some ((X.normal,[(0,D.sl RTy.line c l),(1,D.fn (150:Nat) .anil),Z3,(7,D.int .i64 Z1),(8,D.int .i64 (IntKind.wrap .i64 (Z0+(1:Int))))]),[]) else none else some ((X.exit (0:Nat),[Z3]),[])):=by kernel_rfl
def Qdb (c:Bool) (l:List Line) (i:Nat):RT RC:=.br (l.all Q5) (.leaf (.exit 0) [(4,.int .i64 0)] []) (.leaf .ret [(4,.int .i64 (firstIx (fun x => !Q5 x) l:Int))] [])
def KP (c:Bool) (l:List Line) (i:Nat):Prop:=i <= firstIx (fun x => !Q5 x) l /\ l.length <= 100000
def Qdc:QI RC Qru where
 k:=0
 canon q:=Qtz q.c q.l q.i
 objs q:=Qqg q.c q.l q.i
 fin q:=Qdb q.c q.l q.i
 Inv q:=KP q.c q.l q.i
 μ q:=q.l.length - q.i
theorem Qnr (c:Bool) (l:List Line) (i:Nat) (hI:KP c l i):Leaf (Qu8 c l i) (LedR Qdc ⟨c,l,i⟩):=by
 (rw [Qu9];conv=>zeta)
 unfold KP at hI;obtain ⟨h1,h2⟩:=hI;have hi:=KM (fun x => !Q5 x) l;have ha:=QfS (p:=Q5) (l:=l)
 by_cases hlt:i < l.length
 · have w_succ:IntKind.i64.wrap ((i:Int)+1)=((i+1:Nat):Int):=by rw [wrap_id (by omega) (by omega)];simp
   have d_lt:decide ((i:Int) < l.length)=true:=by simp;omega
   have d_in:decide (0 <= (i:Int) /\ (i:Int) < l.length)=true:=by simp;omega
   have t_nat:((i:Int)).toNat=i:=by simp
   simp only [w_succ,d_lt,d_in,t_nat,cond_true];have hat:=KN (fun x => !Q5 x) (d:=(⟨0,0,0,0,0⟩:Line)) hlt h1;simp only [QhD,cond_true];cases hk:Q5 (l.getD i ⟨0,0,0,0,0⟩)
   · have e:i=firstIx (fun x => !Q5 x) l:=by
      rcases Nat.lt_or_ge i (firstIx (fun x => !Q5 x) l) with q | q
      · have:=hat.1 q;simp only [hk] at this;cases this
      · omega
     simp only [Bool.not_false,cond_true];refine QO [] ?_ rfl;simp only [Qdc,Qdb,RT.val,ha.1 (by omega),cond_false,<- e]
   · simp only [Bool.not_true,cond_false];exact Qp (S:=Qdc) ⟨c,l,i+1⟩ (show KP (c) (l) (i+1) from ⟨hat.2 (by simp only [hk];rfl),h2⟩) (by simp only [Qdc];omega) rfl rfl rfl
 · have d1:decide ((i:Int) < l.length)=false:=by simp;omega
   rw [d1];simp only [cond_false];refine Qm [] ?_ rfl
   have:l.all Q5=true:=by
    cases q:l.all Q5
    · have:=ha.2 q;omega
    · rfl
   simp only [Qdc,Qdb,RT.val,this,cond_true]
def QtA (env:Env RC) (os:List (Obj RC)):Option (Bool × Qru):=match env,os with
 | [(0,.sl .line c l),(1,.fn 150 .anil),(4,.int .i64 0),(7,.int .i64 x0),(8,.int .i64 x1)],[]=>QB (true) (decide (x0=l.length) && decide (x1=0) && decide (l.length <= 100000),⟨c,l,0⟩)
 | _,_=>none
noncomputable def un_2:=un_1.addLoop 185 2 (sumR s28 [] [0,1,4,7,8] Qdc QtA)
theorem Qns:Qi Tryz.prog s28 un_2:=by
 refine Qnq.addRoundsR Qb (by kernel_rfl) Qdc 40 [0,1,4,7,8] [4] [] [0,1,4,7,8] QtA (fun q hI=>?_) ?_
 · obtain ⟨c,l,i⟩:=q;refine ⟨?_,?_,Qnr c l i hI⟩
   · simp_all [Qj,Qdc,Qtz,Qqg,KP,D.refs,Obj.refs,rEnc]
   · simp_all [Qdc,Qdb,Qqg,KP,RT.refsOK,Qj,D.refs,Obj.refs,rEnc]
 · intro env os b q hd_ hb;unfold QtA at hd_
   split at hd_
   · obtain ⟨hs,hd_⟩:=Qg hd_;cases hd_;simp only [Bool.and_eq_true,decide_eq_true_eq] at hb;obtain ⟨⟨rfl,rfl⟩,hl⟩:=hb;exact ⟨⟨Nat.zero_le _,hl⟩,rfl,rfl⟩
   · cases hd_
def Qnt (c:Bool) (l:List Line):Option (Bool × D RC):=some (decide (l.length <= 100000),.bool (!l.all Q5))
def QhF:List (D RC)->Option (Bool × D RC)
 | [.sl .line c l,.fn 150 .anil]=>Qnt c l
 | _=>none
noncomputable def Qnu (c:Bool) (l:List Line):=evF s28 un_2 40 149 [.sl (C:=RC) .line c l,.fn 150 .anil]
theorem Qqh (c:Bool) (l:List Line):Qnu c l=(let Z0:Nat:=List.length l;bif Qh Z0 then bif decide ((↑Z0:Int)=(↑Z0:Int)) && true && decide (Z0 <= (100000:Nat)) then bif List.all l Q5 then some (D.bool false) else some (D.bool (decide ((0:Int) <= (↑(firstIx (fun (x:Line) => !Q5 x) l):Int)))) else none else none):=by kernel_rfl
theorem Qqi (c:Bool) (l:List Line) (h:(decide (l.length <= 100000))=true):Qnu c l=some (.bool (!l.all Q5)):=by
 (rw [Qqh];conv=>zeta)
 have hl:l.length <= 100000:=by simpa using h
 refine Qa (Qe (by omega)) (Qa (by simp [hl]) ?_)
 cases l.all Q5
 · simp only [cond_false];rw [decide_eq_true (by omega)];rfl
 · rfl
noncomputable def un_3:=un_2.addSpec 149 QhF
theorem Qnv:Qi Tryz.prog s28 un_3:=Qns.addEv Qb fun args d h=>by
 unfold QhF at h
 split at h
 · unfold Qnt at h;have h1:=congrArg Prod.fst (Option.some.inj h);obtain rfl:_=d:=congrArg Prod.snd (Option.some.inj h);exact ⟨by simp [D.refs],40,Qqi _ _ h1⟩
 · cases h
structure Qrv where
 w:List Line
 cut:Int
 i:Nat
def QtB (w:List Line) (cut:Int) (i:Nat):Env RC:=[(0,.vs 0 (w.length)),(1,.fn 155 (.acons (.ptr 1 []) .anil)),(4,.int .i64 0),(7,.int .i64 (w.length)),(8,.int .i64 (i:Int))]
def Qdd (w:List Line) (cut:Int) (i:Nat):List (Obj RC):=[.vec .line true w,.var 3 (.int .i64 cut)]
noncomputable def Qva (w:List Line) (cut:Int) (i:Nat):=rndO s28 un_3 185 2 40 2 [0,1,4,7,8] [4] [.slot 0 0,.slot 1 0] (QtB w cut i) (Qdd w cut i)
theorem Qvb (w:List Line) (cut:Int) (i:Nat):Qva w cut i=(let Z0:Int:=(↑i:Int);let Z1:Nat:=List.length w;let Z2:List (Option (Obj RC)):=[some (Obj.vec RTy.line true w),some (Obj.var 3 (D.int .i64 cut))];let Z3:Nat × D RC:=(4,D.int .i64 0);bif decide (Z0 < (↑Z1:Int)) then bif Nat.beq Z1 Z1 && decide ((0:Int) <= Z0 /\ Z0 < (↑Z1:Int)) then bif Nat.beq Z1 Z1 then bif decide (Line.place (List.getD w Z0.toNat (Line.mk (0:Int) (0:Int) (0:Int) (0:Int) (0:Int))) <= cut) then some ((X.ret,[(4,D.int .i64 Z0)]),Z2) else some ((X.normal,[(0,D.vs 0 Z1),(1,D.fn (155:Nat) (.acons (D.ptr 1 []) .anil)),Z3,(7,D.int .i64 (↑Z1:Int)),(8,D.int .i64 (IntKind.wrap .i64 (Z0+(1:Int))))]),Z2) else none else none else some ((X.exit (0:Nat),[Z3]),Z2)):=by kernel_rfl
def Qbj (w:List Line) (cut:Int) (i:Nat):RT RC:=.br (w.any fun x=>decide (x.place <= cut)) (.leaf .ret [(4,.int .i64 (firstIx (fun x=>decide (x.place <= cut)) w:Int))] (Qdd w cut i)) (.leaf (.exit 0) [(4,.int .i64 0)] (Qdd w cut i))
def KQ (w:List Line) (cut:Int) (i:Nat):Prop:=i <= firstIx (fun x=>decide (x.place <= cut)) w /\ w.length <= 100000
def QbH:QI RC Qrv where
 k:=2
 canon q:=QtB q.w q.cut q.i
 objs q:=Qdd q.w q.cut q.i
 fin q:=Qbj q.w q.cut q.i
 Inv q:=KQ q.w q.cut q.i
 μ q:=q.w.length - q.i
theorem Qnw (w:List Line) (cut:Int) (i:Nat) (hI:KQ w cut i):Leaf (Qva w cut i) (LedR QbH ⟨w,cut,i⟩):=by
 (rw [Qvb];conv=>zeta)
 unfold KQ at hI;obtain ⟨h1,h2⟩:=hI;have hi:=KM (fun x:Line=>decide (x.place <= cut)) w;have ha:=YU (fun x:Line=>decide (x.place <= cut)) w;have nb:Nat.beq w.length w.length=true:=Zu rfl
 by_cases hlt:i < w.length
 · have w_succ:IntKind.i64.wrap ((i:Int)+1)=((i+1:Nat):Int):=by rw [wrap_id (by omega) (by omega)];simp
   have d_lt:decide ((i:Int) < w.length)=true:=by simp;omega
   have d_in:decide (0 <= (i:Int) /\ (i:Int) < w.length)=true:=by simp;omega
   have t_nat:((i:Int)).toNat=i:=by simp
   simp only [w_succ,d_lt,d_in,t_nat,cond_true];have hat:=KN (fun x:Line=>decide (x.place <= cut)) (d:=(⟨0,0,0,0,0⟩:Line)) hlt h1;simp only [nb,Bool.and_self,cond_true];cases hk:decide ((w.getD i ⟨0,0,0,0,0⟩).place <= cut)
   · simp only [cond_false];exact Qp (S:=QbH) ⟨w,cut,i+1⟩ (show KQ (w) (cut) (i+1) from ⟨hat.2 hk,h2⟩) (by simp only [QbH];omega) rfl rfl rfl
   · have e:i=firstIx (fun x=>decide (x.place <= cut)) w:=by
      rcases Nat.lt_or_ge i (firstIx (fun x:Line=>decide (x.place <= cut)) w) with q | q
      · have:=hat.1 q;simp only [hk] at this;cases this
      · omega
     simp only [cond_true];refine QO (Qdd w cut i) ?_ rfl;simp only [QbH,Qbj,RT.val,ha.1 (by omega),cond_true,<- e]
 · have d1:decide ((i:Int) < w.length)=false:=by simp;omega
   rw [d1];simp only [cond_false];refine Qm (Qdd w cut i) ?_ rfl
   have:(w.any fun x=>decide (x.place <= cut))=false:=by
    cases q:w.any fun x=>decide (x.place <= cut)
    · rfl
    · have:=ha.2 q;omega
   simp only [QbH,Qbj,RT.val,this,cond_false]
def QtC (env:Env RC) (os:List (Obj RC)):Option (Bool × Qrv):=match env,os with
 | [(0,.vs 0 x0),(1,.fn 155 (.acons (.ptr 1 []) .anil)),(4,.int .i64 0),(7,.int .i64 x1),(8,.int .i64 x2)],[.vec .line true w,.var 3 (.int .i64 cut)]=>QB (true) (decide (x0=w.length) && decide (x1=w.length) && decide (x2=0) && decide (w.length <= 100000),⟨w,cut,0⟩)
 | _,_=>none
noncomputable def un_4:=un_3.addLoop 185 2 (Qqd s28 [.slot 0 0,.slot 1 0] [0,1,4,7,8] 0 QbH QtC)
theorem Qnx:Qi Tryz.prog s28 un_4:=by
 refine Qnv.addRoundsRK Qb (by kernel_rfl) QbH 0 (fun q _=>by simp [RT.keeps,QbH,Qbj,Qdd]) 40 [0,1,4,7,8] [4] [.slot 0 0,.slot 1 0] [0,1,4,7,8] QtC (fun q hI=>?_) ?_
 · obtain ⟨w,cut,i⟩:=q;refine ⟨?_,?_,Qnw w cut i hI⟩
   · simp_all [Qj,QbH,QtB,Qdd,KQ,D.refs,Obj.refs,rEnc]
   · simp_all [QbH,Qbj,Qdd,KQ,RT.refsOK,Qj,D.refs,Obj.refs,rEnc]
 · intro env os b q hd_ hb;unfold QtC at hd_
   split at hd_
   · obtain ⟨hs,hd_⟩:=Qg hd_;cases hd_;simp only [Bool.and_eq_true,decide_eq_true_eq] at hb;obtain ⟨⟨⟨rfl,rfl⟩,rfl⟩,hl⟩:=hb;exact ⟨⟨Nat.zero_le _,hl⟩,rfl,rfl⟩
   · cases hd_
structure QhG where
 l:List Line
 o:Bool
 p:Int
 y:Bool
 cw:Bool
 ws:List Qc
 q:Int
 nx:Int
 cut:Int
 i:Nat
def QfT (l:List Line) (o:Bool) (p:Int) (y:Bool) (cw:Bool) (ws:List Qc) (q:Int) (nx:Int) (cut:Int) (i:Nat):Env RC:=[(3,.int .i64 q),(5,.ptr 2 []),(6,.ptr 0 []),(10,.vs 1 (l.length)),(11,.int .i64 nx),(47,.sl (C:=RC) .write ((cw)) ((ws))),(48,.int .i64 (ws.length)),(49,.int .i64 (i:Int))]
def Vj (l:List Line) (o:Bool) (p:Int) (y:Bool) (cw:Bool) (ws:List Qc) (q:Int) (nx:Int) (cut:Int) (i:Nat):List (Obj RC):=[.var 51 (.acons (.int .i64 p) (.acons (.bool y) (.acons (.sl (C:=RC) .write cw ws) .anil))),.vec .line o l,.var 3 (.int .i64 cut)]
noncomputable def Qny (l:List Line) (o:Bool) (p:Int) (y:Bool) (cw:Bool) (ws:List Qc) (q:Int) (nx:Int) (cut:Int) (i:Nat):=rndO s28 un_4 92 10 40 3 [3,5,6,10,11,47,48,49] [10] [.slot 6 0,.lst 10,.slot 5 0] (QfT l o p y cw ws q nx cut i) (Vj l o p y cw ws q nx cut i)
theorem Qqj (l:List Line) (o:Bool) (p:Int) (y:Bool) (cw:Bool) (ws:List Qc) (q:Int) (nx:Int) (cut:Int) (i:Nat):Qny l o p y cw ws q nx cut i=(let Z0:Int:=(↑i:Int);let Z1:Int:=(↑ws.length:Int);let Z2:Qc:=List.getD ws Z0.toNat (Qc.mk (0:Int) (0:Int));let Z3:Nat × D RC:=(3,D.int .i64 q);let Z4:Nat × D RC:=(5,D.ptr 2 []);let Z5:Nat × D RC:=(6,D.ptr 0 []);let Z6:Nat:=List.length l;let Z7:Nat × D RC:=(10,D.vs 1 Z6);let Z8:List (Nat × D RC):=[(47,D.sl RTy.write cw ws),(48,D.int .i64 Z1),(49,D.int .i64 (IntKind.wrap .i64 (Z0+(1:Int))))];let Z9:Option (Obj RC):=some (Obj.var 51 (.acons (D.int .i64 p) (.acons (D.bool y) (.acons (D.sl RTy.write cw ws) .anil))));let Z10:List (Option (Obj RC)):=[some (Obj.var 3 (D.int .i64 cut))];let Z11:List Line:=[Line.mk nx p Z0 (Int.tmod (Qc.key Z2) (8:Int)) (Qc.value Z2)];bif decide (Z0 < Z1) then bif decide ((0:Int) <= Z0 /\ Z0 < Z1) then bif IntKind.wrap .i64 (Int.tdiv (Qc.key Z2) (8:Int)) != q then some ((X.normal,Z3::Z4::Z5::Z7::(11,D.int .i64 nx)::Z8),Z9::some (Obj.vec RTy.line o l)::Z10) else bif Nat.beq Z6 Z6 && Qk (Z6+List.length Z11) (40:Nat) then some ((X.normal,Z3::Z4::Z5::(10,D.vs 1 (Z6+List.length Z11))::(11,D.int .i64 (IntKind.wrap .i64 (nx+(1:Int))))::Z8),Z9::some (Obj.vec RTy.line o (l++Z11))::Z10) else none else none else some ((X.exit (0:Nat),[Z7]),Z9::some (Obj.vec RTy.line o l)::Z10)):=by kernel_rfl
def YV (l:List Line) (o:Bool) (p:Int) (y:Bool) (cw:Bool) (ws:List Qc) (q:Int) (nx:Int) (cut:Int) (i:Nat):RT RC:=.leaf (.exit 0) [(10,.vs 1 (l++ZI p q nx i (ws.drop i)).length)] (Vj (l++ZI p q nx i (ws.drop i)) o p y cw ws q nx cut i)
def Ys (l:List Line) (o:Bool) (p:Int) (y:Bool) (cw:Bool) (ws:List Qc) (q:Int) (nx:Int) (cut:Int) (i:Nat):Prop:=i <= ws.length /\ ws.length <= 1000 /\ l.length <= 1000+i /\ Qcn ws=true /\ 0 <= nx /\ nx <= 5000000+i
def ZJ:QI RC QhG where
 k:=3
 canon q:=QfT q.l q.o q.p q.y q.cw q.ws q.q q.nx q.cut q.i
 objs q:=Vj q.l q.o q.p q.y q.cw q.ws q.q q.nx q.cut q.i
 fin q:=YV q.l q.o q.p q.y q.cw q.ws q.q q.nx q.cut q.i
 Inv q:=Ys q.l q.o q.p q.y q.cw q.ws q.q q.nx q.cut q.i
 μ q:=q.ws.length - q.i
theorem QfU (l:List Line) (o:Bool) (p:Int) (y:Bool) (cw:Bool) (ws:List Qc) (q:Int) (nx:Int) (cut:Int) (i:Nat) (hI:Ys l o p y cw ws q nx cut i):Leaf (Qny l o p y cw ws q nx cut i) (LedR ZJ ⟨l,o,p,y,cw,ws,q,nx,cut,i⟩):=by
 (rw [Qqj];conv=>zeta)
 unfold Ys at hI;obtain ⟨h1,h2,h3,h4,h5,h6⟩:=hI
 by_cases hlt:i < ws.length
 · have w_succ:IntKind.i64.wrap ((i:Int)+1)=((i+1:Nat):Int):=by rw [wrap_id (by omega) (by omega)];simp
   have d_lt:decide ((i:Int) < ws.length)=true:=by simp;omega
   have d_in:decide (0 <= (i:Int) /\ (i:Int) < ws.length)=true:=by simp;omega
   have t_nat:((i:Int)).toNat=i:=by simp
   simp only [w_succ,d_lt,d_in,t_nat,cond_true];have hd:ws.drop i=ws.getD i ⟨0,0⟩::ws.drop (i+1):=by rw [List.drop_eq_getElem_cons hlt];simp [hlt]
   have hkey:=Qnl h4 hlt;generalize ws.getD i ⟨0,0⟩=x at *;have e1:IntKind.i64.wrap (x.key.tdiv 8)=x.key / 8:=by rw [Int.tdiv_eq_ediv_of_nonneg (by omega)];exact wrap_id (by omega) (by omega)
   have e2:x.key.tmod 8=x.key % 8:=Int.tmod_eq_emod_of_nonneg (by omega)
   have e3:IntKind.i64.wrap (nx+1)=nx+1:=wrap_id (by omega) (by omega)
   simp only [e1,e2,e3,cond_true]
   by_cases hq:x.key / 8=q
   · have hb:(x.key / 8 != q)=false:=by simpa using hq
     have e4:l.length+([Line.mk nx p i (x.key % 8) x.value]:List Line).length=(l++[Line.mk nx p i (x.key % 8) x.value]).length:=by simp
     have s1:Qk (l++[Line.mk nx p i (x.key % 8) x.value]).length 40=true:=YO (by simp;omega)
     have b1:Nat.beq l.length l.length=true:=Zu rfl;simp only [hb,e4,s1,b1,Bool.and_self,cond_true,cond_false];refine Qp (S:=ZJ) ⟨l++[Line.mk nx p i (x.key % 8) x.value],o,p,y,cw,ws,q,nx+1,cut,i+1⟩ (show Ys (l++[Line.mk nx p i (x.key % 8) x.value]) (o) (p) (y) (cw) (ws) (q) (nx+1) (cut) (i+1) from ⟨by omega,h2,by simp;omega,h4,by omega,by omega⟩) (by simp only [ZJ];omega) ?_ rfl rfl
     simp only [ZJ,YV,Vj,hd,ZI,if_pos hq,List.append_assoc,List.singleton_append]
   · have hb:(x.key / 8 != q)=true:=by simpa using hq
     simp only [hb,cond_true];refine Qp (S:=ZJ) ⟨l,o,p,y,cw,ws,q,nx,cut,i+1⟩ (show Ys (l) (o) (p) (y) (cw) (ws) (q) (nx) (cut) (i+1) from ⟨by omega,h2,by omega,h4,by omega,by omega⟩) (by simp only [ZJ];omega) ?_ rfl rfl
     simp only [ZJ,YV,Vj,hd,ZI,if_neg hq]
 · have d1:decide ((i:Int) < ws.length)=false:=by simp;omega
   rw [d1];simp only [cond_false];have e:ws.drop i=[]:=List.drop_eq_nil_of_le (by omega)
   refine Qm (Vj l o p y cw ws q nx cut i) ?_ rfl;simp only [ZJ,YV,e,ZI,List.append_nil,RT.val]
def QfV (env:Env RC) (os:List (Obj RC)):Option (Bool × QhG):=match env,os with
 | [(3,.int .i64 q),(5,.ptr 2 []),(6,.ptr 0 []),(10,.vs 1 x0),(11,.int .i64 nx),(47,.sl .write x1 x2),(48,.int .i64 x3),(49,.int .i64 x4)],[.var 51 (.acons (.int .i64 p) (.acons (.bool y) (.acons (.sl .write cw ws) .anil))),.vec .line o l,.var 3 (.int .i64 cut)]=>QB (true) (decide (x0=l.length) && decide (x1=(cw)) && decide (x2=(ws)) && decide (x3=ws.length) && decide (x4=0) && decide (ws.length <= 1000 /\ l.length <= 1000) && Qcn ws && decide (0 <= nx /\ nx <= 5000000),⟨l,o,p,y,cw,ws,q,nx,cut,0⟩)
 | _,_=>none
noncomputable def un_5:=un_4.addLoop 92 10 (Qqd s28 [.slot 6 0,.lst 10,.slot 5 0] [3,5,6,10,11,47,48,49] 3 ZJ QfV)
theorem Qnz:Qi Tryz.prog s28 un_5:=by
 refine Qnx.addRoundsRK Qb (by kernel_rfl) ZJ 3 (fun q _=>by simp [RT.keeps,ZJ,YV,Vj]) 40 [3,5,6,10,11,47,48,49] [10] [.slot 6 0,.lst 10,.slot 5 0] [3,5,6,10,11,47,48,49] QfV (fun q hI=>?_) ?_
 · obtain ⟨l,o,p,y,cw,ws,q,nx,cut,i⟩:=q;refine ⟨?_,?_,QfU l o p y cw ws q nx cut i hI⟩
   · simp_all [Qj,ZJ,QfT,Vj,Ys,D.refs,Obj.refs,rEnc]
   · simp_all [ZJ,YV,Vj,Ys,RT.refsOK,Qj,D.refs,Obj.refs,rEnc]
 · intro env os b q hd_ hb;unfold QfV at hd_
   split at hd_
   · obtain ⟨hs,hd_⟩:=Qg hd_;cases hd_;simp only [Bool.and_eq_true,decide_eq_true_eq] at hb;obtain ⟨⟨⟨⟨⟨⟨⟨rfl,rfl⟩,rfl⟩,rfl⟩,rfl⟩,h1,h2⟩,h3⟩,h4,h5⟩:=hb;exact ⟨⟨Nat.zero_le _,h1,by simpa using h2,h3,h4,by simpa using h5⟩,rfl,rfl⟩
   · cases hd_
structure QnA where
 w:List Line
 cut:Int
 i:Int
 j:Int
def QhH (w:List Line) (cut:Int) (i:Int) (j:Int):Env RC:=[(0,.vs 0 (w.length)),(1,.fn 155 (.acons (.ptr 1 []) .anil)),(5,.int .i64 i),(6,.int .i64 j)]
def Jw (w:List Line) (cut:Int) (i:Int) (j:Int):List (Obj RC):=[.vec .line true w,.var 3 (.int .i64 cut)]
noncomputable def Qrw (w:List Line) (cut:Int) (i:Int) (j:Int):=rndO s28 un_5 153 5 40 2 [0,1,5,6] [5] [.slot 0 0,.slot 1 0] (QhH w cut i j) (Jw w cut i j)
theorem QtD (w:List Line) (cut:Int) (i:Int) (j:Int):Qrw w cut i j=(let Z0:Nat:=List.length w;let Z1:Bool:=Nat.beq Z0 Z0;let Z2:Line:=List.getD w j.toNat (Line.mk (0:Int) (0:Int) (0:Int) (0:Int) (0:Int));let Z3:Nat × D RC:=(0,D.vs 0 Z0);let Z4:Nat × D RC:=(1,D.fn (155:Nat) (.acons (D.ptr 1 []) .anil));let Z5:List (Nat × D RC):=[(6,D.int .i64 (IntKind.wrap .i64 (j+(1:Int))))];let Z6:List (Option (Obj RC)):=[some (Obj.var 3 (D.int .i64 cut))];let Z7:Nat × D RC:=(5,D.int .i64 i);bif Qh Z0 then bif decide (j < (↑Z0:Int)) then bif Z1 && decide ((0:Int) <= j /\ j < (↑Z0:Int)) then bif Z1 then bif !decide (Line.place Z2 <= cut) then bif Z1 && decide ((0:Int) <= i /\ i < (↑Z0:Int)) then bif Z1 then some ((X.normal,Z3::Z4::(5,D.int .i64 (IntKind.wrap .i64 (i+(1:Int))))::Z5),some (Obj.vec RTy.line true (List.set w i.toNat (Line.mk (Line.offset Z2) (Line.place Z2) (Line.j Z2) (Line.key Z2) (Line.value Z2))))::Z6) else none else none else some ((X.normal,Z3::Z4::Z7::Z5),some (Obj.vec RTy.line true w)::Z6) else none else none else some ((X.exit (0:Nat),[Z7]),some (Obj.vec RTy.line true w)::Z6) else none):=by kernel_rfl
def Jm (w:List Line) (cut:Int) (i:Int) (j:Int):RT RC:=.leaf (.exit 0) [(5,.int .i64 ((delW cut (w.length - j.toNat) w i.toNat j.toNat).2:Int))] (Jw (delW cut (w.length - j.toNat) w i.toNat j.toNat).1 cut i j)
def Vk (w:List Line) (cut:Int) (i:Int) (j:Int):Prop:=0 <= i /\ i <= j /\ j <= w.length /\ w.length <= 100000
def YD:QI RC QnA where
 k:=2
 canon q:=QhH q.w q.cut q.i q.j
 objs q:=Jw q.w q.cut q.i q.j
 fin q:=Jm q.w q.cut q.i q.j
 Inv q:=Vk q.w q.cut q.i q.j
 μ q:=(q.w.length - q.j).toNat
theorem Qjc (w:List Line) (cut:Int) (i:Int) (j:Int) (hI:Vk w cut i j):Leaf (Qrw w cut i j) (LedR YD ⟨w,cut,i,j⟩):=by
 (rw [QtD];conv=>zeta)
 unfold Vk at hI;obtain ⟨h1,h2,h3,h4⟩:=hI;have lk:Qh w.length=true:=Qe (by omega)
 have nb:Nat.beq w.length w.length=true:=Zu rfl
 by_cases hlt:j < w.length
 · have d1:decide (j < (w.length:Int))=true:=by simpa using hlt
   have d2:decide (0 <= j /\ j < (w.length:Int))=true:=by simp;omega
   have d3:decide (0 <= i /\ i < (w.length:Int))=true:=by simp;omega
   have w1:IntKind.i64.wrap (j+1)=j+1:=wrap_id (by omega) (by omega)
   have w2:IntKind.i64.wrap (i+1)=i+1:=wrap_id (by omega) (by omega)
   have n1:w.length - j.toNat=(w.length - (j+1).toNat)+1:=by omega
   have n2:(j+1).toNat=j.toNat+1:=by omega
   have n3:(i+1).toNat=i.toNat+1:=by omega
   simp only [lk,nb,d1,d2,d3,w1,w2,QhD,cond_true,Bool.and_self]
   by_cases hp:(w.getD j.toNat ⟨0,0,0,0,0⟩).place <= cut
   · rw [decide_eq_true hp];simp only [Bool.not_true,cond_false];refine Qp (S:=YD) ⟨w,cut,i,j+1⟩ (show Vk (w) (cut) (i) (j+1) from ⟨h1,by omega,by omega,h4⟩) (by simp only [YD];omega) ?_ rfl rfl
     simp only [YD,Jm,Jw,n1,n2,delW,if_pos hp]
   · rw [decide_eq_false hp];simp only [Bool.not_false,cond_true];refine Qp (S:=YD) ⟨w.set i.toNat (w.getD j.toNat ⟨0,0,0,0,0⟩),cut,i+1,j+1⟩ (show Vk (w.set i.toNat (w.getD j.toNat ⟨0,0,0,0,0⟩)) (cut) (i+1) (j+1) from ⟨by omega,by omega,by simp;omega,by simpa using h4⟩) (by simp only [YD,List.length_set];omega) ?_ (by simp only [YD,QhH,List.length_set]) rfl
     simp only [YD,Jm,Jw,n1,n2,n3,delW,if_neg hp,List.length_set]
 · have d1:decide (j < (w.length:Int))=false:=by simpa using hlt
   have n1:w.length - j.toNat=0:=by omega
   simp only [lk,d1,cond_true,cond_false];refine Qm (Jw w cut i j) ?_ rfl;simp only [YD,Jm,Jw,n1,delW,RT.val];rw [Int.toNat_of_nonneg h1]
def QnB (env:Env RC) (os:List (Obj RC)):Option (Bool × QnA):=match env,os with
 | [(0,.vs 0 x0),(1,.fn 155 (.acons (.ptr 1 []) .anil)),(5,.int .i64 i),(6,.int .i64 j)],[.vec .line true w,.var 3 (.int .i64 cut)]=>QB (true) (decide (x0=w.length) && decide (0 <= i /\ i <= j /\ j <= w.length /\ w.length <= 100000),⟨w,cut,i,j⟩)
 | _,_=>none
noncomputable def un_6:=un_5.addLoop 153 5 (Qqd s28 [.slot 0 0,.slot 1 0] [0,1,5,6] 1 YD QnB)
theorem QnC:Qi Tryz.prog s28 un_6:=by
 refine Qnz.addRoundsRK Qb (by kernel_rfl) YD 1 (fun q _=>by simp [RT.keeps,YD,Jm,Jw]) 40 [0,1,5,6] [5] [.slot 0 0,.slot 1 0] [0,1,5,6] QnB (fun q hI=>?_) ?_
 · obtain ⟨w,cut,i,j⟩:=q;refine ⟨?_,?_,Qjc w cut i j hI⟩
   · simp_all [Qj,YD,QhH,Jw,Vk,D.refs,Obj.refs,rEnc]
   · simp_all [YD,Jm,Jw,Vk,RT.refsOK,Qj,D.refs,Obj.refs,rEnc]
 · intro env os b q hd_ hb;unfold QnB at hd_
   split at hd_
   · obtain ⟨hs,hd_⟩:=Qg hd_;cases hd_;simp only [Bool.and_eq_true,decide_eq_true_eq] at hb;obtain ⟨rfl,h1⟩:=hb;exact ⟨h1,rfl,rfl⟩
   · cases hd_
def Qrx (c:Bool) (l:List Line) (cut:Int) (p:Int) (y:Bool) (cw:Bool) (ws:List Qc) (q:Int):Option (Bool × D RC):=some (decide (l.length <= 1000 /\ ws.length <= 1000),.tup (.acons (.sl (C:=RC) .line (bif Qbh l ⟨p,y,ws⟩ then !y else c) (Vu l ⟨p,y,ws⟩ q)) (.acons (.int .i64 (Js l cut ⟨p,y,ws⟩ q)) .anil)))
def QnD:List (D RC)->Option (Bool × D RC)
 | [.sl .line c l,.int .i64 cut,.acons (.int .i64 p) (.acons (.bool y) (.acons (.sl .write cw ws) .anil)),.int .i64 q]=>Qrx c l cut p y cw ws q
 | _=>none
noncomputable def Qry (c:Bool) (l:List Line) (cut:Int) (p:Int) (y:Bool) (cw:Bool) (ws:List Qc) (q:Int):=evF s28 un_6 100 92 [.sl (C:=RC) .line c l,.int .i64 cut,.acons (.int .i64 p) (.acons (.bool y) (.acons (.sl (C:=RC) .write cw ws) .anil)),.int .i64 q]
theorem QtE (c:Bool) (l:List Line) (cut:Int) (p:Int) (y:Bool) (cw:Bool) (ws:List Qc) (q:Int):Qry c l cut p y cw ws q=(let Z0:Nat:=List.length l;let Z1:D RC:=D.acons (D.int .i64 cut) .anil;let Z2:DO_:=some (D.tup (D.acons (D.sl RTy.line c l) Z1));let Z3:Nat:=List.length ws;let Z4:Bool:=Qh Z0;let Z5:Int:=(↑Z0:Int);let Z6:Int:=IntKind.wrap .i64 (Z5 - (1:Int));let Z7:List Line:=List.drop (0:Nat) (List.take Z5.toNat l);let Z8:DO_:=some (D.tup (D.acons (D.sl RTy.line true Z7) Z1));let Z9:Nat:=List.length Z7;let Z10:Bool:=decide (Z9=Z9) && decide (cw=cw) && decide (ws=ws) && decide ((↑Z3:Int)=(↑Z3:Int)) && true && decide (Z3 <= (1000:Nat) /\ Z9 <= (1000:Nat)) && Qcn ws;let Z11:Line:=Line.mk (0:Int) (0:Int) (0:Int) (0:Int) (0:Int);let Z12:Int:=IntKind.wrap .i64 (Line.offset (List.getD l Z6.toNat Z11)+(1:Int));let Z13:List Line:=Z7++ZI p q Z12 (0:Nat) (List.drop (0:Nat) ws);let Z14:Nat:=List.length Z13;let Z15:Int:=(↑Z14:Int);let Z16:Int:=IntKind.wrap .i64 (Z15 - (16:Int));let Z17:Bool:=Nat.beq Z14 Z14;let Z18:DO_:=none;let Z19:Int:=IntKind.wrap .i64 (Z16 - (1:Int));let Z20:List Line:=List.drop Z16.toNat Z13;let Z21:Nat:=(0:Nat)+List.length Z20;let Z22:List Line:=List.replicate (0:Nat) Z11++Z20;let Z23:Nat:=List.length Z22;let Z24:Int:=Line.place (List.getD Z13 Z19.toNat Z11);let Z25:Int:=(↑(firstIx (fun (x:Line)=>decide (Line.place x <= Z24)) Z22):Int);let Z26:Int:=IntKind.wrap .i64 (Z25+(1:Int));let Z27:List Line × Nat:=delW Z24 (Z23 - Int.toNat Z26) Z22 Z25.toNat Z26.toNat;let Z28:Nat:=List.length Z27.1;let Z29:Int:=(↑Z27.2:Int);let Z30:Nat:=Int.toNat Z29;let Z31:List Line:=List.take Z30 Z27.1++List.replicate (Z28 - Z30) Z11;let Z32:D RC:=D.acons (D.int .i64 Z24) .anil;let Z33:DO_:=bif Z10 && decide ((0:Int) <= Z12 /\ Z12 <= (5000000:Int)) then bif Qh Z14 then bif decide (Z16 <= (0:Int)) then bif Z17 then some (D.tup (D.acons (D.sl RTy.line false Z13) Z1)) else Z18 else bif Z17 && decide ((0:Int) <= Z19 /\ Z19 < Z15) then bif Z17 then bif Z17 then bif Z17 then bif decide ((0:Int) <= Z16 /\ Z16 <= Z15) then bif List.isEmpty Z20 then Z18 else bif Qk Z21 (40:Nat) then bif Qh Z21 then bif decide (Z21=Z23) && decide ((↑Z21:Int)=(↑Z23:Int)) && true && decide (Z23 <= (100000:Nat)) then bif List.any Z22 fun (x:Line)=>decide (Line.place x <= Z24) then bif decide (Z21=Z23) && decide ((0:Int) <= Z25 /\ Z25 <= Z26 /\ Z26 <= (↑Z23:Int) /\ Z23 <= (100000:Nat)) then bif Nat.beq Z21 Z28 && decide ((0:Int) <= Z29 /\ Z29 <= (↑Z28:Int)) then bif Nat.beq Z21 Z31.length then bif decide ((0:Int) <= (0:Int) /\ (0:Int) <= Z29 /\ Z29 <= (↑Z31.length:Int)) then some (D.tup (D.acons (D.sl RTy.line false (List.drop (0:Nat) (List.take Z30 Z31))) Z32)) else Z18 else Z18 else Z18 else Z18 else bif Nat.beq Z21 Z23 then some (D.tup (D.acons (D.sl RTy.line false Z22) Z32)) else Z18 else Z18 else Z18 else Z18 else Z18 else Z18 else Z18 else Z18 else Z18 else Z18 else Z18;let Z34:List Line:=Z7++ZI p q (0:Int) (0:Nat) (List.drop (0:Nat) ws);let Z35:Nat:=List.length Z34;let Z36:Int:=(↑Z35:Int);let Z37:Int:=IntKind.wrap .i64 (Z36 - (16:Int));let Z38:Bool:=Nat.beq Z35 Z35;let Z39:Int:=IntKind.wrap .i64 (Z37 - (1:Int));let Z40:List Line:=List.drop Z37.toNat Z34;let Z41:Nat:=(0:Nat)+List.length Z40;let Z42:List Line:=List.replicate (0:Nat) Z11++Z40;let Z43:Nat:=List.length Z42;let Z44:Int:=Line.place (List.getD Z34 Z39.toNat Z11);let Z45:Int:=(↑(firstIx (fun (x:Line)=>decide (Line.place x <= Z44)) Z42):Int);let Z46:Int:=IntKind.wrap .i64 (Z45+(1:Int));let Z47:List Line × Nat:=delW Z44 (Z43 - Int.toNat Z46) Z42 Z45.toNat Z46.toNat;let Z48:Nat:=List.length Z47.1;let Z49:Int:=(↑Z47.2:Int);let Z50:Nat:=Int.toNat Z49;let Z51:List Line:=List.take Z50 Z47.1++List.replicate (Z48 - Z50) Z11;let Z52:D RC:=D.acons (D.int .i64 Z44) .anil;let Z53:DO_:=bif Z10 && true then bif Qh Z35 then bif decide (Z37 <= (0:Int)) then bif Z38 then some (D.tup (D.acons (D.sl RTy.line false Z34) Z1)) else Z18 else bif Z38 && decide ((0:Int) <= Z39 /\ Z39 < Z36) then bif Z38 then bif Z38 then bif Z38 then bif decide ((0:Int) <= Z37 /\ Z37 <= Z36) then bif List.isEmpty Z40 then Z18 else bif Qk Z41 (40:Nat) then bif Qh Z41 then bif decide (Z41=Z43) && decide ((↑Z41:Int)=(↑Z43:Int)) && true && decide (Z43 <= (100000:Nat)) then bif List.any Z42 fun (x:Line)=>decide (Line.place x <= Z44) then bif decide (Z41=Z43) && decide ((0:Int) <= Z45 /\ Z45 <= Z46 /\ Z46 <= (↑Z43:Int) /\ Z43 <= (100000:Nat)) then bif Nat.beq Z41 Z48 && decide ((0:Int) <= Z49 /\ Z49 <= (↑Z48:Int)) then bif Nat.beq Z41 Z51.length then bif decide ((0:Int) <= (0:Int) /\ (0:Int) <= Z49 /\ Z49 <= (↑Z51.length:Int)) then some (D.tup (D.acons (D.sl RTy.line false (List.drop (0:Nat) (List.take Z50 Z51))) Z52)) else Z18 else Z18 else Z18 else Z18 else bif Nat.beq Z41 Z43 then some (D.tup (D.acons (D.sl RTy.line false Z42) Z52)) else Z18 else Z18 else Z18 else Z18 else Z18 else Z18 else Z18 else Z18 else Z18 else Z18 else Z18;bif decide (Z0 <= (100000:Nat)) then bif !List.all l Q5 then Z2 else bif Qh Z3 then bif !mayB (Rec.mk p y ws) then Z2 else bif Z4 then bif Z4 then bif decide ((0:Int) <= (0:Int) /\ (0:Int) <= Z5 /\ Z5 <= Z5 /\ Z5=Z5) then bif Z4 then bif decide ((0:Int) < Z5) then bif Z4 then bif decide ((0:Int) <= Z6 /\ Z6 < Z5) then bif !y then Z8 else bif Qh Z3 then bif List.isEmpty Z7 then Z33 else Z33 else Z18 else Z18 else Z18 else bif !y then Z8 else bif Qh Z3 then bif List.isEmpty Z7 then Z53 else Z53 else Z18 else Z18 else Z18 else Z18 else Z18 else Z18 else Z18):=by kernel_rfl
theorem QtF (c:Bool) (l:List Line) (cut:Int) (p:Int) (y:Bool) (cw:Bool) (ws:List Qc) (q:Int) (h:(decide (l.length <= 1000 /\ ws.length <= 1000))=true):Qry c l cut p y cw ws q=some (.tup (.acons (.sl (C:=RC) .line (bif Qbh l ⟨p,y,ws⟩ then !y else c) (Vu l ⟨p,y,ws⟩ q)) (.acons (.int .i64 (Js l cut ⟨p,y,ws⟩ q)) .anil))):=by
 (rw [QtE];conv=>zeta)
 obtain ⟨hl,hw⟩:=of_decide_eq_true h;have t0:List.drop 0 (List.take (Int.toNat (l.length:Int)) l)=l:=by simp
 have lk:Qh l.length=true:=Qe (by omega)
 have wk:Qh ws.length=true:=Qe (by omega)
 have wl:=Ko p q ws (Kq l) 0;simp only [t0,List.drop_zero];refine Qa (by simp;omega) ?_
 cases ha:l.all Q5
 · refine Qa rfl ?_;simp only [Qbh,Vu,Js,ha,Bool.false_and,cond_false]
 refine Qy rfl (Qa wk ?_);cases hm:mayB ⟨p,y,ws⟩
 · refine Qa rfl ?_;simp only [Qbh,Vu,Js,ha,hm,Bool.and_false,Bool.false_and,cond_false]
 refine Qy rfl ?_;have hk:Qcn ws=true:=Qqb hm;have ok:Qbh l ⟨p,y,ws⟩=true:=by simp only [Qbh,ha,hm];rfl
 refine Qa lk (Qa lk (Qa (by simp) (Qa lk ?_)))
 by_cases hne:0 < l.length
 · have hv:Q5 (l.getD (l.length - 1) ⟨0,0,0,0,0⟩)=true:=by
    have:=List.all_eq_true.1 ha l[l.length - 1] (List.getElem_mem (by omega))
    simpa [show l.length - 1 < l.length by omega] using this
   simp only [Q5,decide_eq_true_eq] at hv;have w1:IntKind.i64.wrap ((l.length:Int) - 1)=(l.length:Int) - 1:=wrap_id (by omega) (by omega)
   have w2:((l.length:Int) - 1).toNat=l.length - 1:=by omega
   have hn:Kq l=(l.getD (l.length - 1) ⟨0,0,0,0,0⟩).offset+1:=by unfold Kq;rw [if_pos hne]
   have w3:IntKind.i64.wrap ((l.getD (l.length - 1) ⟨0,0,0,0,0⟩).offset+1)=Kq l:=by rw [hn];exact wrap_id (by omega) (by omega)
   simp only [w1,w2,w3];refine Qa (by simpa using hne) (Qa lk (Qa (by simp;omega) ?_))
   cases y
   · refine Qa rfl ?_;simp only [ok,Vu,Js,Bool.and_false,cond_true,cond_false,Bool.not_false]
   refine Qy rfl (Qa wk (Qy (by cases l with | nil=>simp at hne | cons x l=>rfl) (Qa ?_ ?_)))
   · simp only [hk,Bool.and_true,Bool.and_eq_true,decide_eq_true_eq,true_and,and_true];omega
   simp only [ok,Vu,Js,Bool.and_self,cond_true,Bool.not_true];rw [show l++ZI p q (Kq l) 0 ws=Vt l ⟨p,true,ws⟩ q from rfl];have hL:(Vt l ⟨p,true,ws⟩ q).length <= 2000:=by simp only [Vt,List.length_append];omega
   generalize Vt l ⟨p,true,ws⟩ q=L at hL ⊢;have d1:Qh L.length=true:=Qe (by omega)
   have k1:IntKind.i64.wrap ((L.length:Int) - 16)=(L.length:Int) - 16:=wrap_id (by omega) (by omega)
   have k2:IntKind.i64.wrap ((L.length:Int) - 16 - 1)=(L.length:Int) - 17:=by rw [wrap_id (by omega) (by omega)];omega
   have k3:((L.length:Int) - 16).toNat=L.length - 16:=by omega
   have k4:((L.length:Int) - 17).toNat=L.length - 17:=by omega
   simp only [k1,k2,k3,k4,List.replicate_zero,List.nil_append,Nat.zero_add];refine Qa d1 ?_
   by_cases hle:L.length <= 16
   · refine Qa (by simp;omega) (Qa (Zu rfl) ?_)
     rw [decide_eq_true hle];rfl
   refine Qy (by simp;omega) ?_
   rw [decide_eq_false hle];refine Qa (by rw [Bool.and_eq_true];exact ⟨Zu rfl,by simp;omega⟩) (Qa (Zu rfl) (Qa (Zu rfl) (Qa (Zu rfl) (Qa (by simp;omega) ?_))))
   simp only [cond_false,Qcm];rw [show (L.getD (L.length - 17) ⟨0,0,0,0,0⟩).place=Qda L from rfl];generalize Qda L=C;have hM:(L.drop (L.length - 16)).length=16:=by simp;omega
   generalize L.drop (L.length - 16)=M at hM ⊢;refine Qy (by cases M with | nil=>simp at hM | cons x M=>rfl) (Qa (YO (by omega)) (Qa (Qe (by omega)) (Qa (by simp;omega) ?_)))
   cases hany:M.any fun x=>decide (x.place <= C)
   · refine Qy rfl (Qa (Zu rfl) ?_);rw [Qbg C hany]
   have hF:=(YU (fun x:Line=>decide (x.place <= C)) M).2 hany;have hfilt:=YK C hany;generalize firstIx (fun x:Line=>decide (x.place <= C)) M=F at *;have f1:IntKind.i64.wrap ((F:Int)+1)=((F+1:Nat):Int):=by rw [wrap_id (by omega) (by omega)];simp
   simp only [f1,Int.toNat_natCast];obtain ⟨e1,e2,e3⟩:=Qc9 C (M.length - (F+1)) M F (F+1) (by omega) (by omega)
   generalize delW C (M.length - (F+1)) M F (F+1)=Dd at *
   rw [hfilt,<- e3];have e4:(Dd.1.take Dd.2).length=Dd.2:=by simp;omega
   refine Qa rfl (Qa (by simp;omega) (Qa (by rw [Bool.and_eq_true];exact ⟨Zu e1.symm,by simp;omega⟩) (Qa (Zu (by simp;omega)) (Qa (by simp;omega) ?_))))
   rw [List.take_append_of_le_length (by omega),List.take_of_length_le (by omega)]
 · have hl0:l=[]:=List.eq_nil_of_length_eq_zero (by omega)
   refine Qy (by simp [hl0]) ?_
   cases y
   · refine Qa rfl ?_;simp only [ok,Vu,Js,Bool.and_false,cond_true,cond_false,Bool.not_false]
   refine Qy rfl (Qa wk (Qa (by rw [hl0];rfl) (Qa ?_ ?_)))
   · simp only [hk,Bool.and_true,Bool.and_eq_true,decide_eq_true_eq,true_and,and_true];omega
   simp only [ok,Vu,Js,Bool.and_self,cond_true,Bool.not_true];rw [show l++ZI p q 0 0 ws=Vt l ⟨p,true,ws⟩ q by rw [hl0];rfl]
   have hL:(Vt l ⟨p,true,ws⟩ q).length <= 2000:=by simp only [Vt,List.length_append];omega
   generalize Vt l ⟨p,true,ws⟩ q=L at hL ⊢;have d1:Qh L.length=true:=Qe (by omega)
   have k1:IntKind.i64.wrap ((L.length:Int) - 16)=(L.length:Int) - 16:=wrap_id (by omega) (by omega)
   have k2:IntKind.i64.wrap ((L.length:Int) - 16 - 1)=(L.length:Int) - 17:=by rw [wrap_id (by omega) (by omega)];omega
   have k3:((L.length:Int) - 16).toNat=L.length - 16:=by omega
   have k4:((L.length:Int) - 17).toNat=L.length - 17:=by omega
   simp only [k1,k2,k3,k4,List.replicate_zero,List.nil_append,Nat.zero_add];refine Qa d1 ?_
   by_cases hle:L.length <= 16
   · refine Qa (by simp;omega) (Qa (Zu rfl) ?_)
     rw [decide_eq_true hle];rfl
   refine Qy (by simp;omega) ?_
   rw [decide_eq_false hle];refine Qa (by rw [Bool.and_eq_true];exact ⟨Zu rfl,by simp;omega⟩) (Qa (Zu rfl) (Qa (Zu rfl) (Qa (Zu rfl) (Qa (by simp;omega) ?_))))
   simp only [cond_false,Qcm];rw [show (L.getD (L.length - 17) ⟨0,0,0,0,0⟩).place=Qda L from rfl];generalize Qda L=C;have hM:(L.drop (L.length - 16)).length=16:=by simp;omega
   generalize L.drop (L.length - 16)=M at hM ⊢;refine Qy (by cases M with | nil=>simp at hM | cons x M=>rfl) (Qa (YO (by omega)) (Qa (Qe (by omega)) (Qa (by simp;omega) ?_)))
   cases hany:M.any fun x=>decide (x.place <= C)
   · refine Qy rfl (Qa (Zu rfl) ?_);rw [Qbg C hany]
   have hF:=(YU (fun x:Line=>decide (x.place <= C)) M).2 hany;have hfilt:=YK C hany;generalize firstIx (fun x:Line=>decide (x.place <= C)) M=F at *;have f1:IntKind.i64.wrap ((F:Int)+1)=((F+1:Nat):Int):=by rw [wrap_id (by omega) (by omega)];simp
   simp only [f1,Int.toNat_natCast];obtain ⟨e1,e2,e3⟩:=Qc9 C (M.length - (F+1)) M F (F+1) (by omega) (by omega)
   generalize delW C (M.length - (F+1)) M F (F+1)=Dd at *
   rw [hfilt,<- e3];have e4:(Dd.1.take Dd.2).length=Dd.2:=by simp;omega
   refine Qa rfl (Qa (by simp;omega) (Qa (by rw [Bool.and_eq_true];exact ⟨Zu e1.symm,by simp;omega⟩) (Qa (Zu (by simp;omega)) (Qa (by simp;omega) ?_))))
   rw [List.take_append_of_le_length (by omega),List.take_of_length_le (by omega)]
noncomputable def un_7:=un_6.addSpec 92 QnD
theorem QnE:Qi Tryz.prog s28 un_7:=QnC.addEv Qb fun args d h=>by
 unfold QnD at h
 split at h
 · unfold Qrx at h;have h1:=congrArg Prod.fst (Option.some.inj h);obtain rfl:_=d:=congrArg Prod.snd (Option.some.inj h);exact ⟨by simp [D.refs],100,QtF _ _ _ _ _ _ _ _ h1⟩
 · cases h
def Kr (p:Int) (it:List Item) (ws:List Qc):List Item:=ws.foldl (fun l w=>putI l ⟨w.key,p,w.value⟩) it
theorem QeO (p:Int):∀ (ws:List Qc) (it:List Item),(Kr p it ws).length <= it.length+ws.length
 | [],it=>by simp [Kr]
 | w::ws,it=>by
  have h1:=QeO p ws (putI it ⟨w.key,p,w.value⟩);have h2:=QhA it ⟨w.key,p,w.value⟩;simp only [Kr,List.foldl_cons,List.length_cons] at h1 ⊢;omega
def QQ (s:St) (r:Rec):St:=bif r.yes then ⟨r.place,Kr r.place s.items r.writes,Vu s.l0 r 0,Vu s.l1 r 1,Vu s.l2 r 2,Js s.l0 s.c0 r 0,Js s.l1 s.c1 r 1,Js s.l2 s.c2 r 2⟩ else ⟨r.place,s.items,s.l0,s.l1,s.l2,s.c0,s.c1,s.c2⟩
theorem QeP (s:St) (r:Rec):(QQ s r).items.length <= s.items.length+r.writes.length /\ (QQ s r).l0.length <= max s.l0.length 16 /\ (QQ s r).l1.length <= max s.l1.length 16 /\ (QQ s r).l2.length <= max s.l2.length 16:=by
 unfold QQ;cases r.yes
 · simp only [cond_false];omega
 · simp only [cond_true];exact ⟨QeO _ _ _,Qbi _ _ _,Qbi _ _ _,Qbi _ _ _⟩
theorem Qco:∀ (l:List Rec) (s:St) (n m:Nat),(∀ r ∈ l,mayB r=true)->s.items.length <= n->s.l0.length <= max m 16->s.l1.length <= max m 16->s.l2.length <= max m 16 ->
 (l.foldl QQ s).items.length <= n+4 * l.length /\ (l.foldl QQ s).l0.length <= max m 16 /\ (l.foldl QQ s).l1.length <= max m 16 /\ (l.foldl QQ s).l2.length <= max m 16
 | [],s,n,m,_,h0,h1,h2,h3=>⟨by simpa using h0,h1,h2,h3⟩
 | r::l,s,n,m,hl,h0,h1,h2,h3=>by
  have hr:=JO (hl r List.mem_cons_self);obtain ⟨q0,q1,q2,q3⟩:=QeP s r;obtain ⟨a,b,c,d⟩:=Qco l (QQ s r) (n+4) m (fun x hx=>hl x (List.mem_cons_of_mem _ hx)) (by omega) (by omega) (by omega) (by omega)
  simp only [List.foldl_cons,List.length_cons];exact ⟨by omega,b,c,d⟩
open Go.Proofs
def stV (s:St):D RC:=.acons (.int .i64 s.place) (.acons (.sl (C:=RC) .item false s.items) (.acons (.acons (.sl (C:=RC) .line false s.l0) (.acons (.sl (C:=RC) .line false s.l1) (.acons (.sl (C:=RC) .line false s.l2) .anil))) (.acons (.arr (C:=RC) .int 3 [s.c0,s.c1,s.c2]) .anil)))
structure Qrz where
 sp:Int
 ci:Bool
 it:List Item
 f0:Bool
 l0:List Line
 f1:Bool
 l1:List Line
 f2:Bool
 l2:List Line
 c0:Int
 c1:Int
 c2:Int
 p:Int
 y:Bool
 cw:Bool
 ws:List Qc
 i:Nat
noncomputable def QtG (sp:Int) (ci:Bool) (it:List Item) (f0:Bool) (l0:List Line) (f1:Bool) (l1:List Line) (f2:Bool) (l2:List Line) (c0:Int) (c1:Int) (c2:Int) (p:Int) (y:Bool) (cw:Bool) (ws:List Qc) (i:Nat):Env RC:=[(2,.ptr 0 []),(3,.ptr 1 []),(16,.sl (C:=RC) .write ((cw)) ((ws))),(17,.int .i64 (ws.length)),(18,.int .i64 (i:Int))]
def QfW (sp:Int) (ci:Bool) (it:List Item) (f0:Bool) (l0:List Line) (f1:Bool) (l1:List Line) (f2:Bool) (l2:List Line) (c0:Int) (c1:Int) (c2:Int) (p:Int) (y:Bool) (cw:Bool) (ws:List Qc) (i:Nat):List (Obj RC):=[.var 34 (.acons (.int .i64 sp) (.acons (.sl (C:=RC) .item ci it) (.acons (.acons (.sl (C:=RC) .line f0 l0) (.acons (.sl (C:=RC) .line f1 l1) (.acons (.sl (C:=RC) .line f2 l2) .anil))) (.acons (.arr (C:=RC) .int 3 [c0,c1,c2]) .anil)))),.var 51 (.acons (.int .i64 p) (.acons (.bool y) (.acons (.sl (C:=RC) .write cw ws) .anil)))]
noncomputable def Qvc (sp:Int) (ci:Bool) (it:List Item) (f0:Bool) (l0:List Line) (f1:Bool) (l1:List Line) (f2:Bool) (l2:List Line) (c0:Int) (c1:Int) (c2:Int) (p:Int) (y:Bool) (cw:Bool) (ws:List Qc) (i:Nat):=rndO s28 un_7 36 5 40 2 [2,3,16,17,18] [] [.slot 2 0,.slot 3 0] (QtG sp ci it f0 l0 f1 l1 f2 l2 c0 c1 c2 p y cw ws i) (QfW sp ci it f0 l0 f1 l1 f2 l2 c0 c1 c2 p y cw ws i)
theorem Qvd (sp:Int) (ci:Bool) (it:List Item) (f0:Bool) (l0:List Line) (f1:Bool) (l1:List Line) (f2:Bool) (l2:List Line) (c0:Int) (c1:Int) (c2:Int) (p:Int) (y:Bool) (cw:Bool) (ws:List Qc) (i:Nat):Qvc sp ci it f0 l0 f1 l1 f2 l2 c0 c1 c2 p y cw ws i=(let Z0:Int:=(↑i:Int);let Z1:Int:=(↑ws.length:Int);let Z2:Qc:=List.getD ws Z0.toNat (Qc.mk (0:Int) (0:Int));let Z3:D RC:=D.acons (D.acons (D.sl RTy.line f0 l0) (.acons (D.sl RTy.line f1 l1) (.acons (D.sl RTy.line f2 l2) .anil))) (.acons (D.arr RTy.int (3:Nat) [c0,c1,c2]) .anil);let Z4:List (Option (Obj RC)):=[some (Obj.var 51 (.acons (D.int .i64 p) (.acons (D.bool y) (.acons (D.sl RTy.write cw ws) .anil))))];bif decide (Z0 < Z1) then bif decide ((0:Int) <= Z0 /\ Z0 < Z1) then bif decide (List.length it <= (1000:Nat)) then some ((X.normal,[(2,D.ptr 0 []),(3,D.ptr 1 []),(16,D.sl RTy.write cw ws),(17,D.int .i64 Z1),(18,D.int .i64 (IntKind.wrap .i64 (Z0+(1:Int))))]),some (Obj.var 34 (.acons (D.int .i64 sp) (.acons (D.sl RTy.item false (putI it (Item.mk (Qc.key Z2) p (Qc.value Z2)))) Z3)))::Z4) else none else none else some ((X.exit (0:Nat),[]),some (Obj.var 34 (.acons (D.int .i64 sp) (.acons (D.sl RTy.item ci it) Z3)))::Z4)):=by kernel_rfl
noncomputable def Qde (sp:Int) (ci:Bool) (it:List Item) (f0:Bool) (l0:List Line) (f1:Bool) (l1:List Line) (f2:Bool) (l2:List Line) (c0:Int) (c1:Int) (c2:Int) (p:Int) (y:Bool) (cw:Bool) (ws:List Qc) (i:Nat):RT RC:=.leaf (.exit 0) [] (QfW sp (bif decide (i < ws.length) then false else ci) (Kr p it (ws.drop i)) f0 l0 f1 l1 f2 l2 c0 c1 c2 p y cw ws i)
def KR (sp:Int) (ci:Bool) (it:List Item) (f0:Bool) (l0:List Line) (f1:Bool) (l1:List Line) (f2:Bool) (l2:List Line) (c0:Int) (c1:Int) (c2:Int) (p:Int) (y:Bool) (cw:Bool) (ws:List Qc) (i:Nat):Prop:=i <= ws.length /\ ws.length <= 1000 /\ it.length+(ws.length - i) <= 1000
noncomputable def Qdf:QI RC Qrz where
 k:=2
 canon q:=QtG q.sp q.ci q.it q.f0 q.l0 q.f1 q.l1 q.f2 q.l2 q.c0 q.c1 q.c2 q.p q.y q.cw q.ws q.i
 objs q:=QfW q.sp q.ci q.it q.f0 q.l0 q.f1 q.l1 q.f2 q.l2 q.c0 q.c1 q.c2 q.p q.y q.cw q.ws q.i
 fin q:=Qde q.sp q.ci q.it q.f0 q.l0 q.f1 q.l1 q.f2 q.l2 q.c0 q.c1 q.c2 q.p q.y q.cw q.ws q.i
 Inv q:=KR q.sp q.ci q.it q.f0 q.l0 q.f1 q.l1 q.f2 q.l2 q.c0 q.c1 q.c2 q.p q.y q.cw q.ws q.i
 μ q:=q.ws.length - q.i
theorem QnF (sp:Int) (ci:Bool) (it:List Item) (f0:Bool) (l0:List Line) (f1:Bool) (l1:List Line) (f2:Bool) (l2:List Line) (c0:Int) (c1:Int) (c2:Int) (p:Int) (y:Bool) (cw:Bool) (ws:List Qc) (i:Nat) (hI:KR sp ci it f0 l0 f1 l1 f2 l2 c0 c1 c2 p y cw ws i):Leaf (Qvc sp ci it f0 l0 f1 l1 f2 l2 c0 c1 c2 p y cw ws i) (LedR Qdf ⟨sp,ci,it,f0,l0,f1,l1,f2,l2,c0,c1,c2,p,y,cw,ws,i⟩):=by
 (rw [Qvd];conv=>zeta)
 unfold KR at hI;obtain ⟨h1,h3,h2⟩:=hI
 by_cases hlt:i < ws.length
 · have w_succ:IntKind.i64.wrap ((i:Int)+1)=((i+1:Nat):Int):=by rw [wrap_id (by omega) (by omega)];simp
   have d_lt:decide ((i:Int) < ws.length)=true:=by simp;omega
   have d_in:decide (0 <= (i:Int) /\ (i:Int) < ws.length)=true:=by simp;omega
   have t_nat:((i:Int)).toNat=i:=by simp
   simp only [w_succ,d_lt,d_in,t_nat,cond_true];have hd:ws.drop i=ws.getD i ⟨0,0⟩::ws.drop (i+1):=by rw [List.drop_eq_getElem_cons hlt];simp [hlt]
   generalize ws.getD i ⟨0,0⟩=x at *
   have hc:decide (it.length <= 1000)=true:=by simp;omega
   have hp:=QhA it ⟨x.key,p,x.value⟩;simp only [hc,cond_true];refine Qp (S:=Qdf) ⟨sp,false,putI it ⟨x.key,p,x.value⟩,f0,l0,f1,l1,f2,l2,c0,c1,c2,p,y,cw,ws,i+1⟩ (show KR (sp) (false) (putI it ⟨x.key,p,x.value⟩) (f0) (l0) (f1) (l1) (f2) (l2) (c0) (c1) (c2) (p) (y) (cw) (ws) (i+1) from ⟨by omega,h3,by omega⟩) (by simp only [Qdf];omega) ?_ rfl rfl
   have e:(bif decide (i+1 < ws.length) then false else false)=(bif decide (i < ws.length) then false else ci):=by
    rw [decide_eq_true hlt];cases decide (i+1 < ws.length) <;> rfl
   simp only [Qdf,Qde,QfW,hd,Kr,List.foldl_cons,e]
 · have d1:decide ((i:Int) < ws.length)=false:=by simp;omega
   have d2:decide (i < ws.length)=false:=by simp;omega
   rw [d1];simp only [cond_false];have e:ws.drop i=[]:=List.drop_eq_nil_of_le (by omega)
   refine Qm (QfW sp ci it f0 l0 f1 l1 f2 l2 c0 c1 c2 p y cw ws i) ?_ rfl;simp only [Qdf,Qde,e,Kr,List.foldl_nil,d2,cond_false,RT.val]
noncomputable def QtH (env:Env RC) (os:List (Obj RC)):Option (Bool × Qrz):=match env,os with
 | [(2,.ptr 0 []),(3,.ptr 1 []),(16,.sl .write x0 x1),(17,.int .i64 x2),(18,.int .i64 x3)],[.var 34 (.acons (.int .i64 sp) (.acons (.sl .item ci it) (.acons (.acons (.sl .line f0 l0) (.acons (.sl .line f1 l1) (.acons (.sl .line f2 l2) .anil))) (.acons (.arr .int 3 [c0,c1,c2]) .anil)))),.var 51 (.acons (.int .i64 p) (.acons (.bool y) (.acons (.sl .write cw ws) .anil)))]=>QB (true) (decide (x0=(cw)) && decide (x1=(ws)) && decide (x2=ws.length) && decide (x3=0) && decide (it.length+ws.length <= 1000),⟨sp,ci,it,f0,l0,f1,l1,f2,l2,c0,c1,c2,p,y,cw,ws,0⟩)
 | _,_=>none
noncomputable def uo_1:=un_7.addLoop 36 5 (sumR s28 [.slot 2 0,.slot 3 0] [2,3,16,17,18] Qdf QtH)
theorem QnG:Qi Tryz.prog s28 uo_1:=by
 refine QnE.addRoundsR Qb (by kernel_rfl) Qdf 40 [2,3,16,17,18] [] [.slot 2 0,.slot 3 0] [2,3,16,17,18] QtH (fun q hI=>?_) ?_
 · obtain ⟨sp,ci,it,f0,l0,f1,l1,f2,l2,c0,c1,c2,p,y,cw,ws,i⟩:=q;refine ⟨?_,?_,QnF sp ci it f0 l0 f1 l1 f2 l2 c0 c1 c2 p y cw ws i hI⟩
   · simp_all [Qj,Qdf,QtG,QfW,KR,D.refs,Obj.refs,rEnc]
   · simp_all [Qdf,Qde,QfW,KR,RT.refsOK,Qj,D.refs,Obj.refs,rEnc]
 · intro env os b q hd_ hb;unfold QtH at hd_
   split at hd_
   · obtain ⟨hs,hd_⟩:=Qg hd_;cases hd_;simp only [Bool.and_eq_true,decide_eq_true_eq] at hb;obtain ⟨⟨⟨⟨rfl,rfl⟩,rfl⟩,rfl⟩,h1⟩:=hb;exact ⟨⟨Nat.zero_le _,Nat.le_trans (Nat.le_add_left _ _) h1,by simpa using h1⟩,rfl,rfl⟩
   · cases hd_
noncomputable def QhI (sp:Int) (ci:Bool) (it:List Item) (f0:Bool) (l0:List Line) (f1:Bool) (l1:List Line) (f2:Bool) (l2:List Line) (c0:Int) (c1:Int) (c2:Int) (p:Int) (y:Bool) (cw:Bool) (ws:List Qc):Option (Bool × D RC):=some (decide (it.length+ws.length <= 1000 /\ l0.length <= 1000 /\ l1.length <= 1000 /\ l2.length <= 1000),stV (QQ ⟨sp,it,l0,l1,l2,c0,c1,c2⟩ ⟨p,y,ws⟩))
noncomputable def QeQ:List (D RC)->Option (Bool × D RC)
 | [.acons (.int .i64 sp) (.acons (.sl .item ci it) (.acons (.acons (.sl .line f0 l0) (.acons (.sl .line f1 l1) (.acons (.sl .line f2 l2) .anil))) (.acons (.arr .int 3 [c0,c1,c2]) .anil))),.acons (.int .i64 p) (.acons (.bool y) (.acons (.sl .write cw ws) .anil))]=>QhI sp ci it f0 l0 f1 l1 f2 l2 c0 c1 c2 p y cw ws
 | _=>none
noncomputable def QhJ (sp:Int) (ci:Bool) (it:List Item) (f0:Bool) (l0:List Line) (f1:Bool) (l1:List Line) (f2:Bool) (l2:List Line) (c0:Int) (c1:Int) (c2:Int) (p:Int) (y:Bool) (cw:Bool) (ws:List Qc):=evFW s28 uo_1 200 36 [.acons (.int .i64 sp) (.acons (.sl (C:=RC) .item ci it) (.acons (.acons (.sl (C:=RC) .line f0 l0) (.acons (.sl (C:=RC) .line f1 l1) (.acons (.sl (C:=RC) .line f2 l2) .anil))) (.acons (.arr (C:=RC) .int 3 [c0,c1,c2]) .anil))),.acons (.int .i64 p) (.acons (.bool y) (.acons (.sl (C:=RC) .write cw ws) .anil))]
theorem QnH (sp:Int) (ci:Bool) (it:List Item) (f0:Bool) (l0:List Line) (f1:Bool) (l1:List Line) (f2:Bool) (l2:List Line) (c0:Int) (c1:Int) (c2:Int) (p:Int) (y:Bool) (cw:Bool) (ws:List Qc):QhJ sp ci it f0 l0 f1 l1 f2 l2 c0 c1 c2 p y cw ws=(let Z0:Nat:=List.length ws;let Z1:Rec:=Rec.mk p y ws;bif !y then some (D.acons (D.int .i64 p) (.acons (D.sl RTy.item false it) (.acons (D.acons (D.sl RTy.line false l0) (.acons (D.sl RTy.line false l1) (.acons (D.sl RTy.line false l2) .anil))) (.acons (D.arr RTy.int (3:Nat) [c0,c1,c2]) .anil)))) else bif Qh Z0 then bif decide (cw=cw) && decide (ws=ws) && decide ((↑Z0:Int)=(↑Z0:Int)) && true && decide (List.length it+Z0 <= (1000:Nat)) then bif decide (List.length l0 <= (1000:Nat) /\ Z0 <= (1000:Nat)) then bif decide (List.length l1 <= (1000:Nat) /\ Z0 <= (1000:Nat)) then bif decide (List.length l2 <= (1000:Nat) /\ Z0 <= (1000:Nat)) then some (D.acons (D.int .i64 p) (.acons (D.sl RTy.item false (Kr p it (List.drop (0:Nat) ws))) (.acons (D.acons (D.sl RTy.line false (Vu l0 Z1 (0:Int))) (.acons (D.sl RTy.line false (Vu l1 Z1 (1:Int))) (.acons (D.sl RTy.line false (Vu l2 Z1 (2:Int))) .anil))) (.acons (D.arr RTy.int (3:Nat) [Js l0 c0 Z1 (0:Int),Js l1 c1 Z1 (1:Int),Js l2 c2 Z1 (2:Int)]) .anil)))) else none else none else none else none else none):=by kernel_rfl
theorem QnI (sp:Int) (ci:Bool) (it:List Item) (f0:Bool) (l0:List Line) (f1:Bool) (l1:List Line) (f2:Bool) (l2:List Line) (c0:Int) (c1:Int) (c2:Int) (p:Int) (y:Bool) (cw:Bool) (ws:List Qc) (h:(decide (it.length+ws.length <= 1000 /\ l0.length <= 1000 /\ l1.length <= 1000 /\ l2.length <= 1000))=true):QhJ sp ci it f0 l0 f1 l1 f2 l2 c0 c1 c2 p y cw ws=some (stV (QQ ⟨sp,it,l0,l1,l2,c0,c1,c2⟩ ⟨p,y,ws⟩)):=by
 (rw [QnH];conv=>zeta)
 obtain ⟨h0,h1,h2,h3⟩:=of_decide_eq_true h;cases y
 · exact Qa rfl rfl
 exact Qy rfl (Qa (Qe (by omega)) (Qa (by simp;omega) (Qa (by simp;omega) (Qa (by simp;omega) (Qa (by simp;omega) rfl)))))
noncomputable def uo_2:=uo_1.addSpec 36 QeQ
theorem QnJ:Qi Tryz.prog s28 uo_2:=QnG.addEvW Qb fun args d h=>by
 unfold QeQ at h
 split at h
 · unfold QhI at h;have h1:=congrArg Prod.fst (Option.some.inj h);obtain rfl:_=d:=congrArg Prod.snd (Option.some.inj h);exact ⟨by simp [D.refs,stV],200,QnI _ _ _ _ _ _ _ _ _ _ _ _ _ _ _ _ h1⟩
 · cases h
open Go.Proofs
theorem Qve (s:St):St.mk s.place s.items s.l0 s.l1 s.l2 s.c0 s.c1 s.c2=s:=rfl
theorem QtI (r:Rec):Rec.mk r.place r.yes r.writes=r:=rfl
structure QrA where
 sp:Int
 ci:Bool
 it:List Item
 f0:Bool
 l0:List Line
 f1:Bool
 l1:List Line
 f2:Bool
 l2:List Line
 c0:Int
 c1:Int
 c2:Int
 cr:Bool
 rs:List Rec
 i:Nat
noncomputable def QtJ (sp:Int) (ci:Bool) (it:List Item) (f0:Bool) (l0:List Line) (f1:Bool) (l1:List Line) (f2:Bool) (l2:List Line) (c0:Int) (c1:Int) (c2:Int) (cr:Bool) (rs:List Rec) (i:Nat):Env RC:=[(2,.ptr 0 []),(32,.sl (C:=RC) .recd cr rs),(33,.int .i64 (rs.length)),(34,.int .i64 (i:Int))]
def QfX (sp:Int) (ci:Bool) (it:List Item) (f0:Bool) (l0:List Line) (f1:Bool) (l1:List Line) (f2:Bool) (l2:List Line) (c0:Int) (c1:Int) (c2:Int) (cr:Bool) (rs:List Rec) (i:Nat):List (Obj RC):=[.var 34 (.acons (.int .i64 sp) (.acons (.sl (C:=RC) .item ci it) (.acons (.acons (.sl (C:=RC) .line f0 l0) (.acons (.sl (C:=RC) .line f1 l1) (.acons (.sl (C:=RC) .line f2 l2) .anil))) (.acons (.arr (C:=RC) .int 3 [c0,c1,c2]) .anil))))]
noncomputable def Qvf (sp:Int) (ci:Bool) (it:List Item) (f0:Bool) (l0:List Line) (f1:Bool) (l1:List Line) (f2:Bool) (l2:List Line) (c0:Int) (c1:Int) (c2:Int) (cr:Bool) (rs:List Rec) (i:Nat):=rndO s28 uo_2 9 9 40 1 [2,32,33,34] [] [.slot 2 0] (QtJ sp ci it f0 l0 f1 l1 f2 l2 c0 c1 c2 cr rs i) (QfX sp ci it f0 l0 f1 l1 f2 l2 c0 c1 c2 cr rs i)
theorem Qvg (sp:Int) (ci:Bool) (it:List Item) (f0:Bool) (l0:List Line) (f1:Bool) (l1:List Line) (f2:Bool) (l2:List Line) (c0:Int) (c1:Int) (c2:Int) (cr:Bool) (rs:List Rec) (i:Nat):Qvf sp ci it f0 l0 f1 l1 f2 l2 c0 c1 c2 cr rs i=(let Z0:Int:=(↑i:Int);let Z1:Int:=(↑rs.length:Int);let Z2:Rec:=List.getD rs Z0.toNat (Rec.mk (0:Int) false []);let Z3:St:=QQ (St.mk sp it l0 l1 l2 c0 c1 c2) (Rec.mk Z2.place Z2.yes Z2.writes);bif decide (Z0 < Z1) then bif decide ((0:Int) <= Z0 /\ Z0 < Z1) then bif decide (List.length it+List.length Z2.writes <= (1000:Nat) /\ List.length l0 <= (1000:Nat) /\ List.length l1 <= (1000:Nat) /\ List.length l2 <= (1000:Nat)) then some ((X.normal,[(2,D.ptr 0 []),(32,D.sl RTy.recd cr rs),(33,D.int .i64 Z1),(34,D.int .i64 (IntKind.wrap .i64 (Z0+(1:Int))))]),[some (Obj.var 34 (.acons (D.int .i64 Z3.place) (.acons (D.sl RTy.item false Z3.items) (.acons (D.acons (D.sl RTy.line false Z3.l0) (.acons (D.sl RTy.line false Z3.l1) (.acons (D.sl RTy.line false Z3.l2) .anil))) (.acons (D.arr RTy.int (3:Nat) [St.c0 Z3,St.c1 Z3,St.c2 Z3]) .anil)))))]) else none else none else some ((X.exit (0:Nat),[]),[some (Obj.var 34 (.acons (D.int .i64 sp) (.acons (D.sl RTy.item ci it) (.acons (D.acons (D.sl RTy.line f0 l0) (.acons (D.sl RTy.line f1 l1) (.acons (D.sl RTy.line f2 l2) .anil))) (.acons (D.arr RTy.int (3:Nat) [c0,c1,c2]) .anil)))))])):=by kernel_rfl
noncomputable def Qdg (sp:Int) (ci:Bool) (it:List Item) (f0:Bool) (l0:List Line) (f1:Bool) (l1:List Line) (f2:Bool) (l2:List Line) (c0:Int) (c1:Int) (c2:Int) (cr:Bool) (rs:List Rec) (i:Nat):RT RC:=.leaf (.exit 0) [] (QfX ((rs.drop i).foldl QQ ⟨sp,it,l0,l1,l2,c0,c1,c2⟩).place (bif decide (i < rs.length) then false else ci) ((rs.drop i).foldl QQ ⟨sp,it,l0,l1,l2,c0,c1,c2⟩).items (bif decide (i < rs.length) then false else f0) ((rs.drop i).foldl QQ ⟨sp,it,l0,l1,l2,c0,c1,c2⟩).l0 (bif decide (i < rs.length) then false else f1) ((rs.drop i).foldl QQ ⟨sp,it,l0,l1,l2,c0,c1,c2⟩).l1 (bif decide (i < rs.length) then false else f2) ((rs.drop i).foldl QQ ⟨sp,it,l0,l1,l2,c0,c1,c2⟩).l2 ((rs.drop i).foldl QQ ⟨sp,it,l0,l1,l2,c0,c1,c2⟩).c0 ((rs.drop i).foldl QQ ⟨sp,it,l0,l1,l2,c0,c1,c2⟩).c1 ((rs.drop i).foldl QQ ⟨sp,it,l0,l1,l2,c0,c1,c2⟩).c2 cr rs i)
def KS (sp:Int) (ci:Bool) (it:List Item) (f0:Bool) (l0:List Line) (f1:Bool) (l1:List Line) (f2:Bool) (l2:List Line) (c0:Int) (c1:Int) (c2:Int) (cr:Bool) (rs:List Rec) (i:Nat):Prop:=i <= rs.length /\ rs.length <= 100 /\ rs.all mayB=true /\ it.length <= 500+4 * i /\ l0.length <= 1000 /\ l1.length <= 1000 /\ l2.length <= 1000
noncomputable def Qdh:QI RC QrA where
 k:=1
 canon q:=QtJ q.sp q.ci q.it q.f0 q.l0 q.f1 q.l1 q.f2 q.l2 q.c0 q.c1 q.c2 q.cr q.rs q.i
 objs q:=QfX q.sp q.ci q.it q.f0 q.l0 q.f1 q.l1 q.f2 q.l2 q.c0 q.c1 q.c2 q.cr q.rs q.i
 fin q:=Qdg q.sp q.ci q.it q.f0 q.l0 q.f1 q.l1 q.f2 q.l2 q.c0 q.c1 q.c2 q.cr q.rs q.i
 Inv q:=KS q.sp q.ci q.it q.f0 q.l0 q.f1 q.l1 q.f2 q.l2 q.c0 q.c1 q.c2 q.cr q.rs q.i
 μ q:=q.rs.length - q.i
theorem QnK (sp:Int) (ci:Bool) (it:List Item) (f0:Bool) (l0:List Line) (f1:Bool) (l1:List Line) (f2:Bool) (l2:List Line) (c0:Int) (c1:Int) (c2:Int) (cr:Bool) (rs:List Rec) (i:Nat) (hI:KS sp ci it f0 l0 f1 l1 f2 l2 c0 c1 c2 cr rs i):Leaf (Qvf sp ci it f0 l0 f1 l1 f2 l2 c0 c1 c2 cr rs i) (LedR Qdh ⟨sp,ci,it,f0,l0,f1,l1,f2,l2,c0,c1,c2,cr,rs,i⟩):=by
 (rw [Qvg];conv=>zeta)
 unfold KS at hI;obtain ⟨h1,h2,h3,h4,h5,h6,h7⟩:=hI
 by_cases hlt:i < rs.length
 · have w_succ:IntKind.i64.wrap ((i:Int)+1)=((i+1:Nat):Int):=by rw [wrap_id (by omega) (by omega)];simp
   have d_lt:decide ((i:Int) < rs.length)=true:=by simp;omega
   have d_in:decide (0 <= (i:Int) /\ (i:Int) < rs.length)=true:=by simp;omega
   have t_nat:((i:Int)).toNat=i:=by simp
   simp only [w_succ,d_lt,d_in,t_nat,cond_true];have hd:rs.drop i=rs.getD i ⟨0,false,[]⟩::rs.drop (i+1):=by rw [List.drop_eq_getElem_cons hlt];simp [hlt]
   have hm:mayB (rs.getD i ⟨0,false,[]⟩)=true:=by
    have:=List.all_eq_true.1 h3 rs[i] (List.getElem_mem hlt)
    simpa [hlt] using this
   generalize rs.getD i ⟨0,false,[]⟩=x at *
   have hx:=JO hm;have hq:(QQ ⟨sp,it,l0,l1,l2,c0,c1,c2⟩ x).items.length <= it.length+x.writes.length /\ (QQ ⟨sp,it,l0,l1,l2,c0,c1,c2⟩ x).l0.length <= max l0.length 16 /\ (QQ ⟨sp,it,l0,l1,l2,c0,c1,c2⟩ x).l1.length <= max l1.length 16 /\ (QQ ⟨sp,it,l0,l1,l2,c0,c1,c2⟩ x).l2.length <= max l2.length 16:=QeP _ _;have hc:decide (it.length+x.writes.length <= 1000 /\ l0.length <= 1000 /\ l1.length <= 1000 /\ l2.length <= 1000)=true:=by simp;omega
   simp only [QtI,hc,cond_true];have hG:∃ Z,QQ ⟨sp,it,l0,l1,l2,c0,c1,c2⟩ x=Z:=⟨_,rfl⟩;obtain ⟨Z,hG⟩:=hG;rw [hG] at hq;simp only [hG];refine Qp (S:=Qdh) ⟨Z.place,false,Z.items,false,Z.l0,false,Z.l1,false,Z.l2,Z.c0,Z.c1,Z.c2,cr,rs,i+1⟩ (show KS Z.place false Z.items false Z.l0 false Z.l1 false Z.l2 Z.c0 Z.c1 Z.c2 cr rs (i+1) from ⟨by omega,h2,h3,by omega,by omega,by omega,by omega⟩) (by simp only [Qdh];omega) ?_ rfl rfl
   have e1:(bif decide (i+1 < rs.length) then false else false)=false:=by cases decide (i+1 < rs.length) <;> rfl
   have e2:decide (i < rs.length)=true:=decide_eq_true hlt;simp only [Qdh,Qdg,QfX,hd,List.foldl_cons,Qve,hG,e1,e2,cond_true]
 · have d1:decide ((i:Int) < rs.length)=false:=by simp;omega
   have d2:decide (i < rs.length)=false:=by simp;omega
   simp only [d1,cond_true,cond_false];have e:rs.drop i=[]:=List.drop_eq_nil_of_le (by omega)
   refine Qm (QfX sp ci it f0 l0 f1 l1 f2 l2 c0 c1 c2 cr rs i) ?_ rfl;simp only [Qdh,Qdg,e,List.foldl_nil,d2,cond_false,RT.val]
noncomputable def QtK (env:Env RC) (os:List (Obj RC)):Option (Bool × QrA):=match env,os with
 | [(2,.ptr 0 []),(32,.sl .recd cr rs),(33,.int .i64 x0),(34,.int .i64 x1)],[.var 34 (.acons (.int .i64 sp) (.acons (.sl .item ci it) (.acons (.acons (.sl .line f0 l0) (.acons (.sl .line f1 l1) (.acons (.sl .line f2 l2) .anil))) (.acons (.arr .int 3 [c0,c1,c2]) .anil))))]=>QB (true) (decide (x0=rs.length) && decide (x1=0) && decide (rs.length <= 100 /\ it.length <= 500 /\ l0.length <= 1000 /\ l1.length <= 1000 /\ l2.length <= 1000) && rs.all mayB,⟨sp,ci,it,f0,l0,f1,l1,f2,l2,c0,c1,c2,cr,rs,0⟩)
 | _,_=>none
noncomputable def up_1:=uo_2.addLoop 9 9 (sumR s28 [.slot 2 0] [2,32,33,34] Qdh QtK)
theorem QnL:Qi Tryz.prog s28 up_1:=by
 refine QnJ.addRoundsR Qb (by kernel_rfl) Qdh 40 [2,32,33,34] [] [.slot 2 0] [2,32,33,34] QtK (fun q hI=>?_) ?_
 · obtain ⟨sp,ci,it,f0,l0,f1,l1,f2,l2,c0,c1,c2,cr,rs,i⟩:=q;refine ⟨?_,?_,QnK sp ci it f0 l0 f1 l1 f2 l2 c0 c1 c2 cr rs i hI⟩
   · simp_all [Qj,Qdh,QtJ,QfX,KS,D.refs,Obj.refs,rEnc]
   · simp_all [Qdh,Qdg,QfX,KS,RT.refsOK,Qj,D.refs,Obj.refs,rEnc]
 · intro env os b q hd_ hb;unfold QtK at hd_
   split at hd_
   · obtain ⟨hs,hd_⟩:=Qg hd_;cases hd_;simp only [Bool.and_eq_true,decide_eq_true_eq] at hb;obtain ⟨⟨⟨rfl,rfl⟩,h1,h2,h3,h4,h5⟩,h6⟩:=hb;exact ⟨⟨Nat.zero_le _,h1,h6,by simpa using h2,h3,h4,h5⟩,rfl,rfl⟩
   · cases hd_
def JQ (now sure:List Sector):St:=bif Qq now sure then (preF now sure 0).foldl QQ ⟨0,[],[],[],[],0,0,0⟩ else ⟨0,[],[],[],[],0,0,0⟩
noncomputable def QhK (c:Bool) (now:List Sector) (d:Bool) (sure:List Sector):Option (Bool × D RC):=some (Qs now && Qs sure && decide ((now.getD 32 sec0).n=0),.tup (.acons (stV (JQ now sure)) (.acons (.int .i64 (bif Qq now sure then 0 else 2)) .anil)))
noncomputable def QeR:List (D RC)->Option (Bool × D RC)
 | [.acons (.sl .sector c now) (.acons (.sl .sector d sure) .anil)]=>QhK c now d sure
 | _=>none
noncomputable def QhL (c:Bool) (now:List Sector) (d:Bool) (sure:List Sector):=evFW s28 up_1 100 9 [.acons (.sl (C:=RC) .sector c now) (.acons (.sl (C:=RC) .sector d sure) .anil)]
theorem QnM (c:Bool) (now:List Sector) (d:Bool) (sure:List Sector):QhL c now d sure=(let Z0:Bool:=Qs now && Qs sure;let Z1:D RC:=D.int .i64 0;let Z2:D RC:=D.sl RTy.line false [];let Z3:D RC:=.anil;let Z4:List Rec:=preF now sure (0:Int);let Z5:Nat:=List.length Z4;let Z6:St:=List.foldl QQ (St.mk (0:Int) [] [] [] [] (0:Int) (0:Int) (0:Int)) (List.drop (0:Nat) Z4);let Z7:DO_:=bif Z0 then bif Qh Z5 then bif decide ((↑Z5:Int)=(↑Z5:Int)) && true && decide (Z5 <= (100:Nat) /\ (0:Nat) <= (500:Nat) /\ (0:Nat) <= (1000:Nat) /\ (0:Nat) <= (1000:Nat) /\ (0:Nat) <= (1000:Nat)) && List.all Z4 mayB then some (D.tup (D.acons (D.acons (D.int .i64 Z6.place) (.acons (D.sl RTy.item false Z6.items) (.acons (D.acons (D.sl RTy.line false Z6.l0) (.acons (D.sl RTy.line false Z6.l1) (.acons (D.sl RTy.line false Z6.l2) Z3))) (.acons (D.arr RTy.int (3:Nat) [St.c0 Z6,St.c1 Z6,St.c2 Z6]) Z3)))) (.acons Z1 Z3))) else none else none else none;bif Z0 then bif (bif Qq now sure then (0:Int) else (2:Int)) != (0:Int) then some (D.tup (D.acons (D.acons Z1 (D.acons (D.sl RTy.item false []) (.acons (D.acons Z2 (D.acons Z2 (D.acons Z2 Z3))) (.acons (D.arr RTy.int (3:Nat) (List.replicate (3:Nat) (0:Int))) Z3)))) (.acons (D.int .i64 2) Z3))) else bif Z0 && decide (Sector.n (List.getD now (32:Nat) sec0)=(0:Int)) then bif (bif Qq now sure then (60:Int) else (2:Int)) == (0:Int) then Z7 else Z7 else none else none):=by kernel_rfl
theorem QnN (c:Bool) (now:List Sector) (d:Bool) (sure:List Sector) (h:(Qs now && Qs sure && decide ((now.getD 32 sec0).n=0))=true):QhL c now d sure=some (.tup (.acons (stV (JQ now sure)) (.acons (.int .i64 (bif Qq now sure then 0 else 2)) .anil))):=by
 (rw [QnM];conv=>zeta)
 have hg:=h;rw [Bool.and_eq_true] at h;obtain ⟨hgg,hn⟩:=h;refine Qa hgg ?_;cases hd:Qq now sure
 · exact Qa rfl (by simp only [JQ,hd,cond_false];rfl)
 have hm:(preF now sure 0).all mayB=true:=List.all_eq_true.2 (QpQ now sure _);have hp:=QpP now sure 0;refine Qy rfl (Qa hg (Qy rfl (Qa hgg (Qa (Qe (by omega)) (Qa (by simp only [hm,Bool.and_true,Bool.true_and,Bool.and_eq_true,decide_eq_true_eq,true_and,and_true];simp;omega) ?_)))))
 simp only [JQ,hd,cond_true];rfl
noncomputable def up_2:=up_1.addSpec 9 QeR
theorem QnO:Qi Tryz.prog s28 up_2:=QnL.addEvW Qb fun args d h=>by
 unfold QeR at h
 split at h
 · unfold QhK at h;have h1:=congrArg Prod.fst (Option.some.inj h);obtain rfl:_=d:=congrArg Prod.snd (Option.some.inj h);exact ⟨by simp [D.refs,stV],100,QnN _ _ _ _ h1⟩
 · cases h
end Go.Ev

namespace Go.Ev
def putM (m:List (Int × Int)) (k v:Int):List (Int × Int):=mput (fun a b=>decide (a=b)) k v m
def YE (q:Int) (m:List (Int × Int)) (l:List Line):List (Int × Int):=l.foldl (fun m x=>putM (putM m (Vh q x.offset) (Qc7 x)) (lRow 45 q 3) (IntKind.i64.wrap (x.offset+1))) m
def Qbk (c k n:Int):Int:=n % c * k+n / c
def Qbl (l:List Item):Bool:=l.all fun x=>decide (0 <= x.key /\ x.key <= 23 /\ 0 <= x.value /\ x.value <= 255)
def QnP (m:List (Int × Int)) (s:Int) (x:Item):List (Int × Int):=putM (putM (putM (putM m (YB 291 s 0 160 3) 3) (YB 291 s 1 160 3) 0) (YB 291 s 2 160 3) (IntKind.i64.wrap (IntKind.i64.wrap (x.key * 256)+x.value))) (lRow 21 x.key 24) (wordN x.place (256+s))
def QY (c k:Int):Nat->List Item->List (Int × Int)->List (Int × Int)
 | _,[],m=>m
 | n,x::l,m=>QY c k (n+1) l (QnP m (Qbk c k n) x)
theorem QnQ:((List.range 160).all fun s=>bits .i64 (fun _ u v=>u ||| v) 256 (s:Int) == 256+(s:Int))=true:=by kernel_rfl
theorem Qv9 {s:Int} (h0:0 <= s) (h1:s < 160):bits .i64 (fun _ u v=>u ||| v) 256 s=256+s:=by
 have:=List.all_eq_true.1 QnQ s.toNat (by simp;omega)
 rw [Int.toNat_of_nonneg h0] at this
 simpa using this
theorem Yt {c w d k:Int} (h:YT c w d k=true):1 <= c /\ c <= 4 /\ 2 <= w /\ w <= 8 /\ 1 <= d /\ d <= 4 /\ 4 <= k /\ k <= 40:=by
 simp only [YT,Bool.and_eq_true,Qf,decide_eq_true_eq] at h;omega
theorem QnR {c kk k j:Int} (h0:0 <= j) (h1:j < c):Qbk c kk (k * c+j)=j * kk+k:=by
 unfold Qbk;have e1:(k * c+j) % c=j:=by rw [Int.add_comm,Int.add_mul_emod_self_right,Int.emod_eq_of_lt h0 h1]
 have e2:(k * c+j) / c=k:=by rw [Int.add_comm,Int.add_mul_ediv_right _ _ (by omega),Int.ediv_eq_zero_of_lt h0 h1];omega
 rw [e1,e2]
theorem Qvh {c w d kk j:Int} (h:YT c w d kk=true) (h0:0 <= j) (h1:j < c):(lOwn c w d kk j true).1=j * kk:=by
 unfold lOwn;rw [if_pos ⟨h,h0,h1⟩];rfl
theorem Vl (c k:Int):∀ (a b:List Item) (n:Nat) (m:List (Int × Int)),QY c k n (a++b) m=QY c k (n+a.length) b (QY c k n a m)
 | [],b,n,m=>rfl
 | x::a,b,n,m=>by
  simp only [List.cons_append,QY,List.length_cons];rw [Vl c k a b,show n+1+a.length=n+(a.length+1) by omega]
theorem QfY {c k:Int} {l:List Item} {n e:Nat} {m:List (Int × Int)} (h:n+e <= l.length):QY c k (n+e) (l.drop (n+e)) (QY c k n ((l.drop n).take e) m)=QY c k n (l.drop n) m:=by
 have h1:l.drop n=(l.drop n).take e++l.drop (n+e):=by rw [<- List.drop_drop];exact (List.take_append_drop e _).symm
 have h2:((l.drop n).take e).length=e:=by simp;omega
 conv=>rhs;rw [h1,Vl,h2]
theorem QfZ {c k:Int} {l:List Item} {n e t:Nat} {m:List (Int × Int)} (h:n+e <= l.length):QY c k (n+e) ((l.drop (n+e)).take t) (QY c k n ((l.drop n).take e) m)=QY c k n ((l.drop n).take (e+t)) m:=by
 have h1:(l.drop n).take (e+t)=(l.drop n).take e++(l.drop (n+e)).take t:=by rw [List.take_add,List.drop_drop]
 have h2:((l.drop n).take e).length=e:=by simp;omega
 rw [h1,Vl,h2]
def Q0 (c:List Int) (m:List (Int × Int)):List Int:=m.foldl (fun c p=>c.set p.1.toNat p.2) c
def Zp (n:Nat):List (Int × Int)->Bool
 | []=>true
 | (k,_)::l=>decide (0 <= k /\ k < n) && (l.all fun p=>decide (p.1 ≠ k)) && Zp n l
theorem QeS {n:Nat} {k v:Int}:∀ {l1 l2:List (Int × Int)},Zp n (l1++(k,v)::l2)=true->(0 <= k /\ k < n) /\ Zp n (l1++l2)=true /\ (∀ p ∈ l1,p.1 ≠ k /\ 0 <= p.1)
 | [],l2,h=>by
  simp only [List.nil_append,Zp,Bool.and_eq_true,decide_eq_true_eq] at h;exact ⟨h.1.1,h.2,by simp⟩
 | (a,b)::l1,l2,h=>by
  simp only [List.cons_append,Zp,Bool.and_eq_true,decide_eq_true_eq,List.all_eq_true,List.mem_append,List.mem_cons] at h;obtain ⟨⟨h1,h2⟩,h3⟩:=h;obtain ⟨q1,q2,q3⟩:=QeS h3;refine ⟨q1,?_,fun p hp=>?_⟩
  · simp only [List.cons_append,Zp,Bool.and_eq_true,decide_eq_true_eq,List.all_eq_true,List.mem_append];exact ⟨⟨h1,fun p hp=>h2 p (hp.imp id .inr)⟩,q2⟩
  · rcases List.mem_cons.1 hp with rfl | hp
    · exact ⟨fun e=>h2 (k,v) (.inr (.inl rfl)) e.symm,h1.1⟩
    · exact q3 p hp
theorem Yu:∀ (m:List (Int × Int)) (c:List Int),(Q0 c m).length=c.length
 | [],c=>rfl
 | p::m,c=>by
  have:=Yu m (c.set p.1.toNat p.2);simp only [Q0,List.foldl_cons] at this ⊢;rw [this,List.length_set]
theorem Qcp {k v:Int} (h0:0 <= k):∀ (l:List (Int × Int)) (c:List Int),(∀ p ∈ l,p.1 ≠ k /\ 0 <= p.1)->Q0 (c.set k.toNat v) l=(Q0 c l).set k.toNat v
 | [],c,_=>rfl
 | p::l,c,h=>by
  have hp:=h p List.mem_cons_self;have:=Qcp (v:=v) h0 l (c.set p.1.toNat p.2) (fun q hq=>h q (List.mem_cons_of_mem _ hq));simp only [Q0,List.foldl_cons] at this ⊢;rw [<- this,List.set_comm _ _ (by omega)]
theorem QnS {k v:Int} {l1 l2:List (Int × Int)} (h0:0 <= k) (h:∀ p ∈ l1,p.1 ≠ k /\ 0 <= p.1) (c:List Int):Q0 (c.set k.toNat v) (l1++l2)=Q0 c (l1++(k,v)::l2):=by
 have e:=Qcp (v:=v) h0 l1 c h;simp only [Q0,List.foldl_append,List.foldl_cons] at e ⊢;rw [e]
open Go.Proofs
set_option maxRecDepth 100000
set_option linter.unusedVariables false
set_option linter.unusedSimpArgs false
def nst:Nat->List Int
 | 0=>(List.replicate 771 0).set 1 1
 | i+1=>(nst i).set (292+3 * i) (-1)
theorem QnT:∀ i,(nst i).length=771
 | 0=>by unfold nst;rw [List.length_set,List.length_replicate]
 | i+1=>by unfold nst;rw [List.length_set];exact QnT i
theorem QtL:nst 160=Jl:=by kernel_rfl
theorem Qvi:∃ l,l=Jl:=⟨Jl,rfl⟩
noncomputable def nC:List Int:=Classical.choose Qvi
theorem QtM:nC=Jl:=Classical.choose_spec Qvi
theorem QtN {i:Nat} (h:i < 160):YB 291 (i:Int) 1 160 3=292+3 * i:=by
 unfold YB;rw [if_pos (by omega)];omega
structure QhM where
 i:Nat
 l:List Int
noncomputable def Qf0 (i:Nat) (l:List Int):Env RC:=[(1,.vs 0 771),(6,.int .i64 (i:Int))]
def KT (i:Nat) (l:List Int):List (Obj RC):=[.vec .int true l]
noncomputable def QnU (i:Nat) (l:List Int):=rndO s28 up_2 60 4 60 1 [1,6] [] [.slot 1 0] (Qf0 i l) (KT i l)
theorem Qqk (i:Nat) (l:List Int):QnU i l=(let Z0:Int:=(↑i:Int);let Z1:Bool:=Nat.beq (771:Nat) l.length;let Z2:Int:=YB (291:Int) Z0 (1:Int) (160:Int) (3:Int);bif decide (Z0 < (160:Int)) then bif Z1 && decide ((0:Int) <= Z2 /\ Z2 < (↑l.length:Int)) then bif Z1 then some ((X.normal,[(1,D.vs 0 (771:Nat)),(6,D.int .i64 (IntKind.wrap .i64 (Z0+(1:Int))))]),[some (Obj.vec RTy.int true (List.set l Z2.toNat (-1:Int)))]) else none else none else some ((X.exit (0:Nat),[]),[some (Obj.vec RTy.int true l)])):=by kernel_rfl
noncomputable def QeT (i:Nat) (l:List Int):RT RC:=.leaf (.exit 0) [] (KT i nC)
def VX (i:Nat) (l:List Int):Prop:=i <= 160 /\ l=nst i
noncomputable def JR:QI RC QhM where
 k:=1
 canon q:=Qf0 q.i q.l
 objs q:=KT q.i q.l
 fin q:=QeT q.i q.l
 Inv q:=VX q.i q.l
 μ q:=160 - q.i
theorem Qf1 (i:Nat) (l:List Int) (hI:VX i l):Leaf (QnU i l) (LedR JR ⟨i,l⟩):=by
 (rw [Qqk];conv=>zeta)
 unfold VX at hI;obtain ⟨h1,rfl⟩:=hI;have hl:=QnT i
 by_cases hlt:i < 160
 · have v1:IntKind.i64.wrap ((i:Int)+1)=((i+1:Nat):Int):=by rw [wrap_id (by omega) (by omega)];simp
   have v4:=QtN hlt;have v5:(292+3 * (i:Int)).toNat=292+3 * i:=by omega
   have d1:decide ((i:Int) < 160)=true:=decide_eq_true (by omega)
   have d4:decide (0 <= 292+3 * (i:Int) /\ 292+3 * (i:Int) < ((nst i).length:Int))=true:=decide_eq_true ⟨by omega,by omega⟩
   have d5:Nat.beq 771 (nst i).length=true:=Zu hl.symm;simp only [v1,v4,v5,d1,d4,d5,Bool.and_self,cond_true];exact Qp (S:=JR) (s:=⟨i,nst i⟩) ⟨i+1,nst (i+1)⟩ ⟨hlt,rfl⟩ (by simp only [JR];omega) rfl rfl rfl
 · have e:i=160:=by omega
   have d1:decide ((i:Int) < 160)=false:=decide_eq_false (by omega)
   rw [d1];simp only [cond_false];exact Qm (KT i nC) rfl (by rw [e,QtL,<- QtM];rfl)
noncomputable def Qf2 (env:Env RC) (os:List (Obj RC)):Option (Bool × QhM):=match env,os with
 | [(1,.vs 0 771),(6,.int .i64 x0)],[.vec .int true l]=>QB (true) (decide (x0=0) && decide (l=nst 0),⟨0,l⟩)
 | _,_=>none
noncomputable def uq_1:=up_2.addLoop 60 4 (sumR s28 [.slot 1 0] [1,6] JR Qf2)
theorem QnV:Qi Tryz.prog s28 uq_1:=by
 refine QnO.addRoundsR Qb (by kernel_rfl) JR 60 [1,6] [] [.slot 1 0] [1,6] Qf2 (fun q hI=>?_) ?_
 · obtain ⟨i,l⟩:=q;refine ⟨?_,?_,Qf1 i l hI⟩
   · simp_all [Qj,JR,Qf0,KT,VX,D.refs,Obj.refs,rEnc]
   · simp_all [JR,QeT,KT,VX,RT.refsOK,Qj,D.refs,Obj.refs,rEnc]
 · intro env os b q hd_ hb;unfold Qf2 at hd_
   split at hd_
   · obtain ⟨hs,hd_⟩:=Qg hd_;cases hd_;simp only [Bool.and_eq_true,decide_eq_true_eq] at hb;obtain ⟨e0,e1⟩:=hb;subst e0;exact ⟨⟨Nat.zero_le _,e1⟩,rfl,rfl⟩
   · cases hd_
structure QnW where
 q:Int
 c:Bool
 l:List Line
 m:List (Int × Int)
 i:Nat
noncomputable def QnX (q:Int) (c:Bool) (l:List Line) (m:List (Int × Int)) (i:Nat):Env RC:=[(0,.int .i64 q),(7,.mp 0),(15,.sl (C:=RC) .line c l),(16,.int .i64 (l.length)),(17,.int .i64 (i:Int))]
def Qbm (q:Int) (c:Bool) (l:List Line) (m:List (Int × Int)) (i:Nat):List (Obj RC):=[.map .int .int m]
noncomputable def QrB (q:Int) (c:Bool) (l:List Line) (m:List (Int × Int)) (i:Nat):=rndO s28 uq_1 58 3 40 1 [0,7,15,16,17] [] [.slot 7 0] (QnX q c l m i) (Qbm q c l m i)
theorem QtO (q:Int) (c:Bool) (l:List Line) (m:List (Int × Int)) (i:Nat):QrB q c l m i=(let Z0:Int:=(↑i:Int);let Z1:Int:=(↑l.length:Int);let Z2:Line:=List.getD l Z0.toNat (Line.mk (0:Int) (0:Int) (0:Int) (0:Int) (0:Int));let Z3:Int:=Line.offset Z2;bif decide (Z0 < Z1) then bif decide ((0:Int) <= Z0 /\ Z0 < Z1) then some ((X.normal,[(0,D.int .i64 q),(7,D.mp (0:Nat)),(15,D.sl RTy.line c l),(16,D.int .i64 Z1),(17,D.int .i64 (IntKind.wrap .i64 (Z0+(1:Int))))]),[some (Obj.map RTy.int RTy.int (mput (ZY s28 RTy.int) (lRow (45:Int) q (3:Int)) (IntKind.wrap .i64 (Z3+(1:Int))) (mput (ZY s28 RTy.int) (Vh q Z3) (Qc7 (Line.mk Z3 (Line.place Z2) (Line.j Z2) (Line.key Z2) (Line.value Z2))) m)))]) else none else some ((X.exit (0:Nat),[]),[some (Obj.map RTy.int RTy.int m)])):=by kernel_rfl
noncomputable def Qau (q:Int) (c:Bool) (l:List Line) (m:List (Int × Int)) (i:Nat):RT RC:=.leaf (.exit 0) [] (Qbm q c l (YE q m (l.drop i)) i)
def Jn (q:Int) (c:Bool) (l:List Line) (m:List (Int × Int)) (i:Nat):Prop:=i <= l.length /\ l.length <= 1000
noncomputable def Ks:QI RC QnW where
 k:=1
 canon q:=QnX q.q q.c q.l q.m q.i
 objs q:=Qbm q.q q.c q.l q.m q.i
 fin q:=Qau q.q q.c q.l q.m q.i
 Inv q:=Jn q.q q.c q.l q.m q.i
 μ q:=q.l.length - q.i
theorem Qjd (q:Int) (c:Bool) (l:List Line) (m:List (Int × Int)) (i:Nat) (hI:Jn q c l m i):Leaf (QrB q c l m i) (LedR Ks ⟨q,c,l,m,i⟩):=by
 (rw [QtO];conv=>zeta)
 unfold Jn at hI;obtain ⟨h1,h2⟩:=hI
 by_cases hlt:i < l.length
 · have w_succ:IntKind.i64.wrap ((i:Int)+1)=((i+1:Nat):Int):=by rw [wrap_id (by omega) (by omega)];simp
   have d_lt:decide ((i:Int) < l.length)=true:=by simp;omega
   have d_in:decide (0 <= (i:Int) /\ (i:Int) < l.length)=true:=by simp;omega
   have t_nat:((i:Int)).toNat=i:=by simp
   simp only [w_succ,d_lt,d_in,t_nat,cond_true];have hd:l.drop i=l.getD i ⟨0,0,0,0,0⟩::l.drop (i+1):=by rw [List.drop_eq_getElem_cons hlt];simp [hlt]
   generalize l.getD i ⟨0,0,0,0,0⟩=x at *
   refine Qp (S:=Ks) ⟨q,c,l,putM (putM m (Vh q x.offset) (Qc7 x)) (lRow 45 q 3) (IntKind.i64.wrap (x.offset+1)),i+1⟩ (show Jn q c l (putM (putM m (Vh q x.offset) (Qc7 x)) (lRow 45 q 3) (IntKind.i64.wrap (x.offset+1))) (i+1) from ⟨by omega,h2⟩) (by simp only [Ks];omega) ?_ rfl rfl
   simp only [Ks,Qau,Qbm,hd,YE,List.foldl_cons]
 · have d1:decide ((i:Int) < l.length)=false:=by simp;omega
   rw [d1];simp only [cond_false];have e:l.drop i=[]:=List.drop_eq_nil_of_le (by omega)
   refine Qm (Qbm q c l m i) ?_ rfl;simp only [Ks,Qau,e,YE,List.foldl_nil,RT.val]
noncomputable def QnY (env:Env RC) (os:List (Obj RC)):Option (Bool × QnW):=match env,os with
 | [(0,.int .i64 q),(7,.mp 0),(15,.sl .line c l),(16,.int .i64 x0),(17,.int .i64 x1)],[.map .int .int m]=>QB (true) (decide (x0=l.length) && decide (x1=0) && decide (l.length <= 1000),⟨q,c,l,m,0⟩)
 | _,_=>none
noncomputable def uq_2:=uq_1.addLoop 58 3 (sumR s28 [.slot 7 0] [0,7,15,16,17] Ks QnY)
theorem QnZ:Qi Tryz.prog s28 uq_2:=by
 refine QnV.addRoundsR Qb (by kernel_rfl) Ks 40 [0,7,15,16,17] [] [.slot 7 0] [0,7,15,16,17] QnY (fun q hI=>?_) ?_
 · obtain ⟨q,c,l,m,i⟩:=q;refine ⟨?_,?_,Qjd q c l m i hI⟩
   · simp_all [Qj,Ks,QnX,Qbm,Jn,D.refs,Obj.refs,rEnc]
   · simp_all [Ks,Qau,Qbm,Jn,RT.refsOK,Qj,D.refs,Obj.refs,rEnc]
 · intro env os b q hd_ hb;unfold QnY at hd_
   split at hd_
   · obtain ⟨hs,hd_⟩:=Qg hd_;cases hd_;simp only [Bool.and_eq_true,decide_eq_true_eq] at hb;obtain ⟨⟨rfl,rfl⟩,h1⟩:=hb;exact ⟨⟨Nat.zero_le _,h1⟩,rfl,rfl⟩
   · cases hd_
end Go.Ev
