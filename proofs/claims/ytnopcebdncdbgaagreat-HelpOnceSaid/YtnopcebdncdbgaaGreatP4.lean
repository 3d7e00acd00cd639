/-
  A part of the proof of a statement of this seat: the model is run over values by content, proved sound; what the functions come to. No condition beyond the given statements. (text 5)
-/
import Derived.Test.YtnopcebdncdbgaaGreatP3
namespace Go.Ev
open Go.Proofs
set_option maxRecDepth 100000
set_option linter.unusedVariables false
set_option linter.unusedSimpArgs false
def JC (l:List Int) (i:Nat):List Int := l.take i ++ List.replicate (96 - i) 0
theorem J7 {l:List Int} {i:Nat} (h:i <= l.length) (h2:l.length <= 96):(JC l i).length = 96 := by
 simp only [JC,List.length_append,List.length_take,List.length_replicate];omega
theorem Qik {l:List Int} {i:Nat} (h:i < l.length) (h2:l.length <= 96) (d:Int):(JC l i).set i (l.getD i d) = JC l (i + 1) := by
 apply List.ext_getElem
 · rw [List.length_set,J7 (by omega) h2,J7 (by omega) h2]
 · intro n h3 h4;rw [J7 (by omega) h2] at h4
   rw [List.getElem_set];have e:l.getD i d = l[i] := by simp [h]
   simp only [JC,List.getElem_append,List.length_take,List.getElem_take,List.getElem_replicate]
   split
   · rename_i q;subst q;rw [e,dif_pos (by omega)]
   · split <;> split <;> first | rfl | omega
theorem Qil {l:List Int}:JC l l.length = Za l := by
 unfold JC Za;rw [List.take_length]
structure QdI where
 c:Bool
 l:List Int
 p:Int
 r:List Int
 i:Nat
def QbU (c:Bool) (l:List Int) (p:Int) (r:List Int) (i:Nat):Env RC := [(1,.sl (C := RC) .int c l),(5,.ptr 0 []),(6,.int .i64 (i:Int))]
def VM (c:Bool) (l:List Int) (p:Int) (r:List Int) (i:Nat):List (Obj RC) := [.var 84 (.acons (.int .i8 p) (.acons (.int .i64 0) (.acons (.arr (C := RC) .int 96 r) .anil)))]
noncomputable def Qgf (c:Bool) (l:List Int) (p:Int) (r:List Int) (i:Nat) := rndO s25 un_1 151 3 40 1 [1,5,6] [] [.slot 5 0] (QbU c l p r i) (VM c l p r i)
theorem Ql5 (c:Bool) (l:List Int) (p:Int) (r:List Int) (i:Nat):Qgf c l p r i = (let Z0:Int := (↑i:Int);let Z1:D RC := D.int .i64 0;bif lenOK l.length then bif decide (Z0 < (↑l.length:Int)) then bif decide ((0:Int) <= Z0 /\ Z0 < (↑l.length:Int)) then bif decide ((0:Int) <= Z0 /\ Z0 < (96:Int)) then some ((X.normal,[(1,D.sl RTy.int c l),(5,D.ptr 0 []),(6,D.int .i64 (IntKind.wrap .i64 (Z0 + (1:Int))))]),[some (Obj.var 84 (.acons (D.int IntKind.i8 p) (.acons Z1 (D.acons (D.arr RTy.int (96:Nat) (List.set r Z0.toNat (List.getD l Z0.toNat (0:Int)))) .anil))))]) else none else none else some ((X.exit (0:Nat),[]),[some (Obj.var 84 (.acons (D.int IntKind.i8 p) (.acons Z1 (D.acons (D.arr RTy.int (96:Nat) r) .anil))))]) else none) := by kernel_rfl
def Qbm (c:Bool) (l:List Int) (p:Int) (r:List Int) (i:Nat):RT RC := .leaf (.exit 0) [] (VM c l p (Za l) i)
def YF (c:Bool) (l:List Int) (p:Int) (r:List Int) (i:Nat):Prop := i <= l.length /\ l.length <= 96 /\ r = JC l i
def Y0:QU RC QdI where
 k := 1
 canon q := QbU q.c q.l q.p q.r q.i
 objs q := VM q.c q.l q.p q.r q.i
 fin q := Qbm q.c q.l q.p q.r q.i
 Inv q := YF q.c q.l q.p q.r q.i
 μ q := q.l.length - q.i
theorem QdJ (c:Bool) (l:List Int) (p:Int) (r:List Int) (i:Nat) (hI:YF c l p r i):Leaf (Qgf c l p r i) (LedR Y0 ⟨c,l,p,r,i⟩) := by
 (rw [Ql5];conv => zeta)
 unfold YF at hI;obtain ⟨h1,h2,rfl⟩ := hI;have hlk := Qk (n := l.length) (by omega)
 by_cases hlt:i < l.length
 · have w_succ:IntKind.i64.wrap ((i:Int) + 1) = ((i + 1:Nat):Int) := by rw [Qb (by omega) (by omega)];simp
   have d_lt:decide ((i:Int) < l.length) = true := by simp;omega
   have d_in:decide (0 <= (i:Int) /\ (i:Int) < l.length) = true := by simp;omega
   have t_nat:((i:Int)).toNat = i := by simp
   simp only [w_succ,d_lt,d_in,t_nat,cond_true];have d1:decide (0 <= (i:Int) /\ (i:Int) < 96) = true := decide_eq_true ⟨by omega,by omega⟩
   simp only [hlk,d1,cond_true,Qik hlt h2];exact Qw (S := Y0) ⟨c,l,p,JC l (i + 1),i + 1⟩ ⟨hlt,h2,rfl⟩ (by simp only [Y0];omega) rfl rfl rfl
 · have hi:i = l.length := by omega
   have c1:decide ((i:Int) < l.length) = false := by simp;omega
   rw [hlk,c1];simp only [cond_true,cond_false];exact Qn (VM c l p (Za l) i) rfl (by rw [hi,Qil];rfl)
def QbV (env:Env RC) (os:List (Obj RC)):Option (Bool × QdI) := match env,os with
 | [(1,.sl .int c l),(5,.ptr 0 []),(6,.int .i64 x0)],[.var 84 (.acons (.int .i8 p) (.acons (.int .i64 0) (.acons (.arr .int 96 r) .anil)))] => Qz (true) (decide (x0 = 0) && decide (l.length <= 96) && decide (r = List.replicate 96 0),⟨c,l,p,r,0⟩)
 | _,_ => none
noncomputable def uo_1 := un_1.addLoop 151 3 (sumR s25 [.slot 5 0] [1,5,6] Y0 QbV)
theorem Ql6:Qh Tryz.prog s25 uo_1 := by
 refine Ql4.addRoundsR Qa (by kernel_rfl) Y0 40 [1,5,6] [] [.slot 5 0] [1,5,6] QbV (fun q hI => ?_) ?_
 · obtain ⟨c,l,p,r,i⟩ := q;refine ⟨?_,?_,QdJ c l p r i hI⟩
   · simp_all [Ql,Y0,QbU,VM,YF,D.refs,Obj.refs,rEnc]
   · simp_all [Y0,Qbm,VM,YF,RT.refsOK,Ql,D.refs,Obj.refs,rEnc]
 · intro env os b q hd_ hb;unfold QbV at hd_
   split at hd_
   · obtain ⟨hs,hd_⟩ := Qi hd_;cases hd_;simp only [Bool.and_eq_true,decide_eq_true_eq] at hb;obtain ⟨⟨e0,e1⟩,e2⟩ := hb;subst e0;exact ⟨⟨Nat.zero_le _,e1,e2⟩,rfl,rfl⟩
   · cases hd_
def Ql7 (p:Int) (c:Bool) (l:List Int):Option (Bool × D RC) := some (decide (l.length <= 96),.acons (.int .i8 p) (.acons (.int .i64 0) (.acons (.arr (C := RC) .int 96 (Za l)) .anil)))
def Qgg:List (D RC) -> Option (Bool × D RC)
 | [.int .i8 p,.sl .int c l] => Ql7 p c l
 | _ => none
noncomputable def Ql8 (p:Int) (c:Bool) (l:List Int) := evF s25 uo_1 60 151 [.int .i8 p,.sl (C := RC) .int c l]
theorem Qp2 (p:Int) (c:Bool) (l:List Int):Ql8 p c l = (bif decide (List.length l <= (96:Nat)) && true then some (D.acons (D.int IntKind.i8 p) (.acons (D.int .i64 0) (.acons (D.arr RTy.int (96:Nat) (Za l)) .anil))) else none) := by kernel_rfl
theorem Qp3 (p:Int) (c:Bool) (l:List Int) (h:(decide (l.length <= 96)) = true):Ql8 p c l = some (.acons (.int .i8 p) (.acons (.int .i64 0) (.acons (.arr (C := RC) .int 96 (Za l)) .anil))) := by
 rw [Qp2];simp only [h,decide_true,Bool.and_self,cond_true]
noncomputable def uo_2 := uo_1.addSpec 151 Qgg
theorem Ql9:Qh Tryz.prog s25 uo_2 := Ql6.addEv Qa fun args d h => by
 unfold Qgg at h
 split at h
 · unfold Ql7 at h;have h1 := congrArg Prod.fst (Option.some.inj h);obtain rfl:_ = d := congrArg Prod.snd (Option.some.inj h);exact ⟨by simp [D.refs],60,Qp3 _ _ _ h1⟩
 · cases h
def frmR (f:Qe):D RC := .acons (.int .i8 f.prog) (.acons (.int .i64 f.at') (.acons (.arr (C := RC) .int 96 f.r) .anil))
def actR (a:Qf) (fl:Bool):D RC := .acons (.int .i8 a.kind) (.acons (.int .i64 a.a) (.acons (.int .i64 a.b) (.acons (.int .i64 a.v) (.acons (.int .i64 a.gen) (.acons (.str a.text) (.acons (.sl (C := RC) .int fl a.args) .anil))))))
def Qse (c:Int) (p:Int) (ca:Bool) (l:List Int):Option (Bool × D RC) := some (decide (0 <= c /\ c <= 3 /\ 0 <= p /\ l.length <= 96),.tup (.acons (.acons (.int .i64 c) (.acons (.sl (C := RC) .frame true [⟨p,0,Za l⟩]) (.acons (.sl (C := RC) .int true []) (.acons (.bool false) .anil)))) (.acons (.int .i64 0) .anil)))
def Qma:List (D RC) -> Option (Bool × D RC)
 | [.int .i64 c,.int .i8 p,.sl .int ca l] => Qse c p ca l
 | _ => none
noncomputable def Qsf (c:Int) (p:Int) (ca:Bool) (l:List Int) := evF s25 uo_2 60 91 [.int .i64 c,.int .i8 p,.sl (C := RC) .int ca l]
theorem Qt9 (c:Int) (p:Int) (ca:Bool) (l:List Int):Qsf c p ca l = (let Z0:D RC := D.int .i64 0;let Z1:D RC := D.acons (D.sl RTy.int true []) (.acons (D.bool false) .anil);let Z2:DO_ := some (D.tup (D.acons (D.acons Z0 (D.acons (D.sl RTy.frame true []) Z1)) (.acons (D.int .i64 2) .anil)));let Z3:Nat := List.length l;bif decide (c < (0:Int)) then Z2 else bif decide ((4:Int) <= c) then Z2 else bif decide (p < (0:Int)) then Z2 else bif lenOK Z3 then bif decide ((96:Int) < (↑Z3:Int)) then Z2 else bif decide (Z3 <= (96:Nat)) then some (D.tup (D.acons (D.acons (D.int .i64 c) (.acons (D.sl RTy.frame true [Qe.mk p (0:Int) (Za l)]) Z1)) (.acons Z0 .anil))) else none else none) := by kernel_rfl
theorem Qua (c:Int) (p:Int) (ca:Bool) (l:List Int) (h:(decide (0 <= c /\ c <= 3 /\ 0 <= p /\ l.length <= 96)) = true):Qsf c p ca l = some (.tup (.acons (.acons (.int .i64 c) (.acons (.sl (C := RC) .frame true [⟨p,0,Za l⟩]) (.acons (.sl (C := RC) .int true []) (.acons (.bool false) .anil)))) (.acons (.int .i64 0) .anil))) := by
 (rw [Qt9];conv => zeta)
 rw [decide_eq_true_eq] at h;have c1:decide (c < 0) = false := decide_eq_false (by omega)
 have c2:decide (4 <= c) = false := decide_eq_false (by omega)
 have c3:decide (p < 0) = false := decide_eq_false (by omega)
 have c4:decide ((96:Int) < (l.length:Int)) = false := decide_eq_false (by omega)
 have c5:lenOK l.length = true := Qk (by omega)
 have c6:decide (l.length <= 96) = true := decide_eq_true (by omega)
 simp only [c1,c2,c3,c4,c5,c6,cond_true,cond_false]
noncomputable def uo_3 := uo_2.addSpec 91 Qma
theorem Qmb:Qh Tryz.prog s25 uo_3 := Ql9.addEv Qa fun args d h => by
 unfold Qma at h
 split at h
 · unfold Qse at h;have h1 := congrArg Prod.fst (Option.some.inj h);obtain rfl:_ = d := congrArg Prod.snd (Option.some.inj h);exact ⟨by simp [D.refs],60,Qua _ _ _ _ h1⟩
 · cases h
def Qsg (c:Int) (fs:Bool) (st:List Qe) (e:Bool) (got:List Int) (over:Bool):Option (Bool × D RC) := some (lenOK st.length,.tup (.acons (.acons (.int .i8 (topF st).prog) (.acons (.int .i64 (topF st).at') (.acons (.arr (C := RC) .int 96 (topF st).r) .anil))) (.acons (.bool (decide (st ≠ []))) .anil)))
def Qmc:List (D RC) -> Option (Bool × D RC)
 | [.acons (.int .i64 c) (.acons (.sl .frame fs st) (.acons (.sl .int e got) (.acons (.bool over) .anil)))] => Qsg c fs st e got over
 | _ => none
noncomputable def Qsh (c:Int) (fs:Bool) (st:List Qe) (e:Bool) (got:List Int) (over:Bool) := evF s25 uo_3 40 143 [.acons (.int .i64 c) (.acons (.sl (C := RC) .frame fs st) (.acons (.sl (C := RC) .int e got) (.acons (.bool over) .anil)))]
theorem Qub (c:Int) (fs:Bool) (st:List Qe) (e:Bool) (got:List Int) (over:Bool):Qsh c fs st e got over = (let Z0:Bool := lenOK st.length;let Z1:Int := (↑st.length:Int);let Z2:List Int := List.replicate (96:Nat) (0:Int);let Z3:Int := IntKind.wrap .i64 (Z1 - (1:Int));let Z4:Qe := List.getD st Z3.toNat (Qe.mk (0:Int) (0:Int) Z2);bif Z0 then bif Z1 == (0:Int) then some (D.tup (D.acons (D.acons (D.int IntKind.i8 (0:Int)) (.acons (D.int .i64 0) (.acons (D.arr RTy.int (96:Nat) Z2) .anil))) (.acons (D.bool false) .anil))) else bif Z0 then bif decide ((0:Int) <= Z3 /\ Z3 < Z1) then some (D.tup (D.acons (D.acons (D.int IntKind.i8 (Qe.prog Z4)) (.acons (D.int .i64 (Qe.at' Z4)) (.acons (D.arr RTy.int (96:Nat) (Qe.r Z4)) .anil))) (.acons (D.bool true) .anil))) else none else none else none) := by kernel_rfl
theorem Quc (c:Int) (fs:Bool) (st:List Qe) (e:Bool) (got:List Int) (over:Bool) (h:(lenOK st.length) = true):Qsh c fs st e got over = some (.tup (.acons (.acons (.int .i8 (topF st).prog) (.acons (.int .i64 (topF st).at') (.acons (.arr (C := RC) .int 96 (topF st).r) .anil))) (.acons (.bool (decide (st ≠ []))) .anil))) := by
 (rw [Qub];conv => zeta)
 simp only [h,cond_true]
 by_cases e:st = []
 · subst e;rfl
 · have l0:1 <= st.length := List.length_pos_iff.2 e;have l1:st.length <= 9223372036854775807 := YK h;have c1:(((st.length:Nat):Int) == 0) = false := Zd (by omega)
   have w1:IntKind.i64.wrap ((st.length:Int) - 1) = (st.length:Int) - 1 := Qb (by omega) (by omega)
   have t1:((st.length:Int) - 1).toNat = st.length - 1 := by omega
   have d1:decide (0 <= (st.length:Int) - 1 /\ (st.length:Int) - 1 < (st.length:Int)) = true := decide_eq_true ⟨by omega,by omega⟩
   have e1:st.getD (st.length - 1) ⟨0,0,List.replicate 96 0⟩ = topF st := by
    unfold topF frm0;rw [List.getLastD_eq_getLast?,List.getLast?_eq_getElem?,List.getD_eq_getElem?_getD]
   simp only [c1,w1,t1,d1,e1,cond_true,cond_false,decide_eq_true (show st ≠ [] from e)]
noncomputable def uo_4 := uo_3.addSpec 143 Qmc
theorem Qmd:Qh Tryz.prog s25 uo_4 := Qmb.addEv Qa fun args d h => by
 unfold Qmc at h
 split at h
 · unfold Qsg at h;have h1 := congrArg Prod.fst (Option.some.inj h);obtain rfl:_ = d := congrArg Prod.snd (Option.some.inj h);exact ⟨by simp [D.refs],40,Quc _ _ _ _ _ _ h1⟩
 · cases h
theorem Qud {n:Int} (h1:0 <= n) (h2:n <= 127):IntKind.i8.wrap n = n := by
 simp only [IntKind.wrap,IntKind.bits,IntKind.signed];simp;omega
def OkTk (c:Int) (st:List Qe) (got:List Int) (a:Qf):Prop := 0 <= c /\ c <= 3 /\ got.length <= 96 /\ 1 <= st.length /\ st.length <= 6 /\ mayN a = true /\ 0 <= a.kind /\ a.kind <= 7 /\ (a.kind = 6 -> st.length < 6)
theorem Qp4 {a:Qf} (h:mayN a = true):a.text.length <= 640 /\ a.args.length <= 96 /\ 0 <= a.a /\ a.a <= 4095 /\ (a.kind = 6 -> a.a <= 127) := by
 have h := of_decide_eq_true h;have h2 := h;obtain ⟨_,_,_,_,_,_,h3,h4,h5,h6,h7⟩ := h;refine ⟨h4,h3,h5,h6,fun e => ?_⟩;rw [e] at h2;exact (MayA.k6.1 h2).2.1
noncomputable def Qme (c:Int) (fs:Bool) (st:List Qe) (e:Bool) (got:List Int) (over:Bool) (p:Int) (at':Int) (r:List Int) (k:Int) (a:Int) (b:Int) (v:Int) (g:Int) (tx:List UInt8) (ca:Bool) (ar:List Int):Option (Bool × D RC) := some (cdec (OkTk c st got ⟨k,a,b,v,g,tx,ar⟩) && !over,.tup (.acons (.acons (.int .i64 c) (.acons (.sl (C := RC) .frame false (tkSt st ⟨p,at',r⟩ ⟨k,a,b,v,g,tx,ar⟩)) (.acons (.sl (C := RC) .int (tkFl e ⟨k,a,b,v,g,tx,ar⟩) (Vb got ⟨k,a,b,v,g,tx,ar⟩)) (.acons (.bool (decide (tkSt st ⟨p,at',r⟩ ⟨k,a,b,v,g,tx,ar⟩ = []))) .anil)))) (.acons (.bool (decide (k < 6))) (.acons (.int .i64 0) .anil))))
noncomputable def Qgh:List (D RC) -> Option (Bool × D RC)
 | [.acons (.int .i64 c) (.acons (.sl .frame fs st) (.acons (.sl .int e got) (.acons (.bool over) .anil))),.acons (.int .i8 p) (.acons (.int .i64 at') (.acons (.arr .int 96 r) .anil)),.acons (.int .i8 k) (.acons (.int .i64 a) (.acons (.int .i64 b) (.acons (.int .i64 v) (.acons (.int .i64 g) (.acons (.str tx) (.acons (.sl .int ca ar) .anil))))))] => Qme c fs st e got over p at' r k a b v g tx ca ar
 | _ => none
noncomputable def Y1 (c:Int) (fs:Bool) (st:List Qe) (e:Bool) (got:List Int) (over:Bool) (p:Int) (at':Int) (r:List Int) (k:Int) (a:Int) (b:Int) (v:Int) (g:Int) (tx:List UInt8) (ca:Bool) (ar:List Int) := evF s25 uo_4 60 145 [.acons (.int .i64 c) (.acons (.sl (C := RC) .frame fs st) (.acons (.sl (C := RC) .int e got) (.acons (.bool over) .anil))),.acons (.int .i8 p) (.acons (.int .i64 at') (.acons (.arr (C := RC) .int 96 r) .anil)),.acons (.int .i8 k) (.acons (.int .i64 a) (.acons (.int .i64 b) (.acons (.int .i64 v) (.acons (.int .i64 g) (.acons (.str tx) (.acons (.sl (C := RC) .int ca ar) .anil))))))]
theorem Que (c:Int) (fs:Bool) (st:List Qe) (e:Bool) (got:List Int) (p at':Int) (r:List Int) (a b v g:Int) (tx:List UInt8) (ca:Bool) (ar:List Int):Y1 c fs st e got false p at' r 0 a b v g tx ca ar = (let Z0:D RC := D.int .i64 0;let Z1:D RC := D.bool false;let Z2:DO_ := some (D.tup (D.acons (D.acons Z0 (D.acons (D.sl RTy.frame true []) (.acons (D.sl RTy.int true []) (.acons Z1 .anil)))) (.acons Z1 (D.acons (D.int .i64 2) .anil))));let Z3:Bool := lenOK st.length;let Z4:Int := (↑st.length:Int);let Z5:Bool := lenOK tx.length && lenOK ar.length;let Z6:Bool := ZR (0:Int) a b v g tx ar;let Z7:Int := IntKind.wrap .i64 (Z4 - (1:Int));let Z8:List Qe := List.drop (0:Nat) (List.take Z7.toNat st);let Z9:Nat := (0:Nat) + List.length Z8;let Z10:Nat := List.length [Qe.mk p at' r];let Z11:List Qe := [] ++ Z8 ++ [Qe.mk p at' r];let Z12:Bool := Nat.beq (List.length ([] ++ Z8) + Z10) Z11.length;let Z13:DO_ := none;let Z14:Nat := (0:Nat) + List.length ar;bif decide (c < (0:Int)) then Z2 else bif decide ((4:Int) <= c) then Z2 else bif lenOK got.length then bif decide ((96:Int) < (↑got.length:Int)) then Z2 else bif Z3 then bif decide ((1:Int) <= Z4) then bif Z3 then bif !decide (Z4 <= (6:Int)) then Z2 else bif Z5 then bif !Z6 then Z2 else bif Z3 then bif decide ((0:Int) <= (0:Int) /\ (0:Int) <= Z7 /\ Z7 <= Z4) then bif Qg Z9 (784:Nat) then bif Nat.beq Z9 ([] ++ Z8).length && Qg (Z9 + Z10) (784:Nat) then bif Z5 then bif Z6 then bif Z12 then some (D.tup (D.acons (D.acons (D.int .i64 c) (.acons (D.sl RTy.frame false Z11) (.acons (D.sl RTy.int e got) (.acons Z1 .anil)))) (.acons (D.bool true) (.acons Z0 .anil)))) else Z13 else bif Z12 then bif decide ((0:Int) <= (0:Int) /\ (0:Int) <= Z7 /\ Z7 <= (↑Z11.length:Int)) then bif Qg Z14 (8:Nat) then bif Nat.beq Z14 ([] ++ ar).length then some (D.tup (D.acons (D.acons (D.int .i64 c) (.acons (D.sl RTy.frame false (List.drop (0:Nat) (List.take Z7.toNat Z11))) (.acons (D.sl RTy.int false ([] ++ ar)) (.acons (D.bool (Z7 == (0:Int))) .anil)))) (.acons Z1 (D.acons Z0 .anil)))) else Z13 else Z13 else Z13 else Z13 else Z13 else Z13 else Z13 else Z13 else Z13 else Z13 else Z13 else Z2 else Z13 else Z13) := by kernel_rfl
theorem Quf (c:Int) (fs:Bool) (st:List Qe) (e:Bool) (got:List Int) (p at':Int) (r:List Int) (a b v g:Int) (tx:List UInt8) (ca:Bool) (ar:List Int):Y1 c fs st e got false p at' r 1 a b v g tx ca ar = (let Z0:D RC := D.int .i64 0;let Z1:D RC := D.bool false;let Z2:DO_ := some (D.tup (D.acons (D.acons Z0 (D.acons (D.sl RTy.frame true []) (.acons (D.sl RTy.int true []) (.acons Z1 .anil)))) (.acons Z1 (D.acons (D.int .i64 2) .anil))));let Z3:Bool := lenOK st.length;let Z4:Int := (↑st.length:Int);let Z5:Bool := lenOK tx.length && lenOK ar.length;let Z6:Bool := ZR (1:Int) a b v g tx ar;let Z7:Int := IntKind.wrap .i64 (Z4 - (1:Int));let Z8:List Qe := List.drop (0:Nat) (List.take Z7.toNat st);let Z9:Nat := (0:Nat) + List.length Z8;let Z10:Nat := List.length [Qe.mk p at' r];let Z11:List Qe := [] ++ Z8 ++ [Qe.mk p at' r];let Z12:Bool := Nat.beq (List.length ([] ++ Z8) + Z10) Z11.length;let Z13:DO_ := none;let Z14:Nat := (0:Nat) + List.length ar;bif decide (c < (0:Int)) then Z2 else bif decide ((4:Int) <= c) then Z2 else bif lenOK got.length then bif decide ((96:Int) < (↑got.length:Int)) then Z2 else bif Z3 then bif decide ((1:Int) <= Z4) then bif Z3 then bif !decide (Z4 <= (6:Int)) then Z2 else bif Z5 then bif !Z6 then Z2 else bif Z3 then bif decide ((0:Int) <= (0:Int) /\ (0:Int) <= Z7 /\ Z7 <= Z4) then bif Qg Z9 (784:Nat) then bif Nat.beq Z9 ([] ++ Z8).length && Qg (Z9 + Z10) (784:Nat) then bif Z5 then bif Z6 then bif Z12 then some (D.tup (D.acons (D.acons (D.int .i64 c) (.acons (D.sl RTy.frame false Z11) (.acons (D.sl RTy.int e got) (.acons Z1 .anil)))) (.acons (D.bool true) (.acons Z0 .anil)))) else Z13 else bif Z12 then bif decide ((0:Int) <= (0:Int) /\ (0:Int) <= Z7 /\ Z7 <= (↑Z11.length:Int)) then bif Qg Z14 (8:Nat) then bif Nat.beq Z14 ([] ++ ar).length then some (D.tup (D.acons (D.acons (D.int .i64 c) (.acons (D.sl RTy.frame false (List.drop (0:Nat) (List.take Z7.toNat Z11))) (.acons (D.sl RTy.int false ([] ++ ar)) (.acons (D.bool (Z7 == (0:Int))) .anil)))) (.acons Z1 (D.acons Z0 .anil)))) else Z13 else Z13 else Z13 else Z13 else Z13 else Z13 else Z13 else Z13 else Z13 else Z13 else Z13 else Z2 else Z13 else Z13) := by kernel_rfl
theorem Qug (c:Int) (fs:Bool) (st:List Qe) (e:Bool) (got:List Int) (p at':Int) (r:List Int) (a b v g:Int) (tx:List UInt8) (ca:Bool) (ar:List Int):Y1 c fs st e got false p at' r 2 a b v g tx ca ar = (let Z0:D RC := D.int .i64 0;let Z1:D RC := D.bool false;let Z2:DO_ := some (D.tup (D.acons (D.acons Z0 (D.acons (D.sl RTy.frame true []) (.acons (D.sl RTy.int true []) (.acons Z1 .anil)))) (.acons Z1 (D.acons (D.int .i64 2) .anil))));let Z3:Bool := lenOK st.length;let Z4:Int := (↑st.length:Int);let Z5:Bool := lenOK tx.length && lenOK ar.length;let Z6:Bool := ZR (2:Int) a b v g tx ar;let Z7:Int := IntKind.wrap .i64 (Z4 - (1:Int));let Z8:List Qe := List.drop (0:Nat) (List.take Z7.toNat st);let Z9:Nat := (0:Nat) + List.length Z8;let Z10:Nat := List.length [Qe.mk p at' r];let Z11:List Qe := [] ++ Z8 ++ [Qe.mk p at' r];let Z12:Bool := Nat.beq (List.length ([] ++ Z8) + Z10) Z11.length;let Z13:DO_ := none;let Z14:Nat := (0:Nat) + List.length ar;bif decide (c < (0:Int)) then Z2 else bif decide ((4:Int) <= c) then Z2 else bif lenOK got.length then bif decide ((96:Int) < (↑got.length:Int)) then Z2 else bif Z3 then bif decide ((1:Int) <= Z4) then bif Z3 then bif !decide (Z4 <= (6:Int)) then Z2 else bif Z5 then bif !Z6 then Z2 else bif Z3 then bif decide ((0:Int) <= (0:Int) /\ (0:Int) <= Z7 /\ Z7 <= Z4) then bif Qg Z9 (784:Nat) then bif Nat.beq Z9 ([] ++ Z8).length && Qg (Z9 + Z10) (784:Nat) then bif Z5 then bif Z6 then bif Z12 then some (D.tup (D.acons (D.acons (D.int .i64 c) (.acons (D.sl RTy.frame false Z11) (.acons (D.sl RTy.int e got) (.acons Z1 .anil)))) (.acons (D.bool true) (.acons Z0 .anil)))) else Z13 else bif Z12 then bif decide ((0:Int) <= (0:Int) /\ (0:Int) <= Z7 /\ Z7 <= (↑Z11.length:Int)) then bif Qg Z14 (8:Nat) then bif Nat.beq Z14 ([] ++ ar).length then some (D.tup (D.acons (D.acons (D.int .i64 c) (.acons (D.sl RTy.frame false (List.drop (0:Nat) (List.take Z7.toNat Z11))) (.acons (D.sl RTy.int false ([] ++ ar)) (.acons (D.bool (Z7 == (0:Int))) .anil)))) (.acons Z1 (D.acons Z0 .anil)))) else Z13 else Z13 else Z13 else Z13 else Z13 else Z13 else Z13 else Z13 else Z13 else Z13 else Z13 else Z2 else Z13 else Z13) := by kernel_rfl
theorem Quh (c:Int) (fs:Bool) (st:List Qe) (e:Bool) (got:List Int) (p at':Int) (r:List Int) (a b v g:Int) (tx:List UInt8) (ca:Bool) (ar:List Int):Y1 c fs st e got false p at' r 3 a b v g tx ca ar = (let Z0:D RC := D.int .i64 0;let Z1:D RC := D.bool false;let Z2:DO_ := some (D.tup (D.acons (D.acons Z0 (D.acons (D.sl RTy.frame true []) (.acons (D.sl RTy.int true []) (.acons Z1 .anil)))) (.acons Z1 (D.acons (D.int .i64 2) .anil))));let Z3:Bool := lenOK st.length;let Z4:Int := (↑st.length:Int);let Z5:Bool := lenOK tx.length && lenOK ar.length;let Z6:Bool := ZR (3:Int) a b v g tx ar;let Z7:Int := IntKind.wrap .i64 (Z4 - (1:Int));let Z8:List Qe := List.drop (0:Nat) (List.take Z7.toNat st);let Z9:Nat := (0:Nat) + List.length Z8;let Z10:Nat := List.length [Qe.mk p at' r];let Z11:List Qe := [] ++ Z8 ++ [Qe.mk p at' r];let Z12:Bool := Nat.beq (List.length ([] ++ Z8) + Z10) Z11.length;let Z13:DO_ := none;let Z14:Nat := (0:Nat) + List.length ar;bif decide (c < (0:Int)) then Z2 else bif decide ((4:Int) <= c) then Z2 else bif lenOK got.length then bif decide ((96:Int) < (↑got.length:Int)) then Z2 else bif Z3 then bif decide ((1:Int) <= Z4) then bif Z3 then bif !decide (Z4 <= (6:Int)) then Z2 else bif Z5 then bif !Z6 then Z2 else bif Z3 then bif decide ((0:Int) <= (0:Int) /\ (0:Int) <= Z7 /\ Z7 <= Z4) then bif Qg Z9 (784:Nat) then bif Nat.beq Z9 ([] ++ Z8).length && Qg (Z9 + Z10) (784:Nat) then bif Z5 then bif Z6 then bif Z12 then some (D.tup (D.acons (D.acons (D.int .i64 c) (.acons (D.sl RTy.frame false Z11) (.acons (D.sl RTy.int e got) (.acons Z1 .anil)))) (.acons (D.bool true) (.acons Z0 .anil)))) else Z13 else bif Z12 then bif decide ((0:Int) <= (0:Int) /\ (0:Int) <= Z7 /\ Z7 <= (↑Z11.length:Int)) then bif Qg Z14 (8:Nat) then bif Nat.beq Z14 ([] ++ ar).length then some (D.tup (D.acons (D.acons (D.int .i64 c) (.acons (D.sl RTy.frame false (List.drop (0:Nat) (List.take Z7.toNat Z11))) (.acons (D.sl RTy.int false ([] ++ ar)) (.acons (D.bool (Z7 == (0:Int))) .anil)))) (.acons Z1 (D.acons Z0 .anil)))) else Z13 else Z13 else Z13 else Z13 else Z13 else Z13 else Z13 else Z13 else Z13 else Z13 else Z13 else Z2 else Z13 else Z13) := by kernel_rfl
theorem Qui (c:Int) (fs:Bool) (st:List Qe) (e:Bool) (got:List Int) (p at':Int) (r:List Int) (a b v g:Int) (tx:List UInt8) (ca:Bool) (ar:List Int):Y1 c fs st e got false p at' r 4 a b v g tx ca ar = (let Z0:D RC := D.int .i64 0;let Z1:D RC := D.bool false;let Z2:DO_ := some (D.tup (D.acons (D.acons Z0 (D.acons (D.sl RTy.frame true []) (.acons (D.sl RTy.int true []) (.acons Z1 .anil)))) (.acons Z1 (D.acons (D.int .i64 2) .anil))));let Z3:Bool := lenOK st.length;let Z4:Int := (↑st.length:Int);let Z5:Bool := lenOK tx.length && lenOK ar.length;let Z6:Bool := ZR (4:Int) a b v g tx ar;let Z7:Int := IntKind.wrap .i64 (Z4 - (1:Int));let Z8:List Qe := List.drop (0:Nat) (List.take Z7.toNat st);let Z9:Nat := (0:Nat) + List.length Z8;let Z10:Nat := List.length [Qe.mk p at' r];let Z11:List Qe := [] ++ Z8 ++ [Qe.mk p at' r];let Z12:Bool := Nat.beq (List.length ([] ++ Z8) + Z10) Z11.length;let Z13:DO_ := none;let Z14:Nat := (0:Nat) + List.length ar;bif decide (c < (0:Int)) then Z2 else bif decide ((4:Int) <= c) then Z2 else bif lenOK got.length then bif decide ((96:Int) < (↑got.length:Int)) then Z2 else bif Z3 then bif decide ((1:Int) <= Z4) then bif Z3 then bif !decide (Z4 <= (6:Int)) then Z2 else bif Z5 then bif !Z6 then Z2 else bif Z3 then bif decide ((0:Int) <= (0:Int) /\ (0:Int) <= Z7 /\ Z7 <= Z4) then bif Qg Z9 (784:Nat) then bif Nat.beq Z9 ([] ++ Z8).length && Qg (Z9 + Z10) (784:Nat) then bif Z5 then bif Z6 then bif Z12 then some (D.tup (D.acons (D.acons (D.int .i64 c) (.acons (D.sl RTy.frame false Z11) (.acons (D.sl RTy.int e got) (.acons Z1 .anil)))) (.acons (D.bool true) (.acons Z0 .anil)))) else Z13 else bif Z12 then bif decide ((0:Int) <= (0:Int) /\ (0:Int) <= Z7 /\ Z7 <= (↑Z11.length:Int)) then bif Qg Z14 (8:Nat) then bif Nat.beq Z14 ([] ++ ar).length then some (D.tup (D.acons (D.acons (D.int .i64 c) (.acons (D.sl RTy.frame false (List.drop (0:Nat) (List.take Z7.toNat Z11))) (.acons (D.sl RTy.int false ([] ++ ar)) (.acons (D.bool (Z7 == (0:Int))) .anil)))) (.acons Z1 (D.acons Z0 .anil)))) else Z13 else Z13 else Z13 else Z13 else Z13 else Z13 else Z13 else Z13 else Z13 else Z13 else Z13 else Z2 else Z13 else Z13) := by kernel_rfl
theorem Quj (c:Int) (fs:Bool) (st:List Qe) (e:Bool) (got:List Int) (p at':Int) (r:List Int) (a b v g:Int) (tx:List UInt8) (ca:Bool) (ar:List Int):Y1 c fs st e got false p at' r 5 a b v g tx ca ar = (let Z0:D RC := D.int .i64 0;let Z1:D RC := D.bool false;let Z2:DO_ := some (D.tup (D.acons (D.acons Z0 (D.acons (D.sl RTy.frame true []) (.acons (D.sl RTy.int true []) (.acons Z1 .anil)))) (.acons Z1 (D.acons (D.int .i64 2) .anil))));let Z3:Bool := lenOK st.length;let Z4:Int := (↑st.length:Int);let Z5:Bool := lenOK tx.length && lenOK ar.length;let Z6:Bool := ZR (5:Int) a b v g tx ar;let Z7:Int := IntKind.wrap .i64 (Z4 - (1:Int));let Z8:List Qe := List.drop (0:Nat) (List.take Z7.toNat st);let Z9:Nat := (0:Nat) + List.length Z8;let Z10:Nat := List.length [Qe.mk p at' r];let Z11:List Qe := [] ++ Z8 ++ [Qe.mk p at' r];let Z12:Bool := Nat.beq (List.length ([] ++ Z8) + Z10) Z11.length;let Z13:DO_ := none;let Z14:Nat := (0:Nat) + List.length ar;bif decide (c < (0:Int)) then Z2 else bif decide ((4:Int) <= c) then Z2 else bif lenOK got.length then bif decide ((96:Int) < (↑got.length:Int)) then Z2 else bif Z3 then bif decide ((1:Int) <= Z4) then bif Z3 then bif !decide (Z4 <= (6:Int)) then Z2 else bif Z5 then bif !Z6 then Z2 else bif Z3 then bif decide ((0:Int) <= (0:Int) /\ (0:Int) <= Z7 /\ Z7 <= Z4) then bif Qg Z9 (784:Nat) then bif Nat.beq Z9 ([] ++ Z8).length && Qg (Z9 + Z10) (784:Nat) then bif Z5 then bif Z6 then bif Z12 then some (D.tup (D.acons (D.acons (D.int .i64 c) (.acons (D.sl RTy.frame false Z11) (.acons (D.sl RTy.int e got) (.acons Z1 .anil)))) (.acons (D.bool true) (.acons Z0 .anil)))) else Z13 else bif Z12 then bif decide ((0:Int) <= (0:Int) /\ (0:Int) <= Z7 /\ Z7 <= (↑Z11.length:Int)) then bif Qg Z14 (8:Nat) then bif Nat.beq Z14 ([] ++ ar).length then some (D.tup (D.acons (D.acons (D.int .i64 c) (.acons (D.sl RTy.frame false (List.drop (0:Nat) (List.take Z7.toNat Z11))) (.acons (D.sl RTy.int false ([] ++ ar)) (.acons (D.bool (Z7 == (0:Int))) .anil)))) (.acons Z1 (D.acons Z0 .anil)))) else Z13 else Z13 else Z13 else Z13 else Z13 else Z13 else Z13 else Z13 else Z13 else Z13 else Z13 else Z2 else Z13 else Z13) := by kernel_rfl
theorem Quk (c:Int) (fs:Bool) (st:List Qe) (e:Bool) (got:List Int) (p at':Int) (r:List Int) (a b v g:Int) (tx:List UInt8) (ca:Bool) (ar:List Int):Y1 c fs st e got false p at' r 6 a b v g tx ca ar = (let Z0:D RC := D.int .i64 0;let Z1:D RC := D.bool false;let Z2:D RC := D.acons (D.sl RTy.int true []) (.acons Z1 .anil);let Z3:D RC := D.acons Z0 (D.acons (D.sl RTy.frame true []) Z2);let Z4:DO_ := some (D.tup (D.acons Z3 (D.acons Z1 (D.acons (D.int .i64 2) .anil))));let Z5:Bool := lenOK st.length;let Z6:Int := (↑st.length:Int);let Z7:Bool := lenOK tx.length && lenOK ar.length;let Z8:Bool := ZR (6:Int) a b v g tx ar;let Z9:Int := IntKind.wrap .i64 (Z6 - (1:Int));let Z10:List Qe := List.drop (0:Nat) (List.take Z9.toNat st);let Z11:Nat := (0:Nat) + List.length Z10;let Z12:Nat := List.length ([] ++ Z10);let Z13:Nat := List.length [Qe.mk p at' r];let Z14:Nat := Z12 + Z13;let Z15:List Qe := [] ++ Z10 ++ [Qe.mk p at' r];let Z16:List Qe := [Qe.mk (IntKind.wrap IntKind.i8 a) (0:Int) (Za ar)];let Z17:DO_ := none;let Z18:DO_ := bif lenOK Z14 then bif decide ((6:Int) <= (↑Z14:Int)) then some (D.tup (D.acons Z3 (D.acons Z1 (D.acons (D.int .i64 3) .anil)))) else bif decide (List.length ar <= (96:Nat)) then bif Nat.beq Z14 Z15.length && Qg (Z14 + List.length Z16) (784:Nat) then bif Nat.beq (List.length Z15 + List.length Z16) (Z15 ++ Z16).length then some (D.tup (D.acons (D.acons (D.int .i64 c) (.acons (D.sl RTy.frame false (Z15 ++ Z16)) Z2)) (.acons Z1 (D.acons Z0 .anil)))) else Z17 else Z17 else Z17 else Z17;bif decide (c < (0:Int)) then Z4 else bif decide ((4:Int) <= c) then Z4 else bif lenOK got.length then bif decide ((96:Int) < (↑got.length:Int)) then Z4 else bif Z5 then bif decide ((1:Int) <= Z6) then bif Z5 then bif !decide (Z6 <= (6:Int)) then Z4 else bif Z7 then bif !Z8 then Z4 else bif Z5 then bif decide ((0:Int) <= (0:Int) /\ (0:Int) <= Z9 /\ Z9 <= Z6) then bif Qg Z11 (784:Nat) then bif Nat.beq Z11 Z12 && Qg (Z11 + Z13) (784:Nat) then bif Z7 then bif Z8 then Z18 else Z18 else Z17 else Z17 else Z17 else Z17 else Z17 else Z17 else Z17 else Z4 else Z17 else Z17) := by kernel_rfl
theorem Qul (c:Int) (fs:Bool) (st:List Qe) (e:Bool) (got:List Int) (p at':Int) (r:List Int) (a b v g:Int) (tx:List UInt8) (ca:Bool) (ar:List Int):Y1 c fs st e got false p at' r 7 a b v g tx ca ar = (let Z0:D RC := D.int .i64 0;let Z1:D RC := D.bool false;let Z2:DO_ := some (D.tup (D.acons (D.acons Z0 (D.acons (D.sl RTy.frame true []) (.acons (D.sl RTy.int true []) (.acons Z1 .anil)))) (.acons Z1 (D.acons (D.int .i64 2) .anil))));let Z3:Bool := lenOK st.length;let Z4:Int := (↑st.length:Int);let Z5:Bool := lenOK tx.length && lenOK ar.length;let Z6:Bool := ZR (7:Int) a b v g tx ar;let Z7:Int := IntKind.wrap .i64 (Z4 - (1:Int));let Z8:List Qe := List.drop (0:Nat) (List.take Z7.toNat st);let Z9:Nat := (0:Nat) + List.length Z8;let Z10:Nat := List.length [Qe.mk p at' r];let Z11:List Qe := [] ++ Z8 ++ [Qe.mk p at' r];let Z12:Nat := (0:Nat) + List.length ar;let Z13:DO_ := none;let Z14:DO_ := bif Nat.beq (List.length ([] ++ Z8) + Z10) Z11.length then bif decide ((0:Int) <= (0:Int) /\ (0:Int) <= Z7 /\ Z7 <= (↑Z11.length:Int)) then bif Qg Z12 (8:Nat) then bif Nat.beq Z12 ([] ++ ar).length then some (D.tup (D.acons (D.acons (D.int .i64 c) (.acons (D.sl RTy.frame false (List.drop (0:Nat) (List.take Z7.toNat Z11))) (.acons (D.sl RTy.int false ([] ++ ar)) (.acons (D.bool (Z7 == (0:Int))) .anil)))) (.acons Z1 (D.acons Z0 .anil)))) else Z13 else Z13 else Z13 else Z13;bif decide (c < (0:Int)) then Z2 else bif decide ((4:Int) <= c) then Z2 else bif lenOK got.length then bif decide ((96:Int) < (↑got.length:Int)) then Z2 else bif Z3 then bif decide ((1:Int) <= Z4) then bif Z3 then bif !decide (Z4 <= (6:Int)) then Z2 else bif Z5 then bif !Z6 then Z2 else bif Z3 then bif decide ((0:Int) <= (0:Int) /\ (0:Int) <= Z7 /\ Z7 <= Z4) then bif Qg Z9 (784:Nat) then bif Nat.beq Z9 ([] ++ Z8).length && Qg (Z9 + Z10) (784:Nat) then bif Z5 then bif Z6 then Z14 else Z14 else Z13 else Z13 else Z13 else Z13 else Z13 else Z13 else Z13 else Z2 else Z13 else Z13) := by kernel_rfl
theorem Qp5 (c:Int) (fs:Bool) (st:List Qe) (e:Bool) (got:List Int) (over:Bool) (p:Int) (at':Int) (r:List Int) (k:Int) (a:Int) (b:Int) (v:Int) (g:Int) (tx:List UInt8) (ca:Bool) (ar:List Int) (h:(cdec (OkTk c st got ⟨k,a,b,v,g,tx,ar⟩) && !over) = true):Y1 c fs st e got over p at' r k a b v g tx ca ar = some (.tup (.acons (.acons (.int .i64 c) (.acons (.sl (C := RC) .frame false (tkSt st ⟨p,at',r⟩ ⟨k,a,b,v,g,tx,ar⟩)) (.acons (.sl (C := RC) .int (tkFl e ⟨k,a,b,v,g,tx,ar⟩) (Vb got ⟨k,a,b,v,g,tx,ar⟩)) (.acons (.bool (decide (tkSt st ⟨p,at',r⟩ ⟨k,a,b,v,g,tx,ar⟩ = []))) .anil)))) (.acons (.bool (decide (k < 6))) (.acons (.int .i64 0) .anil)))) := by
 rw [Bool.and_eq_true,Bool.not_eq_true'] at h;obtain ⟨h,rfl⟩ := h;obtain ⟨h1,h2,h3,h4,h5,h6,h7,h8,h9⟩ := QP.1 h;have m1:ZR k a b v g tx ar = true := h6;obtain ⟨n1,n2,n3,n4,n5⟩ := Qp4 h6;simp only at n1 n2 n3 n4 n5 h7 h8 h9;have c1:decide (c < 0) = false := decide_eq_false (by omega)
 have c2:decide (4 <= c) = false := decide_eq_false (by omega)
 have c3:decide ((96:Int) < (got.length:Int)) = false := decide_eq_false (by omega)
 have c4:lenOK got.length = true := Qk (by omega)
 have c5:lenOK st.length = true := Qk (by omega)
 have c6:decide ((1:Int) <= (st.length:Int)) = true := decide_eq_true (by omega)
 have c7:decide ((st.length:Int) <= 6) = true := decide_eq_true (by omega)
 have c8:lenOK tx.length = true := Qk (by omega)
 have c9:lenOK ar.length = true := Qk (by omega)
 have w1:IntKind.i64.wrap ((st.length:Int) - 1) = (st.length:Int) - 1 := Qb (by omega) (by omega)
 have t1:((st.length:Int) - 1).toNat = st.length - 1 := by omega
 have e0:List.take (st.length - 1) st = st.dropLast := (List.dropLast_eq_take ..).symm;have e1:st.dropLast.length = st.length - 1 := List.length_dropLast;have e2:∀ x:Qe,List.take (st.length - 1) (st.dropLast ++ [x]) = st.dropLast := fun x => by rw [<- e1,List.take_left]
 have f1:decide ((0:Int) <= 0 /\ 0 <= (st.length:Int) - 1 /\ (st.length:Int) - 1 <= (st.length:Int)) = true := decide_eq_true ⟨by omega,by omega,by omega⟩
 have f2:Qg (0 + st.dropLast.length) 784 = true := VR (by omega)
 have f3:Nat.beq (0 + st.dropLast.length) st.dropLast.length = true := J1 (by omega)
 have f4:∀ x:Qe,Qg (0 + st.dropLast.length + [x].length) 784 = true := fun x => VR (by simp only [List.length_cons,List.length_nil];omega)
 have f5:∀ x:Qe,Nat.beq (st.dropLast.length + [x].length) (st.dropLast ++ [x]).length = true := fun x => J1 (by simp)
 have f6:∀ x:Qe,decide ((0:Int) <= 0 /\ 0 <= (st.length:Int) - 1 /\ (st.length:Int) - 1 <= ((st.dropLast ++ [x]).length:Int)) = true := fun x => decide_eq_true ⟨by omega,by omega,by simp only [List.length_append,List.length_cons,List.length_nil,e1];omega⟩
 have f7:Qg (0 + ar.length) 8 = true := VR (by omega)
 have f8:Nat.beq (0 + ar.length) ar.length = true := J1 (by omega)
 have f9:∀ x:Qe,lenOK (st.dropLast.length + [x].length) = true := fun x => Qk (by simp only [List.length_cons,List.length_nil];omega)
 have g1:decide (ar.length <= 96) = true := decide_eq_true n2;have g2:∀ x y:Qe,Qg (st.dropLast.length + [x].length + [y].length) 784 = true := fun x y => VR (by simp only [List.length_cons,List.length_nil];omega)
 have g3:∀ x y:Qe,Nat.beq ((st.dropLast ++ [x]).length + [y].length) (st.dropLast ++ [x] ++ [y]).length = true := fun x y => J1 (by simp)
 have g4:decide ((st.dropLast:List Qe) = []) = ((st.length:Int) - 1 == 0) := by
  by_cases q:st.length = 1
  · rw [decide_eq_true (List.eq_nil_of_length_eq_zero (by omega)),Zt (by omega)]
  · rw [decide_eq_false (fun e => q (by have := congrArg List.length e;simp only [e1,List.length_nil] at this;omega)),Zd (by omega)]
 have g5:∀ x:Qe,decide (st.dropLast ++ [x] = []) = false := fun x => decide_eq_false (by simp)
 have g6:∀ x y:Qe,decide (st.dropLast ++ [x,y] = []) = false := fun x y => decide_eq_false (by simp)
 have hs:k = 0 \/ k = 1 \/ k = 2 \/ k = 3 \/ k = 4 \/ k = 5 \/ k = 6 \/ k = 7 := by omega
 rcases hs with rfl | rfl | rfl | rfl | rfl | rfl | rfl | rfl
 · (rw [Que];conv => zeta)
   simp only [c1,c2,c3,c4,c5,c6,c7,c8,c9,w1,t1,m1,List.drop_zero,List.nil_append,e0,f1,f2,f3,f4,f5,cond_true,cond_false,Bool.not_true,Bool.and_self];rw [show tkSt st ⟨p,at',r⟩ ⟨0,a,b,v,g,tx,ar⟩ = st.dropLast ++ [⟨p,at',r⟩] from rfl,g5];rfl
 · (rw [Quf];conv => zeta)
   simp only [c1,c2,c3,c4,c5,c6,c7,c8,c9,w1,t1,m1,List.drop_zero,List.nil_append,e0,f1,f2,f3,f4,f5,cond_true,cond_false,Bool.not_true,Bool.and_self];rw [show tkSt st ⟨p,at',r⟩ ⟨1,a,b,v,g,tx,ar⟩ = st.dropLast ++ [⟨p,at',r⟩] from rfl,g5];rfl
 · (rw [Qug];conv => zeta)
   simp only [c1,c2,c3,c4,c5,c6,c7,c8,c9,w1,t1,m1,List.drop_zero,List.nil_append,e0,f1,f2,f3,f4,f5,cond_true,cond_false,Bool.not_true,Bool.and_self];rw [show tkSt st ⟨p,at',r⟩ ⟨2,a,b,v,g,tx,ar⟩ = st.dropLast ++ [⟨p,at',r⟩] from rfl,g5];rfl
 · (rw [Quh];conv => zeta)
   simp only [c1,c2,c3,c4,c5,c6,c7,c8,c9,w1,t1,m1,List.drop_zero,List.nil_append,e0,f1,f2,f3,f4,f5,cond_true,cond_false,Bool.not_true,Bool.and_self];rw [show tkSt st ⟨p,at',r⟩ ⟨3,a,b,v,g,tx,ar⟩ = st.dropLast ++ [⟨p,at',r⟩] from rfl,g5];rfl
 · (rw [Qui];conv => zeta)
   simp only [c1,c2,c3,c4,c5,c6,c7,c8,c9,w1,t1,m1,List.drop_zero,List.nil_append,e0,f1,f2,f3,f4,f5,cond_true,cond_false,Bool.not_true,Bool.and_self];rw [show tkSt st ⟨p,at',r⟩ ⟨4,a,b,v,g,tx,ar⟩ = st.dropLast ++ [⟨p,at',r⟩] from rfl,g5];rfl
 · (rw [Quj];conv => zeta)
   simp only [c1,c2,c3,c4,c5,c6,c7,c8,c9,w1,t1,m1,List.drop_zero,List.nil_append,e0,f1,f2,f3,f4,f5,cond_true,cond_false,Bool.not_true,Bool.and_self];rw [show tkSt st ⟨p,at',r⟩ ⟨5,a,b,v,g,tx,ar⟩ = st.dropLast ++ [⟨p,at',r⟩] from rfl,g5];rfl
 · have h9 := h9 rfl;have n5 := n5 rfl;have g7:∀ x:Qe,decide ((6:Int) <= ((st.dropLast.length + [x].length:Nat):Int)) = false := fun x => decide_eq_false (by simp only [List.length_cons,List.length_nil,e1];omega)
   have g8:IntKind.i8.wrap a = a := Qud n3 n5
   (rw [Quk];conv => zeta)
   simp only [c1,c2,c3,c4,c5,c6,c7,c8,c9,w1,t1,m1,List.drop_zero,List.nil_append,e0,f1,f2,f3,f4,f5,f9,g1,g2,g3,g7,g8,cond_true,cond_false,Bool.not_true,Bool.and_self];rw [show tkSt st ⟨p,at',r⟩ ⟨6,a,b,v,g,tx,ar⟩ = st.dropLast ++ [⟨p,at',r⟩,⟨a,0,Za ar⟩] from rfl,g6,List.append_assoc];rfl
 · (rw [Qul];conv => zeta)
   simp only [c1,c2,c3,c4,c5,c6,c7,c8,c9,w1,t1,m1,List.drop_zero,List.nil_append,e0,e2,f1,f2,f3,f4,f5,f6,f7,f8,cond_true,cond_false,Bool.not_true,Bool.and_self];rw [show tkSt st ⟨p,at',r⟩ ⟨7,a,b,v,g,tx,ar⟩ = st.dropLast from rfl,g4];rfl
noncomputable def uo_5 := uo_4.addSpec 145 Qgh
theorem Qmf:Qh Tryz.prog s25 uo_5 := Qmd.addEv Qa fun args d h => by
 unfold Qgh at h
 split at h
 · unfold Qme at h;have h1 := congrArg Prod.fst (Option.some.inj h);obtain rfl:_ = d := congrArg Prod.snd (Option.some.inj h);exact ⟨by simp [D.refs],60,Qp5 _ _ _ _ _ _ _ _ _ _ _ _ _ _ _ _ _ h1⟩
 · cases h
structure QdK where
 c:Bool
 l:List Int
 d:Bool
 m:List Int
 i:Nat
def QbW (c:Bool) (l:List Int) (d:Bool) (m:List Int) (i:Nat):Env RC := [(0,.sl (C := RC) .int c l),(1,.sl (C := RC) .int d m),(4,.bool false),(5,.int .i64 (i:Int))]
def KE (c:Bool) (l:List Int) (d:Bool) (m:List Int) (i:Nat):List (Obj RC) := []
noncomputable def Qgi (c:Bool) (l:List Int) (d:Bool) (m:List Int) (i:Nat) := rndO s25 uo_5 146 4 40 0 [0,1,4,5] [4] [] (QbW c l d m i) (KE c l d m i)
theorem Qmg (c:Bool) (l:List Int) (d:Bool) (m:List Int) (i:Nat):Qgi c l d m i = (let Z0:Int := (↑i:Int);bif lenOK l.length then bif decide (Z0 < (↑l.length:Int)) then bif decide ((0:Int) <= Z0 /\ Z0 < (↑l.length:Int)) then bif decide ((0:Int) <= Z0 /\ Z0 < (↑m.length:Int)) then bif List.getD l Z0.toNat (0:Int) != List.getD m Z0.toNat (0:Int) then some ((X.ret,[(4,D.bool false)]),[]) else some ((X.normal,[(0,D.sl RTy.int c l),(1,D.sl RTy.int d m),(4,D.bool false),(5,D.int .i64 (IntKind.wrap .i64 (Z0 + (1:Int))))]),[]) else none else none else some ((X.exit (0:Nat),[(4,D.bool false)]),[]) else none) := by kernel_rfl
def YG (c:Bool) (l:List Int) (d:Bool) (m:List Int) (i:Nat):RT RC := .br (decide (l.drop i = m.drop i)) (.leaf (.exit 0) [(4,.bool false)] []) (.leaf .ret [(4,.bool false)] [])
def YH (c:Bool) (l:List Int) (d:Bool) (m:List Int) (i:Nat):Prop := i <= l.length /\ l.length <= 9223372036854775807 /\ l.length = m.length
def ZS:QU RC QdK where
 k := 0
 canon q := QbW q.c q.l q.d q.m q.i
 objs q := KE q.c q.l q.d q.m q.i
 fin q := YG q.c q.l q.d q.m q.i
 Inv q := YH q.c q.l q.d q.m q.i
 μ q := q.l.length - q.i
theorem QdL (c:Bool) (l:List Int) (d:Bool) (m:List Int) (i:Nat) (hI:YH c l d m i):Leaf (Qgi c l d m i) (LedR ZS ⟨c,l,d,m,i⟩) := by
 (rw [Qmg];conv => zeta)
 unfold YH at hI;obtain ⟨h1,h2,h3⟩ := hI;have hlk := Qk h2;rw [hlk];simp only [cond_true]
 by_cases hlt:i < l.length
 · have w_succ:IntKind.i64.wrap ((i:Int) + 1) = ((i + 1:Nat):Int) := by rw [Qb (by omega) (by omega)];simp
   have d_lt:decide ((i:Int) < l.length) = true := by simp;omega
   have d_in:decide (0 <= (i:Int) /\ (i:Int) < l.length) = true := by simp;omega
   have t_nat:((i:Int)).toNat = i := by simp
   simp only [w_succ,d_lt,d_in,t_nat,cond_true];have hlt':i < m.length := by omega
   have d_in':decide (0 <= (i:Int) /\ (i:Int) < m.length) = true := by simp;omega
   have hst := Qa3 l m i (0:Int) hlt h3;simp only [d_in',cond_true];generalize l.getD i (0:Int) = x at hst ⊢;generalize m.getD i (0:Int) = y at hst ⊢
   by_cases hxy:x = y
   · simp only [YU hxy,cond_false];exact Qw ⟨c,l,d,m,i + 1⟩ ⟨hlt,h2,h3⟩ (by simp only [ZS];omega) (by simp only [ZS,YG,hst,hxy,decide_true,Bool.true_and]) rfl rfl
   · simp only [J0 hxy,cond_true];exact Q7 [] (by simp [ZS,YG,hst,hxy,RT.val]) rfl
 · have hi:i = l.length := by omega
   have c1:decide ((i:Int) < l.length) = false := by simp;omega
   simp only [c1,cond_false];exact Qn [] (by simp only [ZS,YG,QcV l m i (by omega) (by omega),RT.val,cond_true]) rfl
def QbX (env:Env RC) (os:List (Obj RC)):Option (Bool × QdK) := match env,os with
 | [(0,.sl .int c l),(1,.sl .int d m),(4,.bool false),(5,.int .i64 x0)],[] => Qz (true) (decide (x0 = 0) && decide (l.length <= 9223372036854775807 /\ l.length = m.length),⟨c,l,d,m,0⟩)
 | _,_ => none
noncomputable def uo_6 := uo_5.addLoop 146 4 (sumR s25 [] [0,1,4,5] ZS QbX)
theorem Qmh:Qh Tryz.prog s25 uo_6 := by
 refine Qmf.addRoundsR Qa (by kernel_rfl) ZS 40 [0,1,4,5] [4] [] [0,1,4,5] QbX (fun q hI => ?_) ?_
 · obtain ⟨c,l,d,m,i⟩ := q;refine ⟨?_,?_,QdL c l d m i hI⟩
   · simp_all [Ql,ZS,QbW,KE,YH,D.refs,Obj.refs,rEnc]
   · simp_all [ZS,YG,KE,YH,RT.refsOK,Ql,D.refs,Obj.refs,rEnc]
 · intro env os b q hd_ hb;unfold QbX at hd_
   split at hd_
   · obtain ⟨hs,hd_⟩ := Qi hd_;cases hd_;simp only [Bool.and_eq_true,decide_eq_true_eq] at hb;obtain ⟨⟨rfl,rfl⟩,hl⟩ := hb;exact ⟨⟨Nat.zero_le _,hl.1,hl.2⟩,rfl,rfl⟩
   · cases hd_
def Qmi (c:Bool) (l:List Int) (d:Bool) (m:List Int):Option (Bool × D RC) := some (lenOK l.length && lenOK m.length,.bool (decide (l = m)))
def Qgj:List (D RC) -> Option (Bool × D RC)
 | [.sl .int c l,.sl .int d m] => Qmi c l d m
 | _ => none
noncomputable def Qmj (c:Bool) (l:List Int) (d:Bool) (m:List Int) := evF s25 uo_6 40 146 [.sl (C := RC) .int c l,.sl (C := RC) .int d m]
theorem Qp6 (c:Bool) (l:List Int) (d:Bool) (m:List Int):Qmj c l d m = (let Z0:Nat := List.length l;let Z1:Nat := List.length m;bif lenOK Z0 then bif lenOK Z1 then bif (↑Z0:Int) != (↑Z1:Int) then some (D.bool false) else bif decide (Z0 <= (9223372036854775807:Nat) /\ Z0 = Z1) then bif decide (List.drop (0:Nat) l = List.drop (0:Nat) m) then some (D.bool true) else some (D.bool false) else none else none else none) := by kernel_rfl
theorem Qp7 (c:Bool) (l:List Int) (d:Bool) (m:List Int) (h:(lenOK l.length && lenOK m.length) = true):Qmj c l d m = some (.bool (decide (l = m))) := by
 (rw [Qp6];conv => zeta)
 simp only [Bool.and_eq_true] at h;have h1:l.length <= 9223372036854775807 := YK h.1;simp only [h.1,h.2,cond_true]
 by_cases hl:l.length = m.length
 · have e1:((l.length:Int) != (m.length:Int)) = false := by simp [hl]
   have e2:(l.length <= 9223372036854775807 /\ l.length = m.length) := ⟨h1,hl⟩;rw [e1,decide_eq_true e2];simp only [cond_true,cond_false,List.drop_zero];cases decide (l = m) <;> rfl
 · have e1:((l.length:Int) != (m.length:Int)) = true := by simp;omega
   have:¬ l = m := fun e => hl (by rw [e])
   simp [e1,this]
noncomputable def uo_7 := uo_6.addSpec 146 Qgj
theorem Qmk:Qh Tryz.prog s25 uo_7 := Qmh.addEv Qa fun args d h => by
 unfold Qgj at h
 split at h
 · unfold Qmi at h;have h1 := congrArg Prod.fst (Option.some.inj h);obtain rfl:_ = d := congrArg Prod.snd (Option.some.inj h);exact ⟨by simp [D.refs],40,Qp7 _ _ _ _ h1⟩
 · cases h
def Qsi (c:Int) (f:Bool) (st:List Qe) (e:Bool) (got:List Int) (over:Bool) (x:Int):Option (Bool × D RC) := some (decide (0 <= c /\ c <= 3 /\ got.length <= 96 /\ 1 <= st.length /\ st.length <= 6) && !over,.tup (.acons (.acons (.int .i64 c) (.acons (.sl (C := RC) .frame f st) (.acons (.sl (C := RC) .int true [x]) (.acons (.bool over) .anil)))) (.acons (.int .i64 0) .anil)))
def Qml:List (D RC) -> Option (Bool × D RC)
 | [.acons (.int .i64 c) (.acons (.sl .frame f st) (.acons (.sl .int e got) (.acons (.bool over) .anil))),.int .i64 x] => Qsi c f st e got over x
 | _ => none
noncomputable def Qsj (c:Int) (f:Bool) (st:List Qe) (e:Bool) (got:List Int) (over:Bool) (x:Int) := evF s25 uo_7 40 87 [.acons (.int .i64 c) (.acons (.sl (C := RC) .frame f st) (.acons (.sl (C := RC) .int e got) (.acons (.bool over) .anil))),.int .i64 x]
theorem Qum (c:Int) (f:Bool) (st:List Qe) (e:Bool) (got:List Int) (over:Bool) (x:Int):Qsj c f st e got over x = (let Z0:D RC := D.int .i64 0;let Z1:DO_ := some (D.tup (D.acons (D.acons Z0 (D.acons (D.sl RTy.frame true []) (.acons (D.sl RTy.int true []) (.acons (D.bool false) .anil)))) (.acons (D.int .i64 2) .anil)));let Z2:Bool := lenOK st.length;let Z3:Int := (↑st.length:Int);let Z4:DO_ := bif over then Z1 else some (D.tup (D.acons (D.acons (D.int .i64 c) (.acons (D.sl RTy.frame f st) (.acons (D.sl RTy.int true [x]) (.acons (D.bool over) .anil)))) (.acons Z0 .anil)));bif decide (c < (0:Int)) then Z1 else bif decide ((4:Int) <= c) then Z1 else bif lenOK got.length then bif decide ((96:Int) < (↑got.length:Int)) then Z1 else bif over then bif Z2 then bif !Z3 == (0:Int) then Z1 else Z4 else none else bif Z2 then bif decide ((1:Int) <= Z3) then bif Z2 then bif !decide (Z3 <= (6:Int)) then Z1 else Z4 else none else Z1 else none else none) := by kernel_rfl
theorem Qun (c:Int) (f:Bool) (st:List Qe) (e:Bool) (got:List Int) (over:Bool) (x:Int) (h:(decide (0 <= c /\ c <= 3 /\ got.length <= 96 /\ 1 <= st.length /\ st.length <= 6) && !over) = true):Qsj c f st e got over x = some (.tup (.acons (.acons (.int .i64 c) (.acons (.sl (C := RC) .frame f st) (.acons (.sl (C := RC) .int true [x]) (.acons (.bool over) .anil)))) (.acons (.int .i64 0) .anil))) := by
 (rw [Qum];conv => zeta)
 simp only [Bool.and_eq_true,decide_eq_true_eq,Bool.not_eq_true'] at h;obtain ⟨⟨h1,h2,h3,h4,h5⟩,rfl⟩ := h;have c1:decide (c < 0) = false := by simp;omega
 have c2:decide (4 <= c) = false := by simp;omega
 have c3:decide ((96:Int) < got.length) = false := by simp;omega
 have c4:lenOK got.length = true := Qk (by omega)
 have c5:lenOK st.length = true := Qk (by omega)
 have c6:decide ((1:Int) <= st.length) = true := by simp;omega
 have c7:decide ((st.length:Int) <= 6) = true := by simp;omega
 simp only [c1,c2,c3,c4,c5,c6,c7,cond_true,cond_false,Bool.not_true]
noncomputable def uo_8 := uo_7.addSpec 87 Qml
theorem Qmm:Qh Tryz.prog s25 uo_8 := Qmk.addEv Qa fun args d h => by
 unfold Qml at h
 split at h
 · unfold Qsi at h;have h1 := congrArg Prod.fst (Option.some.inj h);obtain rfl:_ = d := congrArg Prod.snd (Option.some.inj h);exact ⟨by simp [D.refs],40,Qun _ _ _ _ _ _ _ h1⟩
 · cases h
noncomputable def Qgk (k:Int) (a:Int) (b:Int) (v:Int) (g:Int) (tx:List UInt8) (ca:Bool) (ar:List Int) (k2:Int) (a2:Int) (b2:Int) (v2:Int) (g2:Int) (tx2:List UInt8) (cb:Bool) (ar2:List Int):Option (Bool × D RC) := some (lenOK ar.length && lenOK ar2.length,.bool (decide ((⟨k,a,b,v,g,tx,ar⟩:Qf) = ⟨k2,a2,b2,v2,g2,tx2,ar2⟩)))
noncomputable def QdM:List (D RC) -> Option (Bool × D RC)
 | [.acons (.int .i8 k) (.acons (.int .i64 a) (.acons (.int .i64 b) (.acons (.int .i64 v) (.acons (.int .i64 g) (.acons (.str tx) (.acons (.sl .int ca ar) .anil)))))),.acons (.int .i8 k2) (.acons (.int .i64 a2) (.acons (.int .i64 b2) (.acons (.int .i64 v2) (.acons (.int .i64 g2) (.acons (.str tx2) (.acons (.sl .int cb ar2) .anil))))))] => Qgk k a b v g tx ca ar k2 a2 b2 v2 g2 tx2 cb ar2
 | _ => none
noncomputable def Qgl (k:Int) (a:Int) (b:Int) (v:Int) (g:Int) (tx:List UInt8) (ca:Bool) (ar:List Int) (k2:Int) (a2:Int) (b2:Int) (v2:Int) (g2:Int) (tx2:List UInt8) (cb:Bool) (ar2:List Int) := evF s25 uo_8 60 84 [.acons (.int .i8 k) (.acons (.int .i64 a) (.acons (.int .i64 b) (.acons (.int .i64 v) (.acons (.int .i64 g) (.acons (.str tx) (.acons (.sl (C := RC) .int ca ar) .anil)))))),.acons (.int .i8 k2) (.acons (.int .i64 a2) (.acons (.int .i64 b2) (.acons (.int .i64 v2) (.acons (.int .i64 g2) (.acons (.str tx2) (.acons (.sl (C := RC) .int cb ar2) .anil))))))]
theorem Qmn (k:Int) (a:Int) (b:Int) (v:Int) (g:Int) (tx:List UInt8) (ca:Bool) (ar:List Int) (k2:Int) (a2:Int) (b2:Int) (v2:Int) (g2:Int) (tx2:List UInt8) (cb:Bool) (ar2:List Int):Qgl k a b v g tx ca ar k2 a2 b2 v2 g2 tx2 cb ar2 = (let Z0:DO_ := some (D.bool false);bif k == k2 then bif a == a2 then bif b == b2 then bif v == v2 then bif g == g2 then bif tx == tx2 then bif lenOK ar.length && lenOK ar2.length then some (D.bool (decide (ar = ar2))) else none else Z0 else Z0 else Z0 else Z0 else Z0 else Z0) := by kernel_rfl
theorem Qmo (k:Int) (a:Int) (b:Int) (v:Int) (g:Int) (tx:List UInt8) (ca:Bool) (ar:List Int) (k2:Int) (a2:Int) (b2:Int) (v2:Int) (g2:Int) (tx2:List UInt8) (cb:Bool) (ar2:List Int) (h:(lenOK ar.length && lenOK ar2.length) = true):Qgl k a b v g tx ca ar k2 a2 b2 v2 g2 tx2 cb ar2 = some (.bool (decide ((⟨k,a,b,v,g,tx,ar⟩:Qf) = ⟨k2,a2,b2,v2,g2,tx2,ar2⟩))) := by
 (rw [Qmn];conv => zeta)
 rw [Bool.and_eq_true] at h;obtain ⟨h1,h2⟩ := h;have no:¬ ((⟨k,a,b,v,g,tx,ar⟩:Qf) = ⟨k2,a2,b2,v2,g2,tx2,ar2⟩) -> some (D.bool (C := RC) false) = some (.bool (decide ((⟨k,a,b,v,g,tx,ar⟩:Qf) = ⟨k2,a2,b2,v2,g2,tx2,ar2⟩))) := fun q => by rw [decide_eq_false q]
 simp only [Qf.mk.injEq] at no ⊢;refine Q4 (fun q1 => ?_) fun q => no (fun e => by rw [e.1] at q;simp at q)
 refine Q4 (fun q2 => ?_) fun q => no (fun e => by rw [e.2.1] at q;simp at q)
 refine Q4 (fun q3 => ?_) fun q => no (fun e => by rw [e.2.2.1] at q;simp at q)
 refine Q4 (fun q4 => ?_) fun q => no (fun e => by rw [e.2.2.2.1] at q;simp at q)
 refine Q4 (fun q5 => ?_) fun q => no (fun e => by rw [e.2.2.2.2.1] at q;simp at q)
 refine Q4 (fun q6 => ?_) fun q => no (fun e => by rw [e.2.2.2.2.2.1] at q;simp at q)
 simp only [h1,h2,Bool.and_self,cond_true];have q1 := eq_of_beq q1;have q2 := eq_of_beq q2;have q3 := eq_of_beq q3;have q4 := eq_of_beq q4;have q5 := eq_of_beq q5;have q6 := eq_of_beq q6;simp only [q1,q2,q3,q4,q5,q6,true_and]
noncomputable def uo_9 := uo_8.addSpec 84 QdM
theorem Qmp:Qh Tryz.prog s25 uo_9 := Qmm.addEv Qa fun args d h => by
 unfold QdM at h
 split at h
 · unfold Qgk at h;have h1 := congrArg Prod.fst (Option.some.inj h);obtain rfl:_ = d := congrArg Prod.snd (Option.some.inj h);exact ⟨by simp [D.refs],60,Qmo _ _ _ _ _ _ _ _ _ _ _ _ _ _ _ _ h1⟩
 · cases h
def sQ (r:List Int):Int := r.getD 2 0 / 8
def aPut (r:List Int):NA := naCs 76 6 r (lStream (sQ r) (r.getD 4 0)) (r.getD 5 0) (YY ⟨r.getD 4 0,r.getD 0 0,r.getD 1 0,r.getD 2 0 % 8,r.getD 3 0⟩) 0
def aCnt (r:List Int):NA := naLd 76 1 r (lRow 45 (sQ r) 3) 0
def aCut (r:List Int):NA := naLd 76 5 r (lRow 48 (sQ r) 3) 0
def aOn (n:Int) (r:List Int):NA := naCs 76 n r (lRow 45 (sQ r) 3) (r.getD 4 0) (r.getD 4 0 + 1) 0
def nApp (k:Int) (r:List Int) (x:Int):NA :=
 if k = 0 \/ k = 3 then aCnt r
 else if k = 1 then naLd 76 2 (r.set 4 x) (lStream (sQ r) x) 0
 else if k = 2 then (if (Q9 x).isSome = true /\ (readO x).offset = r.getD 4 0 then aOn 3 (r.set 5 x)
  else if r.getD 4 0 = 0 then aPut (r.set 5 x)
  else naLd 76 4 (r.set 5 x) (lStream (sQ r) (r.getD 4 0 - 1)) 0)
 else if k = 4 then (if r.getD 0 0 < (readO x).place \/ (readO x).place = r.getD 0 0 /\ r.getD 1 0 <= (readO x).j then naEn 76 4 r [] true
  else if (Q9 x).isSome = false \/ (readO x).offset ≠ r.getD 4 0 - 1 then aCnt r
  else if r.getD 5 0 = 0 then aPut r
  else aCut r)
 else if k = 5 then (if x < (readO (r.getD 5 0)).place then naCs 76 8 r (lRow 48 (sQ r) 3) x (readO (r.getD 5 0)).place 0 else aPut r)
 else if k = 6 then (if x = 0 then aCnt r else aOn 7 r)
 else if k = 7 then naEn 76 7 r [] true
 else aCut r
def fCnt (r:List Int):NA := naLd 77 1 r (lRow 45 (r.getD 0 0) 3) 0
def fCut (r:List Int):NA := naLd 77 3 r (lRow 48 (r.getD 0 0) 3) 0
def bigW:Int := 72057594037927936
def okAp (k:Int) (r got:List Int):Prop :=
 0 <= r.getD 2 0 /\ r.getD 2 0 <= 23 /\ (k = 0 /\ got = [] \/ ∃ x,got = [x] /\ 1 <= k /\ k <= 8 /\ 0 <= x /\ x <= bigW /\ (k = 1 -> x <= 1000000) /\ (2 <= k -> 0 <= r.getD 4 0 /\ r.getD 4 0 <= 1000000) /\ (3 <= k -> 0 <= r.getD 5 0 /\ r.getD 5 0 <= bigW))
def okFe (own:Bool) (k:Int) (r got:List Int):Prop :=
 0 <= r.getD 0 0 /\ r.getD 0 0 <= 2 /\ (k = 0 /\ got = [] \/ ∃ x,got = [x] /\ 1 <= k /\ k <= 4 /\ 0 <= x /\ x <= bigW /\ (k = 1 -> x <= 1000000) /\
  (k = 2 -> bif own then 0 <= r.getD 3 0 /\ r.getD 3 0 <= 1000000 /\ 0 <= r.getD 4 0 /\ r.getD 4 0 <= 1000000 /\ 0 <= r.getD 5 0 /\ r.getD 5 0 <= 15 else 0 <= r.getD 3 0 /\ r.getD 3 0 <= 1000000 /\ 0 <= r.getD 4 0 /\ r.getD 4 0 <= 15) /\
  (k = 3 -> bif own then 0 <= r.getD 5 0 /\ r.getD 5 0 <= 16 else 0 <= r.getD 4 0 /\ r.getD 4 0 <= 16))
def Qwy (own:Bool) (f:Qe) (got:List Int):Prop :=
 f.r.length = 96 /\ (∀ v ∈ f.r,v < 9223372036854775808) /\ (f.prog = 76 /\ okAp f.at' f.r got \/ f.prog = 77 /\ okFe own f.at' f.r got)
theorem Qaj (l:Line):0 <= YY l /\ YY l <= bigW := by
 unfold YY bigW;cases h:ZJ l
 · simp
 · obtain ⟨o,p,j,k,v⟩ := l;unfold ZJ at h;rw [decide_eq_true_eq] at h;unfold QbT;simp only at h ⊢;simp only [cond_true];omega
def nIns (k:Int) (r:List Int) (x:Int):NA :=
 if k = 0 \/ k = 5 then naLd 68 1 r 1 0
 else if k = 1 then naLd 68 2 (r.set 2 x) 0 0
 else if k = 2 then (if x + r.getD 0 0 < r.getD 2 0 then naEn 68 2 r [170] true else if 1048575 < r.getD 2 0 then naEn 68 2 r [172] true else naLd 68 3 r 4 0)
 else if k = 3 then (if x < r.getD 2 0 - 32 then naEn 68 3 r [171] true else naLd 68 4 r (lRing (r.getD 2 0) (r.getD 0 0)) 0)
 else if k = 4 then (if plc x = r.getD 2 0 then naCs 68 5 (r.set 3 x) 1 (r.getD 2 0) (r.getD 2 0 + 1) 0 else if r.getD 2 0 < plc x then naLd 68 1 (r.set 3 x) 1 0
  else naCs 68 6 (r.set 3 x) (lRing (r.getD 2 0) (r.getD 0 0)) x (wordN (r.getD 2 0) (r.getD 1 0)) 0)
 else if k = 6 then (if x = 0 then naLd 68 1 r 1 0 else naCs 68 7 r 1 (r.getD 2 0) (r.getD 2 0 + 1) 0)
 else naEn 68 7 r [0,r.getD 2 0] true
def sCell (h f:Int):Int := if h < 0 then -1 else lField 291 (h % 256) f 160 3
def nInr (own:Bool) (k:Int) (r:List Int) (x:Int):NA :=
 if k = 0 then (if lRow 21 (r.getD 2 0) 24 < 0 then naEn 73 (bif own then 99 else 0) r [] true else naLd 73 1 r (lRow 21 (r.getD 2 0) 24) 0)
 else if k = 1 then (if sCell (r.getD 1 0) 1 < 0 \/ r.getD 0 0 <= plc (max x 0) then naEn 73 (bif own then 99 else 1) (r.set 3 (max x 0)) [] true
  else naCs 73 2 (r.set 3 (max x 0)) (sCell (r.getD 1 0) 1) (-1) (max x 0) (r.getD 1 0))
 else if k = 2 then naCs 73 3 r (lRow 21 (r.getD 2 0) 24) (r.getD 3 0) (wordN (r.getD 0 0) (r.getD 1 0)) 0
 else naEn 73 (bif own then 99 else 3) r [] true
def hDesc (d f:Int):Int := lField 99 (inWord d % 256) f 16 12
def hKey (r:List Int) (j:Nat):Int := r.getD (8 + j) 0 / 256
def hVal (r:List Int) (j:Nat):Int := r.getD (8 + j) 0 % 256
def hMany (r:List Int):Nat := (min (r.getD 5 0) 4).toNat
def hRec (r:List Int) (o:Int):Rec := ⟨r.getD 2 0 + 1,decide (o = 1),if o = 1 then (List.range (hMany r)).map fun j => ⟨hKey r j,hVal r j⟩ else []⟩
def hBeg (r:List Int):NA := naLd 100 1 r 0 0
def hOf (k:Int) (r:List Int) (f:Int):NA := naLd 100 k r (hDesc (r.getD 3 0) f) (r.getD 3 0)
def hWrs (r:List Int):NA := if (r.getD 6 0).toNat < hMany r then hOf 5 r (4 + r.getD 6 0) else hOf 7 r 1
def hDec (r:List Int) (o:Int):NA := naCs 100 9 (r.set 7 o) (hDesc (r.getD 3 0) 1) 0 o (r.getD 3 0)
def hHds (r:List Int):NA := if (r.getD 6 0).toNat < hMany r then naLd 100 8 r (lRow 21 (hKey r (r.getD 6 0).toNat) 24) 0 else hDec r 1
def hPut (r:List Int) (o:Int):NA := naPt 100 11 (r.set 7 o) (bif mayB (hRec r o) then secI (r.getD 2 0 + 1) else 0) (r.getD 2 0 + 1) (entL (hRec r o))
def hApp (r:List Int):NA := if r.getD 7 0 = 1 /\ (r.getD 6 0).toNat < hMany r then naCl 100 13 r 73 [r.getD 2 0 + 1,r.getD (12 + (r.getD 6 0).toNat) 0,hKey r (r.getD 6 0).toNat]
 else naCs 100 15 r 0 (r.getD 2 0) (r.getD 2 0 + 1) 0
def nHlp (own:Bool) (k:Int) (r:List Int) (x:Int):NA :=
 if k = 0 \/ k = 15 then hBeg r
 else if k = 1 then (if r.getD 0 0 <= x then naEn 100 1 (r.set 2 x) [] true else naLd 100 2 (r.set 2 x) (lRing (x + 1) (r.getD 1 0)) 0)
 else if k = 2 then (if plc x = r.getD 2 0 + 1 then hOf 3 (r.set 3 (bare x)) 2 else hBeg r)
 else if k = 3 then hOf 4 (r.set 4 x) 3
 else if k = 4 then hWrs ((r.set 5 x).set 6 0)
 else if k = 5 then hOf 6 (r.set (8 + (r.getD 6 0).toNat) x) (8 + r.getD 6 0)
 else if k = 6 then hWrs ((r.set (12 + (r.getD 6 0).toNat) x).set 6 (r.getD 6 0 + 1))
 else if k = 7 then (if x = 0 then hHds (r.set 6 0) else hPut (r.set 6 0) x)
 else if k = 8 then (if r.getD 4 0 < plc x then hDec r 2 else hHds (r.set 6 (r.getD 6 0 + 1)))
 else if k = 9 then hOf 10 r 1
 else if k = 10 then hPut (bif own then r else r.set 6 0) x
 else if k = 11 then naSy 100 12 r
 else if k = 12 then hApp (bif own then r.set 6 0 else r)
 else if k = 13 then naCl 100 14 r 76 [r.getD 2 0 + 1,r.getD 6 0,hKey r (r.getD 6 0).toNat,hVal r (r.getD 6 0).toNat]
 else hApp (r.set 6 (r.getD 6 0 + 1))
def nHp (own:Bool) (f:Qe) (got:List Int):NA :=
 if f.prog = 68 then nIns f.at' f.r (got.headD 0) else if f.prog = 73 then nInr own f.at' f.r (got.headD 0) else if f.prog = 76 then nApp f.at' f.r (got.headD 0) else nHlp own f.at' f.r (got.headD 0)
def Qwz (k:Int) (r got:List Int):Prop := k = 0 /\ got = [] \/ ∃ x,got = [x] /\ 1 <= k /\ k <= 7 /\ 0 <= x /\ x <= bigW /\ (k = 2 -> x <= 1048576) /\
 (2 <= k -> 0 <= r.getD 2 0 /\ r.getD 2 0 <= 1048576) /\ 2 <= r.getD 0 0 /\ r.getD 0 0 <= 8 /\ 256 <= r.getD 1 0 /\ r.getD 1 0 <= 300
def QwA (k:Int) (r got:List Int):Prop := 0 <= r.getD 2 0 /\ r.getD 2 0 <= 23 /\ (k = 0 /\ got = [] \/ ∃ x,got = [x] /\ 1 <= k /\ k <= 3 /\ 0 <= x /\ x <= bigW /\ 256 <= r.getD 1 0 /\ r.getD 1 0 <= 400)
def okWs (m:Nat) (r:List Int):Prop := ∀ j,j < m -> 0 <= r.getD (8 + j) 0 /\ r.getD (8 + j) 0 <= 6143
def Quo (own:Bool) (k:Int) (r got:List Int):Prop :=
 2 <= r.getD 1 0 /\ r.getD 1 0 <= 8 /\ (k = 0 /\ got = [] \/ (k = 13 \/ k = 14) /\ got = [] /\ 0 <= r.getD 2 0 /\ r.getD 2 0 <= 1048574 /\ 0 <= r.getD 5 0 /\ r.getD 5 0 <= 4 /\ 0 <= r.getD 6 0 /\ r.getD 6 0 < r.getD 5 0 /\ okWs (hMany r) r \/
 ∃ x,got = [x] /\ 1 <= k /\ k <= 15 /\ k ≠ 13 /\ k ≠ 14 /\ 0 <= x /\ x <= bigW /\ (k = 1 -> x <= 1048575) /\ (2 <= k -> k <= 14 -> 0 <= r.getD 2 0 /\ r.getD 2 0 <= 1048574) /\
 (3 <= k -> k <= 14 -> 0 <= r.getD 3 0 /\ r.getD 3 0 <= bigW) /\
 (k = 4 -> x <= 4) /\ (5 <= k -> k <= 14 -> 0 <= r.getD 5 0 /\ r.getD 5 0 <= 4) /\ ((k = 5 \/ k = 6 \/ k = 8) -> 0 <= r.getD 6 0 /\ r.getD 6 0 < r.getD 5 0) /\
 (k = 12 -> own = false -> r.getD 6 0 = 0) /\ (7 <= k -> k <= 14 -> okWs (hMany r) r))
def okHp (own:Bool) (f:Qe) (got:List Int):Prop :=
 f.r.length = 96 /\ (∀ v ∈ f.r,v < 9223372036854775808) /\ (f.prog = 68 /\ Qwz f.at' f.r got \/ f.prog = 73 /\ QwA f.at' f.r got \/ f.prog = 76 /\ okAp f.at' f.r got \/ f.prog = 100 /\ Quo own f.at' f.r got)
open Go.Proofs
theorem QwB {n:Int} (k:Nat) (h:0 <= n):(n.fdiv (2 ^ k) == 0) = decide (n < 2 ^ k) := by
 have hp:(0:Int) < 2 ^ k := Int.pow_pos (by decide)
 rw [Int.fdiv_eq_ediv_of_nonneg _ (Int.le_of_lt hp)]
 by_cases q:n < 2 ^ k
 · rw [decide_eq_true q,Int.ediv_eq_zero_of_lt h q];rfl
 · rw [decide_eq_false q]
   have:n / 2 ^ k ≠ 0 := fun e => q (by
    have h1 := Int.ediv_mul_add_emod n (2 ^ k);have h2 := Int.emod_lt_of_pos n hp;rw [e] at h1;omega)
   simpa using this
theorem JD {o p j k v:Int} (h:¬ (0 <= o /\ o < 4194304 /\ 1 <= p /\ p <= 1048575 /\ 0 <= j /\ j <= 3 /\ 0 <= k /\ k <= 7 /\ 0 <= v /\ v <= 255)):ZJ ⟨o,p,j,k,v⟩ = false := decide_eq_false h
theorem JE {o p j k v:Int} (h:0 <= o /\ o < 4194304 /\ 1 <= p /\ p <= 1048575 /\ 0 <= j /\ j <= 3 /\ 0 <= k /\ k <= 7 /\ 0 <= v /\ v <= 255):ZJ ⟨o,p,j,k,v⟩ = true := decide_eq_true h
def Qmq (n:Int) (a:Int) (b:Int):Option (Bool × D RC) := some (decide (0 <= a /\ 0 <= b /\ b <= 63),.bool (decide (a <= n /\ n < 2 ^ b.toNat)))
def Qgm:List (D RC) -> Option (Bool × D RC)
 | [.int .i64 n,.int .i64 a,.int .i64 b] => Qmq n a b
 | _ => none
noncomputable def Qmr (n:Int) (a:Int) (b:Int) := evF s25 uo_9 20 273 [.int .i64 n,.int .i64 a,.int .i64 b]
theorem Qp8 (n:Int) (a:Int) (b:Int):Qmr n a b = (bif decide (a <= n) then bif decide (b < (0:Int)) then none else some (D.bool (Int.fdiv n ((2:Int) ^ min b.toNat (64:Nat)) == (0:Int))) else some (D.bool false)) := by kernel_rfl
theorem Qp9 (n:Int) (a:Int) (b:Int) (h:(decide (0 <= a /\ 0 <= b /\ b <= 63)) = true):Qmr n a b = some (.bool (decide (a <= n /\ n < 2 ^ b.toNat))) := by
 rw [Qp8];obtain ⟨h1,h2,h3⟩ := of_decide_eq_true h;have hm:min b.toNat 64 = b.toNat := by omega
 rw [decide_eq_false (show ¬ b < 0 by omega),hm]
 simp only [cond_false];refine QC (fun q => ?_) fun q => ?_
 · have q := of_decide_eq_true q;rw [QwB _ (by omega)]
   by_cases q2:n < 2 ^ b.toNat
   · rw [decide_eq_true q2,decide_eq_true (show a <= n /\ n < 2 ^ b.toNat from ⟨q,q2⟩)]
   · rw [decide_eq_false q2,decide_eq_false (fun e => q2 e.2)]
 · have q := of_decide_eq_false q;rw [decide_eq_false (fun e => q e.1)]
noncomputable def up_1 := uo_9.addSpec 273 Qgm
theorem Qms:Qh Tryz.prog s25 up_1 := Qmp.addEv Qa fun args d h => by
 unfold Qgm at h
 split at h
 · unfold Qmq at h;have h1 := congrArg Prod.fst (Option.some.inj h);obtain rfl:_ = d := congrArg Prod.snd (Option.some.inj h);exact ⟨by simp [D.refs],20,Qp9 _ _ _ h1⟩
 · cases h
def Qmt (o:Int) (p:Int) (j:Int) (k:Int) (v:Int):Option (Bool × D RC) := some (true,.bool (ZJ ⟨o,p,j,k,v⟩))
def Qgn:List (D RC) -> Option (Bool × D RC)
 | [.acons (.int .i64 o) (.acons (.int .i64 p) (.acons (.int .i64 j) (.acons (.int .i64 k) (.acons (.int .i64 v) .anil))))] => Qmt o p j k v
 | _ => none
noncomputable def Qmu (o:Int) (p:Int) (j:Int) (k:Int) (v:Int) := evF s25 up_1 40 101 [.acons (.int .i64 o) (.acons (.int .i64 p) (.acons (.int .i64 j) (.acons (.int .i64 k) (.acons (.int .i64 v) .anil))))]
theorem Qqa (o:Int) (p:Int) (j:Int) (k:Int) (v:Int):Qmu o p j k v = (let Z0:DO_ := some (D.bool false);bif decide ((0:Int) <= o) then bif decide (o < (4194304:Int)) then bif decide ((1:Int) <= p) then bif decide (p <= (1048575:Int)) then bif decide ((0:Int) <= j) then bif decide (j < (4:Int)) then bif decide ((0:Int) <= k) then bif decide (k < (8:Int)) then bif decide ((0:Int) <= v) then some (D.bool (decide (v <= (255:Int)))) else Z0 else Z0 else Z0 else Z0 else Z0 else Z0 else Z0 else Z0 else Z0) := by kernel_rfl
theorem Qqb (o:Int) (p:Int) (j:Int) (k:Int) (v:Int) (h:(true) = true):Qmu o p j k v = some (.bool (ZJ ⟨o,p,j,k,v⟩)) := by
 (rw [Qqa];conv => zeta)
 have no:(¬ (0 <= o /\ o < 4194304 /\ 1 <= p /\ p <= 1048575 /\ 0 <= j /\ j <= 3 /\ 0 <= k /\ k <= 7 /\ 0 <= v /\ v <= 255)) -> some (D.bool (C := RC) false) = some (.bool (ZJ ⟨o,p,j,k,v⟩)) := fun e => by rw [JD e]
 iterate 9
  refine QC (fun _ => ?_) fun e => no (by simp only [decide_eq_false_iff_not] at e;omega)
 simp only [decide_eq_true_eq] at *
 by_cases q:v <= 255
 · rw [decide_eq_true q,JE (by omega)]
 · rw [decide_eq_false q];exact no (by omega)
noncomputable def up_2 := up_1.addSpec 101 Qgn
theorem Qmv:Qh Tryz.prog s25 up_2 := Qms.addEv Qa fun args d h => by
 unfold Qgn at h
 split at h
 · unfold Qmt at h;have h1 := congrArg Prod.fst (Option.some.inj h);obtain rfl:_ = d := congrArg Prod.snd (Option.some.inj h);exact ⟨by simp [D.refs],40,Qqb _ _ _ _ _ h1⟩
 · cases h
def Qgo (o:Int) (p:Int) (j:Int) (k:Int) (v:Int):Option (Bool × D RC) := some (true,.tup (.acons (.int .i64 (YY ⟨o,p,j,k,v⟩)) (.acons (.int .i64 (bif ZJ ⟨o,p,j,k,v⟩ then 0 else 2)) .anil)))
def QdN:List (D RC) -> Option (Bool × D RC)
 | [.acons (.int .i64 o) (.acons (.int .i64 p) (.acons (.int .i64 j) (.acons (.int .i64 k) (.acons (.int .i64 v) .anil))))] => Qgo o p j k v
 | _ => none
noncomputable def Qgp (o:Int) (p:Int) (j:Int) (k:Int) (v:Int) := evF s25 up_2 60 247 [.acons (.int .i64 o) (.acons (.int .i64 p) (.acons (.int .i64 j) (.acons (.int .i64 k) (.acons (.int .i64 v) .anil))))]
theorem Qmw (o:Int) (p:Int) (j:Int) (k:Int) (v:Int):Qgp o p j k v = (let Z0:D RC := D.int .i64 0;let Z1:DO_ := some (D.tup (D.acons Z0 (D.acons (D.int .i64 2) .anil)));bif decide ((0:Int) <= o /\ o < (4194304:Int)) then bif decide ((1:Int) <= p /\ p < (1048576:Int)) then bif decide ((0:Int) <= j /\ j < (4:Int)) then bif decide ((0:Int) <= k /\ k < (8:Int)) then bif !decide ((0:Int) <= v /\ v < (256:Int)) then Z1 else some (D.tup (D.acons (D.int .i64 (bits .i64 (fun (x:Nat) (u v:BitVec x) => u ||| v) (bits .i64 (fun (x:Nat) (u v:BitVec x) => u ||| v) (bits .i64 (fun (x:Nat) (u v:BitVec x) => u ||| v) (bits .i64 (fun (x:Nat) (u v:BitVec x) => u ||| v) (IntKind.wrap .i64 (IntKind.wrap .i64 (o + (1:Int)) * (8589934592:Int))) (IntKind.wrap .i64 (p * (8192:Int)))) (IntKind.wrap .i64 (j * (2048:Int)))) (IntKind.wrap .i64 (k * (256:Int)))) v)) (.acons Z0 .anil))) else Z1 else Z1 else Z1 else Z1) := by kernel_rfl
theorem Qmx (o:Int) (p:Int) (j:Int) (k:Int) (v:Int) (h:(true) = true):Qgp o p j k v = some (.tup (.acons (.int .i64 (YY ⟨o,p,j,k,v⟩)) (.acons (.int .i64 (bif ZJ ⟨o,p,j,k,v⟩ then 0 else 2)) .anil))) := by
 (rw [Qmw];conv => zeta)
 have no:(¬ (0 <= o /\ o < 4194304 /\ 1 <= p /\ p <= 1048575 /\ 0 <= j /\ j <= 3 /\ 0 <= k /\ k <= 7 /\ 0 <= v /\ v <= 255)) -> some (D.tup (C := RC) (.acons (.int .i64 0) (.acons (.int .i64 2) .anil))) = some (.tup (.acons (.int .i64 (YY ⟨o,p,j,k,v⟩)) (.acons (.int .i64 (bif ZJ ⟨o,p,j,k,v⟩ then 0 else 2)) .anil))) := fun e => by simp only [YY,JD e];rfl
 iterate 4
  refine QC (fun _ => ?_) fun e => no (by simp only [decide_eq_false_iff_not] at e;omega)
 refine QC (fun e => no (by simp only [Bool.not_eq_true',decide_eq_false_iff_not] at e;omega)) fun e => ?_
 simp only [Bool.not_eq_false',decide_eq_true_eq] at *
 have hm:ZJ ⟨o,p,j,k,v⟩ = true := JE (by omega)
 have w1:IntKind.i64.wrap (o + 1) = o + 1 := Qb (by omega) (by omega)
 have w2:IntKind.i64.wrap ((o + 1) * 8589934592) = (o + 1) * 8589934592 := Qb (by omega) (by omega)
 have w3:IntKind.i64.wrap (p * 8192) = p * 8192 := Qb (by omega) (by omega)
 have w4:IntKind.i64.wrap (j * 2048) = j * 2048 := Qb (by omega) (by omega)
 have w5:IntKind.i64.wrap (k * 256) = k * 256 := Qb (by omega) (by omega)
 simp only [YY,hm,w1,w2,w3,w4,w5,cond_true,Qpq hm]
noncomputable def up_3 := up_2.addSpec 247 QdN
theorem Qmy:Qh Tryz.prog s25 up_3 := Qmv.addEv Qa fun args d h => by
 unfold QdN at h
 split at h
 · unfold Qgo at h;have h1 := congrArg Prod.fst (Option.some.inj h);obtain rfl:_ = d := congrArg Prod.snd (Option.some.inj h);exact ⟨by simp [D.refs],60,Qmx _ _ _ _ _ h1⟩
 · cases h
def Qgq (o:Int) (p:Int) (j:Int) (k:Int) (v:Int):Option (Bool × D RC) := some (true,.tup (.acons (.int .i64 (YY ⟨o,p,j,k,v⟩)) (.acons (.int .i64 (bif ZJ ⟨o,p,j,k,v⟩ then 0 else 2)) .anil)))
def QdO:List (D RC) -> Option (Bool × D RC)
 | [.acons (.int .i64 o) (.acons (.int .i64 p) (.acons (.int .i64 j) (.acons (.int .i64 k) (.acons (.int .i64 v) .anil))))] => Qgq o p j k v
 | _ => none
noncomputable def Qgr (o:Int) (p:Int) (j:Int) (k:Int) (v:Int) := evF s25 up_3 60 287 [.acons (.int .i64 o) (.acons (.int .i64 p) (.acons (.int .i64 j) (.acons (.int .i64 k) (.acons (.int .i64 v) .anil))))]
theorem Qmz (o:Int) (p:Int) (j:Int) (k:Int) (v:Int):Qgr o p j k v = (let Z0:D RC := D.int .i64 0;bif !ZJ (Line.mk o p j k v) then some (D.tup (D.acons Z0 (D.acons (D.int .i64 2) .anil))) else some (D.tup (D.acons (D.int .i64 (IntKind.wrap .i64 (IntKind.wrap .i64 (IntKind.wrap .i64 (IntKind.wrap .i64 (IntKind.wrap .i64 (IntKind.wrap .i64 (IntKind.wrap .i64 (o + (1:Int)) * (1048576:Int)) + p) * (8192:Int)) + IntKind.wrap .i64 (j * (2048:Int))) + IntKind.wrap .i64 (k * (256:Int))) + v))) (.acons Z0 .anil)))) := by kernel_rfl
theorem QmA (o:Int) (p:Int) (j:Int) (k:Int) (v:Int) (h:(true) = true):Qgr o p j k v = some (.tup (.acons (.int .i64 (YY ⟨o,p,j,k,v⟩)) (.acons (.int .i64 (bif ZJ ⟨o,p,j,k,v⟩ then 0 else 2)) .anil))) := by
 (rw [Qmz];conv => zeta)
 by_cases q:0 <= o /\ o < 4194304 /\ 1 <= p /\ p <= 1048575 /\ 0 <= j /\ j <= 3 /\ 0 <= k /\ k <= 7 /\ 0 <= v /\ v <= 255
 · have hm := JE q;have w1:IntKind.i64.wrap (o + 1) = o + 1 := Qb (by omega) (by omega)
   have w2:IntKind.i64.wrap ((o + 1) * 1048576) = (o + 1) * 1048576 := Qb (by omega) (by omega)
   have w3:IntKind.i64.wrap ((o + 1) * 1048576 + p) = (o + 1) * 1048576 + p := Qb (by omega) (by omega)
   have w4:IntKind.i64.wrap (((o + 1) * 1048576 + p) * 8192) = ((o + 1) * 1048576 + p) * 8192 := Qb (by omega) (by omega)
   have w5:IntKind.i64.wrap (j * 2048) = j * 2048 := Qb (by omega) (by omega)
   have w6:IntKind.i64.wrap (((o + 1) * 1048576 + p) * 8192 + j * 2048) = ((o + 1) * 1048576 + p) * 8192 + j * 2048 := Qb (by omega) (by omega)
   have w7:IntKind.i64.wrap (k * 256) = k * 256 := Qb (by omega) (by omega)
   have w8:IntKind.i64.wrap (((o + 1) * 1048576 + p) * 8192 + j * 2048 + k * 256) = ((o + 1) * 1048576 + p) * 8192 + j * 2048 + k * 256 := Qb (by omega) (by omega)
   have w9:IntKind.i64.wrap (((o + 1) * 1048576 + p) * 8192 + j * 2048 + k * 256 + v) = QbT ⟨o,p,j,k,v⟩ := by rw [Qb (by omega) (by omega)];unfold QbT;simp only;omega
   simp only [YY,hm,w1,w2,w3,w4,w5,w6,w7,w8,w9,cond_true,Bool.not_true,cond_false]
 · have hm := JD q;simp only [YY,hm,Bool.not_false,cond_true,cond_false]
noncomputable def up_4 := up_3.addSpec 287 QdO
theorem QmB:Qh Tryz.prog s25 up_4 := Qmy.addEv Qa fun args d h => by
 unfold QdO at h
 split at h
 · unfold Qgq at h;have h1 := congrArg Prod.fst (Option.some.inj h);obtain rfl:_ = d := congrArg Prod.snd (Option.some.inj h);exact ⟨by simp [D.refs],60,QmA _ _ _ _ _ h1⟩
 · cases h
theorem Qgs {w:Int} (h0:0 <= w) (h1:w < 9223372036854775808) :
 IntKind.i64.wrap (w.fdiv 8589934592 - 1) = (VT w).offset /\ bits .i64 (fun _ u v => u &&& v) (w.fdiv 8192) 1048575 = (VT w).place /\ bits .i64 (fun _ u v => u &&& v) (w.fdiv 2048) 3 = (VT w).j /\
 bits .i64 (fun _ u v => u &&& v) (w.fdiv 256) 7 = (VT w).key /\ bits .i64 (fun _ u v => u &&& v) w 255 = (VT w).value := by
 have f1:w.fdiv 8589934592 = w / 8589934592 := Int.fdiv_eq_ediv_of_nonneg _ (by decide)
 have f2:w.fdiv 8192 = w / 8192 := Int.fdiv_eq_ediv_of_nonneg _ (by decide)
 have f3:w.fdiv 2048 = w / 2048 := Int.fdiv_eq_ediv_of_nonneg _ (by decide)
 have f4:w.fdiv 256 = w / 256 := Int.fdiv_eq_ediv_of_nonneg _ (by decide)
 rw [f1,f2,f3,f4];refine ⟨Qb (by omega) (by omega),?_,?_,?_,?_⟩
 · exact Zy _ 1048575 20 (by decide) (by omega) (by omega) (by decide)
 · exact Zy _ 3 2 (by decide) (by omega) (by omega) (by decide)
 · exact Zy _ 7 3 (by decide) (by omega) (by omega) (by decide)
 · exact Zy _ 255 8 (by decide) (by omega) (by omega) (by decide)
theorem QdP {w:Int} (h:w < 0):Q9 w = none := if_neg (fun e => by omega)
theorem QdQ {w:Int} (h:0 <= w) (hm:ZJ (VT w) = true):Q9 w = some (VT w) := if_pos ⟨h,hm⟩
theorem Qgt {w:Int} (hm:ZJ (VT w) = false):Q9 w = none := if_neg (fun e => by rw [hm] at e;cases e.2)
def Qgu (w:Int):Option (Bool × D RC) := some (decide (w < 9223372036854775808),.tup (.acons (.acons (.int .i64 (readO w).offset) (.acons (.int .i64 (readO w).place) (.acons (.int .i64 (readO w).j) (.acons (.int .i64 (readO w).key) (.acons (.int .i64 (readO w).value) .anil))))) (.acons (.bool (Q9 w).isSome) .anil)))
def QdR:List (D RC) -> Option (Bool × D RC)
 | [.int .i64 w] => Qgu w
 | _ => none
noncomputable def Qgv (w:Int) := evF s25 up_4 60 206 [.int .i64 w]
theorem QmC (w:Int):Qgv w = (let Z0:D RC := D.int .i64 0;let Z1:DO_ := some (D.tup (D.acons (D.acons Z0 (D.acons Z0 (D.acons Z0 (D.acons Z0 (D.acons Z0 .anil))))) (.acons (D.bool false) .anil)));let Z2:Int := IntKind.wrap .i64 (Int.fdiv w (8589934592:Int) - (1:Int));let Z3:Int := bits .i64 (fun (x:Nat) (u v:BitVec x) => u &&& v) (Int.fdiv w (8192:Int)) (1048575:Int);let Z4:Int := bits .i64 (fun (x:Nat) (u v:BitVec x) => u &&& v) (Int.fdiv w (2048:Int)) (3:Int);let Z5:Int := bits .i64 (fun (x:Nat) (u v:BitVec x) => u &&& v) (Int.fdiv w (256:Int)) (7:Int);let Z6:Int := bits .i64 (fun (x:Nat) (u v:BitVec x) => u &&& v) w (255:Int);bif decide (w < (0:Int)) then Z1 else bif decide ((0:Int) <= Z2 /\ Z2 < (4194304:Int)) then bif decide ((1:Int) <= Z3 /\ Z3 < (1048576:Int)) then bif decide ((0:Int) <= Z4 /\ Z4 < (4:Int)) then bif decide ((0:Int) <= Z5 /\ Z5 < (8:Int)) then bif !decide ((0:Int) <= Z6 /\ Z6 < (256:Int)) then Z1 else some (D.tup (D.acons (D.acons (D.int .i64 Z2) (.acons (D.int .i64 Z3) (.acons (D.int .i64 Z4) (.acons (D.int .i64 Z5) (.acons (D.int .i64 Z6) .anil))))) (.acons (D.bool true) .anil))) else Z1 else Z1 else Z1 else Z1) := by kernel_rfl
theorem QmD (w:Int) (h:(decide (w < 9223372036854775808)) = true):Qgv w = some (.tup (.acons (.acons (.int .i64 (readO w).offset) (.acons (.int .i64 (readO w).place) (.acons (.int .i64 (readO w).j) (.acons (.int .i64 (readO w).key) (.acons (.int .i64 (readO w).value) .anil))))) (.acons (.bool (Q9 w).isSome) .anil))) := by
 (rw [QmC];conv => zeta)
 have h1 := of_decide_eq_true h;have no:Q9 w = none -> some (D.tup (C := RC) (.acons (.acons (.int .i64 0) (.acons (.int .i64 0) (.acons (.int .i64 0) (.acons (.int .i64 0) (.acons (.int .i64 0) .anil))))) (.acons (.bool false) .anil))) = some (.tup (.acons (.acons (.int .i64 (readO w).offset) (.acons (.int .i64 (readO w).place) (.acons (.int .i64 (readO w).j) (.acons (.int .i64 (readO w).key) (.acons (.int .i64 (readO w).value) .anil))))) (.acons (.bool (Q9 w).isSome) .anil))) := fun e => by simp only [readO,e];rfl
 refine QC (fun q => no (QdP (of_decide_eq_true q))) fun q => ?_;have q := of_decide_eq_false q;obtain ⟨a1,a2,a3,a4,a5⟩ := Qgs (by omega) h1
 rw [a1,a2,a3,a4,a5];generalize hl:VT w = l;have no2:ZJ l = false -> Q9 w = none := fun e => Qgt (by rw [hl];exact e)
 obtain ⟨o,p,j,k,v⟩ := l;have no3:¬ (0 <= o /\ o < 4194304 /\ 1 <= p /\ p <= 1048575 /\ 0 <= j /\ j <= 3 /\ 0 <= k /\ k <= 7 /\ 0 <= v /\ v <= 255) -> Q9 w = none := fun e => no2 (JD e);simp only
 iterate 4
  refine QC (fun _ => ?_) fun e => no (no3 (by simp only [decide_eq_false_iff_not] at e;omega))
 refine QC (fun e => no (no3 (by simp only [Bool.not_eq_true',decide_eq_false_iff_not] at e;omega))) fun e => ?_
 simp only [Bool.not_eq_false',decide_eq_true_eq] at *
 have hm:ZJ (VT w) = true := by rw [hl];exact JE (by omega)
 simp only [readO,QdQ (by omega) hm,Option.getD_some,hl]
 rfl
noncomputable def up_5 := up_4.addSpec 206 QdR
theorem QmE:Qh Tryz.prog s25 up_5 := QmB.addEv Qa fun args d h => by
 unfold QdR at h
 split at h
 · unfold Qgu at h;have h1 := congrArg Prod.fst (Option.some.inj h);obtain rfl:_ = d := congrArg Prod.snd (Option.some.inj h);exact ⟨by simp [D.refs],60,QmD _ h1⟩
 · cases h
def Qgw (w:Int):Option (Bool × D RC) := some (decide (w < 9223372036854775808),.tup (.acons (.acons (.int .i64 (readO w).offset) (.acons (.int .i64 (readO w).place) (.acons (.int .i64 (readO w).j) (.acons (.int .i64 (readO w).key) (.acons (.int .i64 (readO w).value) .anil))))) (.acons (.bool (Q9 w).isSome) .anil)))
def QdS:List (D RC) -> Option (Bool × D RC)
 | [.int .i64 w] => Qgw w
 | _ => none
noncomputable def Qgx (w:Int) := evF s25 up_5 60 47 [.int .i64 w]
theorem QmF (w:Int):Qgx w = (let Z0:D RC := D.int .i64 0;let Z1:DO_ := some (D.tup (D.acons (D.acons Z0 (D.acons Z0 (D.acons Z0 (D.acons Z0 (D.acons Z0 .anil))))) (.acons (D.bool false) .anil)));let Z2:Int := IntKind.wrap .i64 (Int.fdiv w (8589934592:Int) - (1:Int));let Z3:Int := bits .i64 (fun (x:Nat) (u v:BitVec x) => u &&& v) (Int.fdiv w (8192:Int)) (1048575:Int);let Z4:Int := bits .i64 (fun (x:Nat) (u v:BitVec x) => u &&& v) (Int.fdiv w (2048:Int)) (3:Int);let Z5:Int := bits .i64 (fun (x:Nat) (u v:BitVec x) => u &&& v) (Int.fdiv w (256:Int)) (7:Int);let Z6:Int := bits .i64 (fun (x:Nat) (u v:BitVec x) => u &&& v) w (255:Int);bif decide (w < (0:Int)) then Z1 else bif !ZJ (Line.mk Z2 Z3 Z4 Z5 Z6) then Z1 else some (D.tup (D.acons (D.acons (D.int .i64 Z2) (.acons (D.int .i64 Z3) (.acons (D.int .i64 Z4) (.acons (D.int .i64 Z5) (.acons (D.int .i64 Z6) .anil))))) (.acons (D.bool true) .anil)))) := by kernel_rfl
theorem QmG (w:Int) (h:(decide (w < 9223372036854775808)) = true):Qgx w = some (.tup (.acons (.acons (.int .i64 (readO w).offset) (.acons (.int .i64 (readO w).place) (.acons (.int .i64 (readO w).j) (.acons (.int .i64 (readO w).key) (.acons (.int .i64 (readO w).value) .anil))))) (.acons (.bool (Q9 w).isSome) .anil))) := by
 (rw [QmF];conv => zeta)
 have h1 := of_decide_eq_true h;have no:Q9 w = none -> some (D.tup (C := RC) (.acons (.acons (.int .i64 0) (.acons (.int .i64 0) (.acons (.int .i64 0) (.acons (.int .i64 0) (.acons (.int .i64 0) .anil))))) (.acons (.bool false) .anil))) = some (.tup (.acons (.acons (.int .i64 (readO w).offset) (.acons (.int .i64 (readO w).place) (.acons (.int .i64 (readO w).j) (.acons (.int .i64 (readO w).key) (.acons (.int .i64 (readO w).value) .anil))))) (.acons (.bool (Q9 w).isSome) .anil))) := fun e => by simp only [readO,e];rfl
 refine QC (fun q => no (QdP (of_decide_eq_true q))) fun q => ?_;have q := of_decide_eq_false q;obtain ⟨a1,a2,a3,a4,a5⟩ := Qgs (by omega) h1
 rw [a1,a2,a3,a4,a5];cases hm:ZJ (VT w)
 · exact QW rfl (no (Qgt hm))
 refine Qev rfl ?_;simp only [readO,QdQ (by omega) hm]
 rfl
noncomputable def up_6 := up_5.addSpec 47 QdS
theorem QmH:Qh Tryz.prog s25 up_6 := QmE.addEv Qa fun args d h => by
 unfold QdS at h
 split at h
 · unfold Qgw at h;have h1 := congrArg Prod.fst (Option.some.inj h);obtain rfl:_ = d := congrArg Prod.snd (Option.some.inj h);exact ⟨by simp [D.refs],60,QmG _ h1⟩
 · cases h
open Go.Proofs
def Vc (r:List Int):List Qc := (List.range (hMany r - (r.getD 6 0).toNat)).map fun t => ⟨hKey r ((r.getD 6 0).toNat + t),hVal r ((r.getD 6 0).toNat + t)⟩
structure OkHd (r:List Int) (ws:List Qc):Prop where
 len:r.length = 96
 r5:0 <= r.getD 5 0 /\ r.getD 5 0 <= 4
 r6:0 <= r.getD 6 0 /\ r.getD 6 0 <= r.getD 5 0
 wk:okWs (hMany r) r
 wl:ws.length = (r.getD 6 0).toNat
theorem Qim {r:List Int} {ws:List Qc} (h:OkHd r ws) (hlt:r.getD 6 0 < r.getD 5 0):Vc r = ⟨hKey r (r.getD 6 0).toNat,hVal r (r.getD 6 0).toNat⟩ :: Vc (r.set 6 (r.getD 6 0 + 1)) := by
 obtain ⟨hl,h5,h6,hw,hwl⟩ := h;have hm:(hMany r:Int) = r.getD 5 0 := by unfold hMany;omega
 have E:∀ j,j ≠ 6 -> (r.set 6 (r.getD 6 0 + 1)).getD j 0 = r.getD j 0 := fun j c => getD_set_ne' (fun d => c d.symm);have g6:(r.set 6 (r.getD 6 0 + 1)).getD 6 0 = r.getD 6 0 + 1 := Qd (by omega)
 have hM:hMany (r.set 6 (r.getD 6 0 + 1)) = hMany r := by unfold hMany;rw [E 5 (by decide)]
 have hK:∀ j,hKey (r.set 6 (r.getD 6 0 + 1)) j = hKey r j /\ hVal (r.set 6 (r.getD 6 0 + 1)) j = hVal r j := fun j => by unfold hKey hVal;rw [E _ (by omega)];exact ⟨rfl,rfl⟩
 unfold Vc;rw [hM,g6];obtain ⟨m,hm2⟩:∃ m,hMany r - (r.getD 6 0).toNat = m + 1 := ⟨hMany r - (r.getD 6 0).toNat - 1,by omega⟩
 rw [hm2,show hMany r - (r.getD 6 0 + 1).toNat = m by omega,List.range_succ_eq_map,List.map_cons,List.map_map]
 congr 1
 apply List.map_congr_left;intro t _;show (⟨hKey r ((r.getD 6 0).toNat + (t + 1)),hVal r ((r.getD 6 0).toNat + (t + 1))⟩:Qc) = _;rw [(hK _).1,(hK _).2,show (r.getD 6 0).toNat + (t + 1) = (r.getD 6 0 + 1).toNat + t by omega]
theorem QmI {r:List Int} {ws:List Qc} (h:OkHd r ws) (hlt:¬ r.getD 6 0 < r.getD 5 0):Vc r = [] /\ r.set 6 (hMany r:Int) = r := by
 obtain ⟨hl,h5,h6,hw,hwl⟩ := h;have hm:(hMany r:Int) = r.getD 5 0 := by unfold hMany;omega
 refine ⟨?_,?_⟩
 · unfold Vc;rw [show hMany r - (r.getD 6 0).toNat = 0 by omega];rfl
 · apply List.ext_getElem
   · rw [List.length_set]
   · intro i i1 i2;rw [List.getElem_set]
     split
     · rename_i c;subst c;rw [hm,show r.getD 5 0 = r.getD 6 0 by omega]
       simp [i2]
     · rfl
structure Qgy where
 p:Int
 k:Int
 r:List Int
 gc:Bool
 got:List Int
 x:Int
 pl:Int
 yes:Bool
 ws:List Qc
noncomputable def QeC (p:Int) (k:Int) (r:List Int) (gc:Bool) (got:List Int) (x:Int) (pl:Int) (yes:Bool) (ws:List Qc):Env RC := [(0,.ptr 0 []),(4,.ptr 1 [])]
def Vo (p:Int) (k:Int) (r:List Int) (gc:Bool) (got:List Int) (x:Int) (pl:Int) (yes:Bool) (ws:List Qc):List (Obj RC) := [.var 170 (.acons (.acons (.int .i8 p) (.acons (.int .i64 k) (.acons (.arr (C := RC) .int 96 r) .anil))) (.acons (.sl (C := RC) .int gc got) (.acons (.int .i64 x) .anil))),.var 56 (.acons (.int .i64 pl) (.acons (.bool yes) (.acons (.vs 2 (ws.length)) .anil))),.vec .write true ws]
noncomputable def QmJ (p:Int) (k:Int) (r:List Int) (gc:Bool) (got:List Int) (x:Int) (pl:Int) (yes:Bool) (ws:List Qc) := rndO s25 up_6 73 4 100 3 [0,4] [] [.slot 0 0,.slot 4 0,.path 1 [2]] (QeC p k r gc got x pl yes ws) (Vo p k r gc got x pl yes ws)
theorem Qqc (p:Int) (k:Int) (r:List Int) (gc:Bool) (got:List Int) (x:Int) (pl:Int) (yes:Bool) (ws:List Qc):QmJ p k r gc got x pl yes ws = (let Z0:Int := List.getD r (6:Nat) (0:Int);let Z1:Int := List.getD r (5:Nat) (0:Int);let Z2:Int := IntKind.wrap .i64 ((8:Int) + Z0);let Z3:Bool := decide ((0:Int) <= Z2 /\ Z2 < (96:Int));let Z4:Nat := List.length ws;let Z5:Int := List.getD r Z2.toNat (0:Int);let Z6:List Qc := [Qc.mk (Int.fdiv Z5 (256:Int)) (bits .i64 (fun (x:Nat) (u v:BitVec x) => u &&& v) Z5 (255:Int))];let Z7:D RC := .anil;let Z8:D RC := D.acons (D.sl RTy.int gc got) (.acons (D.int .i64 x) Z7);let Z9:RO_ := some ((X.exit (0:Nat),[]),[some (Obj.var 170 (.acons (D.acons (D.int IntKind.i8 p) (.acons (D.int .i64 k) (.acons (D.arr RTy.int (96:Nat) r) Z7))) Z8)),some (Obj.var 56 (.acons (D.int .i64 pl) (.acons (D.bool yes) (.acons (D.vs 2 Z4) Z7)))),some (Obj.vec RTy.write true ws)]);bif yes then bif decide (Z0 < if (4:Int) < Z1 then (4:Int) else Z1) then bif Z3 then bif Z3 then bif Nat.beq Z4 Z4 && Qg (Z4 + List.length Z6) (16:Nat) then some ((X.normal,[(0,D.ptr 0 []),(4,D.ptr 1 [])]),[some (Obj.var 170 (.acons (D.acons (D.int IntKind.i8 p) (.acons (D.int .i64 k) (.acons (D.arr RTy.int (96:Nat) (List.set r (6:Nat) (IntKind.wrap .i64 (Z0 + (1:Int))))) Z7))) Z8)),some (Obj.var 56 (.acons (D.int .i64 pl) (.acons (D.bool yes) (.acons (D.vs 2 (Z4 + List.length Z6)) Z7)))),some (Obj.vec RTy.write true (ws ++ Z6))]) else none else none else none else Z9 else Z9) := by kernel_rfl
noncomputable def Yh (p:Int) (k:Int) (r:List Int) (gc:Bool) (got:List Int) (x:Int) (pl:Int) (yes:Bool) (ws:List Qc):RT RC := .leaf (.exit 0) [] (Vo p k (bif yes then r.set 6 (hMany r:Int) else r) gc got x pl yes (bif yes then ws ++ Vc r else ws))
def Vp (p:Int) (k:Int) (r:List Int) (gc:Bool) (got:List Int) (x:Int) (pl:Int) (yes:Bool) (ws:List Qc):Prop := OkHd r ws
noncomputable def Y2:QU RC Qgy where
 k := 3
 canon q := QeC q.p q.k q.r q.gc q.got q.x q.pl q.yes q.ws
 objs q := Vo q.p q.k q.r q.gc q.got q.x q.pl q.yes q.ws
 fin q := Yh q.p q.k q.r q.gc q.got q.x q.pl q.yes q.ws
 Inv q := Vp q.p q.k q.r q.gc q.got q.x q.pl q.yes q.ws
 μ q := (q.r.getD 5 0 - q.r.getD 6 0).toNat
theorem QeD (p:Int) (k:Int) (r:List Int) (gc:Bool) (got:List Int) (x:Int) (pl:Int) (yes:Bool) (ws:List Qc) (hI:Vp p k r gc got x pl yes ws):Leaf (QmJ p k r gc got x pl yes ws) (LedR Y2 ⟨p,k,r,gc,got,x,pl,yes,ws⟩) := by
 (rw [Qqc];conv => zeta)
 unfold Vp at hI;have hI' := hI;obtain ⟨hl,h5,h6,hw,hwl⟩ := hI;cases yes
 · exact Qn (Vo p k r gc got x pl false ws) rfl rfl
 have hmin:(if 4 < r.getD 5 0 then (4:Int) else r.getD 5 0) = r.getD 5 0 := by split <;> omega
 have hm:(hMany r:Int) = r.getD 5 0 := by unfold hMany;omega
 simp only [hmin,cond_true]
 by_cases hlt:r.getD 6 0 < r.getD 5 0
 · have w1:IntKind.i64.wrap (8 + r.getD 6 0) = 8 + r.getD 6 0 := Qb (by omega) (by omega)
   have w2:IntKind.i64.wrap (r.getD 6 0 + 1) = r.getD 6 0 + 1 := Qb (by omega) (by omega)
   have t1:(8 + r.getD 6 0).toNat = 8 + (r.getD 6 0).toNat := by omega
   have d1:decide (0 <= 8 + r.getD 6 0 /\ 8 + r.getD 6 0 < 96) = true := decide_eq_true ⟨by omega,by omega⟩
   have f1:Int.fdiv (r.getD (8 + (r.getD 6 0).toNat) 0) 256 = hKey r (r.getD 6 0).toNat := Int.fdiv_eq_ediv_of_nonneg _ (by decide)
   have f2:bits .i64 (fun _ u v => u &&& v) (r.getD (8 + (r.getD 6 0).toNat) 0) 255 = hVal r (r.getD 6 0).toNat := and8 _;have sz:Qg (ws.length + [(⟨hKey r (r.getD 6 0).toNat,hVal r (r.getD 6 0).toNat⟩:Qc)].length) 16 = true := VR (by simp only [List.length_cons,List.length_nil];omega)
   simp only [decide_eq_true hlt,w1,w2,t1,d1,f1,f2,J1 rfl,sz,Bool.and_self,cond_true];have hst := Qim hI' hlt;have E:∀ j,j ≠ 6 -> (r.set 6 (r.getD 6 0 + 1)).getD j 0 = r.getD j 0 := fun j c => getD_set_ne' (fun d => c d.symm);have g6:(r.set 6 (r.getD 6 0 + 1)).getD 6 0 = r.getD 6 0 + 1 := Qd (by omega)
   have hM:hMany (r.set 6 (r.getD 6 0 + 1)) = hMany r := by unfold hMany;rw [E 5 (by decide)]
   refine Qw (S := Y2) (s := ⟨p,k,r,gc,got,x,pl,true,ws⟩) ⟨p,k,r.set 6 (r.getD 6 0 + 1),gc,got,x,pl,true,ws ++ [⟨hKey r (r.getD 6 0).toNat,hVal r (r.getD 6 0).toNat⟩]⟩ ?_ ?_ ?_ rfl ?_
   · refine ⟨by rw [List.length_set];exact hl,by rw [E 5 (by decide)];exact h5,by rw [g6,E 5 (by decide)];omega,?_,by rw [g6,List.length_append,hwl];simp only [List.length_cons,List.length_nil];omega⟩
     rw [hM];exact fun j hj => by rw [E _ (by omega)];exact hw j hj
   · simp only [Y2];rw [g6,E 5 (by decide)];omega
   · show (Yh p k (r.set 6 (r.getD 6 0 + 1)) gc got x pl true (ws ++ [⟨hKey r (r.getD 6 0).toNat,hVal r (r.getD 6 0).toNat⟩])).val = (Yh p k r gc got x pl true ws).val;unfold Yh;simp only [cond_true];rw [hst,hM,List.set_set,List.append_assoc];rfl
   · simp only [Y2,Vo,List.map_cons,List.map_nil,List.length_append]
 · obtain ⟨z1,z2⟩ := QmI hI' hlt;simp only [decide_eq_false hlt,cond_false];refine Qn (S := Y2) (s := ⟨p,k,r,gc,got,x,pl,true,ws⟩) (Vo p k r gc got x pl true ws) ?_ rfl;show (Yh p k r gc got x pl true ws).val = _;unfold Yh;simp only [cond_true];rw [z1,z2,List.append_nil];rfl
noncomputable def QeE (env:Env RC) (os:List (Obj RC)):Option (Bool × Qgy) := match env,os with
 | [(0,.ptr 0 []),(4,.ptr 1 [])],[.var 170 (.acons (.acons (.int .i8 p) (.acons (.int .i64 k) (.acons (.arr .int 96 r) .anil))) (.acons (.sl .int gc got) (.acons (.int .i64 x) .anil))),.var 56 (.acons (.int .i64 pl) (.acons (.bool yes) (.acons (.vs 2 x0) .anil))),.vec .write true ws] => Qz (true) (decide (x0 = ws.length) && cdec (OkHd r ws),⟨p,k,r,gc,got,x,pl,yes,ws⟩)
 | _,_ => none
noncomputable def uq_1 := up_6.addLoop 73 4 (sumR s25 [.slot 0 0,.slot 4 0,.path 1 [2]] [0,4] Y2 QeE)
theorem QmK:Qh Tryz.prog s25 uq_1 := by
 refine QmH.addRoundsR Qa (by kernel_rfl) Y2 100 [0,4] [] [.slot 0 0,.slot 4 0,.path 1 [2]] [0,4] QeE (fun q hI => ?_) ?_
 · obtain ⟨p,k,r,gc,got,x,pl,yes,ws⟩ := q;refine ⟨?_,?_,QeD p k r gc got x pl yes ws hI⟩
   · simp_all [Ql,Y2,QeC,Vo,Vp,D.refs,Obj.refs,rEnc]
   · simp_all [Y2,Yh,Vo,Vp,RT.refsOK,Ql,D.refs,Obj.refs,rEnc]
 · intro env os b q hd_ hb;unfold QeE at hd_
   split at hd_
   · obtain ⟨hs,hd_⟩ := Qi hd_;cases hd_;simp only [Bool.and_eq_true,decide_eq_true_eq] at hb;obtain ⟨e0,e1⟩ := hb;subst e0;exact ⟨QP.1 e1,rfl,rfl⟩
   · cases hd_
theorem cdN {α:Type} {a b:Int} {x y z:α} (h1:¬ a = b -> x = z) (h2:a = b -> y = z):cond (a != b) x y = z := by
 by_cases h:a = b
 · rw [YU h];exact h2 h
 · rw [J0 h];exact h1 h
theorem JF {r:List Int} (hr:r.length = 96) (h6:r.getD 6 0 = 0):r.set 6 0 = r := by
 apply List.ext_getElem
 · rw [List.length_set]
 · intro i i1 i2;rw [List.getElem_set]
   split
   · rename_i c;subst c;rw [<- h6];simp [i2]
   · rfl
theorem QmL {r:List Int} {x:Int} (hr:r.length = 96) (h6:r.getD 6 0 = 0):(⟨r.getD 2 0 + 1,x == 1,bif x == 1 then [] ++ Vc (r.set 7 x) else []⟩:Rec) = hRec r x := by
 have E:∀ j,j ≠ 7 -> (r.set 7 x).getD j 0 = r.getD j 0 := fun j c => getD_set_ne' (fun d => c d.symm)
 have hR:Vc (r.set 7 x) = (List.range (hMany r)).map fun j => ⟨hKey r j,hVal r j⟩ := by
  have hK:∀ j,hKey (r.set 7 x) j = hKey r j /\ hVal (r.set 7 x) j = hVal r j := fun j => by unfold hKey hVal;rw [E _ (by omega)];exact ⟨rfl,rfl⟩
  have hM:hMany (r.set 7 x) = hMany r := by unfold hMany;rw [E 5 (by decide)]
  unfold Vc;rw [hM,E 6 (by decide),h6]
  apply List.map_congr_left;intro t _;rw [(hK _).1,(hK _).2,show (0:Int).toNat + t = t by simp]
 unfold hRec;rw [hR]
 by_cases e:x = 1
 · rw [beq_iff_eq.2 e,decide_eq_true e,if_pos e];rfl
 · rw [beq_eq_false_iff_ne.2 e,decide_eq_false e,if_neg e];rfl
theorem QeF (r:List Int) (x:Int):(hRec r x).writes.length <= hMany r := by
 unfold hRec;show (if x = 1 then _ else _:List Qc).length <= _
 split <;> simp
theorem Qup {r:List Int} {m:Nat} (h:r.getD 5 0 = (m:Int)) (hm:m <= 4):hMany r = m := by unfold hMany;omega
theorem QmM {r:List Int} {m:Nat} (h:r.getD 5 0 = (m:Int)) (hm:m <= 4) (x:Int):hRec r x = ⟨r.getD 2 0 + 1,decide (x = 1),if x = 1 then (List.range m).map fun j => ⟨hKey r j,hVal r j⟩ else []⟩ := by
 unfold hRec;rw [Qup h hm]
open Go.Proofs
def naR (n:NA):D RC := .tup (.acons (frmR n.f) (.acons (actR n.a n.fl) .anil))
theorem Qgz (n:NA):(naR n).refs = [] := rfl
noncomputable def QvQ (p:Int) (k:Int) (r:List Int) (gc:Bool) (got:List Int):Option (Bool × D RC) := some (cdec (okHp false ⟨p,k,r⟩ got),naR (nHp false ⟨p,k,r⟩ got))
noncomputable def Qsk:List (D RC) -> Option (Bool × D RC)
 | [.acons (.int .i8 p) (.acons (.int .i64 k) (.acons (.arr .int 96 r) .anil)),.sl .int gc got] => QvQ p k r gc got
 | _ => none
noncomputable def Q3 (p:Int) (k:Int) (r:List Int) (gc:Bool) (got:List Int) := evF s25 uq_1 120 32 [.acons (.int .i8 p) (.acons (.int .i64 k) (.acons (.arr (C := RC) .int 96 r) .anil)),.sl (C := RC) .int gc got]
theorem Qqd (r:List Int) (gc:Bool):Q3 68 0 r gc [] = (let Z0:D RC := D.int .i64 1;let Z1:D RC := D.int .i64 0;some (D.tup (D.acons (D.acons (D.int IntKind.i8 (68:Int)) (.acons Z0 (D.acons (D.arr RTy.int (96:Nat) r) .anil))) (.acons (D.acons (D.int IntKind.i8 (0:Int)) (.acons Z0 (D.acons Z1 (D.acons Z1 (D.acons Z1 (D.acons (D.str []) (.acons (D.sl RTy.int true []) .anil))))))) .anil)))) := by kernel_rfl
theorem Qqe (x:Int) (r:List Int) (gc:Bool):Q3 68 1 r gc [x] = (let Z0:D RC := D.int .i64 0;some (D.tup (D.acons (D.acons (D.int IntKind.i8 (68:Int)) (.acons (D.int .i64 2) (.acons (D.arr RTy.int (96:Nat) (List.set r (2:Nat) x)) .anil))) (.acons (D.acons (D.int IntKind.i8 (0:Int)) (.acons Z0 (D.acons Z0 (D.acons Z0 (D.acons Z0 (D.acons (D.str []) (.acons (D.sl RTy.int true []) .anil))))))) .anil)))) := by kernel_rfl
theorem Qqf (x:Int) (r:List Int) (gc:Bool):Q3 68 2 r gc [x] = (let Z0:Int := List.getD r (2:Nat) (0:Int);let Z1:D RC := D.int IntKind.i8 (68:Int);let Z2:D RC := .anil;let Z3:D RC := D.acons (D.arr RTy.int (96:Nat) r) Z2;let Z4:D RC := D.acons Z1 (D.acons (D.int .i64 2) Z3);let Z5:D RC := D.int IntKind.i8 (7:Int);let Z6:D RC := D.int .i64 0;bif decide (IntKind.wrap .i64 (x + List.getD r (0:Nat) (0:Int)) < Z0) then some (D.tup (D.acons Z4 (D.acons (D.acons Z5 (D.acons Z6 (D.acons Z6 (D.acons Z6 (D.acons Z6 (D.acons (D.str []) (.acons (D.sl RTy.int true [(170:Int)]) Z2))))))) Z2))) else bif decide ((1048575:Int) < Z0) then some (D.tup (D.acons Z4 (D.acons (D.acons Z5 (D.acons Z6 (D.acons Z6 (D.acons Z6 (D.acons Z6 (D.acons (D.str []) (.acons (D.sl RTy.int true [(172:Int)]) Z2))))))) Z2))) else some (D.tup (D.acons (D.acons Z1 (D.acons (D.int .i64 3) Z3)) (.acons (D.acons (D.int IntKind.i8 (0:Int)) (.acons (D.int .i64 4) (.acons Z6 (D.acons Z6 (D.acons Z6 (D.acons (D.str []) (.acons (D.sl RTy.int true []) Z2))))))) Z2)))) := by kernel_rfl
theorem Qqg (x:Int) (r:List Int) (gc:Bool):Q3 68 3 r gc [x] = (let Z0:Int := List.getD r (2:Nat) (0:Int);let Z1:D RC := D.int IntKind.i8 (68:Int);let Z2:D RC := .anil;let Z3:D RC := D.acons (D.arr RTy.int (96:Nat) r) Z2;let Z4:D RC := D.int .i64 0;bif decide (x < IntKind.wrap .i64 (Z0 - (32:Int))) then some (D.tup (D.acons (D.acons Z1 (D.acons (D.int .i64 3) Z3)) (.acons (D.acons (D.int IntKind.i8 (7:Int)) (.acons Z4 (D.acons Z4 (D.acons Z4 (D.acons Z4 (D.acons (D.str []) (.acons (D.sl RTy.int true [(171:Int)]) Z2))))))) Z2))) else some (D.tup (D.acons (D.acons Z1 (D.acons (D.int .i64 4) Z3)) (.acons (D.acons (D.int IntKind.i8 (0:Int)) (.acons (D.int .i64 (lRing Z0 (List.getD r (0:Nat) (0:Int)))) (.acons Z4 (D.acons Z4 (D.acons Z4 (D.acons (D.str []) (.acons (D.sl RTy.int true []) Z2))))))) Z2)))) := by kernel_rfl
theorem Qqh (x:Int) (r:List Int) (gc:Bool):Q3 68 4 r gc [x] = (let Z0:List Int := List.set r (3:Nat) x;let Z1:Int := List.getD Z0 (2:Nat) (0:Int);let Z2:D RC := D.int IntKind.i8 (68:Int);let Z3:D RC := .anil;let Z4:D RC := D.acons (D.arr RTy.int (96:Nat) Z0) Z3;let Z5:D RC := D.int IntKind.i8 (2:Int);let Z6:D RC := D.int .i64 1;let Z7:D RC := D.int .i64 0;let Z8:D RC := D.acons Z7 (D.acons (D.str []) (.acons (D.sl RTy.int true []) Z3));bif plc x == Z1 then some (D.tup (D.acons (D.acons Z2 (D.acons (D.int .i64 5) Z4)) (.acons (D.acons Z5 (D.acons Z6 (D.acons (D.int .i64 Z1) (.acons (D.int .i64 (IntKind.wrap .i64 (Z1 + (1:Int)))) Z8)))) Z3))) else bif decide (Z1 < plc x) then some (D.tup (D.acons (D.acons Z2 (D.acons Z6 Z4)) (.acons (D.acons (D.int IntKind.i8 (0:Int)) (.acons Z6 (D.acons Z7 (D.acons Z7 Z8)))) Z3))) else some (D.tup (D.acons (D.acons Z2 (D.acons (D.int .i64 6) Z4)) (.acons (D.acons Z5 (D.acons (D.int .i64 (lRing Z1 (List.getD Z0 (0:Nat) (0:Int)))) (.acons (D.int .i64 x) (.acons (D.int .i64 (wordN Z1 (List.getD Z0 (1:Nat) (0:Int)))) Z8)))) Z3)))) := by kernel_rfl
theorem Qqi (x:Int) (r:List Int) (gc:Bool):Q3 68 5 r gc [x] = (let Z0:D RC := D.int .i64 1;let Z1:D RC := D.int .i64 0;some (D.tup (D.acons (D.acons (D.int IntKind.i8 (68:Int)) (.acons Z0 (D.acons (D.arr RTy.int (96:Nat) r) .anil))) (.acons (D.acons (D.int IntKind.i8 (0:Int)) (.acons Z0 (D.acons Z1 (D.acons Z1 (D.acons Z1 (D.acons (D.str []) (.acons (D.sl RTy.int true []) .anil))))))) .anil)))) := by kernel_rfl
theorem Qqj (x:Int) (r:List Int) (gc:Bool):Q3 68 6 r gc [x] = (let Z0:D RC := D.int IntKind.i8 (68:Int);let Z1:D RC := D.int .i64 1;let Z2:D RC := D.acons (D.arr RTy.int (96:Nat) r) .anil;let Z3:D RC := D.int .i64 0;let Z4:D RC := D.acons Z3 (D.acons (D.str []) (.acons (D.sl RTy.int true []) .anil));let Z5:Int := List.getD r (2:Nat) (0:Int);bif x == (0:Int) then some (D.tup (D.acons (D.acons Z0 (D.acons Z1 Z2)) (.acons (D.acons (D.int IntKind.i8 (0:Int)) (.acons Z1 (D.acons Z3 (D.acons Z3 Z4)))) .anil))) else some (D.tup (D.acons (D.acons Z0 (D.acons (D.int .i64 7) Z2)) (.acons (D.acons (D.int IntKind.i8 (2:Int)) (.acons Z1 (D.acons (D.int .i64 Z5) (.acons (D.int .i64 (IntKind.wrap .i64 (Z5 + (1:Int)))) Z4)))) .anil)))) := by kernel_rfl
theorem Qqk (x:Int) (r:List Int) (gc:Bool):Q3 68 7 r gc [x] = (let Z0:D RC := D.int .i64 0;some (D.tup (D.acons (D.acons (D.int IntKind.i8 (68:Int)) (.acons (D.int .i64 7) (.acons (D.arr RTy.int (96:Nat) r) .anil))) (.acons (D.acons (D.int IntKind.i8 (7:Int)) (.acons Z0 (D.acons Z0 (D.acons Z0 (D.acons Z0 (D.acons (D.str []) (.acons (D.sl RTy.int true [(0:Int),List.getD r (2:Nat) (0:Int)]) .anil))))))) .anil)))) := by kernel_rfl
theorem Qql (r:List Int) (gc:Bool):Q3 73 0 r gc [] = (let Z0:Int := lRow (21:Int) (List.getD r (2:Nat) (0:Int)) (24:Int);let Z1:D RC := D.int IntKind.i8 (73:Int);let Z2:D RC := D.acons (D.arr RTy.int (96:Nat) r) .anil;let Z3:D RC := D.int .i64 0;let Z4:D RC := D.acons Z3 (D.acons Z3 (D.acons Z3 (D.acons (D.str []) (.acons (D.sl RTy.int true []) .anil))));bif decide ((0:Int) <= Z0) then some (D.tup (D.acons (D.acons Z1 (D.acons (D.int .i64 1) Z2)) (.acons (D.acons (D.int IntKind.i8 (0:Int)) (.acons (D.int .i64 Z0) Z4)) .anil))) else some (D.tup (D.acons (D.acons Z1 (D.acons Z3 Z2)) (.acons (D.acons (D.int IntKind.i8 (7:Int)) (.acons Z3 Z4)) .anil)))) := by kernel_rfl
theorem Qqm (x:Int) (r:List Int) (gc:Bool):Q3 73 1 r gc [x] = (let Z0:List Int := List.set r (3:Nat) (if x < (0:Int) then (0:Int) else x);let Z1:Int := List.getD Z0 (1:Nat) (0:Int);let Z2:D RC := D.int IntKind.i8 (73:Int);let Z3:D RC := D.acons (D.arr RTy.int (96:Nat) Z0) .anil;let Z4:D RC := D.int .i64 0;let Z5:D RC := D.acons (D.str []) (.acons (D.sl RTy.int true []) .anil);let Z6:DO_ := some (D.tup (D.acons (D.acons Z2 (D.acons (D.int .i64 1) Z3)) (.acons (D.acons (D.int IntKind.i8 (7:Int)) (.acons Z4 (D.acons Z4 (D.acons Z4 (D.acons Z4 Z5))))) .anil)));let Z7:Int := lField (291:Int) (bits .i64 (fun (x:Nat) (u v:BitVec x) => u &&& v) Z1 (255:Int)) (1:Int) (160:Int) (3:Int);let Z8:Int := List.getD Z0 (3:Nat) (0:Int);bif decide (Z1 < (0:Int)) then Z6 else bif decide (Z7 < (0:Int)) then Z6 else bif decide (List.getD Z0 (0:Nat) (0:Int) <= plc Z8) then Z6 else some (D.tup (D.acons (D.acons Z2 (D.acons (D.int .i64 2) Z3)) (.acons (D.acons (D.int IntKind.i8 (2:Int)) (.acons (D.int .i64 Z7) (.acons (D.int .i64 (-1:Int)) (.acons (D.int .i64 Z8) (.acons (D.int .i64 Z1) Z5))))) .anil)))) := by kernel_rfl
theorem Qqn (x:Int) (r:List Int) (gc:Bool):Q3 73 2 r gc [x] = (some (D.tup (D.acons (D.acons (D.int IntKind.i8 (73:Int)) (.acons (D.int .i64 3) (.acons (D.arr RTy.int (96:Nat) r) .anil))) (.acons (D.acons (D.int IntKind.i8 (2:Int)) (.acons (D.int .i64 (lRow (21:Int) (List.getD r (2:Nat) (0:Int)) (24:Int))) (.acons (D.int .i64 (List.getD r (3:Nat) (0:Int))) (.acons (D.int .i64 (wordN (List.getD r (0:Nat) (0:Int)) (List.getD r (1:Nat) (0:Int)))) (.acons (D.int .i64 0) (.acons (D.str []) (.acons (D.sl RTy.int true []) .anil))))))) .anil)))) := by kernel_rfl
theorem Qqo (x:Int) (r:List Int) (gc:Bool):Q3 73 3 r gc [x] = (let Z0:D RC := D.int .i64 0;some (D.tup (D.acons (D.acons (D.int IntKind.i8 (73:Int)) (.acons (D.int .i64 3) (.acons (D.arr RTy.int (96:Nat) r) .anil))) (.acons (D.acons (D.int IntKind.i8 (7:Int)) (.acons Z0 (D.acons Z0 (D.acons Z0 (D.acons Z0 (D.acons (D.str []) (.acons (D.sl RTy.int true []) .anil))))))) .anil)))) := by kernel_rfl
theorem Qqp (r:List Int) (gc:Bool):Q3 76 0 r gc [] = (let Z0:D RC := D.int .i64 0;some (D.tup (D.acons (D.acons (D.int IntKind.i8 (76:Int)) (.acons (D.int .i64 1) (.acons (D.arr RTy.int (96:Nat) r) .anil))) (.acons (D.acons (D.int IntKind.i8 (0:Int)) (.acons (D.int .i64 (lRow (45:Int) (IntKind.wrap .i64 (Int.tdiv (List.getD r (2:Nat) (0:Int)) (8:Int))) (3:Int))) (.acons Z0 (D.acons Z0 (D.acons Z0 (D.acons (D.str []) (.acons (D.sl RTy.int true []) .anil))))))) .anil)))) := by kernel_rfl
theorem Qqq (x:Int) (r:List Int) (gc:Bool):Q3 76 1 r gc [x] = (let Z0:List Int := List.set r (4:Nat) x;let Z1:D RC := D.int .i64 0;some (D.tup (D.acons (D.acons (D.int IntKind.i8 (76:Int)) (.acons (D.int .i64 2) (.acons (D.arr RTy.int (96:Nat) Z0) .anil))) (.acons (D.acons (D.int IntKind.i8 (0:Int)) (.acons (D.int .i64 (lStream (IntKind.wrap .i64 (Int.tdiv (List.getD Z0 (2:Nat) (0:Int)) (8:Int))) (IntKind.wrap .i64 (List.getD Z0 (4:Nat) (0:Int) - (0:Int))))) (.acons Z1 (D.acons Z1 (D.acons Z1 (D.acons (D.str []) (.acons (D.sl RTy.int true []) .anil))))))) .anil)))) := by kernel_rfl
theorem Qqr (x:Int) (r:List Int) (gc:Bool):Q3 76 2 r gc [x] = (let Z0:List Int := List.set r (5:Nat) x;let Z1:Int := List.getD Z0 (4:Nat) (0:Int);let Z2:D RC := D.int IntKind.i8 (76:Int);let Z3:D RC := .anil;let Z4:D RC := D.acons (D.arr RTy.int (96:Nat) Z0) Z3;let Z5:D RC := D.int IntKind.i8 (2:Int);let Z6:Int := List.getD Z0 (2:Nat) (0:Int);let Z7:Int := IntKind.wrap .i64 (Int.tdiv Z6 (8:Int));let Z8:D RC := D.int .i64 0;let Z9:D RC := D.acons Z8 (D.acons (D.str []) (.acons (D.sl RTy.int true []) Z3));let Z10:DO_ := bif Z1 == (0:Int) then some (D.tup (D.acons (D.acons Z2 (D.acons (D.int .i64 6) Z4)) (.acons (D.acons Z5 (D.acons (D.int .i64 (lStream Z7 (IntKind.wrap .i64 (Z1 - (0:Int))))) (.acons (D.int .i64 (List.getD Z0 (5:Nat) (0:Int))) (.acons (D.int .i64 (YY (Line.mk Z1 (List.getD Z0 (0:Nat) (0:Int)) (List.getD Z0 (1:Nat) (0:Int)) (Int.tmod Z6 (8:Int)) (List.getD Z0 (3:Nat) (0:Int))))) Z9)))) Z3))) else some (D.tup (D.acons (D.acons Z2 (D.acons (D.int .i64 4) Z4)) (.acons (D.acons (D.int IntKind.i8 (0:Int)) (.acons (D.int .i64 (lStream Z7 (IntKind.wrap .i64 (Z1 - (1:Int))))) (.acons Z8 (D.acons Z8 Z9)))) Z3)));bif decide (x < (9223372036854775808:Int)) then bif Option.isSome (Q9 x) then bif Line.offset (readO x) == Z1 then some (D.tup (D.acons (D.acons Z2 (D.acons (D.int .i64 3) Z4)) (.acons (D.acons Z5 (D.acons (D.int .i64 (lRow (45:Int) Z7 (3:Int))) (.acons (D.int .i64 Z1) (.acons (D.int .i64 (IntKind.wrap .i64 (Z1 + (1:Int)))) Z9)))) Z3))) else Z10 else Z10 else none) := by kernel_rfl
theorem Qqs (x:Int) (r:List Int) (gc:Bool):Q3 76 3 r gc [x] = (let Z0:D RC := D.int .i64 0;some (D.tup (D.acons (D.acons (D.int IntKind.i8 (76:Int)) (.acons (D.int .i64 1) (.acons (D.arr RTy.int (96:Nat) r) .anil))) (.acons (D.acons (D.int IntKind.i8 (0:Int)) (.acons (D.int .i64 (lRow (45:Int) (IntKind.wrap .i64 (Int.tdiv (List.getD r (2:Nat) (0:Int)) (8:Int))) (3:Int))) (.acons Z0 (D.acons Z0 (D.acons Z0 (D.acons (D.str []) (.acons (D.sl RTy.int true []) .anil))))))) .anil)))) := by kernel_rfl
theorem Qqt (x:Int) (r:List Int) (gc:Bool):Q3 76 4 r gc [x] = (let Z0:Int := List.getD r (0:Nat) (0:Int);let Z1:Int := Line.place (readO x);let Z2:D RC := D.int IntKind.i8 (76:Int);let Z3:D RC := .anil;let Z4:D RC := D.acons (D.arr RTy.int (96:Nat) r) Z3;let Z5:D RC := D.int .i64 0;let Z6:D RC := D.acons Z5 (D.acons (D.str []) (.acons (D.sl RTy.int true []) Z3));let Z7:D RC := D.acons Z5 (D.acons Z5 Z6);let Z8:DO_ := some (D.tup (D.acons (D.acons Z2 (D.acons (D.int .i64 4) Z4)) (.acons (D.acons (D.int IntKind.i8 (7:Int)) (.acons Z5 Z7)) Z3)));let Z9:Int := List.getD r (1:Nat) (0:Int);let Z10:D RC := D.int IntKind.i8 (0:Int);let Z11:Int := List.getD r (2:Nat) (0:Int);let Z12:Int := IntKind.wrap .i64 (Int.tdiv Z11 (8:Int));let Z13:DO_ := some (D.tup (D.acons (D.acons Z2 (D.acons (D.int .i64 1) Z4)) (.acons (D.acons Z10 (D.acons (D.int .i64 (lRow (45:Int) Z12 (3:Int))) Z7)) Z3)));let Z14:Int := List.getD r (4:Nat) (0:Int);let Z15:Int := List.getD r (5:Nat) (0:Int);let Z16:DO_ := bif !Option.isSome (Q9 x) then Z13 else bif Line.offset (readO x) != IntKind.wrap .i64 (Z14 - (1:Int)) then Z13 else bif Z15 == (0:Int) then some (D.tup (D.acons (D.acons Z2 (D.acons (D.int .i64 6) Z4)) (.acons (D.acons (D.int IntKind.i8 (2:Int)) (.acons (D.int .i64 (lStream Z12 (IntKind.wrap .i64 (Z14 - (0:Int))))) (.acons (D.int .i64 Z15) (.acons (D.int .i64 (YY (Line.mk Z14 Z0 Z9 (Int.tmod Z11 (8:Int)) (List.getD r (3:Nat) (0:Int))))) Z6)))) Z3))) else some (D.tup (D.acons (D.acons Z2 (D.acons (D.int .i64 5) Z4)) (.acons (D.acons Z10 (D.acons (D.int .i64 (lRow (48:Int) Z12 (3:Int))) Z7)) Z3)));bif decide (x < (9223372036854775808:Int)) then bif decide (Z0 < Z1) then Z8 else bif Z1 == Z0 then bif decide (Z9 <= Line.j (readO x)) then Z8 else Z16 else Z16 else none) := by kernel_rfl
theorem Qqu (x:Int) (r:List Int) (gc:Bool):Q3 76 5 r gc [x] = (let Z0:Int := List.getD r (5:Nat) (0:Int);let Z1:Int := Line.place (readO Z0);let Z2:D RC := D.int IntKind.i8 (76:Int);let Z3:D RC := D.acons (D.arr RTy.int (96:Nat) r) .anil;let Z4:D RC := D.int IntKind.i8 (2:Int);let Z5:Int := List.getD r (2:Nat) (0:Int);let Z6:Int := IntKind.wrap .i64 (Int.tdiv Z5 (8:Int));let Z7:D RC := D.acons (D.int .i64 0) (.acons (D.str []) (.acons (D.sl RTy.int true []) .anil));let Z8:Int := List.getD r (4:Nat) (0:Int);bif decide (Z0 < (9223372036854775808:Int)) then bif decide (x < Z1) then some (D.tup (D.acons (D.acons Z2 (D.acons (D.int .i64 8) Z3)) (.acons (D.acons Z4 (D.acons (D.int .i64 (lRow (48:Int) Z6 (3:Int))) (.acons (D.int .i64 x) (.acons (D.int .i64 Z1) Z7)))) .anil))) else some (D.tup (D.acons (D.acons Z2 (D.acons (D.int .i64 6) Z3)) (.acons (D.acons Z4 (D.acons (D.int .i64 (lStream Z6 (IntKind.wrap .i64 (Z8 - (0:Int))))) (.acons (D.int .i64 Z0) (.acons (D.int .i64 (YY (Line.mk Z8 (List.getD r (0:Nat) (0:Int)) (List.getD r (1:Nat) (0:Int)) (Int.tmod Z5 (8:Int)) (List.getD r (3:Nat) (0:Int))))) Z7)))) .anil))) else none) := by kernel_rfl
theorem Qqv (x:Int) (r:List Int) (gc:Bool):Q3 76 6 r gc [x] = (let Z0:D RC := D.int IntKind.i8 (76:Int);let Z1:D RC := D.acons (D.arr RTy.int (96:Nat) r) .anil;let Z2:D RC := D.int .i64 (lRow (45:Int) (IntKind.wrap .i64 (Int.tdiv (List.getD r (2:Nat) (0:Int)) (8:Int))) (3:Int));let Z3:D RC := D.int .i64 0;let Z4:D RC := D.acons Z3 (D.acons (D.str []) (.acons (D.sl RTy.int true []) .anil));let Z5:Int := List.getD r (4:Nat) (0:Int);bif x == (0:Int) then some (D.tup (D.acons (D.acons Z0 (D.acons (D.int .i64 1) Z1)) (.acons (D.acons (D.int IntKind.i8 (0:Int)) (.acons Z2 (D.acons Z3 (D.acons Z3 Z4)))) .anil))) else some (D.tup (D.acons (D.acons Z0 (D.acons (D.int .i64 7) Z1)) (.acons (D.acons (D.int IntKind.i8 (2:Int)) (.acons Z2 (D.acons (D.int .i64 Z5) (.acons (D.int .i64 (IntKind.wrap .i64 (Z5 + (1:Int)))) Z4)))) .anil)))) := by kernel_rfl
theorem Qqw (x:Int) (r:List Int) (gc:Bool):Q3 76 7 r gc [x] = (let Z0:D RC := D.int .i64 0;some (D.tup (D.acons (D.acons (D.int IntKind.i8 (76:Int)) (.acons (D.int .i64 7) (.acons (D.arr RTy.int (96:Nat) r) .anil))) (.acons (D.acons (D.int IntKind.i8 (7:Int)) (.acons Z0 (D.acons Z0 (D.acons Z0 (D.acons Z0 (D.acons (D.str []) (.acons (D.sl RTy.int true []) .anil))))))) .anil)))) := by kernel_rfl
theorem Qqx (x:Int) (r:List Int) (gc:Bool):Q3 76 8 r gc [x] = (let Z0:D RC := D.int .i64 0;some (D.tup (D.acons (D.acons (D.int IntKind.i8 (76:Int)) (.acons (D.int .i64 5) (.acons (D.arr RTy.int (96:Nat) r) .anil))) (.acons (D.acons (D.int IntKind.i8 (0:Int)) (.acons (D.int .i64 (lRow (48:Int) (IntKind.wrap .i64 (Int.tdiv (List.getD r (2:Nat) (0:Int)) (8:Int))) (3:Int))) (.acons Z0 (D.acons Z0 (D.acons Z0 (D.acons (D.str []) (.acons (D.sl RTy.int true []) .anil))))))) .anil)))) := by kernel_rfl
theorem QmN (r:List Int) (gc:Bool):Q3 100 0 r gc [] = (let Z0:D RC := D.int .i64 0;some (D.tup (D.acons (D.acons (D.int IntKind.i8 (100:Int)) (.acons (D.int .i64 1) (.acons (D.arr RTy.int (96:Nat) r) .anil))) (.acons (D.acons (D.int IntKind.i8 (0:Int)) (.acons Z0 (D.acons Z0 (D.acons Z0 (D.acons Z0 (D.acons (D.str []) (.acons (D.sl RTy.int true []) .anil))))))) .anil)))) := by kernel_rfl
theorem QmO (x:Int) (r:List Int) (gc:Bool):Q3 100 1 r gc [x] = (let Z0:List Int := List.set r (2:Nat) x;let Z1:D RC := D.int IntKind.i8 (100:Int);let Z2:D RC := D.acons (D.arr RTy.int (96:Nat) Z0) .anil;let Z3:D RC := D.int .i64 0;let Z4:D RC := D.acons Z3 (D.acons Z3 (D.acons Z3 (D.acons (D.str []) (.acons (D.sl RTy.int true []) .anil))));bif decide (List.getD Z0 (0:Nat) (0:Int) <= x) then some (D.tup (D.acons (D.acons Z1 (D.acons (D.int .i64 1) Z2)) (.acons (D.acons (D.int IntKind.i8 (7:Int)) (.acons Z3 Z4)) .anil))) else some (D.tup (D.acons (D.acons Z1 (D.acons (D.int .i64 2) Z2)) (.acons (D.acons (D.int IntKind.i8 (0:Int)) (.acons (D.int .i64 (lRing (IntKind.wrap .i64 (List.getD Z0 (2:Nat) (0:Int) + (1:Int))) (List.getD Z0 (1:Nat) (0:Int)))) Z4)) .anil)))) := by kernel_rfl
theorem QmP (x:Int) (r:List Int) (gc:Bool):Q3 100 2 r gc [x] = (let Z0:D RC := D.int IntKind.i8 (100:Int);let Z1:D RC := .anil;let Z2:D RC := D.int IntKind.i8 (0:Int);let Z3:D RC := D.int .i64 0;let Z4:D RC := D.acons (D.str []) (.acons (D.sl RTy.int true []) Z1);let Z5:List Int := List.set r (3:Nat) (bare x);let Z6:Int := List.getD Z5 (3:Nat) (0:Int);bif plc x != IntKind.wrap .i64 (List.getD r (2:Nat) (0:Int) + (1:Int)) then some (D.tup (D.acons (D.acons Z0 (D.acons (D.int .i64 1) (.acons (D.arr RTy.int (96:Nat) r) Z1))) (.acons (D.acons Z2 (D.acons Z3 (D.acons Z3 (D.acons Z3 (D.acons Z3 Z4))))) Z1))) else some (D.tup (D.acons (D.acons Z0 (D.acons (D.int .i64 3) (.acons (D.arr RTy.int (96:Nat) Z5) Z1))) (.acons (D.acons Z2 (D.acons (D.int .i64 (lField (99:Int) (inWord Z6 % (256:Int)) (2:Int) (16:Int) (12:Int))) (.acons Z3 (D.acons Z3 (D.acons (D.int .i64 Z6) Z4))))) Z1)))) := by kernel_rfl
theorem QmQ (x:Int) (r:List Int) (gc:Bool):Q3 100 3 r gc [x] = (let Z0:Int := List.getD (List.set r (4:Nat) x) (3:Nat) (0:Int);let Z1:D RC := D.int .i64 0;some (D.tup (D.acons (D.acons (D.int IntKind.i8 (100:Int)) (.acons (D.int .i64 4) (.acons (D.arr RTy.int (96:Nat) (List.set r (4:Nat) x)) .anil))) (.acons (D.acons (D.int IntKind.i8 (0:Int)) (.acons (D.int .i64 (lField (99:Int) (inWord Z0 % (256:Int)) (3:Int) (16:Int) (12:Int))) (.acons Z1 (D.acons Z1 (D.acons (D.int .i64 Z0) (.acons (D.str []) (.acons (D.sl RTy.int true []) .anil))))))) .anil)))) := by kernel_rfl
theorem QmR (x:Int) (r:List Int) (gc:Bool):Q3 100 4 r gc [x] = (let Z0:List Int := List.set (List.set r (5:Nat) x) (6:Nat) (0:Int);let Z1:Int := List.getD Z0 (6:Nat) (0:Int);let Z2:Int := List.getD Z0 (5:Nat) (0:Int);let Z3:D RC := D.int IntKind.i8 (100:Int);let Z4:D RC := D.acons (D.arr RTy.int (96:Nat) Z0) .anil;let Z5:D RC := D.int IntKind.i8 (0:Int);let Z6:Int := List.getD Z0 (3:Nat) (0:Int);let Z7:Int := inWord Z6 % (256:Int);let Z8:D RC := D.int .i64 0;let Z9:D RC := D.acons Z8 (D.acons Z8 (D.acons (D.int .i64 Z6) (.acons (D.str []) (.acons (D.sl RTy.int true []) .anil))));bif decide (Z1 < if (4:Int) < Z2 then (4:Int) else Z2) then some (D.tup (D.acons (D.acons Z3 (D.acons (D.int .i64 5) Z4)) (.acons (D.acons Z5 (D.acons (D.int .i64 (lField (99:Int) Z7 (IntKind.wrap .i64 ((4:Int) + Z1)) (16:Int) (12:Int))) Z9)) .anil))) else some (D.tup (D.acons (D.acons Z3 (D.acons (D.int .i64 7) Z4)) (.acons (D.acons Z5 (D.acons (D.int .i64 (lField (99:Int) Z7 (1:Int) (16:Int) (12:Int))) Z9)) .anil)))) := by kernel_rfl
theorem QmS (x:Int) (r:List Int) (gc:Bool):Q3 100 5 r gc [x] = (let Z0:Int := IntKind.wrap .i64 ((8:Int) + List.getD r (6:Nat) (0:Int));let Z1:List Int := List.set r Z0.toNat x;let Z2:Int := List.getD Z1 (3:Nat) (0:Int);let Z3:D RC := D.int .i64 0;bif decide ((0:Int) <= Z0 /\ Z0 < (96:Int)) then some (D.tup (D.acons (D.acons (D.int IntKind.i8 (100:Int)) (.acons (D.int .i64 6) (.acons (D.arr RTy.int (96:Nat) Z1) .anil))) (.acons (D.acons (D.int IntKind.i8 (0:Int)) (.acons (D.int .i64 (lField (99:Int) (inWord Z2 % (256:Int)) (IntKind.wrap .i64 ((8:Int) + List.getD Z1 (6:Nat) (0:Int))) (16:Int) (12:Int))) (.acons Z3 (D.acons Z3 (D.acons (D.int .i64 Z2) (.acons (D.str []) (.acons (D.sl RTy.int true []) .anil))))))) .anil))) else none) := by kernel_rfl
theorem QmT (x:Int) (r:List Int) (gc:Bool):Q3 100 6 r gc [x] = (let Z0:Int := IntKind.wrap .i64 ((12:Int) + List.getD r (6:Nat) (0:Int));let Z1:List Int := List.set r Z0.toNat x;let Z2:List Int := List.set Z1 (6:Nat) (IntKind.wrap .i64 (List.getD Z1 (6:Nat) (0:Int) + (1:Int)));let Z3:Int := List.getD Z2 (6:Nat) (0:Int);let Z4:Int := List.getD Z2 (5:Nat) (0:Int);let Z5:D RC := D.int IntKind.i8 (100:Int);let Z6:D RC := D.acons (D.arr RTy.int (96:Nat) Z2) .anil;let Z7:D RC := D.int IntKind.i8 (0:Int);let Z8:Int := List.getD Z2 (3:Nat) (0:Int);let Z9:Int := inWord Z8 % (256:Int);let Z10:D RC := D.int .i64 0;let Z11:D RC := D.acons Z10 (D.acons Z10 (D.acons (D.int .i64 Z8) (.acons (D.str []) (.acons (D.sl RTy.int true []) .anil))));bif decide ((0:Int) <= Z0 /\ Z0 < (96:Int)) then bif decide (Z3 < if (4:Int) < Z4 then (4:Int) else Z4) then some (D.tup (D.acons (D.acons Z5 (D.acons (D.int .i64 5) Z6)) (.acons (D.acons Z7 (D.acons (D.int .i64 (lField (99:Int) Z9 (IntKind.wrap .i64 ((4:Int) + Z3)) (16:Int) (12:Int))) Z11)) .anil))) else some (D.tup (D.acons (D.acons Z5 (D.acons (D.int .i64 7) Z6)) (.acons (D.acons Z7 (D.acons (D.int .i64 (lField (99:Int) Z9 (1:Int) (16:Int) (12:Int))) Z11)) .anil))) else none) := by kernel_rfl
theorem QmU (x:Int) (r:List Int) (gc:Bool):Q3 100 7 r gc [x] = (let Z0:List Int := List.set r (6:Nat) (0:Int);let Z1:List Int := List.set (List.set Z0 (7:Nat) x) (6:Nat) (0:Int);let Z2:Bool := x == (1:Int);let Z3:List Qc := bif Z2 then [] ++ Vc Z1 else [];let Z4:Nat := List.length Z3;let Z5:D RC := D.int IntKind.i8 (100:Int);let Z6:List Int := List.set (bif Z2 then List.set Z1 (6:Nat) (↑(hMany Z1):Int) else Z1) (6:Nat) (0:Int);let Z7:D RC := .anil;let Z8:Int := IntKind.wrap .i64 (List.getD (List.set Z0 (7:Nat) x) (2:Nat) (0:Int) + (1:Int));let Z9:D RC := D.int .i64 0;let Z10:D RC := D.acons (D.sl RTy.int true []) Z7;let Z11:Int := List.getD Z0 (6:Nat) (0:Int);let Z12:Int := List.getD Z0 (5:Nat) (0:Int);let Z13:Int := IntKind.wrap .i64 ((8:Int) + Z11);let Z14:List Int := List.set Z0 (7:Nat) (1:Int);let Z15:Int := List.getD Z14 (3:Nat) (0:Int);bif x != (0:Int) then bif cdec (OkHd Z1 []) then bif Nat.beq Z4 Z4 then bif lenOK Z4 then some (D.tup (D.acons (D.acons Z5 (D.acons (D.int .i64 11) (.acons (D.arr RTy.int (96:Nat) Z6) Z7))) (.acons (D.acons (D.int IntKind.i8 (4:Int)) (.acons (D.int .i64 (bif mayB (Rec.mk Z8 Z2 Z3) then secI Z8 else (0:Int))) (.acons (D.int .i64 (IntKind.wrap .i64 (List.getD Z6 (2:Nat) (0:Int) + (1:Int)))) (.acons Z9 (D.acons Z9 (D.acons (D.str (entL (Rec.mk Z8 Z2 Z3))) Z10)))))) Z7))) else none else none else none else bif decide (Z11 < if (4:Int) < Z12 then (4:Int) else Z12) then bif decide ((0:Int) <= Z13 /\ Z13 < (96:Int)) then some (D.tup (D.acons (D.acons Z5 (D.acons (D.int .i64 8) (.acons (D.arr RTy.int (96:Nat) Z0) Z7))) (.acons (D.acons (D.int IntKind.i8 (0:Int)) (.acons (D.int .i64 (lRow (21:Int) (Int.fdiv (List.getD Z0 Z13.toNat (0:Int)) (256:Int)) (24:Int))) (.acons Z9 (D.acons Z9 (D.acons Z9 (D.acons (D.str []) Z10)))))) Z7))) else none else some (D.tup (D.acons (D.acons Z5 (D.acons (D.int .i64 9) (.acons (D.arr RTy.int (96:Nat) Z14) Z7))) (.acons (D.acons (D.int IntKind.i8 (2:Int)) (.acons (D.int .i64 (lField (99:Int) (inWord Z15 % (256:Int)) (1:Int) (16:Int) (12:Int))) (.acons Z9 (D.acons (D.int .i64 1) (.acons (D.int .i64 Z15) (.acons (D.str []) Z10)))))) Z7)))) := by kernel_rfl
theorem QmV (x:Int) (r:List Int) (gc:Bool):Q3 100 8 r gc [x] = (let Z0:D RC := D.int IntKind.i8 (100:Int);let Z1:D RC := D.int .i64 9;let Z2:List Int := List.set r (7:Nat) (2:Int);let Z3:D RC := .anil;let Z4:D RC := D.int IntKind.i8 (2:Int);let Z5:Int := List.getD Z2 (3:Nat) (0:Int);let Z6:D RC := D.int .i64 0;let Z7:D RC := D.acons (D.str []) (.acons (D.sl RTy.int true []) Z3);let Z8:List Int := List.set r (6:Nat) (IntKind.wrap .i64 (List.getD r (6:Nat) (0:Int) + (1:Int)));let Z9:Int := List.getD Z8 (6:Nat) (0:Int);let Z10:Int := List.getD Z8 (5:Nat) (0:Int);let Z11:Int := IntKind.wrap .i64 ((8:Int) + Z9);let Z12:List Int := List.set Z8 (7:Nat) (1:Int);let Z13:Int := List.getD Z12 (3:Nat) (0:Int);bif decide (List.getD r (4:Nat) (0:Int) < plc x) then some (D.tup (D.acons (D.acons Z0 (D.acons Z1 (D.acons (D.arr RTy.int (96:Nat) Z2) Z3))) (.acons (D.acons Z4 (D.acons (D.int .i64 (lField (99:Int) (inWord Z5 % (256:Int)) (1:Int) (16:Int) (12:Int))) (.acons Z6 (D.acons (D.int .i64 2) (.acons (D.int .i64 Z5) Z7))))) Z3))) else bif decide (Z9 < if (4:Int) < Z10 then (4:Int) else Z10) then bif decide ((0:Int) <= Z11 /\ Z11 < (96:Int)) then some (D.tup (D.acons (D.acons Z0 (D.acons (D.int .i64 8) (.acons (D.arr RTy.int (96:Nat) Z8) Z3))) (.acons (D.acons (D.int IntKind.i8 (0:Int)) (.acons (D.int .i64 (lRow (21:Int) (Int.fdiv (List.getD Z8 Z11.toNat (0:Int)) (256:Int)) (24:Int))) (.acons Z6 (D.acons Z6 (D.acons Z6 Z7))))) Z3))) else none else some (D.tup (D.acons (D.acons Z0 (D.acons Z1 (D.acons (D.arr RTy.int (96:Nat) Z12) Z3))) (.acons (D.acons Z4 (D.acons (D.int .i64 (lField (99:Int) (inWord Z13 % (256:Int)) (1:Int) (16:Int) (12:Int))) (.acons Z6 (D.acons (D.int .i64 1) (.acons (D.int .i64 Z13) Z7))))) Z3)))) := by kernel_rfl
theorem QmW (x:Int) (r:List Int) (gc:Bool):Q3 100 9 r gc [x] = (let Z0:Int := List.getD r (3:Nat) (0:Int);let Z1:D RC := D.int .i64 0;some (D.tup (D.acons (D.acons (D.int IntKind.i8 (100:Int)) (.acons (D.int .i64 10) (.acons (D.arr RTy.int (96:Nat) r) .anil))) (.acons (D.acons (D.int IntKind.i8 (0:Int)) (.acons (D.int .i64 (lField (99:Int) (inWord Z0 % (256:Int)) (1:Int) (16:Int) (12:Int))) (.acons Z1 (D.acons Z1 (D.acons (D.int .i64 Z0) (.acons (D.str []) (.acons (D.sl RTy.int true []) .anil))))))) .anil)))) := by kernel_rfl
theorem Qin (x:Int) (r:List Int) (gc:Bool):Q3 100 10 r gc [x] = (let Z0:List Int := List.set (List.set r (7:Nat) x) (6:Nat) (0:Int);let Z1:Bool := x == (1:Int);let Z2:List Qc := bif Z1 then [] ++ Vc Z0 else [];let Z3:Nat := List.length Z2;let Z4:List Int := List.set (bif Z1 then List.set Z0 (6:Nat) (↑(hMany Z0):Int) else Z0) (6:Nat) (0:Int);let Z5:Int := IntKind.wrap .i64 (List.getD (List.set r (7:Nat) x) (2:Nat) (0:Int) + (1:Int));let Z6:D RC := D.int .i64 0;bif cdec (OkHd Z0 []) then bif Nat.beq Z3 Z3 then bif lenOK Z3 then some (D.tup (D.acons (D.acons (D.int IntKind.i8 (100:Int)) (.acons (D.int .i64 11) (.acons (D.arr RTy.int (96:Nat) Z4) .anil))) (.acons (D.acons (D.int IntKind.i8 (4:Int)) (.acons (D.int .i64 (bif mayB (Rec.mk Z5 Z1 Z2) then secI Z5 else (0:Int))) (.acons (D.int .i64 (IntKind.wrap .i64 (List.getD Z4 (2:Nat) (0:Int) + (1:Int)))) (.acons Z6 (D.acons Z6 (D.acons (D.str (entL (Rec.mk Z5 Z1 Z2))) (.acons (D.sl RTy.int true []) .anil))))))) .anil))) else none else none else none) := by kernel_rfl
theorem Qio (x:Int) (r:List Int) (gc:Bool):Q3 100 11 r gc [x] = (let Z0:D RC := D.int .i64 0;some (D.tup (D.acons (D.acons (D.int IntKind.i8 (100:Int)) (.acons (D.int .i64 12) (.acons (D.arr RTy.int (96:Nat) r) .anil))) (.acons (D.acons (D.int IntKind.i8 (5:Int)) (.acons Z0 (D.acons Z0 (D.acons Z0 (D.acons Z0 (D.acons (D.str []) (.acons (D.sl RTy.int true []) .anil))))))) .anil)))) := by kernel_rfl
theorem Qip (x:Int) (r:List Int) (gc:Bool):Q3 100 12 r gc [x] = (let Z0:Int := List.getD r (6:Nat) (0:Int);let Z1:Int := List.getD r (5:Nat) (0:Int);let Z2:Int := IntKind.wrap .i64 ((12:Int) + Z0);let Z3:Int := IntKind.wrap .i64 ((8:Int) + Z0);let Z4:D RC := D.int IntKind.i8 (100:Int);let Z5:D RC := .anil;let Z6:D RC := D.acons (D.arr RTy.int (96:Nat) r) Z5;let Z7:D RC := D.int .i64 0;let Z8:Int := List.getD r (2:Nat) (0:Int);let Z9:Int := IntKind.wrap .i64 (Z8 + (1:Int));let Z10:DO_ := some (D.tup (D.acons (D.acons Z4 (D.acons (D.int .i64 15) Z6)) (.acons (D.acons (D.int IntKind.i8 (2:Int)) (.acons Z7 (D.acons (D.int .i64 Z8) (.acons (D.int .i64 Z9) (.acons Z7 (D.acons (D.str []) (.acons (D.sl RTy.int true []) Z5))))))) Z5)));bif List.getD r (7:Nat) (0:Int) == (1:Int) then bif decide (Z0 < if (4:Int) < Z1 then (4:Int) else Z1) then bif decide ((0:Int) <= Z2 /\ Z2 < (96:Int)) then bif decide ((0:Int) <= Z3 /\ Z3 < (96:Int)) then some (D.tup (D.acons (D.acons Z4 (D.acons (D.int .i64 13) Z6)) (.acons (D.acons (D.int IntKind.i8 (6:Int)) (.acons (D.int .i64 73) (.acons Z7 (D.acons Z7 (D.acons Z7 (D.acons (D.str []) (.acons (D.sl RTy.int true [Z9,List.getD r Z2.toNat (0:Int),Int.fdiv (List.getD r Z3.toNat (0:Int)) (256:Int)]) Z5))))))) Z5))) else none else none else Z10 else Z10) := by kernel_rfl
theorem Qiq (r:List Int) (gc:Bool):Q3 100 13 r gc [] = (let Z0:Int := List.getD r (6:Nat) (0:Int);let Z1:Int := IntKind.wrap .i64 ((8:Int) + Z0);let Z2:Bool := decide ((0:Int) <= Z1 /\ Z1 < (96:Int));let Z3:D RC := D.int .i64 0;let Z4:Int := List.getD r Z1.toNat (0:Int);bif Z2 then bif Z2 then some (D.tup (D.acons (D.acons (D.int IntKind.i8 (100:Int)) (.acons (D.int .i64 14) (.acons (D.arr RTy.int (96:Nat) r) .anil))) (.acons (D.acons (D.int IntKind.i8 (6:Int)) (.acons (D.int .i64 76) (.acons Z3 (D.acons Z3 (D.acons Z3 (D.acons (D.str []) (.acons (D.sl RTy.int true [IntKind.wrap .i64 (List.getD r (2:Nat) (0:Int) + (1:Int)),Z0,Int.fdiv Z4 (256:Int),bits .i64 (fun (x:Nat) (u v:BitVec x) => u &&& v) Z4 (255:Int)]) .anil))))))) .anil))) else none else none) := by kernel_rfl
theorem Qir (r:List Int) (gc:Bool):Q3 100 14 r gc [] = (let Z0:List Int := List.set r (6:Nat) (IntKind.wrap .i64 (List.getD r (6:Nat) (0:Int) + (1:Int)));let Z1:Int := List.getD Z0 (6:Nat) (0:Int);let Z2:Int := List.getD Z0 (5:Nat) (0:Int);let Z3:Int := IntKind.wrap .i64 ((12:Int) + Z1);let Z4:Int := IntKind.wrap .i64 ((8:Int) + Z1);let Z5:D RC := D.int IntKind.i8 (100:Int);let Z6:D RC := .anil;let Z7:D RC := D.acons (D.arr RTy.int (96:Nat) Z0) Z6;let Z8:D RC := D.int .i64 0;let Z9:Int := List.getD Z0 (2:Nat) (0:Int);let Z10:Int := IntKind.wrap .i64 (Z9 + (1:Int));let Z11:DO_ := some (D.tup (D.acons (D.acons Z5 (D.acons (D.int .i64 15) Z7)) (.acons (D.acons (D.int IntKind.i8 (2:Int)) (.acons Z8 (D.acons (D.int .i64 Z9) (.acons (D.int .i64 Z10) (.acons Z8 (D.acons (D.str []) (.acons (D.sl RTy.int true []) Z6))))))) Z6)));bif List.getD Z0 (7:Nat) (0:Int) == (1:Int) then bif decide (Z1 < if (4:Int) < Z2 then (4:Int) else Z2) then bif decide ((0:Int) <= Z3 /\ Z3 < (96:Int)) then bif decide ((0:Int) <= Z4 /\ Z4 < (96:Int)) then some (D.tup (D.acons (D.acons Z5 (D.acons (D.int .i64 13) Z7)) (.acons (D.acons (D.int IntKind.i8 (6:Int)) (.acons (D.int .i64 73) (.acons Z8 (D.acons Z8 (D.acons Z8 (D.acons (D.str []) (.acons (D.sl RTy.int true [Z10,List.getD Z0 Z3.toNat (0:Int),Int.fdiv (List.getD Z0 Z4.toNat (0:Int)) (256:Int)]) Z6))))))) Z6))) else none else none else Z11 else Z11) := by kernel_rfl
theorem Qis (x:Int) (r:List Int) (gc:Bool):Q3 100 15 r gc [x] = (let Z0:D RC := D.int .i64 0;some (D.tup (D.acons (D.acons (D.int IntKind.i8 (100:Int)) (.acons (D.int .i64 1) (.acons (D.arr RTy.int (96:Nat) r) .anil))) (.acons (D.acons (D.int IntKind.i8 (0:Int)) (.acons Z0 (D.acons Z0 (D.acons Z0 (D.acons Z0 (D.acons (D.str []) (.acons (D.sl RTy.int true []) .anil))))))) .anil)))) := by kernel_rfl
theorem QmX {A:List Int} (lA:A.length = 96) (h5:0 <= A.getD 5 0 /\ A.getD 5 0 <= 4) (h6:0 <= A.getD 6 0 /\ A.getD 6 0 <= 4) (hw:okWs (hMany A) A) :
 (bif decide (A.getD 6 0 < if 4 < A.getD 5 0 then 4 else A.getD 5 0) then bif decide (0 <= IntKind.i64.wrap (8 + A.getD 6 0) /\ IntKind.i64.wrap (8 + A.getD 6 0) < 96) then some (naR (naLd 100 8 A (lRow 21 (Int.fdiv (A.getD (IntKind.i64.wrap (8 + A.getD 6 0)).toNat 0) 256) 24) 0)) else none else some (naR (naCs 100 9 (A.set 7 1) (lField 99 (inWord ((A.set 7 1).getD 3 0) % 256) 1 16 12) 0 1 ((A.set 7 1).getD 3 0)))) = some (naR (hHds A)) := by
 have hm:(hMany A:Int) = A.getD 5 0 := by unfold hMany;omega
 have hmin:(if 4 < A.getD 5 0 then (4:Int) else A.getD 5 0) = A.getD 5 0 := if_neg (by omega)
 have w8:IntKind.i64.wrap (8 + A.getD 6 0) = 8 + A.getD 6 0 := Qb (by omega) (by omega)
 have t8:(8 + A.getD 6 0).toNat = 8 + (A.getD 6 0).toNat := by omega
 have dd:decide (0 <= 8 + A.getD 6 0 /\ 8 + A.getD 6 0 < 96) = true := decide_eq_true ⟨by omega,by omega⟩
 have g3:(A.set 7 1).getD 3 0 = A.getD 3 0 := getD_set_ne' (by decide)
 have g7:(A.set 7 1).getD 7 0 = 1 := Qd (by omega)
 simp only [hHds,hDec,hDesc,w8,t8,dd,hmin,g3,g7,cond_true]
 by_cases hj:A.getD 6 0 < A.getD 5 0
 · have hwj := hw (A.getD 6 0).toNat (by omega)
   have kk:Int.fdiv (A.getD (8 + (A.getD 6 0).toNat) 0) 256 = hKey A (A.getD 6 0).toNat := Int.fdiv_eq_ediv_of_nonneg _ (by decide)
   rw [decide_eq_true hj,if_pos (show (A.getD 6 0).toNat < hMany A by omega),kk]
   rw [cond_true]
   all_goals rfl
 · rw [decide_eq_false hj,if_neg (show ¬ (A.getD 6 0).toNat < hMany A by omega)]
   rfl
theorem QmY {A:List Int} (lA:A.length = 96) (h2:0 <= A.getD 2 0 /\ A.getD 2 0 <= 1048574) (h5:0 <= A.getD 5 0 /\ A.getD 5 0 <= 4) (h6:0 <= A.getD 6 0 /\ A.getD 6 0 <= 4) (hw:okWs (hMany A) A) :
 (bif A.getD 7 0 == 1 then bif decide (A.getD 6 0 < if 4 < A.getD 5 0 then 4 else A.getD 5 0) then bif decide (0 <= IntKind.i64.wrap (12 + A.getD 6 0) /\ IntKind.i64.wrap (12 + A.getD 6 0) < 96) then bif decide (0 <= IntKind.i64.wrap (8 + A.getD 6 0) /\ IntKind.i64.wrap (8 + A.getD 6 0) < 96) then some (naR (naCl 100 13 A 73 [IntKind.i64.wrap (A.getD 2 0 + 1),A.getD (IntKind.i64.wrap (12 + A.getD 6 0)).toNat 0,Int.fdiv (A.getD (IntKind.i64.wrap (8 + A.getD 6 0)).toNat 0) 256])) else none else none else some (naR (naCs 100 15 A 0 (A.getD 2 0) (IntKind.i64.wrap (A.getD 2 0 + 1)) 0)) else some (naR (naCs 100 15 A 0 (A.getD 2 0) (IntKind.i64.wrap (A.getD 2 0 + 1)) 0))) = some (naR (hApp A)) := by
 have hm:(hMany A:Int) = A.getD 5 0 := by unfold hMany;omega
 have hmin:(if 4 < A.getD 5 0 then (4:Int) else A.getD 5 0) = A.getD 5 0 := if_neg (by omega)
 have w8:IntKind.i64.wrap (8 + A.getD 6 0) = 8 + A.getD 6 0 := Qb (by omega) (by omega)
 have t8:(8 + A.getD 6 0).toNat = 8 + (A.getD 6 0).toNat := by omega
 have w12:IntKind.i64.wrap (12 + A.getD 6 0) = 12 + A.getD 6 0 := Qb (by omega) (by omega)
 have t12:(12 + A.getD 6 0).toNat = 12 + (A.getD 6 0).toNat := by omega
 have v1:IntKind.i64.wrap (A.getD 2 0 + 1) = A.getD 2 0 + 1 := Qb (by omega) (by omega)
 have dd:decide (0 <= 8 + A.getD 6 0 /\ 8 + A.getD 6 0 < 96) = true := decide_eq_true ⟨by omega,by omega⟩
 have de:decide (0 <= 12 + A.getD 6 0 /\ 12 + A.getD 6 0 < 96) = true := decide_eq_true ⟨by omega,by omega⟩
 simp only [hApp,w8,t8,w12,t12,v1,dd,de,hmin,cond_true]
 by_cases h7:A.getD 7 0 = 1
 · rw [Zt h7,cond_true]
   by_cases hj:A.getD 6 0 < A.getD 5 0
   · have hwj := hw (A.getD 6 0).toNat (by omega)
     have kk:Int.fdiv (A.getD (8 + (A.getD 6 0).toNat) 0) 256 = hKey A (A.getD 6 0).toNat := Int.fdiv_eq_ediv_of_nonneg _ (by decide)
     rw [decide_eq_true hj,if_pos ⟨h7,show (A.getD 6 0).toNat < hMany A by omega⟩,kk]
     rw [cond_true]
     all_goals rfl
   · rw [decide_eq_false hj,if_neg (fun q => hj (by have := q.2;omega))]
     rfl
 · rw [Zd h7,if_neg (fun q => h7 q.1)];rfl
theorem QmZ {A:List Int} {x:Int} (lA:A.length = 96) (h5:0 <= A.getD 5 0 /\ A.getD 5 0 <= 4) (h6:A.getD 6 0 = 0) (h2:0 <= A.getD 2 0 /\ A.getD 2 0 <= 1048574) (hw:okWs (hMany A) A) :
 (bif cdec (OkHd (A.set 7 x) []) then bif Nat.beq (List.length (bif x == 1 then [] ++ Vc (A.set 7 x) else [])) (List.length (bif x == 1 then [] ++ Vc (A.set 7 x) else [])) then bif lenOK (List.length (bif x == 1 then [] ++ Vc (A.set 7 x) else [])) then
  some (naR (naPt 100 11 ((bif x == 1 then List.set (A.set 7 x) 6 (hMany (A.set 7 x):Int) else (A.set 7 x)).set 6 0) (bif mayB (Rec.mk (IntKind.i64.wrap (List.getD (A.set 7 x) 2 0 + 1)) (x == 1) (bif x == 1 then [] ++ Vc (A.set 7 x) else [])) then secI (IntKind.i64.wrap (List.getD (A.set 7 x) 2 0 + 1)) else 0) (IntKind.i64.wrap (List.getD ((bif x == 1 then List.set (A.set 7 x) 6 (hMany (A.set 7 x):Int) else (A.set 7 x)).set 6 0) 2 0 + 1)) (entL (Rec.mk (IntKind.i64.wrap (List.getD (A.set 7 x) 2 0 + 1)) (x == 1) (bif x == 1 then [] ++ Vc (A.set 7 x) else []))))) else none else none else none) = some (naR (hPut A x)) := by
 have E:∀ j,j ≠ 7 -> (A.set 7 x).getD j 0 = A.getD j 0 := fun j c => getD_set_ne' (fun d => c d.symm);have lS:(A.set 7 x).length = 96 := by rw [List.length_set];exact lA
 have s6:(A.set 7 x).getD 6 0 = 0 := by rw [E 6 (by decide)];exact h6
 have hM:hMany (A.set 7 x) = hMany A := by unfold hMany;rw [E 5 (by decide)]
 have k1:cdec (OkHd (A.set 7 x) []) = true := QD ⟨lS,by rw [E 5 (by decide)];exact h5,by rw [s6,E 5 (by decide)];omega,fun j hj => by rw [hM] at hj;rw [E _ (by omega)];exact hw j hj,by rw [s6];rfl⟩
 have v1:IntKind.i64.wrap (A.getD 2 0 + 1) = A.getD 2 0 + 1 := Qb (by omega) (by omega)
 have hS:(bif x == 1 then (A.set 7 x).set 6 (hMany (A.set 7 x):Int) else A.set 7 x).set 6 0 = A.set 7 x := by
  cases x == 1
  · exact JF lS s6
  · rw [cond_true,List.set_set];exact JF lS s6
 have hR := QmL (x := x) lA h6;have hl := QeF A x;rw [<- hR] at hl;have hm:(hMany A:Int) = A.getD 5 0 := by unfold hMany;omega
 have k2:lenOK (List.length (bif x == 1 then [] ++ Vc (A.set 7 x) else [])) = true := Qk (by have hl:List.length (bif x == 1 then [] ++ Vc (A.set 7 x) else []) <= hMany A := hl;omega)
 simp only [k1,k2,J1 rfl,hS,E 2 (by decide),v1,hR,cond_true]
 rfl
theorem QvR (p:Int) (k:Int) (r:List Int) (gc:Bool) (got:List Int) (h:(cdec (okHp false ⟨p,k,r⟩ got)) = true):Q3 p k r gc got = some (naR (nHp false ⟨p,k,r⟩ got)) := by
 obtain ⟨hr,hv,hp⟩ := QP.1 h;simp only at hr hv hp;have bw:bigW = 72057594037927936 := rfl;rcases hp with ⟨rfl,hk⟩ | ⟨rfl,q0,q23,hk⟩ | ⟨rfl,q0,q23,hk⟩ | ⟨rfl,wd0,wd1,hk⟩
 · rcases hk with ⟨rfl,rfl⟩ | ⟨x,rfl,k1,k7,x0,x1,y2,y3,w0,w1,d0,d1⟩
   · (rw [Qqd];conv => zeta);rfl
   · have ks:k = 1 \/ k = 2 \/ k = 3 \/ k = 4 \/ k = 5 \/ k = 6 \/ k = 7 := by omega
     rcases ks with rfl | rfl | rfl | rfl | rfl | rfl | rfl
     · (rw [Qqe];conv => zeta);rfl
     · have z := y3 (by decide)
       have v1:IntKind.i64.wrap (x + r.getD 0 0) = x + r.getD 0 0 := Qb (by omega) (by omega)
       have hk:nHp false ⟨68,2,r⟩ [x] = if x + r.getD 0 0 < r.getD 2 0 then naEn 68 2 r [170] true else if 1048575 < r.getD 2 0 then naEn 68 2 r [172] true else naLd 68 3 r 4 0 := rfl
       rw [Qqf,hk];simp only [v1]
       repeat' (first | refine cdD (fun hc => ?_) fun hc => ?_ | refine cdE (fun hc => ?_) fun hc => ?_ | refine cdN (fun hc => ?_) fun hc => ?_)
       all_goals (repeat' split)
       all_goals first | rfl | (exfalso;omega)
     · have z := y3 (by decide)
       have v1:IntKind.i64.wrap (r.getD 2 0 - 32) = r.getD 2 0 - 32 := Qb (by omega) (by omega)
       have hk:nHp false ⟨68,3,r⟩ [x] = if x < r.getD 2 0 - 32 then naEn 68 3 r [171] true else naLd 68 4 r (lRing (r.getD 2 0) (r.getD 0 0)) 0 := rfl
       rw [Qqg,hk];simp only [v1]
       repeat' (first | refine cdD (fun hc => ?_) fun hc => ?_ | refine cdE (fun hc => ?_) fun hc => ?_ | refine cdN (fun hc => ?_) fun hc => ?_)
       all_goals (repeat' split)
       all_goals first | rfl | (exfalso;omega)
     · have z := y3 (by decide)
       have g0:(r.set 3 x).getD 0 0 = r.getD 0 0 := getD_set_ne' (by decide)
       have g1:(r.set 3 x).getD 1 0 = r.getD 1 0 := getD_set_ne' (by decide)
       have g2:(r.set 3 x).getD 2 0 = r.getD 2 0 := getD_set_ne' (by decide)
       have v1:IntKind.i64.wrap (r.getD 2 0 + 1) = r.getD 2 0 + 1 := Qb (by omega) (by omega)
       have hk:nHp false ⟨68,4,r⟩ [x] = if plc x = r.getD 2 0 then naCs 68 5 (r.set 3 x) 1 (r.getD 2 0) (r.getD 2 0 + 1) 0 else if r.getD 2 0 < plc x then naLd 68 1 (r.set 3 x) 1 0
        else naCs 68 6 (r.set 3 x) (lRing (r.getD 2 0) (r.getD 0 0)) x (wordN (r.getD 2 0) (r.getD 1 0)) 0 := rfl
       rw [Qqh,hk];simp only [g0,g1,g2,v1]
       repeat' (first | refine cdD (fun hc => ?_) fun hc => ?_ | refine cdE (fun hc => ?_) fun hc => ?_ | refine cdN (fun hc => ?_) fun hc => ?_)
       all_goals (repeat' split)
       all_goals first | rfl | (exfalso;omega)
     · (rw [Qqi];conv => zeta);rfl
     · have z := y3 (by decide)
       have v1:IntKind.i64.wrap (r.getD 2 0 + 1) = r.getD 2 0 + 1 := Qb (by omega) (by omega)
       have hk:nHp false ⟨68,6,r⟩ [x] = if x = 0 then naLd 68 1 r 1 0 else naCs 68 7 r 1 (r.getD 2 0) (r.getD 2 0 + 1) 0 := rfl
       rw [Qqj,hk];simp only [v1]
       repeat' (first | refine cdD (fun hc => ?_) fun hc => ?_ | refine cdE (fun hc => ?_) fun hc => ?_ | refine cdN (fun hc => ?_) fun hc => ?_)
       all_goals (repeat' split)
       all_goals first | rfl | (exfalso;omega)
     · (rw [Qqk];conv => zeta);rfl
 · rcases hk with ⟨rfl,rfl⟩ | ⟨x,rfl,k1,k3,x0,x1,d0,d1⟩
   · have hk:nHp false ⟨73,0,r⟩ [] = if lRow 21 (r.getD 2 0) 24 < 0 then naEn 73 (bif false then 99 else 0) r [] true else naLd 73 1 r (lRow 21 (r.getD 2 0) 24) 0 := rfl
     rw [Qql,hk]
     repeat' (first | refine cdD (fun hc => ?_) fun hc => ?_ | refine cdE (fun hc => ?_) fun hc => ?_ | refine cdN (fun hc => ?_) fun hc => ?_)
     all_goals (repeat' split)
     all_goals first | rfl | (exfalso;omega)
   · have ks:k = 1 \/ k = 2 \/ k = 3 := by omega
     rcases ks with rfl | rfl | rfl
     · have m1:(if x < 0 then 0 else x) = x := if_neg (by omega)
       have m2:max x 0 = x := by omega
       have g0:(r.set 3 x).getD 0 0 = r.getD 0 0 := getD_set_ne' (by decide)
       have g1:(r.set 3 x).getD 1 0 = r.getD 1 0 := getD_set_ne' (by decide)
       have g3:(r.set 3 x).getD 3 0 = x := Qd (by omega)
       have b8:bits .i64 (fun _ u v => u &&& v) (r.getD 1 0) 255 = r.getD 1 0 % 256 := and8 _;have sc:sCell (r.getD 1 0) 1 = lField 291 (r.getD 1 0 % 256) 1 160 3 := if_neg (by omega)
       have hk:nHp false ⟨73,1,r⟩ [x] = if sCell (r.getD 1 0) 1 < 0 \/ r.getD 0 0 <= plc (max x 0) then naEn 73 (bif false then 99 else 1) (r.set 3 (max x 0)) [] true
        else naCs 73 2 (r.set 3 (max x 0)) (sCell (r.getD 1 0) 1) (-1) (max x 0) (r.getD 1 0) := rfl
       rw [Qqm,hk];simp only [m1,m2,g0,g1,g3,b8,sc];generalize lField 291 (r.getD 1 0 % 256) 1 160 3 = F at *
       repeat' (first | refine cdD (fun hc => ?_) fun hc => ?_ | refine cdE (fun hc => ?_) fun hc => ?_ | refine cdN (fun hc => ?_) fun hc => ?_)
       all_goals (repeat' split)
       all_goals first | rfl | (exfalso;omega)
     · rw [Qqn];rfl
     · (rw [Qqo];conv => zeta);rfl
 · have e1:IntKind.i64.wrap (Int.tdiv (r.getD 2 0) 8) = r.getD 2 0 / 8 := by rw [Int.tdiv_eq_ediv_of_nonneg q0,Qb (by omega) (by omega)]
   have e2:Int.tmod (r.getD 2 0) 8 = r.getD 2 0 % 8 := YZ q0;rcases hk with ⟨rfl,rfl⟩ | ⟨x,rfl,k1,k8,x0,x1,y1,y2,y3⟩
   · (rw [Qqp];conv => zeta)
     simp only [e1];rfl
   · have d1:decide (x < 9223372036854775808) = true := decide_eq_true (by unfold bigW at x1;omega)
     have wm:∀ n:Int,0 <= n -> n <= 1000000 -> IntKind.i64.wrap (n - 0) = n /\ IntKind.i64.wrap (n - 1) = n - 1 /\ IntKind.i64.wrap (n + 1) = n + 1 := fun n h1 h2 => ⟨by rw [Int.sub_zero];exact Qb (by omega) (by omega),Qb (by omega) (by omega),Qb (by omega) (by omega)⟩
     have ks:k = 1 \/ k = 2 \/ k = 3 \/ k = 4 \/ k = 5 \/ k = 6 \/ k = 7 \/ k = 8 := by omega
     rcases ks with rfl | rfl | rfl | rfl | rfl | rfl | rfl | rfl
     · have g2:(r.set 4 x).getD 2 0 = r.getD 2 0 := getD_set_ne' (by decide)
       have g4:(r.set 4 x).getD 4 0 = x := Qd (by omega)
       have w0 := (wm x x0 (y1 rfl)).1
       (rw [Qqq];conv => zeta)
       simp only [d1,g2,g4,e1,w0,cond_true];rfl
     · obtain ⟨b0,b1⟩ := y2 (by decide)
       obtain ⟨w0,w1,w2⟩ := wm _ b0 b1;have g0:(r.set 5 x).getD 0 0 = r.getD 0 0 := getD_set_ne' (by decide)
       have g1:(r.set 5 x).getD 1 0 = r.getD 1 0 := getD_set_ne' (by decide)
       have g2:(r.set 5 x).getD 2 0 = r.getD 2 0 := getD_set_ne' (by decide)
       have g3:(r.set 5 x).getD 3 0 = r.getD 3 0 := getD_set_ne' (by decide)
       have g4:(r.set 5 x).getD 4 0 = r.getD 4 0 := getD_set_ne' (by decide)
       have g5:(r.set 5 x).getD 5 0 = x := Qd (by omega)
       have hk:nHp false ⟨76,2,r⟩ [x] = if (Q9 x).isSome = true /\ (readO x).offset = r.getD 4 0 then aOn 3 (r.set 5 x) else if r.getD 4 0 = 0 then aPut (r.set 5 x) else naLd 76 4 (r.set 5 x) (lStream (sQ r) (r.getD 4 0 - 1)) 0 := rfl
       rw [Qqr,hk];cases hs:(Q9 x).isSome
       · by_cases z:r.getD 4 0 = 0
         · rw [if_neg (by simp),if_pos z]
           simp only [d1,g0,g1,g2,g3,g4,g5,e1,e2,w0,w1,w2,Zt z,naR,frmR,actR,aOn,aPut,aCnt,aCut,sQ,fCnt,fCut,naCs,naLd,naEn,cond_true,cond_false,Bool.not_true,Bool.not_false]
         · rw [if_neg (by simp),if_neg z]
           simp only [d1,g0,g1,g2,g3,g4,g5,e1,e2,w0,w1,w2,Zd z,naR,frmR,actR,aOn,aPut,aCnt,aCut,sQ,fCnt,fCut,naCs,naLd,naEn,cond_true,cond_false,Bool.not_true,Bool.not_false]
       · by_cases o:(readO x).offset = r.getD 4 0
         · rw [if_pos ⟨rfl,o⟩];simp only [d1,g0,g1,g2,g3,g4,g5,e1,e2,w0,w1,w2,Zt o,naR,frmR,actR,aOn,aPut,aCnt,aCut,sQ,fCnt,fCut,naCs,naLd,naEn,cond_true,cond_false,Bool.not_true,Bool.not_false]
         · by_cases z:r.getD 4 0 = 0
           · rw [if_neg (fun q => o q.2),if_pos z];simp only [d1,g0,g1,g2,g3,g4,g5,e1,e2,w0,w1,w2,Zd o,Zt z,naR,frmR,actR,aOn,aPut,aCnt,aCut,sQ,fCnt,fCut,naCs,naLd,naEn,cond_true,cond_false,Bool.not_true,Bool.not_false]
           · rw [if_neg (fun q => o q.2),if_neg z];simp only [d1,g0,g1,g2,g3,g4,g5,e1,e2,w0,w1,w2,Zd o,Zd z,naR,frmR,actR,aOn,aPut,aCnt,aCut,sQ,fCnt,fCut,naCs,naLd,naEn,cond_true,cond_false,Bool.not_true,Bool.not_false]
     · (rw [Qqs];conv => zeta)
       try simp only [e1,d1,cond_true]
       rfl
     · obtain ⟨b0,b1⟩ := y2 (by decide)
       obtain ⟨w0,w1,w2⟩ := wm _ b0 b1
       have hk:nHp false ⟨76,4,r⟩ [x] = if r.getD 0 0 < (readO x).place \/ (readO x).place = r.getD 0 0 /\ r.getD 1 0 <= (readO x).j then naEn 76 4 r [] true
        else if (Q9 x).isSome = false \/ (readO x).offset ≠ r.getD 4 0 - 1 then aCnt r else if r.getD 5 0 = 0 then aPut r else aCut r := rfl
       rw [Qqt,hk];rcases Int.lt_trichotomy (r.getD 0 0) (readO x).place with a | a | a
       · rw [if_pos (.inl a)];simp only [d1,decide_eq_true a,decide_eq_false (show ¬ (readO x).place < r.getD 0 0 by omega),Zd (show ¬ (readO x).place = r.getD 0 0 by omega),naR,frmR,actR,aOn,aPut,aCnt,aCut,sQ,fCnt,fCut,naCs,naLd,naEn,cond_true,cond_false,Bool.not_true,Bool.not_false]
       · have c1:decide (r.getD 0 0 < (readO x).place) = false := decide_eq_false (by omega)
         have c2:decide ((readO x).place < r.getD 0 0) = false := decide_eq_false (by omega)
         have c3:((readO x).place == r.getD 0 0) = true := Zt a.symm
         by_cases b:r.getD 1 0 <= (readO x).j
         · have c4:decide ((readO x).j < r.getD 1 0) = false := decide_eq_false (by omega)
           rw [if_pos (.inr ⟨a.symm,b⟩)];simp only [d1,c1,c2,c3,c4,decide_eq_true b,naR,frmR,actR,aOn,aPut,aCnt,aCut,sQ,fCnt,fCut,naCs,naLd,naEn,cond_true,cond_false,Bool.not_true,Bool.not_false]
         · have c4:decide ((readO x).j < r.getD 1 0) = true := decide_eq_true (by omega)
           have c5:decide (r.getD 1 0 <= (readO x).j) = false := decide_eq_false b;rw [if_neg (fun q => q.elim (fun q => by omega) (fun q => b q.2))]
           cases hs:(Q9 x).isSome
           · rw [if_pos (.inl rfl)];simp only [d1,e1,e2,w0,w1,w2,c1,c2,c3,c4,c5,naR,frmR,actR,aOn,aPut,aCnt,aCut,sQ,fCnt,fCut,naCs,naLd,naEn,cond_true,cond_false,Bool.not_true,Bool.not_false]
           · by_cases o:(readO x).offset = r.getD 4 0 - 1
             · rw [if_neg (fun q => q.elim (fun q => by cases q) (fun q => q o))]
               by_cases z:r.getD 5 0 = 0
               · rw [if_pos z];simp only [d1,e1,e2,w0,w1,w2,YU o,Zt z,c1,c2,c3,c4,c5,naR,frmR,actR,aOn,aPut,aCnt,aCut,sQ,fCnt,fCut,naCs,naLd,naEn,cond_true,cond_false,Bool.not_true,Bool.not_false]
               · rw [if_neg z];simp only [d1,e1,e2,w0,w1,w2,YU o,Zd z,c1,c2,c3,c4,c5,naR,frmR,actR,aOn,aPut,aCnt,aCut,sQ,fCnt,fCut,naCs,naLd,naEn,cond_true,cond_false,Bool.not_true,Bool.not_false]
             · rw [if_pos (.inr o)];simp only [d1,e1,e2,w0,w1,w2,J0 o,c1,c2,c3,c4,c5,naR,frmR,actR,aOn,aPut,aCnt,aCut,sQ,fCnt,fCut,naCs,naLd,naEn,cond_true,cond_false,Bool.not_true,Bool.not_false]
       · have c1:decide (r.getD 0 0 < (readO x).place) = false := decide_eq_false (by omega)
         have c2:decide ((readO x).place < r.getD 0 0) = true := decide_eq_true a;have c3:((readO x).place == r.getD 0 0) = false := Zd (by omega)
         rw [if_neg (fun q => q.elim (fun q => by omega) (fun q => by omega))]
         cases hs:(Q9 x).isSome
         · rw [if_pos (.inl rfl)];simp only [d1,e1,e2,w0,w1,w2,c1,c2,c3,naR,frmR,actR,aOn,aPut,aCnt,aCut,sQ,fCnt,fCut,naCs,naLd,naEn,cond_true,cond_false,Bool.not_true,Bool.not_false]
         · by_cases o:(readO x).offset = r.getD 4 0 - 1
           · rw [if_neg (fun q => q.elim (fun q => by cases q) (fun q => q o))]
             by_cases z:r.getD 5 0 = 0
             · rw [if_pos z];simp only [d1,e1,e2,w0,w1,w2,YU o,Zt z,c1,c2,c3,naR,frmR,actR,aOn,aPut,aCnt,aCut,sQ,fCnt,fCut,naCs,naLd,naEn,cond_true,cond_false,Bool.not_true,Bool.not_false]
             · rw [if_neg z];simp only [d1,e1,e2,w0,w1,w2,YU o,Zd z,c1,c2,c3,naR,frmR,actR,aOn,aPut,aCnt,aCut,sQ,fCnt,fCut,naCs,naLd,naEn,cond_true,cond_false,Bool.not_true,Bool.not_false]
           · rw [if_pos (.inr o)];simp only [d1,e1,e2,w0,w1,w2,J0 o,c1,c2,c3,naR,frmR,actR,aOn,aPut,aCnt,aCut,sQ,fCnt,fCut,naCs,naLd,naEn,cond_true,cond_false,Bool.not_true,Bool.not_false]
     · obtain ⟨b0,b1⟩ := y2 (by decide)
       obtain ⟨w0,w1,w2⟩ := wm _ b0 b1;have d2:decide (r.getD 5 0 < 9223372036854775808) = true := decide_eq_true (by have := (y3 (by decide)).2;unfold bigW at this;omega)
       have hk:nHp false ⟨76,5,r⟩ [x] = if x < (readO (r.getD 5 0)).place then naCs 76 8 r (lRow 48 (sQ r) 3) x (readO (r.getD 5 0)).place 0 else aPut r := rfl
       rw [Qqu,hk]
       by_cases z:x < (readO (r.getD 5 0)).place
       · rw [if_pos z];simp only [d1,d2,e1,e2,w0,w1,w2,decide_eq_true z,naR,frmR,actR,aOn,aPut,aCnt,aCut,sQ,fCnt,fCut,naCs,naLd,naEn,cond_true,cond_false,Bool.not_true,Bool.not_false]
       · rw [if_neg z];simp only [d1,d2,e1,e2,w0,w1,w2,decide_eq_false z,naR,frmR,actR,aOn,aPut,aCnt,aCut,sQ,fCnt,fCut,naCs,naLd,naEn,cond_true,cond_false,Bool.not_true,Bool.not_false]
     · obtain ⟨b0,b1⟩ := y2 (by decide)
       obtain ⟨w0,w1,w2⟩ := wm _ b0 b1;have hk:nHp false ⟨76,6,r⟩ [x] = if x = 0 then aCnt r else aOn 7 r := rfl
       rw [Qqv,hk]
       by_cases z:x = 0
       · rw [if_pos z];simp only [d1,e1,e2,w0,w1,w2,Zt z,naR,frmR,actR,aOn,aPut,aCnt,aCut,sQ,fCnt,fCut,naCs,naLd,naEn,cond_true,cond_false,Bool.not_true,Bool.not_false]
       · rw [if_neg z];simp only [d1,e1,e2,w0,w1,w2,Zd z,naR,frmR,actR,aOn,aPut,aCnt,aCut,sQ,fCnt,fCut,naCs,naLd,naEn,cond_true,cond_false,Bool.not_true,Bool.not_false]
     · (rw [Qqw];conv => zeta)
       try simp only [d1,e1,cond_true]
       rfl
     · (rw [Qqx];conv => zeta)
       try simp only [d1,e1,cond_true]
       rfl
 · rcases hk with ⟨rfl,rfl⟩ | ⟨hk,rfl,f0,f1,m0,m1,j0,j1,hw⟩ | ⟨x,rfl,a1,a15,a13,a14,x0,x1,y1,y2,y3,y4,y5,y6,y12,y7⟩
   · (rw [QmN];conv => zeta);rfl
   · have hm:(hMany r:Int) = r.getD 5 0 := by unfold hMany;omega
     have hwj := hw (r.getD 6 0).toNat (by omega)
     have w8:IntKind.i64.wrap (8 + r.getD 6 0) = 8 + r.getD 6 0 := Qb (by omega) (by omega)
     have t8:(8 + r.getD 6 0).toNat = 8 + (r.getD 6 0).toNat := by omega
     have v1:IntKind.i64.wrap (r.getD 2 0 + 1) = r.getD 2 0 + 1 := Qb (by omega) (by omega)
     have dd:decide (0 <= 8 + r.getD 6 0 /\ 8 + r.getD 6 0 < 96) = true := decide_eq_true ⟨by omega,by omega⟩
     rcases hk with rfl | rfl
     · have kk:Int.fdiv (r.getD (8 + (r.getD 6 0).toNat) 0) 256 = hKey r (r.getD 6 0).toNat := Int.fdiv_eq_ediv_of_nonneg _ (by decide)
       have kv:bits .i64 (fun _ u v => u &&& v) (r.getD (8 + (r.getD 6 0).toNat) 0) 255 = hVal r (r.getD 6 0).toNat := and8 _;have hk:nHp false ⟨100,13,r⟩ [] = naCl 100 14 r 76 [r.getD 2 0 + 1,r.getD 6 0,hKey r (r.getD 6 0).toNat,hVal r (r.getD 6 0).toNat] := rfl;rw [Qiq,hk];simp only [w8,t8,dd,v1,kk,kv,cond_true];rfl
     · have w6:IntKind.i64.wrap (r.getD 6 0 + 1) = r.getD 6 0 + 1 := Qb (by omega) (by omega)
       have hk:nHp false ⟨100,14,r⟩ [] = hApp (r.set 6 (r.getD 6 0 + 1)) := rfl;rw [Qir,hk,w6]
       exact QmY (by rw [List.length_set];exact hr) (by rw [getD_set_ne' (by decide)];omega) (by rw [getD_set_ne' (by decide)];omega) (by rw [Qd (by omega)];omega) (fun j hj => by
        have hM:hMany (r.set 6 (r.getD 6 0 + 1)) = hMany r := by unfold hMany;rw [getD_set_ne' (by decide)]
        rw [hM] at hj;rw [getD_set_ne' (by omega)];exact hw j hj)
   · have ks:k = 1 \/ k = 2 \/ k = 3 \/ k = 4 \/ k = 5 \/ k = 6 \/ k = 7 \/ k = 8 \/ k = 9 \/ k = 10 \/ k = 11 \/ k = 12 \/ k = 15 := by omega
     rcases ks with rfl | rfl | rfl | rfl | rfl | rfl | rfl | rfl | rfl | rfl | rfl | rfl | rfl
     · have z := y1 rfl;have g0:(r.set 2 x).getD 0 0 = r.getD 0 0 := getD_set_ne' (by decide)
       have g1:(r.set 2 x).getD 1 0 = r.getD 1 0 := getD_set_ne' (by decide)
       have g2:(r.set 2 x).getD 2 0 = x := Qd (by omega)
       have v1:IntKind.i64.wrap (x + 1) = x + 1 := Qb (by omega) (by omega)
       have hk:nHp false ⟨100,1,r⟩ [x] = if r.getD 0 0 <= x then naEn 100 1 (r.set 2 x) [] true else naLd 100 2 (r.set 2 x) (lRing (x + 1) (r.getD 1 0)) 0 := rfl
       rw [QmO,hk];simp only [g0,g1,g2,v1]
       repeat' (first | refine cdD (fun hc => ?_) fun hc => ?_ | refine cdE (fun hc => ?_) fun hc => ?_ | refine cdN (fun hc => ?_) fun hc => ?_)
       all_goals (repeat' split)
       all_goals first | rfl | (exfalso;omega)
     · have z := y2 (by decide) (by decide)
       have g3:(r.set 3 (bare x)).getD 3 0 = bare x := Qd (by omega)
       have v1:IntKind.i64.wrap (r.getD 2 0 + 1) = r.getD 2 0 + 1 := Qb (by omega) (by omega)
       have hk:nHp false ⟨100,2,r⟩ [x] = if plc x = r.getD 2 0 + 1 then hOf 3 (r.set 3 (bare x)) 2 else hBeg r := rfl
       rw [QmP,hk];simp only [hOf,hDesc,g3,v1]
       repeat' (first | refine cdD (fun hc => ?_) fun hc => ?_ | refine cdE (fun hc => ?_) fun hc => ?_ | refine cdN (fun hc => ?_) fun hc => ?_)
       all_goals (repeat' split)
       all_goals first | rfl | (exfalso;omega)
     · (rw [QmQ];conv => zeta);rfl
     · have z := y4 rfl;have g3:((r.set 5 x).set 6 0).getD 3 0 = r.getD 3 0 := by rw [getD_set_ne' (by decide),getD_set_ne' (by decide)]
       have g5:((r.set 5 x).set 6 0).getD 5 0 = x := by rw [getD_set_ne' (by decide),Qd (by omega)]
       have g6:((r.set 5 x).set 6 0).getD 6 0 = 0 := Qd (by rw [List.length_set];omega)
       have hmin:(if 4 < x then (4:Int) else x) = x := if_neg (by omega)
       have v4:IntKind.i64.wrap (4 + 0) = 4 + 0 := Qb (by decide) (by decide)
       have hk:nHp false ⟨100,4,r⟩ [x] = hWrs ((r.set 5 x).set 6 0) := rfl;rw [QmR,hk];simp only [hWrs,hOf,hDesc,hMany,g3,g5,g6,hmin,v4]
       repeat' (first | refine cdD (fun hc => ?_) fun hc => ?_ | refine cdE (fun hc => ?_) fun hc => ?_ | refine cdN (fun hc => ?_) fun hc => ?_)
       all_goals (repeat' split)
       all_goals first | rfl | (exfalso;omega)
     · have z5 := y5 (by decide) (by decide)
       have z6 := y6 (.inl rfl);have w8:IntKind.i64.wrap (8 + r.getD 6 0) = 8 + r.getD 6 0 := Qb (by omega) (by omega)
       have t8:(8 + r.getD 6 0).toNat = 8 + (r.getD 6 0).toNat := by omega
       have dd:decide (0 <= 8 + r.getD 6 0 /\ 8 + r.getD 6 0 < 96) = true := decide_eq_true ⟨by omega,by omega⟩
       have g3:(r.set (8 + (r.getD 6 0).toNat) x).getD 3 0 = r.getD 3 0 := getD_set_ne' (by omega)
       have g6:(r.set (8 + (r.getD 6 0).toNat) x).getD 6 0 = r.getD 6 0 := getD_set_ne' (by omega)
       have hk:nHp false ⟨100,5,r⟩ [x] = hOf 6 (r.set (8 + (r.getD 6 0).toNat) x) (8 + r.getD 6 0) := rfl;rw [QmS,hk];simp only [hOf,hDesc,w8,t8,dd,g3,g6,cond_true];rfl
     · have z5 := y5 (by decide) (by decide)
       have z6 := y6 (.inr (.inl rfl));have w8:IntKind.i64.wrap (12 + r.getD 6 0) = 12 + r.getD 6 0 := Qb (by omega) (by omega)
       have t8:(12 + r.getD 6 0).toNat = 12 + (r.getD 6 0).toNat := by omega
       have dd:decide (0 <= 12 + r.getD 6 0 /\ 12 + r.getD 6 0 < 96) = true := decide_eq_true ⟨by omega,by omega⟩
       have h6:(r.set (12 + (r.getD 6 0).toNat) x).getD 6 0 = r.getD 6 0 := getD_set_ne' (by omega)
       have w6:IntKind.i64.wrap (r.getD 6 0 + 1) = r.getD 6 0 + 1 := Qb (by omega) (by omega)
       have g3:((r.set (12 + (r.getD 6 0).toNat) x).set 6 (r.getD 6 0 + 1)).getD 3 0 = r.getD 3 0 := by rw [getD_set_ne' (by decide),getD_set_ne' (by omega)]
       have g5:((r.set (12 + (r.getD 6 0).toNat) x).set 6 (r.getD 6 0 + 1)).getD 5 0 = r.getD 5 0 := by rw [getD_set_ne' (by decide),getD_set_ne' (by omega)]
       have g6:((r.set (12 + (r.getD 6 0).toNat) x).set 6 (r.getD 6 0 + 1)).getD 6 0 = r.getD 6 0 + 1 := Qd (by rw [List.length_set];omega)
       have hmin:(if 4 < r.getD 5 0 then (4:Int) else r.getD 5 0) = r.getD 5 0 := if_neg (by omega)
       have v4:IntKind.i64.wrap (4 + (r.getD 6 0 + 1)) = 4 + (r.getD 6 0 + 1) := Qb (by omega) (by omega)
       have hk:nHp false ⟨100,6,r⟩ [x] = hWrs ((r.set (12 + (r.getD 6 0).toNat) x).set 6 (r.getD 6 0 + 1)) := rfl;rw [QmT,hk];simp only [hWrs,hOf,hDesc,hMany,w8,t8,dd,h6,w6,g3,g5,g6,hmin,v4,cond_true]
       repeat' (first | refine cdD (fun hc => ?_) fun hc => ?_ | refine cdE (fun hc => ?_) fun hc => ?_ | refine cdN (fun hc => ?_) fun hc => ?_)
       all_goals (repeat' split)
       all_goals first | rfl | (exfalso;omega)
     · have z2 := y2 (by decide) (by decide)
       have z5 := y5 (by decide) (by decide)
       have z7 := y7 (by decide) (by decide)
       have hk:nHp false ⟨100,7,r⟩ [x] = if x = 0 then hHds (r.set 6 0) else hPut (r.set 6 0) x := rfl
       have E:∀ j,j ≠ 6 -> (r.set 6 0).getD j 0 = r.getD j 0 := fun j c => getD_set_ne' (fun d => c d.symm);have g6:(r.set 6 0).getD 6 0 = 0 := Qd (by omega)
       have lA:(r.set 6 0).length = 96 := by rw [List.length_set];exact hr
       have hM:hMany (r.set 6 0) = hMany r := by unfold hMany;rw [E 5 (by decide)]
       have hwA:okWs (hMany (r.set 6 0)) (r.set 6 0) := fun j hj => by rw [hM] at hj;rw [E _ (by omega)];exact z7 j hj
       rw [QmU,hk]
       by_cases e0:x = 0
       · rw [if_pos e0,YU e0,cond_false];exact QmX lA (by rw [E 5 (by decide)];exact z5) (by rw [g6];decide) hwA
       · rw [if_neg e0,J0 e0,cond_true];have h8:((r.set 6 0).set 7 x).set 6 0 = (r.set 6 0).set 7 x := JF (by simp only [List.length_set];exact hr) (by rw [getD_set_ne' (by decide)];exact g6)
         rw [h8];exact QmZ lA (by rw [E 5 (by decide)];exact z5) g6 (by rw [E 2 (by decide)];exact z2) hwA
     · have z5 := y5 (by decide) (by decide)
       have z6 := y6 (.inr (.inr rfl));have z7 := y7 (by decide) (by decide)
       have w6:IntKind.i64.wrap (r.getD 6 0 + 1) = r.getD 6 0 + 1 := Qb (by omega) (by omega)
       have E:∀ j,j ≠ 6 -> (r.set 6 (r.getD 6 0 + 1)).getD j 0 = r.getD j 0 := fun j c => getD_set_ne' (fun d => c d.symm);have g6:(r.set 6 (r.getD 6 0 + 1)).getD 6 0 = r.getD 6 0 + 1 := Qd (by omega)
       have hM:hMany (r.set 6 (r.getD 6 0 + 1)) = hMany r := by unfold hMany;rw [E 5 (by decide)]
       have hwA:okWs (hMany (r.set 6 (r.getD 6 0 + 1))) (r.set 6 (r.getD 6 0 + 1)) := fun j hj => by rw [hM] at hj;rw [E _ (by omega)];exact z7 j hj
       have g3:(r.set 7 2).getD 3 0 = r.getD 3 0 := getD_set_ne' (by decide)
       have g7:(r.set 7 2).getD 7 0 = 2 := Qd (by omega)
       have hk:nHp false ⟨100,8,r⟩ [x] = if r.getD 4 0 < plc x then hDec r 2 else hHds (r.set 6 (r.getD 6 0 + 1)) := rfl
       rw [QmV,hk,w6]
       by_cases e0:r.getD 4 0 < plc x
       · rw [if_pos e0,decide_eq_true e0,cond_true];simp only [g3,g7];rfl
       · rw [if_neg e0,decide_eq_false e0,cond_false];exact QmX (by rw [List.length_set];exact hr) (by rw [E 5 (by decide)];exact z5) (by rw [g6];omega) hwA
     · (rw [QmW];conv => zeta);rfl
     · have z2 := y2 (by decide) (by decide)
       have z5 := y5 (by decide) (by decide)
       have z7 := y7 (by decide) (by decide)
       have hk:nHp false ⟨100,10,r⟩ [x] = hPut (r.set 6 0) x := rfl;have E:∀ j,j ≠ 6 -> (r.set 6 0).getD j 0 = r.getD j 0 := fun j c => getD_set_ne' (fun d => c d.symm);have g6:(r.set 6 0).getD 6 0 = 0 := Qd (by omega)
       have lA:(r.set 6 0).length = 96 := by rw [List.length_set];exact hr
       have hM:hMany (r.set 6 0) = hMany r := by unfold hMany;rw [E 5 (by decide)]
       have hwA:okWs (hMany (r.set 6 0)) (r.set 6 0) := fun j hj => by rw [hM] at hj;rw [E _ (by omega)];exact z7 j hj
       have hc:(r.set 7 x).set 6 0 = (r.set 6 0).set 7 x := List.set_comm _ _ (by decide)
       have h7:(r.set 7 x).getD 2 0 = ((r.set 6 0).set 7 x).getD 2 0 := by rw [getD_set_ne' (by decide),getD_set_ne' (by decide),getD_set_ne' (by decide)]
       have h8:((r.set 6 0).set 7 x).set 6 0 = (r.set 6 0).set 7 x := JF (by simp only [List.length_set];exact hr) (by rw [getD_set_ne' (by decide)];exact g6)
       rw [Qin,hk,hc,h7];exact QmZ (x := x) lA (by rw [E 5 (by decide)];exact z5) g6 (by rw [E 2 (by decide)];exact z2) hwA
     · (rw [Qio];conv => zeta);rfl
     · have z5 := y5 (by decide) (by decide)
       have z7 := y7 (by decide) (by decide)
       have z6 := y12 rfl rfl;have z2 := y2 (by decide) (by decide)
       have hk:nHp false ⟨100,12,r⟩ [x] = hApp r := rfl;rw [Qip,hk];exact QmY hr (by omega) (by omega) (by omega) z7
     · (rw [Qis];conv => zeta);rfl
noncomputable def uQ_1 := uq_1.addSpec 32 Qsk
theorem Qm0:Qh Tryz.prog s25 uQ_1 := QmK.addEv Qa fun args d h => by
 unfold Qsk at h
 split at h
 · unfold QvQ at h;have h1 := congrArg Prod.fst (Option.some.inj h);obtain rfl:_ = d := congrArg Prod.snd (Option.some.inj h);exact ⟨by simp [D.refs,Qgz],120,QvR _ _ _ _ _ h1⟩
 · cases h
noncomputable def QvS (p:Int) (k:Int) (r:List Int) (gc:Bool) (got:List Int):Option (Bool × D RC) := some (cdec (okHp true ⟨p,k,r⟩ got),naR (nHp true ⟨p,k,r⟩ got))
noncomputable def Qsl:List (D RC) -> Option (Bool × D RC)
 | [.acons (.int .i8 p) (.acons (.int .i64 k) (.acons (.arr .int 96 r) .anil)),.sl .int gc got] => QvS p k r gc got
 | _ => none
noncomputable def QY (p:Int) (k:Int) (r:List Int) (gc:Bool) (got:List Int) := evF s25 uQ_1 120 144 [.acons (.int .i8 p) (.acons (.int .i64 k) (.acons (.arr (C := RC) .int 96 r) .anil)),.sl (C := RC) .int gc got]
theorem Qqy (r:List Int) (gc:Bool):QY 68 0 r gc [] = (let Z0:D RC := D.int .i64 1;let Z1:D RC := D.int .i64 0;some (D.tup (D.acons (D.acons (D.int IntKind.i8 (68:Int)) (.acons Z0 (D.acons (D.arr RTy.int (96:Nat) r) .anil))) (.acons (D.acons (D.int IntKind.i8 (0:Int)) (.acons Z0 (D.acons Z1 (D.acons Z1 (D.acons Z1 (D.acons (D.str []) (.acons (D.sl RTy.int true []) .anil))))))) .anil)))) := by kernel_rfl
theorem Qqz (x:Int) (r:List Int) (gc:Bool):QY 68 1 r gc [x] = (let Z0:D RC := D.int .i64 0;some (D.tup (D.acons (D.acons (D.int IntKind.i8 (68:Int)) (.acons (D.int .i64 2) (.acons (D.arr RTy.int (96:Nat) (List.set r (2:Nat) x)) .anil))) (.acons (D.acons (D.int IntKind.i8 (0:Int)) (.acons Z0 (D.acons Z0 (D.acons Z0 (D.acons Z0 (D.acons (D.str []) (.acons (D.sl RTy.int true []) .anil))))))) .anil)))) := by kernel_rfl
theorem QqA (x:Int) (r:List Int) (gc:Bool):QY 68 2 r gc [x] = (let Z0:Int := List.getD r (2:Nat) (0:Int);let Z1:D RC := D.int IntKind.i8 (68:Int);let Z2:D RC := .anil;let Z3:D RC := D.acons (D.arr RTy.int (96:Nat) r) Z2;let Z4:D RC := D.acons Z1 (D.acons (D.int .i64 2) Z3);let Z5:D RC := D.int IntKind.i8 (7:Int);let Z6:D RC := D.int .i64 0;bif decide (IntKind.wrap .i64 (x + List.getD r (0:Nat) (0:Int)) < Z0) then some (D.tup (D.acons Z4 (D.acons (D.acons Z5 (D.acons Z6 (D.acons Z6 (D.acons Z6 (D.acons Z6 (D.acons (D.str []) (.acons (D.sl RTy.int true [(170:Int)]) Z2))))))) Z2))) else bif decide ((1048575:Int) < Z0) then some (D.tup (D.acons Z4 (D.acons (D.acons Z5 (D.acons Z6 (D.acons Z6 (D.acons Z6 (D.acons Z6 (D.acons (D.str []) (.acons (D.sl RTy.int true [(172:Int)]) Z2))))))) Z2))) else some (D.tup (D.acons (D.acons Z1 (D.acons (D.int .i64 3) Z3)) (.acons (D.acons (D.int IntKind.i8 (0:Int)) (.acons (D.int .i64 4) (.acons Z6 (D.acons Z6 (D.acons Z6 (D.acons (D.str []) (.acons (D.sl RTy.int true []) Z2))))))) Z2)))) := by kernel_rfl
theorem QqB (x:Int) (r:List Int) (gc:Bool):QY 68 3 r gc [x] = (let Z0:Int := List.getD r (2:Nat) (0:Int);let Z1:D RC := D.int IntKind.i8 (68:Int);let Z2:D RC := .anil;let Z3:D RC := D.acons (D.arr RTy.int (96:Nat) r) Z2;let Z4:D RC := D.int .i64 0;bif decide (x < IntKind.wrap .i64 (Z0 - (32:Int))) then some (D.tup (D.acons (D.acons Z1 (D.acons (D.int .i64 3) Z3)) (.acons (D.acons (D.int IntKind.i8 (7:Int)) (.acons Z4 (D.acons Z4 (D.acons Z4 (D.acons Z4 (D.acons (D.str []) (.acons (D.sl RTy.int true [(171:Int)]) Z2))))))) Z2))) else some (D.tup (D.acons (D.acons Z1 (D.acons (D.int .i64 4) Z3)) (.acons (D.acons (D.int IntKind.i8 (0:Int)) (.acons (D.int .i64 (lRing Z0 (List.getD r (0:Nat) (0:Int)))) (.acons Z4 (D.acons Z4 (D.acons Z4 (D.acons (D.str []) (.acons (D.sl RTy.int true []) Z2))))))) Z2)))) := by kernel_rfl
theorem QqC (x:Int) (r:List Int) (gc:Bool):QY 68 4 r gc [x] = (let Z0:Int := List.getD r (2:Nat) (0:Int);let Z1:D RC := D.int IntKind.i8 (68:Int);let Z2:D RC := .anil;let Z3:D RC := D.acons (D.arr RTy.int (96:Nat) (List.set r (3:Nat) x)) Z2;let Z4:D RC := D.int IntKind.i8 (2:Int);let Z5:D RC := D.int .i64 1;let Z6:D RC := D.int .i64 0;let Z7:D RC := D.acons Z6 (D.acons (D.str []) (.acons (D.sl RTy.int true []) Z2));bif plc x == Z0 then some (D.tup (D.acons (D.acons Z1 (D.acons (D.int .i64 5) Z3)) (.acons (D.acons Z4 (D.acons Z5 (D.acons (D.int .i64 Z0) (.acons (D.int .i64 (IntKind.wrap .i64 (Z0 + (1:Int)))) Z7)))) Z2))) else bif decide (Z0 < plc x) then some (D.tup (D.acons (D.acons Z1 (D.acons Z5 Z3)) (.acons (D.acons (D.int IntKind.i8 (0:Int)) (.acons Z5 (D.acons Z6 (D.acons Z6 Z7)))) Z2))) else some (D.tup (D.acons (D.acons Z1 (D.acons (D.int .i64 6) Z3)) (.acons (D.acons Z4 (D.acons (D.int .i64 (lRing Z0 (List.getD r (0:Nat) (0:Int)))) (.acons (D.int .i64 x) (.acons (D.int .i64 (wordN Z0 (List.getD r (1:Nat) (0:Int)))) Z7)))) Z2)))) := by kernel_rfl
theorem QqD (x:Int) (r:List Int) (gc:Bool):QY 68 5 r gc [x] = (let Z0:D RC := D.int .i64 1;let Z1:D RC := D.int .i64 0;some (D.tup (D.acons (D.acons (D.int IntKind.i8 (68:Int)) (.acons Z0 (D.acons (D.arr RTy.int (96:Nat) r) .anil))) (.acons (D.acons (D.int IntKind.i8 (0:Int)) (.acons Z0 (D.acons Z1 (D.acons Z1 (D.acons Z1 (D.acons (D.str []) (.acons (D.sl RTy.int true []) .anil))))))) .anil)))) := by kernel_rfl
theorem QqE (x:Int) (r:List Int) (gc:Bool):QY 68 6 r gc [x] = (let Z0:D RC := D.int IntKind.i8 (68:Int);let Z1:D RC := D.int .i64 1;let Z2:D RC := D.acons (D.arr RTy.int (96:Nat) r) .anil;let Z3:D RC := D.int .i64 0;let Z4:D RC := D.acons Z3 (D.acons (D.str []) (.acons (D.sl RTy.int true []) .anil));let Z5:Int := List.getD r (2:Nat) (0:Int);bif x == (0:Int) then some (D.tup (D.acons (D.acons Z0 (D.acons Z1 Z2)) (.acons (D.acons (D.int IntKind.i8 (0:Int)) (.acons Z1 (D.acons Z3 (D.acons Z3 Z4)))) .anil))) else some (D.tup (D.acons (D.acons Z0 (D.acons (D.int .i64 7) Z2)) (.acons (D.acons (D.int IntKind.i8 (2:Int)) (.acons Z1 (D.acons (D.int .i64 Z5) (.acons (D.int .i64 (IntKind.wrap .i64 (Z5 + (1:Int)))) Z4)))) .anil)))) := by kernel_rfl
theorem QqF (x:Int) (r:List Int) (gc:Bool):QY 68 7 r gc [x] = (let Z0:D RC := D.int .i64 0;some (D.tup (D.acons (D.acons (D.int IntKind.i8 (68:Int)) (.acons (D.int .i64 7) (.acons (D.arr RTy.int (96:Nat) r) .anil))) (.acons (D.acons (D.int IntKind.i8 (7:Int)) (.acons Z0 (D.acons Z0 (D.acons Z0 (D.acons Z0 (D.acons (D.str []) (.acons (D.sl RTy.int true [(0:Int),List.getD r (2:Nat) (0:Int)]) .anil))))))) .anil)))) := by kernel_rfl
theorem QqG (r:List Int) (gc:Bool):QY 73 0 r gc [] = (let Z0:Int := lRow (21:Int) (List.getD r (2:Nat) (0:Int)) (24:Int);let Z1:D RC := D.int IntKind.i8 (73:Int);let Z2:D RC := D.acons (D.arr RTy.int (96:Nat) r) .anil;let Z3:D RC := D.int .i64 0;let Z4:D RC := D.acons Z3 (D.acons Z3 (D.acons Z3 (D.acons (D.str []) (.acons (D.sl RTy.int true []) .anil))));bif decide (Z0 < (0:Int)) then some (D.tup (D.acons (D.acons Z1 (D.acons (D.int .i64 99) Z2)) (.acons (D.acons (D.int IntKind.i8 (7:Int)) (.acons Z3 Z4)) .anil))) else some (D.tup (D.acons (D.acons Z1 (D.acons (D.int .i64 1) Z2)) (.acons (D.acons (D.int IntKind.i8 (0:Int)) (.acons (D.int .i64 Z0) Z4)) .anil)))) := by kernel_rfl
theorem QqH (x:Int) (r:List Int) (gc:Bool):QY 73 1 r gc [x] = (let Z0:List Int := List.set r (3:Nat) (if x < (0:Int) then (0:Int) else x);let Z1:Int := List.getD Z0 (1:Nat) (0:Int);let Z2:D RC := D.int IntKind.i8 (73:Int);let Z3:D RC := D.acons (D.arr RTy.int (96:Nat) Z0) .anil;let Z4:D RC := D.int .i64 0;let Z5:D RC := D.acons (D.str []) (.acons (D.sl RTy.int true []) .anil);let Z6:DO_ := some (D.tup (D.acons (D.acons Z2 (D.acons (D.int .i64 99) Z3)) (.acons (D.acons (D.int IntKind.i8 (7:Int)) (.acons Z4 (D.acons Z4 (D.acons Z4 (D.acons Z4 Z5))))) .anil)));let Z7:Int := lField (291:Int) (Int.tmod Z1 (256:Int)) (1:Int) (160:Int) (3:Int);let Z8:Int := List.getD Z0 (3:Nat) (0:Int);bif decide (Z1 < (0:Int)) then Z6 else bif decide (Z7 < (0:Int)) then Z6 else bif decide (List.getD Z0 (0:Nat) (0:Int) <= plc Z8) then Z6 else some (D.tup (D.acons (D.acons Z2 (D.acons (D.int .i64 2) Z3)) (.acons (D.acons (D.int IntKind.i8 (2:Int)) (.acons (D.int .i64 Z7) (.acons (D.int .i64 (-1:Int)) (.acons (D.int .i64 Z8) (.acons (D.int .i64 Z1) Z5))))) .anil)))) := by kernel_rfl
theorem QqI (x:Int) (r:List Int) (gc:Bool):QY 73 2 r gc [x] = (some (D.tup (D.acons (D.acons (D.int IntKind.i8 (73:Int)) (.acons (D.int .i64 3) (.acons (D.arr RTy.int (96:Nat) r) .anil))) (.acons (D.acons (D.int IntKind.i8 (2:Int)) (.acons (D.int .i64 (lRow (21:Int) (List.getD r (2:Nat) (0:Int)) (24:Int))) (.acons (D.int .i64 (List.getD r (3:Nat) (0:Int))) (.acons (D.int .i64 (wordN (List.getD r (0:Nat) (0:Int)) (List.getD r (1:Nat) (0:Int)))) (.acons (D.int .i64 0) (.acons (D.str []) (.acons (D.sl RTy.int true []) .anil))))))) .anil)))) := by kernel_rfl
theorem QqJ (x:Int) (r:List Int) (gc:Bool):QY 73 3 r gc [x] = (let Z0:D RC := D.int .i64 0;some (D.tup (D.acons (D.acons (D.int IntKind.i8 (73:Int)) (.acons (D.int .i64 99) (.acons (D.arr RTy.int (96:Nat) r) .anil))) (.acons (D.acons (D.int IntKind.i8 (7:Int)) (.acons Z0 (D.acons Z0 (D.acons Z0 (D.acons Z0 (D.acons (D.str []) (.acons (D.sl RTy.int true []) .anil))))))) .anil)))) := by kernel_rfl
theorem QqK (r:List Int) (gc:Bool):QY 76 0 r gc [] = (let Z0:D RC := D.int .i64 0;some (D.tup (D.acons (D.acons (D.int IntKind.i8 (76:Int)) (.acons (D.int .i64 1) (.acons (D.arr RTy.int (96:Nat) r) .anil))) (.acons (D.acons (D.int IntKind.i8 (0:Int)) (.acons (D.int .i64 (lRow (45:Int) (IntKind.wrap .i64 (Int.tdiv (List.getD r (2:Nat) (0:Int)) (8:Int))) (3:Int))) (.acons Z0 (D.acons Z0 (D.acons Z0 (D.acons (D.str []) (.acons (D.sl RTy.int true []) .anil))))))) .anil)))) := by kernel_rfl
theorem QqL (x:Int) (r:List Int) (gc:Bool):QY 76 1 r gc [x] = (let Z0:D RC := D.int .i64 0;bif decide (x < (9223372036854775808:Int)) then some (D.tup (D.acons (D.acons (D.int IntKind.i8 (76:Int)) (.acons (D.int .i64 2) (.acons (D.arr RTy.int (96:Nat) (List.set r (4:Nat) x)) .anil))) (.acons (D.acons (D.int IntKind.i8 (0:Int)) (.acons (D.int .i64 (lStream (IntKind.wrap .i64 (Int.tdiv (List.getD r (2:Nat) (0:Int)) (8:Int))) x)) (.acons Z0 (D.acons Z0 (D.acons Z0 (D.acons (D.str []) (.acons (D.sl RTy.int true []) .anil))))))) .anil))) else none) := by kernel_rfl
theorem QqM (x:Int) (r:List Int) (gc:Bool):QY 76 2 r gc [x] = (let Z0:Int := List.getD r (4:Nat) (0:Int);let Z1:D RC := D.int IntKind.i8 (76:Int);let Z2:D RC := .anil;let Z3:D RC := D.acons (D.arr RTy.int (96:Nat) (List.set r (5:Nat) x)) Z2;let Z4:D RC := D.int IntKind.i8 (2:Int);let Z5:Int := List.getD r (2:Nat) (0:Int);let Z6:Int := IntKind.wrap .i64 (Int.tdiv Z5 (8:Int));let Z7:D RC := D.int .i64 0;let Z8:D RC := D.acons Z7 (D.acons (D.str []) (.acons (D.sl RTy.int true []) Z2));let Z9:DO_ := bif Z0 == (0:Int) then some (D.tup (D.acons (D.acons Z1 (D.acons (D.int .i64 6) Z3)) (.acons (D.acons Z4 (D.acons (D.int .i64 (lStream Z6 Z0)) (.acons (D.int .i64 x) (.acons (D.int .i64 (YY (Line.mk Z0 (List.getD r (0:Nat) (0:Int)) (List.getD r (1:Nat) (0:Int)) (Int.tmod Z5 (8:Int)) (List.getD r (3:Nat) (0:Int))))) Z8)))) Z2))) else some (D.tup (D.acons (D.acons Z1 (D.acons (D.int .i64 4) Z3)) (.acons (D.acons (D.int IntKind.i8 (0:Int)) (.acons (D.int .i64 (lStream Z6 (IntKind.wrap .i64 (Z0 - (1:Int))))) (.acons Z7 (D.acons Z7 Z8)))) Z2)));bif decide (x < (9223372036854775808:Int)) then bif Option.isSome (Q9 x) then bif Line.offset (readO x) == Z0 then some (D.tup (D.acons (D.acons Z1 (D.acons (D.int .i64 3) Z3)) (.acons (D.acons Z4 (D.acons (D.int .i64 (lRow (45:Int) Z6 (3:Int))) (.acons (D.int .i64 Z0) (.acons (D.int .i64 (IntKind.wrap .i64 (Z0 + (1:Int)))) Z8)))) Z2))) else Z9 else Z9 else none) := by kernel_rfl
theorem QqN (x:Int) (r:List Int) (gc:Bool):QY 76 3 r gc [x] = (let Z0:D RC := D.int .i64 0;bif decide (x < (9223372036854775808:Int)) then some (D.tup (D.acons (D.acons (D.int IntKind.i8 (76:Int)) (.acons (D.int .i64 1) (.acons (D.arr RTy.int (96:Nat) r) .anil))) (.acons (D.acons (D.int IntKind.i8 (0:Int)) (.acons (D.int .i64 (lRow (45:Int) (IntKind.wrap .i64 (Int.tdiv (List.getD r (2:Nat) (0:Int)) (8:Int))) (3:Int))) (.acons Z0 (D.acons Z0 (D.acons Z0 (D.acons (D.str []) (.acons (D.sl RTy.int true []) .anil))))))) .anil))) else none) := by kernel_rfl
theorem QqO (x:Int) (r:List Int) (gc:Bool):QY 76 4 r gc [x] = (let Z0:Int := Line.place (readO x);let Z1:Int := List.getD r (0:Nat) (0:Int);let Z2:D RC := D.int IntKind.i8 (76:Int);let Z3:D RC := .anil;let Z4:D RC := D.acons (D.arr RTy.int (96:Nat) r) Z3;let Z5:D RC := D.int IntKind.i8 (0:Int);let Z6:Int := List.getD r (2:Nat) (0:Int);let Z7:Int := IntKind.wrap .i64 (Int.tdiv Z6 (8:Int));let Z8:D RC := D.int .i64 0;let Z9:D RC := D.acons Z8 (D.acons (D.str []) (.acons (D.sl RTy.int true []) Z3));let Z10:D RC := D.acons Z8 (D.acons Z8 Z9);let Z11:DO_ := some (D.tup (D.acons (D.acons Z2 (D.acons (D.int .i64 1) Z4)) (.acons (D.acons Z5 (D.acons (D.int .i64 (lRow (45:Int) Z7 (3:Int))) Z10)) Z3)));let Z12:Int := List.getD r (4:Nat) (0:Int);let Z13:Int := List.getD r (5:Nat) (0:Int);let Z14:Int := List.getD r (1:Nat) (0:Int);let Z15:DO_ := bif !Option.isSome (Q9 x) then Z11 else bif Line.offset (readO x) != IntKind.wrap .i64 (Z12 - (1:Int)) then Z11 else bif Z13 == (0:Int) then some (D.tup (D.acons (D.acons Z2 (D.acons (D.int .i64 6) Z4)) (.acons (D.acons (D.int IntKind.i8 (2:Int)) (.acons (D.int .i64 (lStream Z7 Z12)) (.acons (D.int .i64 Z13) (.acons (D.int .i64 (YY (Line.mk Z12 Z1 Z14 (Int.tmod Z6 (8:Int)) (List.getD r (3:Nat) (0:Int))))) Z9)))) Z3))) else some (D.tup (D.acons (D.acons Z2 (D.acons (D.int .i64 5) Z4)) (.acons (D.acons Z5 (D.acons (D.int .i64 (lRow (48:Int) Z7 (3:Int))) Z10)) Z3)));let Z16:DO_ := some (D.tup (D.acons (D.acons Z2 (D.acons (D.int .i64 4) Z4)) (.acons (D.acons (D.int IntKind.i8 (7:Int)) (.acons Z8 Z10)) Z3)));bif decide (x < (9223372036854775808:Int)) then bif decide (Z0 < Z1) then Z15 else bif Z0 == Z1 then bif !decide (Line.j (readO x) < Z14) then Z16 else Z15 else Z16 else none) := by kernel_rfl
theorem QqP (x:Int) (r:List Int) (gc:Bool):QY 76 5 r gc [x] = (let Z0:Int := List.getD r (5:Nat) (0:Int);let Z1:Int := Line.place (readO Z0);let Z2:D RC := D.int IntKind.i8 (76:Int);let Z3:D RC := D.acons (D.arr RTy.int (96:Nat) r) .anil;let Z4:D RC := D.int IntKind.i8 (2:Int);let Z5:Int := List.getD r (2:Nat) (0:Int);let Z6:Int := IntKind.wrap .i64 (Int.tdiv Z5 (8:Int));let Z7:D RC := D.acons (D.int .i64 0) (.acons (D.str []) (.acons (D.sl RTy.int true []) .anil));let Z8:Int := List.getD r (4:Nat) (0:Int);bif decide (x < (9223372036854775808:Int)) then bif decide (Z0 < (9223372036854775808:Int)) then bif decide (x < Z1) then some (D.tup (D.acons (D.acons Z2 (D.acons (D.int .i64 8) Z3)) (.acons (D.acons Z4 (D.acons (D.int .i64 (lRow (48:Int) Z6 (3:Int))) (.acons (D.int .i64 x) (.acons (D.int .i64 Z1) Z7)))) .anil))) else some (D.tup (D.acons (D.acons Z2 (D.acons (D.int .i64 6) Z3)) (.acons (D.acons Z4 (D.acons (D.int .i64 (lStream Z6 Z8)) (.acons (D.int .i64 Z0) (.acons (D.int .i64 (YY (Line.mk Z8 (List.getD r (0:Nat) (0:Int)) (List.getD r (1:Nat) (0:Int)) (Int.tmod Z5 (8:Int)) (List.getD r (3:Nat) (0:Int))))) Z7)))) .anil))) else none else none) := by kernel_rfl
theorem QqQ (x:Int) (r:List Int) (gc:Bool):QY 76 6 r gc [x] = (let Z0:D RC := D.int IntKind.i8 (76:Int);let Z1:D RC := D.acons (D.arr RTy.int (96:Nat) r) .anil;let Z2:D RC := D.int .i64 (lRow (45:Int) (IntKind.wrap .i64 (Int.tdiv (List.getD r (2:Nat) (0:Int)) (8:Int))) (3:Int));let Z3:D RC := D.int .i64 0;let Z4:D RC := D.acons Z3 (D.acons (D.str []) (.acons (D.sl RTy.int true []) .anil));let Z5:Int := List.getD r (4:Nat) (0:Int);bif decide (x < (9223372036854775808:Int)) then bif x == (0:Int) then some (D.tup (D.acons (D.acons Z0 (D.acons (D.int .i64 1) Z1)) (.acons (D.acons (D.int IntKind.i8 (0:Int)) (.acons Z2 (D.acons Z3 (D.acons Z3 Z4)))) .anil))) else some (D.tup (D.acons (D.acons Z0 (D.acons (D.int .i64 7) Z1)) (.acons (D.acons (D.int IntKind.i8 (2:Int)) (.acons Z2 (D.acons (D.int .i64 Z5) (.acons (D.int .i64 (IntKind.wrap .i64 (Z5 + (1:Int)))) Z4)))) .anil))) else none) := by kernel_rfl
theorem QqR (x:Int) (r:List Int) (gc:Bool):QY 76 7 r gc [x] = (let Z0:D RC := D.int .i64 0;bif decide (x < (9223372036854775808:Int)) then some (D.tup (D.acons (D.acons (D.int IntKind.i8 (76:Int)) (.acons (D.int .i64 7) (.acons (D.arr RTy.int (96:Nat) r) .anil))) (.acons (D.acons (D.int IntKind.i8 (7:Int)) (.acons Z0 (D.acons Z0 (D.acons Z0 (D.acons Z0 (D.acons (D.str []) (.acons (D.sl RTy.int true []) .anil))))))) .anil))) else none) := by kernel_rfl
theorem QqS (x:Int) (r:List Int) (gc:Bool):QY 76 8 r gc [x] = (let Z0:D RC := D.int .i64 0;bif decide (x < (9223372036854775808:Int)) then some (D.tup (D.acons (D.acons (D.int IntKind.i8 (76:Int)) (.acons (D.int .i64 5) (.acons (D.arr RTy.int (96:Nat) r) .anil))) (.acons (D.acons (D.int IntKind.i8 (0:Int)) (.acons (D.int .i64 (lRow (48:Int) (IntKind.wrap .i64 (Int.tdiv (List.getD r (2:Nat) (0:Int)) (8:Int))) (3:Int))) (.acons Z0 (D.acons Z0 (D.acons Z0 (D.acons (D.str []) (.acons (D.sl RTy.int true []) .anil))))))) .anil))) else none) := by kernel_rfl
theorem Qm1 (r:List Int) (gc:Bool):QY 100 0 r gc [] = (let Z0:D RC := D.int .i64 0;some (D.tup (D.acons (D.acons (D.int IntKind.i8 (100:Int)) (.acons (D.int .i64 1) (.acons (D.arr RTy.int (96:Nat) r) .anil))) (.acons (D.acons (D.int IntKind.i8 (0:Int)) (.acons Z0 (D.acons Z0 (D.acons Z0 (D.acons Z0 (D.acons (D.str []) (.acons (D.sl RTy.int true []) .anil))))))) .anil)))) := by kernel_rfl
theorem Qm2 (x:Int) (r:List Int) (gc:Bool):QY 100 1 r gc [x] = (let Z0:List Int := List.set r (2:Nat) x;let Z1:D RC := D.int IntKind.i8 (100:Int);let Z2:D RC := D.acons (D.arr RTy.int (96:Nat) Z0) .anil;let Z3:D RC := D.int .i64 0;let Z4:D RC := D.acons Z3 (D.acons Z3 (D.acons Z3 (D.acons (D.str []) (.acons (D.sl RTy.int true []) .anil))));bif decide (List.getD Z0 (0:Nat) (0:Int) <= x) then some (D.tup (D.acons (D.acons Z1 (D.acons (D.int .i64 1) Z2)) (.acons (D.acons (D.int IntKind.i8 (7:Int)) (.acons Z3 Z4)) .anil))) else some (D.tup (D.acons (D.acons Z1 (D.acons (D.int .i64 2) Z2)) (.acons (D.acons (D.int IntKind.i8 (0:Int)) (.acons (D.int .i64 (lRing (IntKind.wrap .i64 (x + (1:Int))) (List.getD Z0 (1:Nat) (0:Int)))) Z4)) .anil)))) := by kernel_rfl
theorem Qm3 (x:Int) (r:List Int) (gc:Bool):QY 100 2 r gc [x] = (let Z0:D RC := D.int IntKind.i8 (100:Int);let Z1:D RC := .anil;let Z2:D RC := D.int IntKind.i8 (0:Int);let Z3:D RC := D.int .i64 0;let Z4:D RC := D.acons (D.str []) (.acons (D.sl RTy.int true []) Z1);let Z5:List Int := List.set r (3:Nat) (bare x);let Z6:Int := List.getD Z5 (3:Nat) (0:Int);bif plc x != IntKind.wrap .i64 (List.getD r (2:Nat) (0:Int) + (1:Int)) then some (D.tup (D.acons (D.acons Z0 (D.acons (D.int .i64 1) (.acons (D.arr RTy.int (96:Nat) r) Z1))) (.acons (D.acons Z2 (D.acons Z3 (D.acons Z3 (D.acons Z3 (D.acons Z3 Z4))))) Z1))) else some (D.tup (D.acons (D.acons Z0 (D.acons (D.int .i64 3) (.acons (D.arr RTy.int (96:Nat) Z5) Z1))) (.acons (D.acons Z2 (D.acons (D.int .i64 (lField (99:Int) (inWord Z6 % (256:Int)) (2:Int) (16:Int) (12:Int))) (.acons Z3 (D.acons Z3 (D.acons (D.int .i64 Z6) Z4))))) Z1)))) := by kernel_rfl
theorem Qm4 (x:Int) (r:List Int) (gc:Bool):QY 100 3 r gc [x] = (let Z0:Int := List.getD (List.set r (4:Nat) x) (3:Nat) (0:Int);let Z1:D RC := D.int .i64 0;some (D.tup (D.acons (D.acons (D.int IntKind.i8 (100:Int)) (.acons (D.int .i64 4) (.acons (D.arr RTy.int (96:Nat) (List.set r (4:Nat) x)) .anil))) (.acons (D.acons (D.int IntKind.i8 (0:Int)) (.acons (D.int .i64 (lField (99:Int) (inWord Z0 % (256:Int)) (3:Int) (16:Int) (12:Int))) (.acons Z1 (D.acons Z1 (D.acons (D.int .i64 Z0) (.acons (D.str []) (.acons (D.sl RTy.int true []) .anil))))))) .anil)))) := by kernel_rfl
theorem Qm5 (x:Int) (r:List Int) (gc:Bool):QY 100 4 r gc [x] = (let Z0:D RC := D.int IntKind.i8 (100:Int);let Z1:List Int := List.set (List.set r (5:Nat) x) (6:Nat) (0:Int);let Z2:D RC := D.acons (D.arr RTy.int (96:Nat) Z1) .anil;let Z3:D RC := D.int IntKind.i8 (0:Int);let Z4:Int := List.getD Z1 (3:Nat) (0:Int);let Z5:Int := inWord Z4 % (256:Int);let Z6:D RC := D.int .i64 0;let Z7:D RC := D.acons Z6 (D.acons Z6 (D.acons (D.int .i64 Z4) (.acons (D.str []) (.acons (D.sl RTy.int true []) .anil))));bif decide (x <= (0:Int)) then some (D.tup (D.acons (D.acons Z0 (D.acons (D.int .i64 7) Z2)) (.acons (D.acons Z3 (D.acons (D.int .i64 (lField (99:Int) Z5 (1:Int) (16:Int) (12:Int))) Z7)) .anil))) else some (D.tup (D.acons (D.acons Z0 (D.acons (D.int .i64 5) Z2)) (.acons (D.acons Z3 (D.acons (D.int .i64 (lField (99:Int) Z5 (4:Int) (16:Int) (12:Int))) Z7)) .anil)))) := by kernel_rfl
theorem Qm6 (x:Int) (r:List Int) (gc:Bool):QY 100 5 r gc [x] = (let Z0:Int := IntKind.wrap .i64 ((8:Int) + List.getD r (6:Nat) (0:Int));let Z1:List Int := List.set r Z0.toNat x;let Z2:Int := List.getD Z1 (3:Nat) (0:Int);let Z3:D RC := D.int .i64 0;bif decide ((0:Int) <= Z0 /\ Z0 < (96:Int)) then some (D.tup (D.acons (D.acons (D.int IntKind.i8 (100:Int)) (.acons (D.int .i64 6) (.acons (D.arr RTy.int (96:Nat) Z1) .anil))) (.acons (D.acons (D.int IntKind.i8 (0:Int)) (.acons (D.int .i64 (lField (99:Int) (inWord Z2 % (256:Int)) (IntKind.wrap .i64 ((8:Int) + List.getD Z1 (6:Nat) (0:Int))) (16:Int) (12:Int))) (.acons Z3 (D.acons Z3 (D.acons (D.int .i64 Z2) (.acons (D.str []) (.acons (D.sl RTy.int true []) .anil))))))) .anil))) else none) := by kernel_rfl
theorem Qm7 (x:Int) (r:List Int) (gc:Bool):QY 100 6 r gc [x] = (let Z0:Int := IntKind.wrap .i64 ((12:Int) + List.getD r (6:Nat) (0:Int));let Z1:List Int := List.set r Z0.toNat x;let Z2:List Int := List.set Z1 (6:Nat) (IntKind.wrap .i64 (List.getD Z1 (6:Nat) (0:Int) + (1:Int)));let Z3:Int := List.getD Z2 (6:Nat) (0:Int);let Z4:D RC := D.int IntKind.i8 (100:Int);let Z5:D RC := D.acons (D.arr RTy.int (96:Nat) Z2) .anil;let Z6:D RC := D.int IntKind.i8 (0:Int);let Z7:Int := List.getD Z2 (3:Nat) (0:Int);let Z8:Int := inWord Z7 % (256:Int);let Z9:D RC := D.int .i64 0;let Z10:D RC := D.acons Z9 (D.acons Z9 (D.acons (D.int .i64 Z7) (.acons (D.str []) (.acons (D.sl RTy.int true []) .anil))));let Z11:DO_ := some (D.tup (D.acons (D.acons Z4 (D.acons (D.int .i64 7) Z5)) (.acons (D.acons Z6 (D.acons (D.int .i64 (lField (99:Int) Z8 (1:Int) (16:Int) (12:Int))) Z10)) .anil)));bif decide ((0:Int) <= Z0 /\ Z0 < (96:Int)) then bif decide (Z3 < List.getD Z2 (5:Nat) (0:Int)) then bif decide (Z3 < (4:Int)) then some (D.tup (D.acons (D.acons Z4 (D.acons (D.int .i64 5) Z5)) (.acons (D.acons Z6 (D.acons (D.int .i64 (lField (99:Int) Z8 (IntKind.wrap .i64 ((4:Int) + Z3)) (16:Int) (12:Int))) Z10)) .anil))) else Z11 else Z11 else none) := by kernel_rfl
theorem Qm8 (x:Int) (r:List Int) (gc:Bool):QY 100 7 r gc [x] = (let Z0:List Int := List.set r (6:Nat) (0:Int);let Z1:List Int := List.set Z0 (7:Nat) x;let Z2:Int := List.getD Z1 (5:Nat) (0:Int);let Z3:Bool := List.getD Z1 (7:Nat) (0:Int) == (1:Int);let Z4:D RC := D.int IntKind.i8 (100:Int);let Z5:D RC := .anil;let Z6:D RC := D.acons Z4 (D.acons (D.int .i64 11) (.acons (D.arr RTy.int (96:Nat) Z1) Z5));let Z7:D RC := D.int IntKind.i8 (4:Int);let Z8:Int := IntKind.wrap .i64 (List.getD Z1 (2:Nat) (0:Int) + (1:Int));let Z9:Int := List.getD Z1 (8:Nat) (0:Int);let Z10:List Qc := [] ++ [Qc.mk (IntKind.wrap .i64 (Int.tdiv Z9 (256:Int))) (Int.tmod Z9 (256:Int))];let Z11:Int := List.getD Z1 (9:Nat) (0:Int);let Z12:List Qc := Z10 ++ [Qc.mk (IntKind.wrap .i64 (Int.tdiv Z11 (256:Int))) (Int.tmod Z11 (256:Int))];let Z13:Int := List.getD Z1 (10:Nat) (0:Int);let Z14:List Qc := Z12 ++ [Qc.mk (IntKind.wrap .i64 (Int.tdiv Z13 (256:Int))) (Int.tmod Z13 (256:Int))];let Z15:Int := List.getD Z1 (11:Nat) (0:Int);let Z16:Rec := Rec.mk Z8 Z3 (Z14 ++ [Qc.mk (IntKind.wrap .i64 (Int.tdiv Z15 (256:Int))) (Int.tmod Z15 (256:Int))]);let Z17:Int := secI Z8;let Z18:D RC := D.int .i64 Z8;let Z19:D RC := D.int .i64 0;let Z20:D RC := D.acons (D.sl RTy.int true []) Z5;let Z21:DO_ := some (D.tup (D.acons Z6 (D.acons (D.acons Z7 (D.acons (D.int .i64 (bif mayB Z16 then Z17 else (0:Int))) (.acons Z18 (D.acons Z19 (D.acons Z19 (D.acons (D.str (entL Z16)) Z20)))))) Z5)));let Z22:DO_ := some (D.tup (D.acons Z6 (D.acons (D.acons Z7 (D.acons (D.int .i64 (bif mayB (Rec.mk Z8 Z3 Z14) then Z17 else (0:Int))) (.acons Z18 (D.acons Z19 (D.acons Z19 (D.acons (D.str (entL (Rec.mk Z8 Z3 Z14))) Z20)))))) Z5)));let Z23:DO_ := some (D.tup (D.acons Z6 (D.acons (D.acons Z7 (D.acons (D.int .i64 (bif mayB (Rec.mk Z8 Z3 Z12) then Z17 else (0:Int))) (.acons Z18 (D.acons Z19 (D.acons Z19 (D.acons (D.str (entL (Rec.mk Z8 Z3 Z12))) Z20)))))) Z5)));let Z24:DO_ := some (D.tup (D.acons Z6 (D.acons (D.acons Z7 (D.acons (D.int .i64 (bif mayB (Rec.mk Z8 Z3 Z10) then Z17 else (0:Int))) (.acons Z18 (D.acons Z19 (D.acons Z19 (D.acons (D.str (entL (Rec.mk Z8 Z3 Z10))) Z20)))))) Z5)));let Z25:DO_ := some (D.tup (D.acons Z6 (D.acons (D.acons Z7 (D.acons (D.int .i64 (bif mayB (Rec.mk Z8 Z3 []) then Z17 else (0:Int))) (.acons Z18 (D.acons Z19 (D.acons Z19 (D.acons (D.str (entL (Rec.mk Z8 Z3 []))) Z20)))))) Z5)));let Z26:Int := List.getD Z0 (6:Nat) (0:Int);let Z27:Int := IntKind.wrap .i64 ((8:Int) + Z26);let Z28:List Int := List.set Z0 (7:Nat) (1:Int);let Z29:Int := List.getD Z28 (3:Nat) (0:Int);let Z30:DO_ := some (D.tup (D.acons (D.acons Z4 (D.acons (D.int .i64 9) (.acons (D.arr RTy.int (96:Nat) Z28) Z5))) (.acons (D.acons (D.int IntKind.i8 (2:Int)) (.acons (D.int .i64 (lField (99:Int) (inWord Z29 % (256:Int)) (1:Int) (16:Int) (12:Int))) (.acons Z19 (D.acons (D.int .i64 (List.getD Z28 (7:Nat) (0:Int))) (.acons (D.int .i64 Z29) (.acons (D.str []) Z20)))))) Z5)));bif x != (0:Int) then bif decide ((0:Int) < Z2) then bif Z3 then bif decide ((1:Int) < Z2) then bif Z3 then bif decide ((2:Int) < Z2) then bif Z3 then bif decide ((3:Int) < Z2) then bif Z3 then bif decide ((4:Int) < Z2) then Z21 else Z21 else Z22 else Z22 else Z23 else Z23 else Z24 else Z24 else Z25 else Z25 else bif decide (Z26 < List.getD Z0 (5:Nat) (0:Int)) then bif decide (Z26 < (4:Int)) then bif decide ((0:Int) <= Z27 /\ Z27 < (96:Int)) then some (D.tup (D.acons (D.acons Z4 (D.acons (D.int .i64 8) (.acons (D.arr RTy.int (96:Nat) Z0) Z5))) (.acons (D.acons (D.int IntKind.i8 (0:Int)) (.acons (D.int .i64 (lRow (21:Int) (IntKind.wrap .i64 (Int.tdiv (List.getD Z0 Z27.toNat (0:Int)) (256:Int))) (24:Int))) (.acons Z19 (D.acons Z19 (D.acons Z19 (D.acons (D.str []) Z20)))))) Z5))) else none else Z30 else Z30) := by kernel_rfl
theorem Qm9 (x:Int) (r:List Int) (gc:Bool):QY 100 8 r gc [x] = (let Z0:D RC := D.int IntKind.i8 (100:Int);let Z1:D RC := D.int .i64 9;let Z2:List Int := List.set r (7:Nat) (2:Int);let Z3:D RC := .anil;let Z4:D RC := D.int IntKind.i8 (2:Int);let Z5:Int := List.getD Z2 (3:Nat) (0:Int);let Z6:D RC := D.int .i64 0;let Z7:D RC := D.acons (D.str []) (.acons (D.sl RTy.int true []) Z3);let Z8:List Int := List.set r (6:Nat) (IntKind.wrap .i64 (List.getD r (6:Nat) (0:Int) + (1:Int)));let Z9:Int := List.getD Z8 (6:Nat) (0:Int);let Z10:Int := IntKind.wrap .i64 ((8:Int) + Z9);let Z11:List Int := List.set Z8 (7:Nat) (1:Int);let Z12:Int := List.getD Z11 (3:Nat) (0:Int);let Z13:DO_ := some (D.tup (D.acons (D.acons Z0 (D.acons Z1 (D.acons (D.arr RTy.int (96:Nat) Z11) Z3))) (.acons (D.acons Z4 (D.acons (D.int .i64 (lField (99:Int) (inWord Z12 % (256:Int)) (1:Int) (16:Int) (12:Int))) (.acons Z6 (D.acons (D.int .i64 (List.getD Z11 (7:Nat) (0:Int))) (.acons (D.int .i64 Z12) Z7))))) Z3)));bif decide (List.getD r (4:Nat) (0:Int) < plc x) then some (D.tup (D.acons (D.acons Z0 (D.acons Z1 (D.acons (D.arr RTy.int (96:Nat) Z2) Z3))) (.acons (D.acons Z4 (D.acons (D.int .i64 (lField (99:Int) (inWord Z5 % (256:Int)) (1:Int) (16:Int) (12:Int))) (.acons Z6 (D.acons (D.int .i64 (List.getD Z2 (7:Nat) (0:Int))) (.acons (D.int .i64 Z5) Z7))))) Z3))) else bif decide (Z9 < List.getD Z8 (5:Nat) (0:Int)) then bif decide (Z9 < (4:Int)) then bif decide ((0:Int) <= Z10 /\ Z10 < (96:Int)) then some (D.tup (D.acons (D.acons Z0 (D.acons (D.int .i64 8) (.acons (D.arr RTy.int (96:Nat) Z8) Z3))) (.acons (D.acons (D.int IntKind.i8 (0:Int)) (.acons (D.int .i64 (lRow (21:Int) (IntKind.wrap .i64 (Int.tdiv (List.getD Z8 Z10.toNat (0:Int)) (256:Int))) (24:Int))) (.acons Z6 (D.acons Z6 (D.acons Z6 Z7))))) Z3))) else none else Z13 else Z13) := by kernel_rfl
theorem Qna (x:Int) (r:List Int) (gc:Bool):QY 100 9 r gc [x] = (let Z0:Int := List.getD r (3:Nat) (0:Int);let Z1:D RC := D.int .i64 0;some (D.tup (D.acons (D.acons (D.int IntKind.i8 (100:Int)) (.acons (D.int .i64 10) (.acons (D.arr RTy.int (96:Nat) r) .anil))) (.acons (D.acons (D.int IntKind.i8 (0:Int)) (.acons (D.int .i64 (lField (99:Int) (inWord Z0 % (256:Int)) (1:Int) (16:Int) (12:Int))) (.acons Z1 (D.acons Z1 (D.acons (D.int .i64 Z0) (.acons (D.str []) (.acons (D.sl RTy.int true []) .anil))))))) .anil)))) := by kernel_rfl
theorem Qbn (x:Int) (r:List Int) (gc:Bool):QY 100 10 r gc [x] = (let Z0:List Int := List.set r (7:Nat) x;let Z1:Int := List.getD Z0 (5:Nat) (0:Int);let Z2:Bool := List.getD Z0 (7:Nat) (0:Int) == (1:Int);let Z3:D RC := .anil;let Z4:D RC := D.acons (D.int IntKind.i8 (100:Int)) (.acons (D.int .i64 11) (.acons (D.arr RTy.int (96:Nat) Z0) Z3));let Z5:D RC := D.int IntKind.i8 (4:Int);let Z6:Int := IntKind.wrap .i64 (List.getD Z0 (2:Nat) (0:Int) + (1:Int));let Z7:Int := List.getD Z0 (8:Nat) (0:Int);let Z8:List Qc := [] ++ [Qc.mk (IntKind.wrap .i64 (Int.tdiv Z7 (256:Int))) (Int.tmod Z7 (256:Int))];let Z9:Int := List.getD Z0 (9:Nat) (0:Int);let Z10:List Qc := Z8 ++ [Qc.mk (IntKind.wrap .i64 (Int.tdiv Z9 (256:Int))) (Int.tmod Z9 (256:Int))];let Z11:Int := List.getD Z0 (10:Nat) (0:Int);let Z12:List Qc := Z10 ++ [Qc.mk (IntKind.wrap .i64 (Int.tdiv Z11 (256:Int))) (Int.tmod Z11 (256:Int))];let Z13:Int := List.getD Z0 (11:Nat) (0:Int);let Z14:Rec := Rec.mk Z6 Z2 (Z12 ++ [Qc.mk (IntKind.wrap .i64 (Int.tdiv Z13 (256:Int))) (Int.tmod Z13 (256:Int))]);let Z15:Int := secI Z6;let Z16:D RC := D.int .i64 Z6;let Z17:D RC := D.int .i64 0;let Z18:D RC := D.acons (D.sl RTy.int true []) Z3;let Z19:DO_ := some (D.tup (D.acons Z4 (D.acons (D.acons Z5 (D.acons (D.int .i64 (bif mayB Z14 then Z15 else (0:Int))) (.acons Z16 (D.acons Z17 (D.acons Z17 (D.acons (D.str (entL Z14)) Z18)))))) Z3)));let Z20:DO_ := some (D.tup (D.acons Z4 (D.acons (D.acons Z5 (D.acons (D.int .i64 (bif mayB (Rec.mk Z6 Z2 Z12) then Z15 else (0:Int))) (.acons Z16 (D.acons Z17 (D.acons Z17 (D.acons (D.str (entL (Rec.mk Z6 Z2 Z12))) Z18)))))) Z3)));let Z21:DO_ := some (D.tup (D.acons Z4 (D.acons (D.acons Z5 (D.acons (D.int .i64 (bif mayB (Rec.mk Z6 Z2 Z10) then Z15 else (0:Int))) (.acons Z16 (D.acons Z17 (D.acons Z17 (D.acons (D.str (entL (Rec.mk Z6 Z2 Z10))) Z18)))))) Z3)));let Z22:DO_ := some (D.tup (D.acons Z4 (D.acons (D.acons Z5 (D.acons (D.int .i64 (bif mayB (Rec.mk Z6 Z2 Z8) then Z15 else (0:Int))) (.acons Z16 (D.acons Z17 (D.acons Z17 (D.acons (D.str (entL (Rec.mk Z6 Z2 Z8))) Z18)))))) Z3)));let Z23:DO_ := some (D.tup (D.acons Z4 (D.acons (D.acons Z5 (D.acons (D.int .i64 (bif mayB (Rec.mk Z6 Z2 []) then Z15 else (0:Int))) (.acons Z16 (D.acons Z17 (D.acons Z17 (D.acons (D.str (entL (Rec.mk Z6 Z2 []))) Z18)))))) Z3)));bif decide ((0:Int) < Z1) then bif Z2 then bif decide ((1:Int) < Z1) then bif Z2 then bif decide ((2:Int) < Z1) then bif Z2 then bif decide ((3:Int) < Z1) then bif Z2 then bif decide ((4:Int) < Z1) then Z19 else Z19 else Z20 else Z20 else Z21 else Z21 else Z22 else Z22 else Z23 else Z23) := by kernel_rfl
theorem Qit (x:Int) (r:List Int) (gc:Bool):QY 100 11 r gc [x] = (let Z0:D RC := D.int .i64 0;some (D.tup (D.acons (D.acons (D.int IntKind.i8 (100:Int)) (.acons (D.int .i64 12) (.acons (D.arr RTy.int (96:Nat) r) .anil))) (.acons (D.acons (D.int IntKind.i8 (5:Int)) (.acons Z0 (D.acons Z0 (D.acons Z0 (D.acons Z0 (D.acons (D.str []) (.acons (D.sl RTy.int true []) .anil))))))) .anil)))) := by kernel_rfl
theorem Qiu (x:Int) (r:List Int) (gc:Bool):QY 100 12 r gc [x] = (let Z0:List Int := List.set r (6:Nat) (0:Int);let Z1:Int := List.getD Z0 (6:Nat) (0:Int);let Z2:Int := IntKind.wrap .i64 ((12:Int) + Z1);let Z3:Int := IntKind.wrap .i64 ((8:Int) + Z1);let Z4:D RC := D.int IntKind.i8 (100:Int);let Z5:D RC := .anil;let Z6:D RC := D.acons (D.arr RTy.int (96:Nat) Z0) Z5;let Z7:D RC := D.int .i64 0;let Z8:Int := List.getD Z0 (2:Nat) (0:Int);let Z9:Int := IntKind.wrap .i64 (Z8 + (1:Int));let Z10:DO_ := some (D.tup (D.acons (D.acons Z4 (D.acons (D.int .i64 15) Z6)) (.acons (D.acons (D.int IntKind.i8 (2:Int)) (.acons Z7 (D.acons (D.int .i64 Z8) (.acons (D.int .i64 Z9) (.acons Z7 (D.acons (D.str []) (.acons (D.sl RTy.int true []) Z5))))))) Z5)));bif List.getD Z0 (7:Nat) (0:Int) == (1:Int) then bif decide (Z1 < List.getD Z0 (5:Nat) (0:Int)) then bif decide (Z1 < (4:Int)) then bif decide ((0:Int) <= Z2 /\ Z2 < (96:Int)) then bif decide ((0:Int) <= Z3 /\ Z3 < (96:Int)) then some (D.tup (D.acons (D.acons Z4 (D.acons (D.int .i64 13) Z6)) (.acons (D.acons (D.int IntKind.i8 (6:Int)) (.acons (D.int .i64 73) (.acons Z7 (D.acons Z7 (D.acons Z7 (D.acons (D.str []) (.acons (D.sl RTy.int true [Z9,List.getD Z0 Z2.toNat (0:Int),IntKind.wrap .i64 (Int.tdiv (List.getD Z0 Z3.toNat (0:Int)) (256:Int))]) Z5))))))) Z5))) else none else none else Z10 else Z10 else Z10) := by kernel_rfl
theorem Qiv (r:List Int) (gc:Bool):QY 100 13 r gc [] = (let Z0:Int := List.getD r (6:Nat) (0:Int);let Z1:Int := IntKind.wrap .i64 ((8:Int) + Z0);let Z2:Bool := decide ((0:Int) <= Z1 /\ Z1 < (96:Int));let Z3:D RC := D.int .i64 0;let Z4:Int := List.getD r Z1.toNat (0:Int);bif Z2 then bif Z2 then some (D.tup (D.acons (D.acons (D.int IntKind.i8 (100:Int)) (.acons (D.int .i64 14) (.acons (D.arr RTy.int (96:Nat) r) .anil))) (.acons (D.acons (D.int IntKind.i8 (6:Int)) (.acons (D.int .i64 76) (.acons Z3 (D.acons Z3 (D.acons Z3 (D.acons (D.str []) (.acons (D.sl RTy.int true [IntKind.wrap .i64 (List.getD r (2:Nat) (0:Int) + (1:Int)),Z0,IntKind.wrap .i64 (Int.tdiv Z4 (256:Int)),Int.tmod Z4 (256:Int)]) .anil))))))) .anil))) else none else none) := by kernel_rfl
theorem Qiw (r:List Int) (gc:Bool):QY 100 14 r gc [] = (let Z0:List Int := List.set r (6:Nat) (IntKind.wrap .i64 (List.getD r (6:Nat) (0:Int) + (1:Int)));let Z1:Int := List.getD Z0 (6:Nat) (0:Int);let Z2:Int := IntKind.wrap .i64 ((12:Int) + Z1);let Z3:Int := IntKind.wrap .i64 ((8:Int) + Z1);let Z4:D RC := D.int IntKind.i8 (100:Int);let Z5:D RC := .anil;let Z6:D RC := D.acons (D.arr RTy.int (96:Nat) Z0) Z5;let Z7:D RC := D.int .i64 0;let Z8:Int := List.getD Z0 (2:Nat) (0:Int);let Z9:Int := IntKind.wrap .i64 (Z8 + (1:Int));let Z10:DO_ := some (D.tup (D.acons (D.acons Z4 (D.acons (D.int .i64 15) Z6)) (.acons (D.acons (D.int IntKind.i8 (2:Int)) (.acons Z7 (D.acons (D.int .i64 Z8) (.acons (D.int .i64 Z9) (.acons Z7 (D.acons (D.str []) (.acons (D.sl RTy.int true []) Z5))))))) Z5)));bif List.getD Z0 (7:Nat) (0:Int) == (1:Int) then bif decide (Z1 < List.getD Z0 (5:Nat) (0:Int)) then bif decide (Z1 < (4:Int)) then bif decide ((0:Int) <= Z2 /\ Z2 < (96:Int)) then bif decide ((0:Int) <= Z3 /\ Z3 < (96:Int)) then some (D.tup (D.acons (D.acons Z4 (D.acons (D.int .i64 13) Z6)) (.acons (D.acons (D.int IntKind.i8 (6:Int)) (.acons (D.int .i64 73) (.acons Z7 (D.acons Z7 (D.acons Z7 (D.acons (D.str []) (.acons (D.sl RTy.int true [Z9,List.getD Z0 Z2.toNat (0:Int),IntKind.wrap .i64 (Int.tdiv (List.getD Z0 Z3.toNat (0:Int)) (256:Int))]) Z5))))))) Z5))) else none else none else Z10 else Z10 else Z10) := by kernel_rfl
theorem Qix (x:Int) (r:List Int) (gc:Bool):QY 100 15 r gc [x] = (let Z0:D RC := D.int .i64 0;some (D.tup (D.acons (D.acons (D.int IntKind.i8 (100:Int)) (.acons (D.int .i64 1) (.acons (D.arr RTy.int (96:Nat) r) .anil))) (.acons (D.acons (D.int IntKind.i8 (0:Int)) (.acons Z0 (D.acons Z0 (D.acons Z0 (D.acons Z0 (D.acons (D.str []) (.acons (D.sl RTy.int true []) .anil))))))) .anil)))) := by kernel_rfl
theorem Qnb {A:List Int} (lA:A.length = 96) (h5:0 <= A.getD 5 0 /\ A.getD 5 0 <= 4) (h6:0 <= A.getD 6 0 /\ A.getD 6 0 <= 4) (hw:okWs (hMany A) A) :
 (bif decide (A.getD 6 0 < A.getD 5 0) then bif decide (A.getD 6 0 < 4) then bif decide (0 <= IntKind.i64.wrap (8 + A.getD 6 0) /\ IntKind.i64.wrap (8 + A.getD 6 0) < 96) then some (naR (naLd 100 8 A (lRow 21 (IntKind.i64.wrap (Int.tdiv (A.getD (IntKind.i64.wrap (8 + A.getD 6 0)).toNat 0) 256)) 24) 0)) else none else some (naR (naCs 100 9 (A.set 7 1) (lField 99 (inWord ((A.set 7 1).getD 3 0) % 256) 1 16 12) 0 ((A.set 7 1).getD 7 0) ((A.set 7 1).getD 3 0))) else some (naR (naCs 100 9 (A.set 7 1) (lField 99 (inWord ((A.set 7 1).getD 3 0) % 256) 1 16 12) 0 ((A.set 7 1).getD 7 0) ((A.set 7 1).getD 3 0)))) = some (naR (hHds A)) := by
 have hm:(hMany A:Int) = A.getD 5 0 := by unfold hMany;omega
 have hmin:(if 4 < A.getD 5 0 then (4:Int) else A.getD 5 0) = A.getD 5 0 := if_neg (by omega)
 have w8:IntKind.i64.wrap (8 + A.getD 6 0) = 8 + A.getD 6 0 := Qb (by omega) (by omega)
 have t8:(8 + A.getD 6 0).toNat = 8 + (A.getD 6 0).toNat := by omega
 have dd:decide (0 <= 8 + A.getD 6 0 /\ 8 + A.getD 6 0 < 96) = true := decide_eq_true ⟨by omega,by omega⟩
 have g3:(A.set 7 1).getD 3 0 = A.getD 3 0 := getD_set_ne' (by decide)
 have g7:(A.set 7 1).getD 7 0 = 1 := Qd (by omega)
 simp only [hHds,hDec,hDesc,w8,t8,dd,hmin,g3,g7,cond_true]
 by_cases hj:A.getD 6 0 < A.getD 5 0
 · have hwj := hw (A.getD 6 0).toNat (by omega)
   have kk:IntKind.i64.wrap (Int.tdiv (A.getD (8 + (A.getD 6 0).toNat) 0) 256) = hKey A (A.getD 6 0).toNat := by rw [Int.tdiv_eq_ediv_of_nonneg hwj.1,Qb (by omega) (by omega)];rfl
   rw [decide_eq_true hj,if_pos (show (A.getD 6 0).toNat < hMany A by omega),kk]
   rw [decide_eq_true (show A.getD 6 0 < 4 by omega),cond_true,cond_true]
   all_goals rfl
 · rw [decide_eq_false hj,if_neg (show ¬ (A.getD 6 0).toNat < hMany A by omega)]
   rfl
theorem Qnc {A:List Int} (lA:A.length = 96) (h2:0 <= A.getD 2 0 /\ A.getD 2 0 <= 1048574) (h5:0 <= A.getD 5 0 /\ A.getD 5 0 <= 4) (h6:0 <= A.getD 6 0 /\ A.getD 6 0 <= 4) (hw:okWs (hMany A) A) :
 (bif A.getD 7 0 == 1 then bif decide (A.getD 6 0 < A.getD 5 0) then bif decide (A.getD 6 0 < 4) then bif decide (0 <= IntKind.i64.wrap (12 + A.getD 6 0) /\ IntKind.i64.wrap (12 + A.getD 6 0) < 96) then bif decide (0 <= IntKind.i64.wrap (8 + A.getD 6 0) /\ IntKind.i64.wrap (8 + A.getD 6 0) < 96) then some (naR (naCl 100 13 A 73 [IntKind.i64.wrap (A.getD 2 0 + 1),A.getD (IntKind.i64.wrap (12 + A.getD 6 0)).toNat 0,IntKind.i64.wrap (Int.tdiv (A.getD (IntKind.i64.wrap (8 + A.getD 6 0)).toNat 0) 256)])) else none else none else some (naR (naCs 100 15 A 0 (A.getD 2 0) (IntKind.i64.wrap (A.getD 2 0 + 1)) 0)) else some (naR (naCs 100 15 A 0 (A.getD 2 0) (IntKind.i64.wrap (A.getD 2 0 + 1)) 0)) else some (naR (naCs 100 15 A 0 (A.getD 2 0) (IntKind.i64.wrap (A.getD 2 0 + 1)) 0))) = some (naR (hApp A)) := by
 have hm:(hMany A:Int) = A.getD 5 0 := by unfold hMany;omega
 have hmin:(if 4 < A.getD 5 0 then (4:Int) else A.getD 5 0) = A.getD 5 0 := if_neg (by omega)
 have w8:IntKind.i64.wrap (8 + A.getD 6 0) = 8 + A.getD 6 0 := Qb (by omega) (by omega)
 have t8:(8 + A.getD 6 0).toNat = 8 + (A.getD 6 0).toNat := by omega
 have w12:IntKind.i64.wrap (12 + A.getD 6 0) = 12 + A.getD 6 0 := Qb (by omega) (by omega)
 have t12:(12 + A.getD 6 0).toNat = 12 + (A.getD 6 0).toNat := by omega
 have v1:IntKind.i64.wrap (A.getD 2 0 + 1) = A.getD 2 0 + 1 := Qb (by omega) (by omega)
 have dd:decide (0 <= 8 + A.getD 6 0 /\ 8 + A.getD 6 0 < 96) = true := decide_eq_true ⟨by omega,by omega⟩
 have de:decide (0 <= 12 + A.getD 6 0 /\ 12 + A.getD 6 0 < 96) = true := decide_eq_true ⟨by omega,by omega⟩
 simp only [hApp,w8,t8,w12,t12,v1,dd,de,hmin,cond_true]
 by_cases h7:A.getD 7 0 = 1
 · rw [Zt h7,cond_true]
   by_cases hj:A.getD 6 0 < A.getD 5 0
   · have hwj := hw (A.getD 6 0).toNat (by omega)
     have kk:IntKind.i64.wrap (Int.tdiv (A.getD (8 + (A.getD 6 0).toNat) 0) 256) = hKey A (A.getD 6 0).toNat := by rw [Int.tdiv_eq_ediv_of_nonneg hwj.1,Qb (by omega) (by omega)];rfl
     rw [decide_eq_true hj,if_pos ⟨h7,show (A.getD 6 0).toNat < hMany A by omega⟩,kk]
     rw [decide_eq_true (show A.getD 6 0 < 4 by omega),cond_true,cond_true]
     all_goals rfl
   · rw [decide_eq_false hj,if_neg (fun q => hj (by have := q.2;omega))]
     rfl
 · rw [Zd h7,if_neg (fun q => h7 q.1)];rfl
theorem Qnd {A:List Int} {x:Int} {gc:Bool} (lA:A.length = 96) (h5:0 <= A.getD 5 0 /\ A.getD 5 0 <= 4) (h2:0 <= A.getD 2 0 /\ A.getD 2 0 <= 1048574) (hw:okWs (hMany A) A):QY 100 10 A gc [x] = some (naR (hPut A x)) := by
 have E:∀ j,j ≠ 7 -> (A.set 7 x).getD j 0 = A.getD j 0 := fun j c => getD_set_ne' (fun d => c d.symm);have g7:(A.set 7 x).getD 7 0 = x := Qd (by omega)
 have v1:IntKind.i64.wrap (A.getD 2 0 + 1) = A.getD 2 0 + 1 := Qb (by omega) (by omega)
 have hm:(hMany A:Int) = A.getD 5 0 := by unfold hMany;omega
 have kk:∀ j,j < hMany A -> IntKind.i64.wrap (Int.tdiv (A.getD (8 + j) 0) 256) = hKey A j /\ Int.tmod (A.getD (8 + j) 0) 256 = hVal A j := fun j hj => by
  have hwj := hw j hj;exact ⟨by rw [Int.tdiv_eq_ediv_of_nonneg hwj.1,Qb (by omega) (by omega)];rfl,YZ hwj.1⟩
 (rw [Qbn];conv => zeta)
 simp only [E 5 (by decide),E 2 (by decide),E 8 (by decide),E 9 (by decide),E 10 (by decide),E 11 (by decide),g7,v1]
 unfold hPut;have ms:A.getD 5 0 = ((0:Nat):Int) \/ A.getD 5 0 = ((1:Nat):Int) \/ A.getD 5 0 = ((2:Nat):Int) \/ A.getD 5 0 = ((3:Nat):Int) \/ A.getD 5 0 = ((4:Nat):Int) := by omega
 rcases ms with e | e | e | e | e
 · rw [QmM e (by decide) x]
   have e':A.getD 5 0 = 0 := e
   by_cases z:x = 1
   · simp only [e',Zt z,decide_eq_true z,if_pos z,Int.reduceLT,decide_true,decide_false,cond_true,cond_false];rfl
   · simp only [e',Zd z,decide_eq_false z,if_neg z,Int.reduceLT,decide_true,decide_false,cond_true,cond_false];rfl
 · rw [QmM e (by decide) x]
   have q0 := kk 0 (by omega)
   have e':A.getD 5 0 = 1 := e
   by_cases z:x = 1
   · simp only [e',Zt z,decide_eq_true z,if_pos z,Int.reduceLT,decide_true,decide_false,cond_true,cond_false,show IntKind.i64.wrap (Int.tdiv (A.getD 8 0) 256) = hKey A 0 from q0.1,show Int.tmod (A.getD 8 0) 256 = hVal A 0 from q0.2];rfl
   · simp only [e',Zd z,decide_eq_false z,if_neg z,Int.reduceLT,decide_true,decide_false,cond_true,cond_false];rfl
 · rw [QmM e (by decide) x]
   have q0 := kk 0 (by omega)
   have q1 := kk 1 (by omega)
   have e':A.getD 5 0 = 2 := e
   by_cases z:x = 1
   · simp only [e',Zt z,decide_eq_true z,if_pos z,Int.reduceLT,decide_true,decide_false,cond_true,cond_false,show IntKind.i64.wrap (Int.tdiv (A.getD 8 0) 256) = hKey A 0 from q0.1,show Int.tmod (A.getD 8 0) 256 = hVal A 0 from q0.2,show IntKind.i64.wrap (Int.tdiv (A.getD 9 0) 256) = hKey A 1 from q1.1,show Int.tmod (A.getD 9 0) 256 = hVal A 1 from q1.2];rfl
   · simp only [e',Zd z,decide_eq_false z,if_neg z,Int.reduceLT,decide_true,decide_false,cond_true,cond_false];rfl
 · rw [QmM e (by decide) x]
   have q0 := kk 0 (by omega)
   have q1 := kk 1 (by omega)
   have q2 := kk 2 (by omega)
   have e':A.getD 5 0 = 3 := e
   by_cases z:x = 1
   · simp only [e',Zt z,decide_eq_true z,if_pos z,Int.reduceLT,decide_true,decide_false,cond_true,cond_false,show IntKind.i64.wrap (Int.tdiv (A.getD 8 0) 256) = hKey A 0 from q0.1,show Int.tmod (A.getD 8 0) 256 = hVal A 0 from q0.2,show IntKind.i64.wrap (Int.tdiv (A.getD 9 0) 256) = hKey A 1 from q1.1,show Int.tmod (A.getD 9 0) 256 = hVal A 1 from q1.2,show IntKind.i64.wrap (Int.tdiv (A.getD 10 0) 256) = hKey A 2 from q2.1,show Int.tmod (A.getD 10 0) 256 = hVal A 2 from q2.2];rfl
   · simp only [e',Zd z,decide_eq_false z,if_neg z,Int.reduceLT,decide_true,decide_false,cond_true,cond_false];rfl
 · rw [QmM e (by decide) x]
   have q0 := kk 0 (by omega)
   have q1 := kk 1 (by omega)
   have q2 := kk 2 (by omega)
   have q3 := kk 3 (by omega)
   have e':A.getD 5 0 = 4 := e
   by_cases z:x = 1
   · simp only [e',Zt z,decide_eq_true z,if_pos z,Int.reduceLT,decide_true,decide_false,cond_true,cond_false,show IntKind.i64.wrap (Int.tdiv (A.getD 8 0) 256) = hKey A 0 from q0.1,show Int.tmod (A.getD 8 0) 256 = hVal A 0 from q0.2,show IntKind.i64.wrap (Int.tdiv (A.getD 9 0) 256) = hKey A 1 from q1.1,show Int.tmod (A.getD 9 0) 256 = hVal A 1 from q1.2,show IntKind.i64.wrap (Int.tdiv (A.getD 10 0) 256) = hKey A 2 from q2.1,show Int.tmod (A.getD 10 0) 256 = hVal A 2 from q2.2,show IntKind.i64.wrap (Int.tdiv (A.getD 11 0) 256) = hKey A 3 from q3.1,show Int.tmod (A.getD 11 0) 256 = hVal A 3 from q3.2];rfl
   · simp only [e',Zd z,decide_eq_false z,if_neg z,Int.reduceLT,decide_true,decide_false,cond_true,cond_false];rfl
theorem QvT (p:Int) (k:Int) (r:List Int) (gc:Bool) (got:List Int) (h:(cdec (okHp true ⟨p,k,r⟩ got)) = true):QY p k r gc got = some (naR (nHp true ⟨p,k,r⟩ got)) := by
 obtain ⟨hr,hv,hp⟩ := QP.1 h;simp only at hr hv hp;have bw:bigW = 72057594037927936 := rfl;rcases hp with ⟨rfl,hk⟩ | ⟨rfl,q0,q23,hk⟩ | ⟨rfl,q0,q23,hk⟩ | ⟨rfl,wd0,wd1,hk⟩
 · rcases hk with ⟨rfl,rfl⟩ | ⟨x,rfl,k1,k7,x0,x1,y2,y3,w0,w1,d0,d1⟩
   · (rw [Qqy];conv => zeta);rfl
   · have ks:k = 1 \/ k = 2 \/ k = 3 \/ k = 4 \/ k = 5 \/ k = 6 \/ k = 7 := by omega
     rcases ks with rfl | rfl | rfl | rfl | rfl | rfl | rfl
     · (rw [Qqz];conv => zeta);rfl
     · have z := y3 (by decide)
       have v1:IntKind.i64.wrap (x + r.getD 0 0) = x + r.getD 0 0 := Qb (by omega) (by omega)
       have hk:nHp true ⟨68,2,r⟩ [x] = if x + r.getD 0 0 < r.getD 2 0 then naEn 68 2 r [170] true else if 1048575 < r.getD 2 0 then naEn 68 2 r [172] true else naLd 68 3 r 4 0 := rfl
       rw [QqA,hk];simp only [v1]
       repeat' (first | refine cdD (fun hc => ?_) fun hc => ?_ | refine cdE (fun hc => ?_) fun hc => ?_ | refine cdN (fun hc => ?_) fun hc => ?_)
       all_goals (repeat' split)
       all_goals first | rfl | (exfalso;omega)
     · have z := y3 (by decide)
       have v1:IntKind.i64.wrap (r.getD 2 0 - 32) = r.getD 2 0 - 32 := Qb (by omega) (by omega)
       have hk:nHp true ⟨68,3,r⟩ [x] = if x < r.getD 2 0 - 32 then naEn 68 3 r [171] true else naLd 68 4 r (lRing (r.getD 2 0) (r.getD 0 0)) 0 := rfl
       rw [QqB,hk];simp only [v1]
       repeat' (first | refine cdD (fun hc => ?_) fun hc => ?_ | refine cdE (fun hc => ?_) fun hc => ?_ | refine cdN (fun hc => ?_) fun hc => ?_)
       all_goals (repeat' split)
       all_goals first | rfl | (exfalso;omega)
     · have z := y3 (by decide)
       have g0:(r.set 3 x).getD 0 0 = r.getD 0 0 := getD_set_ne' (by decide)
       have g1:(r.set 3 x).getD 1 0 = r.getD 1 0 := getD_set_ne' (by decide)
       have g2:(r.set 3 x).getD 2 0 = r.getD 2 0 := getD_set_ne' (by decide)
       have v1:IntKind.i64.wrap (r.getD 2 0 + 1) = r.getD 2 0 + 1 := Qb (by omega) (by omega)
       have hk:nHp true ⟨68,4,r⟩ [x] = if plc x = r.getD 2 0 then naCs 68 5 (r.set 3 x) 1 (r.getD 2 0) (r.getD 2 0 + 1) 0 else if r.getD 2 0 < plc x then naLd 68 1 (r.set 3 x) 1 0
        else naCs 68 6 (r.set 3 x) (lRing (r.getD 2 0) (r.getD 0 0)) x (wordN (r.getD 2 0) (r.getD 1 0)) 0 := rfl
       rw [QqC,hk];simp only [g0,g1,g2,v1]
       repeat' (first | refine cdD (fun hc => ?_) fun hc => ?_ | refine cdE (fun hc => ?_) fun hc => ?_ | refine cdN (fun hc => ?_) fun hc => ?_)
       all_goals (repeat' split)
       all_goals first | rfl | (exfalso;omega)
     · (rw [QqD];conv => zeta);rfl
     · have z := y3 (by decide)
       have v1:IntKind.i64.wrap (r.getD 2 0 + 1) = r.getD 2 0 + 1 := Qb (by omega) (by omega)
       have hk:nHp true ⟨68,6,r⟩ [x] = if x = 0 then naLd 68 1 r 1 0 else naCs 68 7 r 1 (r.getD 2 0) (r.getD 2 0 + 1) 0 := rfl
       rw [QqE,hk];simp only [v1]
       repeat' (first | refine cdD (fun hc => ?_) fun hc => ?_ | refine cdE (fun hc => ?_) fun hc => ?_ | refine cdN (fun hc => ?_) fun hc => ?_)
       all_goals (repeat' split)
       all_goals first | rfl | (exfalso;omega)
     · (rw [QqF];conv => zeta);rfl
 · rcases hk with ⟨rfl,rfl⟩ | ⟨x,rfl,k1,k3,x0,x1,d0,d1⟩
   · have hk:nHp true ⟨73,0,r⟩ [] = if lRow 21 (r.getD 2 0) 24 < 0 then naEn 73 (bif true then 99 else 0) r [] true else naLd 73 1 r (lRow 21 (r.getD 2 0) 24) 0 := rfl
     rw [QqG,hk]
     repeat' (first | refine cdD (fun hc => ?_) fun hc => ?_ | refine cdE (fun hc => ?_) fun hc => ?_ | refine cdN (fun hc => ?_) fun hc => ?_)
     all_goals (repeat' split)
     all_goals first | rfl | (exfalso;omega)
   · have ks:k = 1 \/ k = 2 \/ k = 3 := by omega
     rcases ks with rfl | rfl | rfl
     · have m1:(if x < 0 then 0 else x) = x := if_neg (by omega)
       have m2:max x 0 = x := by omega
       have g0:(r.set 3 x).getD 0 0 = r.getD 0 0 := getD_set_ne' (by decide)
       have g1:(r.set 3 x).getD 1 0 = r.getD 1 0 := getD_set_ne' (by decide)
       have g3:(r.set 3 x).getD 3 0 = x := Qd (by omega)
       have b8:Int.tmod (r.getD 1 0) 256 = r.getD 1 0 % 256 := YZ (by omega)
       have sc:sCell (r.getD 1 0) 1 = lField 291 (r.getD 1 0 % 256) 1 160 3 := if_neg (by omega)
       have hk:nHp true ⟨73,1,r⟩ [x] = if sCell (r.getD 1 0) 1 < 0 \/ r.getD 0 0 <= plc (max x 0) then naEn 73 (bif true then 99 else 1) (r.set 3 (max x 0)) [] true
        else naCs 73 2 (r.set 3 (max x 0)) (sCell (r.getD 1 0) 1) (-1) (max x 0) (r.getD 1 0) := rfl
       rw [QqH,hk];simp only [m1,m2,g0,g1,g3,b8,sc];generalize lField 291 (r.getD 1 0 % 256) 1 160 3 = F at *
       repeat' (first | refine cdD (fun hc => ?_) fun hc => ?_ | refine cdE (fun hc => ?_) fun hc => ?_ | refine cdN (fun hc => ?_) fun hc => ?_)
       all_goals (repeat' split)
       all_goals first | rfl | (exfalso;omega)
     · rw [QqI];rfl
     · (rw [QqJ];conv => zeta);rfl
 · have e1:IntKind.i64.wrap (Int.tdiv (r.getD 2 0) 8) = r.getD 2 0 / 8 := by rw [Int.tdiv_eq_ediv_of_nonneg q0,Qb (by omega) (by omega)]
   have e2:Int.tmod (r.getD 2 0) 8 = r.getD 2 0 % 8 := YZ q0;rcases hk with ⟨rfl,rfl⟩ | ⟨x,rfl,k1,k8,x0,x1,y1,y2,y3⟩
   · (rw [QqK];conv => zeta)
     simp only [e1];rfl
   · have d1:decide (x < 9223372036854775808) = true := decide_eq_true (by unfold bigW at x1;omega)
     have wm:∀ n:Int,0 <= n -> n <= 1000000 -> IntKind.i64.wrap (n - 0) = n /\ IntKind.i64.wrap (n - 1) = n - 1 /\ IntKind.i64.wrap (n + 1) = n + 1 := fun n h1 h2 => ⟨by rw [Int.sub_zero];exact Qb (by omega) (by omega),Qb (by omega) (by omega),Qb (by omega) (by omega)⟩
     have ks:k = 1 \/ k = 2 \/ k = 3 \/ k = 4 \/ k = 5 \/ k = 6 \/ k = 7 \/ k = 8 := by omega
     rcases ks with rfl | rfl | rfl | rfl | rfl | rfl | rfl | rfl
     · have g2:(r.set 4 x).getD 2 0 = r.getD 2 0 := getD_set_ne' (by decide)
       have g4:(r.set 4 x).getD 4 0 = x := Qd (by omega)
       have w0 := (wm x x0 (y1 rfl)).1
       (rw [QqL];conv => zeta)
       simp only [d1,g2,g4,e1,w0,cond_true];rfl
     · obtain ⟨b0,b1⟩ := y2 (by decide)
       obtain ⟨w0,w1,w2⟩ := wm _ b0 b1;have g0:(r.set 5 x).getD 0 0 = r.getD 0 0 := getD_set_ne' (by decide)
       have g1:(r.set 5 x).getD 1 0 = r.getD 1 0 := getD_set_ne' (by decide)
       have g2:(r.set 5 x).getD 2 0 = r.getD 2 0 := getD_set_ne' (by decide)
       have g3:(r.set 5 x).getD 3 0 = r.getD 3 0 := getD_set_ne' (by decide)
       have g4:(r.set 5 x).getD 4 0 = r.getD 4 0 := getD_set_ne' (by decide)
       have g5:(r.set 5 x).getD 5 0 = x := Qd (by omega)
       have hk:nHp true ⟨76,2,r⟩ [x] = if (Q9 x).isSome = true /\ (readO x).offset = r.getD 4 0 then aOn 3 (r.set 5 x) else if r.getD 4 0 = 0 then aPut (r.set 5 x) else naLd 76 4 (r.set 5 x) (lStream (sQ r) (r.getD 4 0 - 1)) 0 := rfl
       rw [QqM,hk];cases hs:(Q9 x).isSome
       · by_cases z:r.getD 4 0 = 0
         · rw [if_neg (by simp),if_pos z]
           simp only [d1,g0,g1,g2,g3,g4,g5,e1,e2,w0,w1,w2,Zt z,naR,frmR,actR,aOn,aPut,aCnt,aCut,sQ,fCnt,fCut,naCs,naLd,naEn,cond_true,cond_false,Bool.not_true,Bool.not_false]
         · rw [if_neg (by simp),if_neg z]
           simp only [d1,g0,g1,g2,g3,g4,g5,e1,e2,w0,w1,w2,Zd z,naR,frmR,actR,aOn,aPut,aCnt,aCut,sQ,fCnt,fCut,naCs,naLd,naEn,cond_true,cond_false,Bool.not_true,Bool.not_false]
       · by_cases o:(readO x).offset = r.getD 4 0
         · rw [if_pos ⟨rfl,o⟩];simp only [d1,g0,g1,g2,g3,g4,g5,e1,e2,w0,w1,w2,Zt o,naR,frmR,actR,aOn,aPut,aCnt,aCut,sQ,fCnt,fCut,naCs,naLd,naEn,cond_true,cond_false,Bool.not_true,Bool.not_false]
         · by_cases z:r.getD 4 0 = 0
           · rw [if_neg (fun q => o q.2),if_pos z];simp only [d1,g0,g1,g2,g3,g4,g5,e1,e2,w0,w1,w2,Zd o,Zt z,naR,frmR,actR,aOn,aPut,aCnt,aCut,sQ,fCnt,fCut,naCs,naLd,naEn,cond_true,cond_false,Bool.not_true,Bool.not_false]
           · rw [if_neg (fun q => o q.2),if_neg z];simp only [d1,g0,g1,g2,g3,g4,g5,e1,e2,w0,w1,w2,Zd o,Zd z,naR,frmR,actR,aOn,aPut,aCnt,aCut,sQ,fCnt,fCut,naCs,naLd,naEn,cond_true,cond_false,Bool.not_true,Bool.not_false]
     · (rw [QqN];conv => zeta)
       try simp only [e1,d1,cond_true]
       rfl
     · obtain ⟨b0,b1⟩ := y2 (by decide)
       obtain ⟨w0,w1,w2⟩ := wm _ b0 b1
       have hk:nHp true ⟨76,4,r⟩ [x] = if r.getD 0 0 < (readO x).place \/ (readO x).place = r.getD 0 0 /\ r.getD 1 0 <= (readO x).j then naEn 76 4 r [] true
        else if (Q9 x).isSome = false \/ (readO x).offset ≠ r.getD 4 0 - 1 then aCnt r else if r.getD 5 0 = 0 then aPut r else aCut r := rfl
       rw [QqO,hk];rcases Int.lt_trichotomy (r.getD 0 0) (readO x).place with a | a | a
       · rw [if_pos (.inl a)];simp only [d1,decide_eq_true a,decide_eq_false (show ¬ (readO x).place < r.getD 0 0 by omega),Zd (show ¬ (readO x).place = r.getD 0 0 by omega),naR,frmR,actR,aOn,aPut,aCnt,aCut,sQ,fCnt,fCut,naCs,naLd,naEn,cond_true,cond_false,Bool.not_true,Bool.not_false]
       · have c1:decide (r.getD 0 0 < (readO x).place) = false := decide_eq_false (by omega)
         have c2:decide ((readO x).place < r.getD 0 0) = false := decide_eq_false (by omega)
         have c3:((readO x).place == r.getD 0 0) = true := Zt a.symm
         by_cases b:r.getD 1 0 <= (readO x).j
         · have c4:decide ((readO x).j < r.getD 1 0) = false := decide_eq_false (by omega)
           rw [if_pos (.inr ⟨a.symm,b⟩)];simp only [d1,c1,c2,c3,c4,decide_eq_true b,naR,frmR,actR,aOn,aPut,aCnt,aCut,sQ,fCnt,fCut,naCs,naLd,naEn,cond_true,cond_false,Bool.not_true,Bool.not_false]
         · have c4:decide ((readO x).j < r.getD 1 0) = true := decide_eq_true (by omega)
           have c5:decide (r.getD 1 0 <= (readO x).j) = false := decide_eq_false b;rw [if_neg (fun q => q.elim (fun q => by omega) (fun q => b q.2))]
           cases hs:(Q9 x).isSome
           · rw [if_pos (.inl rfl)];simp only [d1,e1,e2,w0,w1,w2,c1,c2,c3,c4,c5,naR,frmR,actR,aOn,aPut,aCnt,aCut,sQ,fCnt,fCut,naCs,naLd,naEn,cond_true,cond_false,Bool.not_true,Bool.not_false]
           · by_cases o:(readO x).offset = r.getD 4 0 - 1
             · rw [if_neg (fun q => q.elim (fun q => by cases q) (fun q => q o))]
               by_cases z:r.getD 5 0 = 0
               · rw [if_pos z];simp only [d1,e1,e2,w0,w1,w2,YU o,Zt z,c1,c2,c3,c4,c5,naR,frmR,actR,aOn,aPut,aCnt,aCut,sQ,fCnt,fCut,naCs,naLd,naEn,cond_true,cond_false,Bool.not_true,Bool.not_false]
               · rw [if_neg z];simp only [d1,e1,e2,w0,w1,w2,YU o,Zd z,c1,c2,c3,c4,c5,naR,frmR,actR,aOn,aPut,aCnt,aCut,sQ,fCnt,fCut,naCs,naLd,naEn,cond_true,cond_false,Bool.not_true,Bool.not_false]
             · rw [if_pos (.inr o)];simp only [d1,e1,e2,w0,w1,w2,J0 o,c1,c2,c3,c4,c5,naR,frmR,actR,aOn,aPut,aCnt,aCut,sQ,fCnt,fCut,naCs,naLd,naEn,cond_true,cond_false,Bool.not_true,Bool.not_false]
       · have c1:decide (r.getD 0 0 < (readO x).place) = false := decide_eq_false (by omega)
         have c2:decide ((readO x).place < r.getD 0 0) = true := decide_eq_true a;have c3:((readO x).place == r.getD 0 0) = false := Zd (by omega)
         rw [if_neg (fun q => q.elim (fun q => by omega) (fun q => by omega))]
         cases hs:(Q9 x).isSome
         · rw [if_pos (.inl rfl)];simp only [d1,e1,e2,w0,w1,w2,c1,c2,c3,naR,frmR,actR,aOn,aPut,aCnt,aCut,sQ,fCnt,fCut,naCs,naLd,naEn,cond_true,cond_false,Bool.not_true,Bool.not_false]
         · by_cases o:(readO x).offset = r.getD 4 0 - 1
           · rw [if_neg (fun q => q.elim (fun q => by cases q) (fun q => q o))]
             by_cases z:r.getD 5 0 = 0
             · rw [if_pos z];simp only [d1,e1,e2,w0,w1,w2,YU o,Zt z,c1,c2,c3,naR,frmR,actR,aOn,aPut,aCnt,aCut,sQ,fCnt,fCut,naCs,naLd,naEn,cond_true,cond_false,Bool.not_true,Bool.not_false]
             · rw [if_neg z];simp only [d1,e1,e2,w0,w1,w2,YU o,Zd z,c1,c2,c3,naR,frmR,actR,aOn,aPut,aCnt,aCut,sQ,fCnt,fCut,naCs,naLd,naEn,cond_true,cond_false,Bool.not_true,Bool.not_false]
           · rw [if_pos (.inr o)];simp only [d1,e1,e2,w0,w1,w2,J0 o,c1,c2,c3,naR,frmR,actR,aOn,aPut,aCnt,aCut,sQ,fCnt,fCut,naCs,naLd,naEn,cond_true,cond_false,Bool.not_true,Bool.not_false]
     · obtain ⟨b0,b1⟩ := y2 (by decide)
       obtain ⟨w0,w1,w2⟩ := wm _ b0 b1;have d2:decide (r.getD 5 0 < 9223372036854775808) = true := decide_eq_true (by have := (y3 (by decide)).2;unfold bigW at this;omega)
       have hk:nHp true ⟨76,5,r⟩ [x] = if x < (readO (r.getD 5 0)).place then naCs 76 8 r (lRow 48 (sQ r) 3) x (readO (r.getD 5 0)).place 0 else aPut r := rfl
       rw [QqP,hk]
       by_cases z:x < (readO (r.getD 5 0)).place
       · rw [if_pos z];simp only [d1,d2,e1,e2,w0,w1,w2,decide_eq_true z,naR,frmR,actR,aOn,aPut,aCnt,aCut,sQ,fCnt,fCut,naCs,naLd,naEn,cond_true,cond_false,Bool.not_true,Bool.not_false]
       · rw [if_neg z];simp only [d1,d2,e1,e2,w0,w1,w2,decide_eq_false z,naR,frmR,actR,aOn,aPut,aCnt,aCut,sQ,fCnt,fCut,naCs,naLd,naEn,cond_true,cond_false,Bool.not_true,Bool.not_false]
     · obtain ⟨b0,b1⟩ := y2 (by decide)
       obtain ⟨w0,w1,w2⟩ := wm _ b0 b1;have hk:nHp true ⟨76,6,r⟩ [x] = if x = 0 then aCnt r else aOn 7 r := rfl
       rw [QqQ,hk]
       by_cases z:x = 0
       · rw [if_pos z];simp only [d1,e1,e2,w0,w1,w2,Zt z,naR,frmR,actR,aOn,aPut,aCnt,aCut,sQ,fCnt,fCut,naCs,naLd,naEn,cond_true,cond_false,Bool.not_true,Bool.not_false]
       · rw [if_neg z];simp only [d1,e1,e2,w0,w1,w2,Zd z,naR,frmR,actR,aOn,aPut,aCnt,aCut,sQ,fCnt,fCut,naCs,naLd,naEn,cond_true,cond_false,Bool.not_true,Bool.not_false]
     · (rw [QqR];conv => zeta)
       try simp only [d1,e1,cond_true]
       rfl
     · (rw [QqS];conv => zeta)
       try simp only [d1,e1,cond_true]
       rfl
 · rcases hk with ⟨rfl,rfl⟩ | ⟨hk,rfl,f0,f1,m0,m1,j0,j1,hw⟩ | ⟨x,rfl,a1,a15,a13,a14,x0,x1,y1,y2,y3,y4,y5,y6,y12,y7⟩
   · (rw [Qm1];conv => zeta);rfl
   · have hm:(hMany r:Int) = r.getD 5 0 := by unfold hMany;omega
     have hwj := hw (r.getD 6 0).toNat (by omega)
     have w8:IntKind.i64.wrap (8 + r.getD 6 0) = 8 + r.getD 6 0 := Qb (by omega) (by omega)
     have t8:(8 + r.getD 6 0).toNat = 8 + (r.getD 6 0).toNat := by omega
     have v1:IntKind.i64.wrap (r.getD 2 0 + 1) = r.getD 2 0 + 1 := Qb (by omega) (by omega)
     have dd:decide (0 <= 8 + r.getD 6 0 /\ 8 + r.getD 6 0 < 96) = true := decide_eq_true ⟨by omega,by omega⟩
     rcases hk with rfl | rfl
     · have kk:IntKind.i64.wrap (Int.tdiv (r.getD (8 + (r.getD 6 0).toNat) 0) 256) = hKey r (r.getD 6 0).toNat := by rw [Int.tdiv_eq_ediv_of_nonneg hwj.1,Qb (by omega) (by omega)];rfl
       have kv:Int.tmod (r.getD (8 + (r.getD 6 0).toNat) 0) 256 = hVal r (r.getD 6 0).toNat := YZ hwj.1;have hk:nHp true ⟨100,13,r⟩ [] = naCl 100 14 r 76 [r.getD 2 0 + 1,r.getD 6 0,hKey r (r.getD 6 0).toNat,hVal r (r.getD 6 0).toNat] := rfl;rw [Qiv,hk];simp only [w8,t8,dd,v1,kk,kv,cond_true];rfl
     · have w6:IntKind.i64.wrap (r.getD 6 0 + 1) = r.getD 6 0 + 1 := Qb (by omega) (by omega)
       have hk:nHp true ⟨100,14,r⟩ [] = hApp (r.set 6 (r.getD 6 0 + 1)) := rfl;rw [Qiw,hk,w6]
       exact Qnc (by rw [List.length_set];exact hr) (by rw [getD_set_ne' (by decide)];omega) (by rw [getD_set_ne' (by decide)];omega) (by rw [Qd (by omega)];omega) (fun j hj => by
        have hM:hMany (r.set 6 (r.getD 6 0 + 1)) = hMany r := by unfold hMany;rw [getD_set_ne' (by decide)]
        rw [hM] at hj;rw [getD_set_ne' (by omega)];exact hw j hj)
   · have ks:k = 1 \/ k = 2 \/ k = 3 \/ k = 4 \/ k = 5 \/ k = 6 \/ k = 7 \/ k = 8 \/ k = 9 \/ k = 10 \/ k = 11 \/ k = 12 \/ k = 15 := by omega
     rcases ks with rfl | rfl | rfl | rfl | rfl | rfl | rfl | rfl | rfl | rfl | rfl | rfl | rfl
     · have z := y1 rfl;have g0:(r.set 2 x).getD 0 0 = r.getD 0 0 := getD_set_ne' (by decide)
       have g1:(r.set 2 x).getD 1 0 = r.getD 1 0 := getD_set_ne' (by decide)
       have g2:(r.set 2 x).getD 2 0 = x := Qd (by omega)
       have v1:IntKind.i64.wrap (x + 1) = x + 1 := Qb (by omega) (by omega)
       have hk:nHp true ⟨100,1,r⟩ [x] = if r.getD 0 0 <= x then naEn 100 1 (r.set 2 x) [] true else naLd 100 2 (r.set 2 x) (lRing (x + 1) (r.getD 1 0)) 0 := rfl
       rw [Qm2,hk];simp only [g0,g1,g2,v1]
       repeat' (first | refine cdD (fun hc => ?_) fun hc => ?_ | refine cdE (fun hc => ?_) fun hc => ?_ | refine cdN (fun hc => ?_) fun hc => ?_)
       all_goals (repeat' split)
       all_goals first | rfl | (exfalso;omega)
     · have z := y2 (by decide) (by decide)
       have g3:(r.set 3 (bare x)).getD 3 0 = bare x := Qd (by omega)
       have v1:IntKind.i64.wrap (r.getD 2 0 + 1) = r.getD 2 0 + 1 := Qb (by omega) (by omega)
       have hk:nHp true ⟨100,2,r⟩ [x] = if plc x = r.getD 2 0 + 1 then hOf 3 (r.set 3 (bare x)) 2 else hBeg r := rfl
       rw [Qm3,hk];simp only [hOf,hDesc,g3,v1]
       repeat' (first | refine cdD (fun hc => ?_) fun hc => ?_ | refine cdE (fun hc => ?_) fun hc => ?_ | refine cdN (fun hc => ?_) fun hc => ?_)
       all_goals (repeat' split)
       all_goals first | rfl | (exfalso;omega)
     · (rw [Qm4];conv => zeta);rfl
     · have z := y4 rfl;have g3:((r.set 5 x).set 6 0).getD 3 0 = r.getD 3 0 := by rw [getD_set_ne' (by decide),getD_set_ne' (by decide)]
       have g5:((r.set 5 x).set 6 0).getD 5 0 = x := by rw [getD_set_ne' (by decide),Qd (by omega)]
       have g6:((r.set 5 x).set 6 0).getD 6 0 = 0 := Qd (by rw [List.length_set];omega)
       have hmin:(if 4 < x then (4:Int) else x) = x := if_neg (by omega)
       have v4:IntKind.i64.wrap (4 + 0) = 4 + 0 := Qb (by decide) (by decide)
       have hk:nHp true ⟨100,4,r⟩ [x] = hWrs ((r.set 5 x).set 6 0) := rfl;rw [Qm5,hk];simp only [hWrs,hOf,hDesc,hMany,g3,g5,g6,hmin,v4]
       repeat' (first | refine cdD (fun hc => ?_) fun hc => ?_ | refine cdE (fun hc => ?_) fun hc => ?_ | refine cdN (fun hc => ?_) fun hc => ?_)
       all_goals (repeat' split)
       all_goals first | rfl | (exfalso;omega)
     · have z5 := y5 (by decide) (by decide)
       have z6 := y6 (.inl rfl);have w8:IntKind.i64.wrap (8 + r.getD 6 0) = 8 + r.getD 6 0 := Qb (by omega) (by omega)
       have t8:(8 + r.getD 6 0).toNat = 8 + (r.getD 6 0).toNat := by omega
       have dd:decide (0 <= 8 + r.getD 6 0 /\ 8 + r.getD 6 0 < 96) = true := decide_eq_true ⟨by omega,by omega⟩
       have g3:(r.set (8 + (r.getD 6 0).toNat) x).getD 3 0 = r.getD 3 0 := getD_set_ne' (by omega)
       have g6:(r.set (8 + (r.getD 6 0).toNat) x).getD 6 0 = r.getD 6 0 := getD_set_ne' (by omega)
       have hk:nHp true ⟨100,5,r⟩ [x] = hOf 6 (r.set (8 + (r.getD 6 0).toNat) x) (8 + r.getD 6 0) := rfl;rw [Qm6,hk];simp only [hOf,hDesc,w8,t8,dd,g3,g6,cond_true];rfl
     · have z5 := y5 (by decide) (by decide)
       have z6 := y6 (.inr (.inl rfl));have w8:IntKind.i64.wrap (12 + r.getD 6 0) = 12 + r.getD 6 0 := Qb (by omega) (by omega)
       have t8:(12 + r.getD 6 0).toNat = 12 + (r.getD 6 0).toNat := by omega
       have dd:decide (0 <= 12 + r.getD 6 0 /\ 12 + r.getD 6 0 < 96) = true := decide_eq_true ⟨by omega,by omega⟩
       have h6:(r.set (12 + (r.getD 6 0).toNat) x).getD 6 0 = r.getD 6 0 := getD_set_ne' (by omega)
       have w6:IntKind.i64.wrap (r.getD 6 0 + 1) = r.getD 6 0 + 1 := Qb (by omega) (by omega)
       have g3:((r.set (12 + (r.getD 6 0).toNat) x).set 6 (r.getD 6 0 + 1)).getD 3 0 = r.getD 3 0 := by rw [getD_set_ne' (by decide),getD_set_ne' (by omega)]
       have g5:((r.set (12 + (r.getD 6 0).toNat) x).set 6 (r.getD 6 0 + 1)).getD 5 0 = r.getD 5 0 := by rw [getD_set_ne' (by decide),getD_set_ne' (by omega)]
       have g6:((r.set (12 + (r.getD 6 0).toNat) x).set 6 (r.getD 6 0 + 1)).getD 6 0 = r.getD 6 0 + 1 := Qd (by rw [List.length_set];omega)
       have hmin:(if 4 < r.getD 5 0 then (4:Int) else r.getD 5 0) = r.getD 5 0 := if_neg (by omega)
       have v4:IntKind.i64.wrap (4 + (r.getD 6 0 + 1)) = 4 + (r.getD 6 0 + 1) := Qb (by omega) (by omega)
       have hk:nHp true ⟨100,6,r⟩ [x] = hWrs ((r.set (12 + (r.getD 6 0).toNat) x).set 6 (r.getD 6 0 + 1)) := rfl;rw [Qm7,hk];simp only [hWrs,hOf,hDesc,hMany,w8,t8,dd,h6,w6,g3,g5,g6,hmin,v4,cond_true]
       repeat' (first | refine cdD (fun hc => ?_) fun hc => ?_ | refine cdE (fun hc => ?_) fun hc => ?_ | refine cdN (fun hc => ?_) fun hc => ?_)
       all_goals (repeat' split)
       all_goals first | rfl | (exfalso;omega)
     · have z2 := y2 (by decide) (by decide)
       have z5 := y5 (by decide) (by decide)
       have z7 := y7 (by decide) (by decide)
       have hk:nHp true ⟨100,7,r⟩ [x] = if x = 0 then hHds (r.set 6 0) else hPut (r.set 6 0) x := rfl
       have E:∀ j,j ≠ 6 -> (r.set 6 0).getD j 0 = r.getD j 0 := fun j c => getD_set_ne' (fun d => c d.symm);have g6:(r.set 6 0).getD 6 0 = 0 := Qd (by omega)
       have lA:(r.set 6 0).length = 96 := by rw [List.length_set];exact hr
       have hM:hMany (r.set 6 0) = hMany r := by unfold hMany;rw [E 5 (by decide)]
       have hwA:okWs (hMany (r.set 6 0)) (r.set 6 0) := fun j hj => by rw [hM] at hj;rw [E _ (by omega)];exact z7 j hj
       rw [Qm8,hk]
       by_cases e0:x = 0
       · rw [if_pos e0,YU e0,cond_false];exact Qnb lA (by rw [E 5 (by decide)];exact z5) (by rw [g6];decide) hwA
       · rw [if_neg e0,J0 e0,cond_true];have := Qnd (x := x) (gc := gc) lA (by rw [E 5 (by decide)];exact z5) (by rw [E 2 (by decide)];exact z2) hwA
         (rw [Qbn] at this;conv at this => zeta)
         exact this
     · have z5 := y5 (by decide) (by decide)
       have z6 := y6 (.inr (.inr rfl));have z7 := y7 (by decide) (by decide)
       have w6:IntKind.i64.wrap (r.getD 6 0 + 1) = r.getD 6 0 + 1 := Qb (by omega) (by omega)
       have E:∀ j,j ≠ 6 -> (r.set 6 (r.getD 6 0 + 1)).getD j 0 = r.getD j 0 := fun j c => getD_set_ne' (fun d => c d.symm);have g6:(r.set 6 (r.getD 6 0 + 1)).getD 6 0 = r.getD 6 0 + 1 := Qd (by omega)
       have hM:hMany (r.set 6 (r.getD 6 0 + 1)) = hMany r := by unfold hMany;rw [E 5 (by decide)]
       have hwA:okWs (hMany (r.set 6 (r.getD 6 0 + 1))) (r.set 6 (r.getD 6 0 + 1)) := fun j hj => by rw [hM] at hj;rw [E _ (by omega)];exact z7 j hj
       have g3:(r.set 7 2).getD 3 0 = r.getD 3 0 := getD_set_ne' (by decide)
       have g7:(r.set 7 2).getD 7 0 = 2 := Qd (by omega)
       have hk:nHp true ⟨100,8,r⟩ [x] = if r.getD 4 0 < plc x then hDec r 2 else hHds (r.set 6 (r.getD 6 0 + 1)) := rfl
       rw [Qm9,hk,w6]
       by_cases e0:r.getD 4 0 < plc x
       · rw [if_pos e0,decide_eq_true e0,cond_true];simp only [g3,g7];rfl
       · rw [if_neg e0,decide_eq_false e0,cond_false];exact Qnb (by rw [List.length_set];exact hr) (by rw [E 5 (by decide)];exact z5) (by rw [g6];omega) hwA
     · (rw [Qna];conv => zeta);rfl
     · have z2 := y2 (by decide) (by decide)
       have z5 := y5 (by decide) (by decide)
       have z7 := y7 (by decide) (by decide)
       have hk:nHp true ⟨100,10,r⟩ [x] = hPut r x := rfl;rw [hk];exact Qnd hr z5 z2 z7
     · (rw [Qit];conv => zeta);rfl
     · have z5 := y5 (by decide) (by decide)
       have z7 := y7 (by decide) (by decide)
       have z2 := y2 (by decide) (by decide)
       have hk:nHp true ⟨100,12,r⟩ [x] = hApp (r.set 6 0) := rfl;rw [Qiu,hk]
       exact Qnc (by rw [List.length_set];exact hr) (by rw [getD_set_ne' (by decide)];omega) (by rw [getD_set_ne' (by decide)];omega) (by rw [Qd (by omega)];decide) (fun j hj => by
        have hM:hMany (r.set 6 0) = hMany r := by unfold hMany;rw [getD_set_ne' (by decide)]
        rw [hM] at hj;rw [getD_set_ne' (by omega)];exact z7 j hj)
     · (rw [Qix];conv => zeta);rfl
noncomputable def uQ_2 := uQ_1.addSpec 144 Qsl
theorem Qne:Qh Tryz.prog s25 uQ_2 := Qm0.addEv Qa fun args d h => by
 unfold Qsl at h
 split at h
 · unfold QvS at h;have h1 := congrArg Prod.fst (Option.some.inj h);obtain rfl:_ = d := congrArg Prod.snd (Option.some.inj h);exact ⟨by simp [D.refs,Qgz],120,QvT _ _ _ _ _ h1⟩
 · cases h
open Go.Proofs
def goGo (own:Bool) (n:Nat) (st:List Qe) (got:List Int) (e:Bool):GoM := goN (nHp own) n st got e
def okGo (own:Bool) (n:Nat) (st:List Qe) (got:List Int):Prop := OkN (nHp own) (okHp own) n st got
def tskR (c:Int) (sf:Bool) (st:List Qe) (gf:Bool) (got:List Int) (over:Bool):D RC := .acons (.int .i64 c) (.acons (.sl (C := RC) .frame sf st) (.acons (.sl (C := RC) .int gf got) (.acons (.bool over) .anil)))
structure QgA where
 c:Int
 sf:Bool
 st:List Qe
 gf:Bool
 got:List Int
 over:Bool
 own:Bool
 i:Nat
noncomputable def QbY (c:Int) (sf:Bool) (st:List Qe) (gf:Bool) (got:List Int) (over:Bool) (own:Bool) (i:Nat):Env RC := [(1,.bool own),(2,.ptr 0 []),(4,.ptr 1 []),(5,.ptr 2 []),(7,.int .i64 (i:Int))]
def Qak (c:Int) (sf:Bool) (st:List Qe) (gf:Bool) (got:List Int) (over:Bool) (own:Bool) (i:Nat):List (Obj RC) := [.var 40 (.acons (.int .i64 c) (.acons (.sl (C := RC) .frame sf st) (.acons (.sl (C := RC) .int gf got) (.acons (.bool over) .anil)))),.var 40 (.acons (.int .i64 0) (.acons (.sl (C := RC) .frame true []) (.acons (.sl (C := RC) .int true []) (.acons (.bool false) .anil)))),.var 86 (.acons (.int .i8 0) (.acons (.int .i64 0) (.acons (.int .i64 0) (.acons (.int .i64 0) (.acons (.int .i64 0) (.acons (.str []) (.acons (.sl (C := RC) .int true []) .anil)))))))]
noncomputable def Qnf (c:Int) (sf:Bool) (st:List Qe) (gf:Bool) (got:List Int) (over:Bool) (own:Bool) (i:Nat) := rndO s25 uQ_2 83 2 120 3 [1,2,4,5,7] [6] [.slot 2 0,.slot 4 0,.slot 5 0] (QbY c sf st gf got over own i) (Qak c sf st gf got over own i)
theorem QqT (c:Int) (sf:Bool) (st:List Qe) (gf:Bool) (got:List Int) (over:Bool) (own:Bool) (i:Nat):Qnf c sf st gf got over own i = (let Z0:D RC := D.int .i64 c;let Z1:D RC := .anil;let Z2:Option (Obj RC) := some (Obj.var 40 (.acons Z0 (D.acons (D.sl RTy.frame sf st) (.acons (D.sl RTy.int gf got) (.acons (D.bool over) Z1)))));let Z3:D RC := D.int .i64 0;let Z4:List (Option (Obj RC)) := [some (Obj.var 86 (.acons (D.int IntKind.i8 (0:Int)) (.acons Z3 (D.acons Z3 (D.acons Z3 (D.acons Z3 (D.acons (D.str []) (.acons (D.sl RTy.int true []) Z1))))))))];let Z5:Qe := Qe.mk (Qe.prog (topF st)) (Qe.at' (topF st)) (Qe.r (topF st));let Z6:NA := nHp true Z5 got;let Z7:Qf := NA.a Z6;let Z8:Int := Qf.kind Z7;let Z9:Qf := Qf.mk Z8 (Qf.a Z7) (Qf.b Z7) (Qf.v Z7) (Qf.gen Z7) (Qf.text Z7) (Qf.args Z7);let Z10:X × Env RC := (X.ret,[(6,D.bool true)]);let Z11:List Qe := tkSt st (Qe.mk (Qe.prog (NA.f Z6)) (Qe.at' (NA.f Z6)) (Qe.r (NA.f Z6))) Z9;let Z12:Option (Obj RC) := some (Obj.var 40 (.acons Z0 (D.acons (D.sl RTy.frame false Z11) (.acons (D.sl RTy.int (tkFl gf Z9) (Vb got Z9)) (.acons (D.bool (decide (Z11 = []))) Z1)))));let Z13:X × Env RC := (X.normal,[(1,D.bool own),(2,D.ptr 0 []),(4,D.ptr 1 []),(5,D.ptr 2 []),(7,D.int .i64 (IntKind.wrap .i64 ((↑i:Int) + (1:Int))))]);let Z14:List (Option (Obj RC)) := some (Obj.var 40 (.acons Z3 (D.acons (D.sl RTy.frame true []) (.acons (D.sl RTy.int true []) (.acons (D.bool false) Z1))))) :: Z4;let Z15:NA := nHp false Z5 got;let Z16:Qf := NA.a Z15;let Z17:Int := Qf.kind Z16;let Z18:Qf := Qf.mk Z17 (Qf.a Z16) (Qf.b Z16) (Qf.v Z16) (Qf.gen Z16) (Qf.text Z16) (Qf.args Z16);let Z19:List Qe := tkSt st (Qe.mk (Qe.prog (NA.f Z15)) (Qe.at' (NA.f Z15)) (Qe.r (NA.f Z15))) Z18;let Z20:Option (Obj RC) := some (Obj.var 40 (.acons Z0 (D.acons (D.sl RTy.frame false Z19) (.acons (D.sl RTy.int (tkFl gf Z18) (Vb got Z18)) (.acons (D.bool (decide (Z19 = []))) Z1)))));bif decide ((↑i:Int) < (64:Int)) then bif lenOK st.length then bif !decide (st ≠ []) then some ((X.ret,[(6,D.bool false)]),Z2 :: Z2 :: Z4) else bif own then bif cdec (okHp true Z5 got) then bif cdec (OkTk c st got Z9) && !over then bif decide (Z8 < (6:Int)) then some (Z10,[Z12,Z12,some (Obj.var 86 (.acons (D.int IntKind.i8 Z8) (.acons (D.int .i64 (Qf.a Z7)) (.acons (D.int .i64 (Qf.b Z7)) (.acons (D.int .i64 (Qf.v Z7)) (.acons (D.int .i64 (Qf.gen Z7)) (.acons (D.str (Qf.text Z7)) (.acons (D.sl RTy.int (NA.fl Z6) (Qf.args Z7)) Z1))))))))]) else some (Z13,Z12 :: Z14) else none else none else bif cdec (okHp false Z5 got) then bif cdec (OkTk c st got Z18) && !over then bif decide (Z17 < (6:Int)) then some (Z10,[Z20,Z20,some (Obj.var 86 (.acons (D.int IntKind.i8 Z17) (.acons (D.int .i64 (Qf.a Z16)) (.acons (D.int .i64 (Qf.b Z16)) (.acons (D.int .i64 (Qf.v Z16)) (.acons (D.int .i64 (Qf.gen Z16)) (.acons (D.str (Qf.text Z16)) (.acons (D.sl RTy.int (NA.fl Z15) (Qf.args Z16)) Z1))))))))]) else some (Z13,Z20 :: Z14) else none else none else none else some ((X.exit (0:Nat),[(6,D.top)]),Z2 :: Z14)) := by kernel_rfl
noncomputable def Yi (c:Int) (sf:Bool) (st:List Qe) (gf:Bool) (got:List Int) (over:Bool) (own:Bool) (i:Nat):RT RC := .leaf .ret [(6,.bool (goGo own (64 - i) st got gf).is)] [.var 40 (tskR c false (goGo own (64 - i) st got gf).st (goGo own (64 - i) st got gf).gf (goGo own (64 - i) st got gf).got (decide ((goGo own (64 - i) st got gf).st = []))),.var 40 (tskR c false (goGo own (64 - i) st got gf).st (goGo own (64 - i) st got gf).gf (goGo own (64 - i) st got gf).got (decide ((goGo own (64 - i) st got gf).st = []))),.var 86 (actR (goGo own (64 - i) st got gf).a (goGo own (64 - i) st got gf).af)]
def Vq (c:Int) (sf:Bool) (st:List Qe) (gf:Bool) (got:List Int) (over:Bool) (own:Bool) (i:Nat):Prop := 0 <= c /\ c <= 3 /\ i <= 64 /\ over = decide (st = []) /\ (st = [] -> sf = false) /\ okGo own (64 - i) st got
noncomputable def Vr:QU RC QgA where
 k := 3
 canon q := QbY q.c q.sf q.st q.gf q.got q.over q.own q.i
 objs q := Qak q.c q.sf q.st q.gf q.got q.over q.own q.i
 fin q := Yi q.c q.sf q.st q.gf q.got q.over q.own q.i
 Inv q := Vq q.c q.sf q.st q.gf q.got q.over q.own q.i
 μ q := 64 - q.i
theorem QeG (c:Int) (sf:Bool) (st:List Qe) (gf:Bool) (got:List Int) (over:Bool) (own:Bool) (i:Nat) (hI:Vq c sf st gf got over own i):Leaf (Qnf c sf st gf got over own i) (LedR Vr ⟨c,sf,st,gf,got,over,own,i⟩) := by
 (rw [QqT];conv => zeta)
 unfold Vq at hI;obtain ⟨c0,c3,hi,ho,hsf,hok⟩ := hI;have feta:∀ f:Qe,Qe.mk f.prog f.at' f.r = f := fun _ => rfl;have aeta:∀ a:Qf,Qf.mk a.kind a.a a.b a.v a.gen a.text a.args = a := fun _ => rfl;simp only [feta,aeta]
 obtain ⟨m,hm⟩:∃ m,64 - i = m + 1 := by
  cases hq:64 - i with
  | zero => unfold okGo at hok;rw [hq] at hok;exact hok.elim
  | succ m => exact ⟨m,rfl⟩
 have hm2:64 - (i + 1) = m := by omega
 have d1:decide ((i:Int) < 64) = true := decide_eq_true (by omega)
 unfold okGo at hok;rw [hm] at hok
 have hfin:∀ R:GoM,goN (nHp own) (m + 1) st got gf = R -> (Yi c sf st gf got over own i).val = some ((.ret,[(6,.bool R.is)]),[.var 40 (tskR c false R.st R.gf R.got (decide (R.st = []))),.var 40 (tskR c false R.st R.gf R.got (decide (R.st = []))),.var 86 (actR R.a R.af)]) := fun R hR => by
  unfold Yi goGo;rw [hm,hR];rfl
 rcases hok with rfl | ⟨hne,hl6,hg,hk,hmay,k0,k7,hnx⟩
 · have hsf := hsf rfl;subst hsf;have d2:lenOK ([]:List Qe).length = true := rfl;have d3:decide (([]:List Qe) ≠ []) = false := decide_eq_false fun h => h rfl;subst ho;simp only [d1,d2,d3,Bool.not_false,cond_true];exact Q7 _ (hfin _ rfl) rfl
 · have l1:1 <= st.length := List.length_pos_iff.2 hne;have d2:lenOK st.length = true := Qk (by omega)
   have d3:decide (st ≠ []) = true := decide_eq_true hne;have ho:over = false := by rw [ho];exact decide_eq_false hne
   subst ho;have e1:cdec (okHp own (topF st) got) = true := QD hk
   have e2:cdec (OkTk c st got (nHp own (topF st) got).a) = true := QD ⟨c0,c3,hg,l1,hl6,hmay,k0,k7,fun e => by
    rcases hnx with h | h
    · omega
    · exact h.1 e⟩
   have hR:goN (nHp own) (m + 1) st got gf = if (nHp own (topF st) got).a.kind < 6 then ⟨tkSt st (nHp own (topF st) got).f (nHp own (topF st) got).a,got,gf,(nHp own (topF st) got).a,(nHp own (topF st) got).fl,true⟩
    else goN (nHp own) m (tkSt st (nHp own (topF st) got).f (nHp own (topF st) got).a) (Vb got (nHp own (topF st) got).a) (tkFl gf (nHp own (topF st) got).a) := by
    rw [goN,if_neg hne]
   have hgoal:∀ N:NA,nHp own (topF st) got = N -> Leaf (cond (decide (N.a.kind < 6)) (some ((X.ret,[(6,D.bool true)]),[some (Obj.var 40 (tskR c false (tkSt st N.f N.a) (tkFl gf N.a) (Vb got N.a) (decide (tkSt st N.f N.a = [])))),some (Obj.var 40 (tskR c false (tkSt st N.f N.a) (tkFl gf N.a) (Vb got N.a) (decide (tkSt st N.f N.a = [])))),some (Obj.var 86 (actR N.a N.fl))]))
    (some ((X.normal,QbY c false (tkSt st N.f N.a) (tkFl gf N.a) (Vb got N.a) (decide (tkSt st N.f N.a = [])) own (i + 1)),(Qak c false (tkSt st N.f N.a) (tkFl gf N.a) (Vb got N.a) (decide (tkSt st N.f N.a = [])) own (i + 1)).map some))) (LedR Vr ⟨c,sf,st,gf,got,false,own,i⟩) := fun N hN => by
    rw [hN] at hR hnx
    by_cases hk6:N.a.kind < 6
    · rw [if_pos hk6] at hR;rw [decide_eq_true hk6,cond_true];have t1:Vb got N.a = got := if_pos hk6;have t2:tkFl gf N.a = gf := if_pos hk6;rw [t1,t2];exact Q7 _ (hfin _ hR) rfl
    · rw [if_neg hk6] at hR;rw [decide_eq_false hk6,cond_false];refine Qw (S := Vr) ⟨c,false,tkSt st N.f N.a,tkFl gf N.a,Vb got N.a,decide (tkSt st N.f N.a = []),own,i + 1⟩ ⟨c0,c3,by show i + 1 <= 64;omega,rfl,fun _ => rfl,?_⟩ (by simp only [Vr];omega) ?_ rfl rfl
      · show OkN (nHp own) (okHp own) (64 - (i + 1)) _ _;rw [hm2];rcases hnx with h | h
        · exact absurd h hk6
        · exact h.2
      · show (Yi c false (tkSt st N.f N.a) (tkFl gf N.a) (Vb got N.a) (decide (tkSt st N.f N.a = [])) own (i + 1)).val = (Yi c sf st gf got false own i).val;rw [hfin _ hR];unfold Yi goGo;rw [hm2];rfl
   have w1:IntKind.i64.wrap ((i:Int) + 1) = ((i + 1:Nat):Int) := by rw [Qb (by omega) (by omega)];simp
   have q0:((0:Int) != 0) = false := rfl;cases own
   · simp only [d1,d2,d3,e1,e2,w1,q0,Bool.not_true,Bool.not_false,Bool.and_self,cond_true,cond_false];exact hgoal _ rfl
   · simp only [d1,d2,d3,e1,e2,w1,q0,Bool.not_true,Bool.not_false,Bool.and_self,cond_true,cond_false];exact hgoal _ rfl
noncomputable def QeH (env:Env RC) (os:List (Obj RC)):Option (Bool × QgA) := match env,os with
 | [(1,.bool own),(2,.ptr 0 []),(4,.ptr 1 []),(5,.ptr 2 []),(7,.int .i64 x0)],[.var 40 (.acons (.int .i64 c) (.acons (.sl .frame sf st) (.acons (.sl .int gf got) (.acons (.bool over) .anil)))),.var 40 (.acons (.int .i64 0) (.acons (.sl .frame true []) (.acons (.sl .int true []) (.acons (.bool false) .anil)))),.var 86 (.acons (.int .i8 0) (.acons (.int .i64 0) (.acons (.int .i64 0) (.acons (.int .i64 0) (.acons (.int .i64 0) (.acons (.str []) (.acons (.sl .int true []) .anil)))))))] => Qz (true) (decide (x0 = 0) && cdec (0 <= c /\ c <= 3 /\ over = decide (st = []) /\ (st = [] -> sf = false) /\ okGo own 64 st got),⟨c,sf,st,gf,got,over,own,0⟩)
 | _,_ => none
noncomputable def ur_1 := uQ_2.addLoop 83 2 (sumR s25 [.slot 2 0,.slot 4 0,.slot 5 0] [1,2,4,5,7] Vr QeH)
theorem Qng:Qh Tryz.prog s25 ur_1 := by
 refine Qne.addRoundsR Qa (by kernel_rfl) Vr 120 [1,2,4,5,7] [6] [.slot 2 0,.slot 4 0,.slot 5 0] [1,2,4,5,7] QeH (fun q hI => ?_) ?_
 · obtain ⟨c,sf,st,gf,got,over,own,i⟩ := q;refine ⟨?_,?_,QeG c sf st gf got over own i hI⟩
   · simp_all [Ql,Vr,QbY,Qak,Vq,D.refs,Obj.refs,rEnc]
   · simp_all [Vr,Yi,Qak,Vq,RT.refsOK,Ql,D.refs,Obj.refs,rEnc,tskR,actR]
 · intro env os b q hd_ hb;unfold QeH at hd_
   split at hd_
   · obtain ⟨hs,hd_⟩ := Qi hd_;cases hd_;simp only [Bool.and_eq_true,decide_eq_true_eq] at hb;obtain ⟨e0,e1⟩ := hb;subst e0;obtain ⟨h1,h2,h3,h4,h5⟩ := QP.1 e1;exact ⟨⟨h1,h2,Nat.zero_le _,h3,h4,h5⟩,rfl,rfl⟩
   · cases hd_
noncomputable def Qsm (c:Int) (sf:Bool) (st:List Qe) (gf:Bool) (got:List Int) (over:Bool) (own:Bool):Option (Bool × D RC) := some (cdec (0 <= c /\ c <= 3 /\ over = decide (st = []) /\ (st = [] -> sf = false) /\ okGo own 64 st got),.tup (.acons (tskR c false (goGo own 64 st got gf).st (goGo own 64 st got gf).gf (goGo own 64 st got gf).got (decide ((goGo own 64 st got gf).st = []))) (.acons (actR (goGo own 64 st got gf).a (goGo own 64 st got gf).af) (.acons (.bool (goGo own 64 st got gf).is) .anil))))
noncomputable def Qnh:List (D RC) -> Option (Bool × D RC)
 | [.acons (.int .i64 c) (.acons (.sl .frame sf st) (.acons (.sl .int gf got) (.acons (.bool over) .anil))),.bool own] => Qsm c sf st gf got over own
 | _ => none
noncomputable def Qsn (c:Int) (sf:Bool) (st:List Qe) (gf:Bool) (got:List Int) (over:Bool) (own:Bool) := evF s25 ur_1 120 83 [.acons (.int .i64 c) (.acons (.sl (C := RC) .frame sf st) (.acons (.sl (C := RC) .int gf got) (.acons (.bool over) .anil))),.bool own]
theorem Quq (c:Int) (sf:Bool) (st:List Qe) (gf:Bool) (got:List Int) (over:Bool) (own:Bool):Qsn c sf st gf got over own = (let Z0:GoM := goGo own (64:Nat) st got gf;let Z1:Qf := GoM.a Z0;bif cdec ((0:Int) <= c /\ c <= (3:Int) /\ over = decide (st = []) /\ (st = [] -> sf = false) /\ okGo own (64:Nat) st got) then some (D.tup (D.acons (D.acons (D.int .i64 c) (.acons (D.sl RTy.frame false (GoM.st Z0)) (.acons (D.sl RTy.int (GoM.gf Z0) (GoM.got Z0)) (.acons (D.bool (decide (GoM.st Z0 = []))) .anil)))) (.acons (D.acons (D.int IntKind.i8 (Qf.kind Z1)) (.acons (D.int .i64 (Qf.a Z1)) (.acons (D.int .i64 (Qf.b Z1)) (.acons (D.int .i64 (Qf.v Z1)) (.acons (D.int .i64 (Qf.gen Z1)) (.acons (D.str (Qf.text Z1)) (.acons (D.sl RTy.int (GoM.af Z0) (Qf.args Z1)) .anil))))))) (.acons (D.bool (GoM.is Z0)) .anil)))) else none) := by kernel_rfl
theorem Qur (c:Int) (sf:Bool) (st:List Qe) (gf:Bool) (got:List Int) (over:Bool) (own:Bool) (h:(cdec (0 <= c /\ c <= 3 /\ over = decide (st = []) /\ (st = [] -> sf = false) /\ okGo own 64 st got)) = true):Qsn c sf st gf got over own = some (.tup (.acons (tskR c false (goGo own 64 st got gf).st (goGo own 64 st got gf).gf (goGo own 64 st got gf).got (decide ((goGo own 64 st got gf).st = []))) (.acons (actR (goGo own 64 st got gf).a (goGo own 64 st got gf).af) (.acons (.bool (goGo own 64 st got gf).is) .anil)))) := by
 (rw [Quq];conv => zeta)
 simp only [h,decide_true,Bool.and_self,cond_true];rfl
noncomputable def ur_2 := ur_1.addSpec 83 Qnh
theorem Qni:Qh Tryz.prog s25 ur_2 := Qng.addEv Qa fun args d h => by
 unfold Qnh at h
 split at h
 · unfold Qsm at h;have h1 := congrArg Prod.fst (Option.some.inj h);obtain rfl:_ = d := congrArg Prod.snd (Option.some.inj h);exact ⟨by simp [D.refs],120,Qur _ _ _ _ _ _ _ h1⟩
 · cases h
def CI (w f t q:Int) (hs:List Int) (d k:Int) (r got:List Int):Prop :=
 r.length = 96 /\ r.getD 0 0 = w /\ r.getD 1 0 = d /\ 0 <= r.getD 2 0 /\ r.getD 2 0 <= t /\ (goF k r got (got.headD 0)).is = true /\
 (k = 0 /\ got = [] /\ d ∉ hs \/ ∃ x,got = [x] /\ 0 <= x /\
  (k = 1 /\ 1 <= x /\ x <= t /\ d ∉ hs \/
   k = 2 /\ 1 <= r.getD 2 0 /\ x <= f /\ d ∉ hs \/
   k = 3 /\ 1 <= r.getD 2 0 /\ r.getD 2 0 <= f + w /\ x <= q /\ d ∉ hs \/
   k = 4 /\ 1 <= r.getD 2 0 /\ r.getD 2 0 <= f + w /\ r.getD 2 0 - 32 <= q /\ x <= 1099510841343 /\ plc x <= hs.length /\ d ∉ hs \/
   k = 5 /\ x <= 1 /\ d ∉ hs \/
   k = 6 /\ 1 <= r.getD 2 0 /\ (x = 0 /\ d ∉ hs \/ x = 1 /\ r.getD 2 0 <= hs.length /\ hs.getD (r.getD 2 0 - 1).toNat 0 = d)))
def mkT (c k:Int) (r got:List Int):Task := ⟨c,[⟨68,k,r⟩],got,false⟩
structure StepR (cs:List Int) (t:Task) (cs':List Int) (t':Task) (E:GoR):Prop where
 hcs:stCs cs t = cs'
 ht:stT cs t = t'
 hE:stE cs t = E
structure RI (w:Int) (s:GS) (hs:List Int) (kk:Int):Prop where
 rw:RW w s.cs hs
 lt:s.ts.length = 4
 lb:s.busy.length = 4
 lh:s.has.length = 4
 n0:0 <= s.n
 nk:s.n <= kk
 hk:(hs.length:Int) <= kk
 tk:(s.told.length:Int) <= kk
 hn:∀ d ∈ hs,∃ m c,1 <= m /\ m <= s.n /\ 0 <= c /\ c <= 3 /\ d = hnd c m
 cl:∀ c,0 <= c -> c <= 3 -> Qr3 s c = true -> ∃ k r got m,tkC s.ts c = mkT c k r got /\ 1 <= m /\ m <= s.n /\ s.has.getD c.toNat 0 = hnd c m /\ CI w (s.cs.getD 0 0) (s.cs.getD 1 0) (s.cs.getD 4 0) hs (s.has.getD c.toNat 0) k r got
 told1:∀ p ∈ s.told,1 <= p /\ p <= hs.length
 toldN:s.told.Nodup
 toldB:∀ p ∈ s.told,∀ c,0 <= c -> c <= 3 -> Qr3 s c = true -> hs.getD (p - 1).toNat 0 ≠ s.has.getD c.toNat 0
structure PickR (w:Int) (s s':GS) (hs hs':List Int) (c:Int):Prop where
 fr:s'.cs.getD 0 0 <= hs.length
 ext:hs' = hs \/ ∃ d,hs' = hs ++ [d]
 told:s'.told = s.told \/ ∃ p:Int,s'.told = s.told ++ [p] /\ 1 <= p /\ p <= hs'.length /\ hs'.getD (p - 1).toNat 0 = s'.has.getD c.toNat 0
end Go.Ev
