/-
  A part of the proof of a statement of this seat: the model is run over values by content, proved sound; what the functions come to. No condition beyond the given statements. (text 7)
-/
import Derived.Test.YtnopcebdncdbgaaGreatP5
import Derived.OpenShut
import Derived.ReadAgain
namespace Go.Ev
open Go.Proofs
set_option maxRecDepth 100000
set_option linter.unusedVariables false
set_option linter.unusedSimpArgs false
structure Qn9 where
 wf:Bool
 ws:List Qc
 w:Int
 now:List Sector
 sure:List Sector
 cs:List Int
 ts:List Task
 us:List Task
 busy:List Bool
 n:Int
 v:Int
 has:List Int
 place:List Int
 mp:List (Int × Try)
 tr:List Try
 last:Int
 j:Nat
noncomputable def Qoa (wf:Bool) (ws:List Qc) (w:Int) (now:List Sector) (sure:List Sector) (cs:List Int) (ts:List Task) (us:List Task) (busy:List Bool) (n:Int) (v:Int) (has:List Int) (place:List Int) (mp:List (Int × Try)) (tr:List Try) (last:Int) (j:Nat):Env RC := [(0,.ptr 0 []),(98,.sl (C := RC) .write wf ws),(99,.int .i64 ((ws.length:Int))),(100,.int .i64 (j:Int))]
def JK (wf:Bool) (ws:List Qc) (w:Int) (now:List Sector) (sure:List Sector) (cs:List Int) (ts:List Task) (us:List Task) (busy:List Bool) (n:Int) (v:Int) (has:List Int) (place:List Int) (mp:List (Int × Try)) (tr:List Try) (last:Int) (j:Nat):List (Obj RC) := [.var 50 (.acons (.ptr 1 []) (.acons (.int .i64 w) (.acons (.int .i64 n) (.acons (.int .i64 v) (.acons (.arr (C := RC) .int 4 has) (.acons (.arr (C := RC) .int 4 place) (.acons (.mp 3) (.acons (.vs 4 (tr.length)) (.acons (.int .i64 last) .anil))))))))),.var 44 (.acons (.acons (.vs 2 (cs.length)) (.acons (.acons (.sl (C := RC) .sector false now) (.acons (.sl (C := RC) .sector false sure) .anil)) .anil)) (.acons (.arr (C := RC) .task 4 ts) (.acons (.arr (C := RC) .task 4 us) (.acons (.arr (C := RC) .bool 4 busy) .anil)))),.vec .int true cs,.map .int .tryd mp,.vec .tryd true tr]
noncomputable def Qss (wf:Bool) (ws:List Qc) (w:Int) (now:List Sector) (sure:List Sector) (cs:List Int) (ts:List Task) (us:List Task) (busy:List Bool) (n:Int) (v:Int) (has:List Int) (place:List Int) (mp:List (Int × Try)) (tr:List Try) (last:Int) (j:Nat) := rndO s25 uv_2 34 10 100 5 [0,98,99,100] [] [.slot 0 0,.path 0 [0],.path 1 [0,0],.path 0 [6],.path 0 [7]] (Qoa wf ws w now sure cs ts us busy n v has place mp tr last j) (JK wf ws w now sure cs ts us busy n v has place mp tr last j)
theorem QuH (wf:Bool) (ws:List Qc) (w:Int) (now:List Sector) (sure:List Sector) (cs:List Int) (ts:List Task) (us:List Task) (busy:List Bool) (n:Int) (v:Int) (has:List Int) (place:List Int) (mp:List (Int × Try)) (tr:List Try) (last:Int) (j:Nat):Qss wf ws w now sure cs ts us busy n v has place mp tr last j = (let Z0:Int := (↑j:Int);let Z1:Int := (↑ws.length:Int);let Z2:Nat := List.length cs;let Z3:Int := lField (99:Int) n (IntKind.wrap .i64 ((4:Int) + Z0)) (16:Int) (12:Int);let Z4:Qc := List.getD ws Z0.toNat (Qc.mk (0:Int) (0:Int));let Z5:Int := IntKind.wrap .i64 (IntKind.wrap .i64 (Qc.key Z4 * (256:Int)) + Qc.value Z4);let Z6:List Int := List.set cs Z3.toNat Z5;let Z7:Bool := Nat.beq Z2 Z6.length;let Z8:Int := lField (99:Int) n (IntKind.wrap .i64 ((8:Int) + Z0)) (16:Int) (12:Int);let Z9:List Int := List.set Z6 Z8.toNat (IntKind.wrap .i64 ((256:Int) + v));let Z10:Bool := Nat.beq Z2 Z9.length;let Z11:Int := lField (291:Int) v (0:Int) (160:Int) (3:Int);let Z12:List Int := List.set Z9 Z11.toNat (3:Int);let Z13:Bool := Nat.beq Z2 Z12.length;let Z14:Int := lField (291:Int) v (2:Int) (160:Int) (3:Int);let Z15:D RC := D.acons (D.arr RTy.int (4:Nat) has) (.acons (D.arr RTy.int (4:Nat) place) (.acons (D.mp (3:Nat)) (.acons (D.vs 4 tr.length) (.acons (D.int .i64 last) .anil))));let Z16:Option (Obj RC) := some (Obj.var 44 (.acons (D.acons (D.vs 2 Z2) (.acons (D.acons (D.sl RTy.sector false now) (.acons (D.sl RTy.sector false sure) .anil)) .anil)) (.acons (D.arr RTy.task (4:Nat) ts) (.acons (D.arr RTy.task (4:Nat) us) (.acons (D.arr RTy.bool (4:Nat) busy) .anil)))));let Z17:List (Option (Obj RC)) := [some (Obj.map RTy.int RTy.tryd mp),some (Obj.vec RTy.tryd true tr)];bif decide (Z0 < Z1) then bif decide ((0:Int) <= Z0 /\ Z0 < Z1) then bif Nat.beq Z2 Z2 && decide ((0:Int) <= Z3 /\ Z3 < (↑Z2:Int)) then bif Nat.beq Z2 Z2 then bif Z7 && decide ((0:Int) <= Z8 /\ Z8 < (↑Z6.length:Int)) then bif Z7 then bif Z10 && decide ((0:Int) <= Z11 /\ Z11 < (↑Z9.length:Int)) then bif Z10 then bif Z13 && decide ((0:Int) <= Z14 /\ Z14 < (↑Z12.length:Int)) then bif Z13 then some ((X.normal,[(0,D.ptr 0 []),(98,D.sl RTy.write wf ws),(99,D.int .i64 Z1),(100,D.int .i64 (IntKind.wrap .i64 (Z0 + (1:Int))))]),some (Obj.var 50 (.acons (D.ptr 1 []) (.acons (D.int .i64 w) (.acons (D.int .i64 n) (.acons (D.int .i64 (IntKind.wrap .i64 (v + (1:Int)))) Z15))))) :: Z16 :: some (Obj.vec RTy.int true (List.set Z12 Z14.toNat Z5)) :: Z17) else none else none else none else none else none else none else none else none else none else some ((X.exit (0:Nat),[]),some (Obj.var 50 (.acons (D.ptr 1 []) (.acons (D.int .i64 w) (.acons (D.int .i64 n) (.acons (D.int .i64 v) Z15))))) :: Z16 :: some (Obj.vec RTy.int true cs) :: Z17)) := by kernel_rfl
noncomputable def Yt (wf:Bool) (ws:List Qc) (w:Int) (now:List Sector) (sure:List Sector) (cs:List Int) (ts:List Task) (us:List Task) (busy:List Bool) (n:Int) (v:Int) (has:List Int) (place:List Int) (mp:List (Int × Try)) (tr:List Try) (last:Int) (j:Nat):RT RC := .leaf (.exit 0) [] (JK wf ws w now sure (comW n j v (ws.drop j) cs) ts us busy n (v + (ws.length - j:Nat)) has place mp tr last j)
def JL (wf:Bool) (ws:List Qc) (w:Int) (now:List Sector) (sure:List Sector) (cs:List Int) (ts:List Task) (us:List Task) (busy:List Bool) (n:Int) (v:Int) (has:List Int) (place:List Int) (mp:List (Int × Try)) (tr:List Try) (last:Int) (j:Nat):Prop := OkCm cs n v ws j
noncomputable def Qaw:QU RC Qn9 where
 k := 5
 canon q := Qoa q.wf q.ws q.w q.now q.sure q.cs q.ts q.us q.busy q.n q.v q.has q.place q.mp q.tr q.last q.j
 objs q := JK q.wf q.ws q.w q.now q.sure q.cs q.ts q.us q.busy q.n q.v q.has q.place q.mp q.tr q.last q.j
 fin q := Yt q.wf q.ws q.w q.now q.sure q.cs q.ts q.us q.busy q.n q.v q.has q.place q.mp q.tr q.last q.j
 Inv q := JL q.wf q.ws q.w q.now q.sure q.cs q.ts q.us q.busy q.n q.v q.has q.place q.mp q.tr q.last q.j
 μ q := q.ws.length - q.j
theorem QiG (wf:Bool) (ws:List Qc) (w:Int) (now:List Sector) (sure:List Sector) (cs:List Int) (ts:List Task) (us:List Task) (busy:List Bool) (n:Int) (v:Int) (has:List Int) (place:List Int) (mp:List (Int × Try)) (tr:List Try) (last:Int) (j:Nat) (hI:JL wf ws w now sure cs ts us busy n v has place mp tr last j):Leaf (Qss wf ws w now sure cs ts us busy n v has place mp tr last j) (LedR Qaw ⟨wf,ws,w,now,sure,cs,ts,us,busy,n,v,has,place,mp,tr,last,j⟩) := by
 (rw [QuH];conv => zeta)
 unfold JL at hI;obtain ⟨hl,hn,hv,hw,hj⟩ := hI;have hw4 := Y5 hw;have hfin:∀ X (V:Int),comW n j v (ws.drop j) cs = X -> v + ((ws.length - j:Nat):Int) = V -> Yt wf ws w now sure cs ts us busy n v has place mp tr last j = .leaf (.exit 0) [] (JK wf ws w now sure X ts us busy n V has place mp tr last j) := fun X V hX hV => by unfold Yt;rw [hX,hV]
 by_cases hlt:j < ws.length
 · have w_succ:IntKind.i64.wrap ((j:Int) + 1) = ((j + 1:Nat):Int) := by rw [Qb (by omega) (by omega)];simp
   have d_lt:decide ((j:Int) < ws.length) = true := by simp;omega
   have d_in:decide (0 <= (j:Int) /\ (j:Int) < ws.length) = true := by simp;omega
   have t_nat:((j:Int)).toNat = j := by simp
   have hy := QeQ hw hlt;have eY:ws.getD j (Qc.mk 0 0) = ws.getD j wrH := rfl
   have hdr:ws.drop j = ws.getD j wrH :: ws.drop (j + 1) := by
    have e:ws.getD j wrH = ws[j] := by simp [hlt]
    rw [List.drop_eq_getElem_cons hlt,e]
   have hD:comW n j v (ws.drop j) cs = comW n (j + 1) (v + 1) (ws.drop (j + 1)) (put1 n j v (ws.getD j wrH) cs) := by rw [hdr];rfl
   have hfin := hfin _ _ hD rfl;simp only [w_succ,d_lt,d_in,t_nat,eY,cond_true];generalize ws.getD j wrH = y at hy hD hfin hdr ⊢
   have v1:IntKind.i64.wrap (IntKind.i64.wrap (y.key * 256) + y.value) = packW y := by
    rw [Qb (n := y.key * 256) (by omega) (by omega),Qb (by omega) (by omega)];rfl
   have v2:IntKind.i64.wrap (256 + v) = 256 + v := Qb (by omega) (by omega)
   have v3:IntKind.i64.wrap (v + 1) = v + 1 := Qb (by omega) (by omega)
   have v4:IntKind.i64.wrap (4 + (j:Int)) = 4 + (j:Int) := Qb (by omega) (by omega)
   have v8:IntKind.i64.wrap (8 + (j:Int)) = 8 + (j:Int) := Qb (by omega) (by omega)
   have a1:decide (0 <= lField 99 n (4 + (j:Int)) 16 12 /\ lField 99 n (4 + (j:Int)) 16 12 < (cs.length:Int)) = true := by
    rw [Qb9 hn.1 hn.2 (by omega) (by omega)];exact decide_eq_true ⟨by omega,by omega⟩
   have a2:decide (0 <= lField 99 n (8 + (j:Int)) 16 12 /\ lField 99 n (8 + (j:Int)) 16 12 < (cs.length:Int)) = true := by
    rw [Qb9 hn.1 hn.2 (by omega) (by omega)];exact decide_eq_true ⟨by omega,by omega⟩
   have a3:decide (0 <= lField 291 v 0 160 3 /\ lField 291 v 0 160 3 < (cs.length:Int)) = true := by
    rw [Qre hv.1 (by omega) (by omega) (by omega)];exact decide_eq_true ⟨by omega,by omega⟩
   have a4:decide (0 <= lField 291 v 2 160 3 /\ lField 291 v 2 160 3 < (cs.length:Int)) = true := by
    rw [Qre hv.1 (by omega) (by omega) (by omega)];exact decide_eq_true ⟨by omega,by omega⟩
   simp only [v1,v2,v3,v4,v8,List.length_set,a1,a2,a3,a4,J1 rfl,Bool.and_self,cond_true];refine Qw (S := Qaw) (s := ⟨wf,ws,w,now,sure,cs,ts,us,busy,n,v,has,place,mp,tr,last,j⟩) ⟨wf,ws,w,now,sure,put1 n j v y cs,ts,us,busy,n,v + 1,has,place,mp,tr,last,j + 1⟩ ⟨by rw [Qca];exact hl,hn,by show 0 <= v + 1 /\ v + 1 + ((ws.length - (j + 1):Nat):Int) <= 60;omega,hw,hlt⟩ (by show ws.length - (j + 1) < ws.length - j;omega) ?_ rfl ?_
   · show (Yt wf ws w now sure (put1 n j v y cs) ts us busy n (v + 1) has place mp tr last (j + 1)).val = (Yt wf ws w now sure cs ts us busy n v has place mp tr last j).val;rw [hfin];unfold Yt;rw [show v + 1 + ((ws.length - (j + 1):Nat):Int) = v + ((ws.length - j:Nat):Int) by omega]
     rfl
   · have hp:(put1 n j v y cs).length = cs.length := Qca;show _ = (JK wf ws w now sure (put1 n j v y cs) ts us busy n (v + 1) has place mp tr last (j + 1)).map some;simp only [JK,hp,List.map_cons,List.map_nil];rfl
 · have hjj:j = ws.length := by omega
   have c1:decide ((j:Int) < ws.length) = false := by simp;omega
   simp only [c1,cond_false];refine Qn (S := Qaw) (s := ⟨wf,ws,w,now,sure,cs,ts,us,busy,n,v,has,place,mp,tr,last,j⟩) (JK wf ws w now sure cs ts us busy n v has place mp tr last j) ?_ rfl;show (Yt wf ws w now sure cs ts us busy n v has place mp tr last j).val = _;rw [hfin cs v (by rw [hjj,List.drop_length];rfl) (by rw [hjj];simp)]
   rfl
noncomputable def Qob (env:Env RC) (os:List (Obj RC)):Option (Bool × Qn9) := match env,os with
 | [(0,.ptr 0 []),(98,.sl .write wf ws),(99,.int .i64 x0),(100,.int .i64 x1)],[.var 50 (.acons (.ptr 1 []) (.acons (.int .i64 w) (.acons (.int .i64 n) (.acons (.int .i64 v) (.acons (.arr .int 4 has) (.acons (.arr .int 4 place) (.acons (.mp 3) (.acons (.vs 4 x2) (.acons (.int .i64 last) .anil))))))))),.var 44 (.acons (.acons (.vs 2 x3) (.acons (.acons (.sl .sector false now) (.acons (.sl .sector false sure) .anil)) .anil)) (.acons (.arr .task 4 ts) (.acons (.arr .task 4 us) (.acons (.arr .bool 4 busy) .anil)))),.vec .int true cs,.map .int .tryd mp,.vec .tryd true tr] => Qz (true) (decide (x0 = (ws.length:Int)) && decide (x1 = 0) && decide (x2 = tr.length) && decide (x3 = cs.length) && cdec (OkCm cs n v ws 0),⟨wf,ws,w,now,sure,cs,ts,us,busy,n,v,has,place,mp,tr,last,0⟩)
 | _,_ => none
noncomputable def uw_1 := uv_2.addLoop 34 10 (sumR s25 [.slot 0 0,.path 0 [0],.path 1 [0,0],.path 0 [6],.path 0 [7]] [0,98,99,100] Qaw Qob)
theorem Qoc:Qh Tryz.prog s25 uw_1 := by
 refine Qn8.addRoundsR Qa (by kernel_rfl) Qaw 100 [0,98,99,100] [] [.slot 0 0,.path 0 [0],.path 1 [0,0],.path 0 [6],.path 0 [7]] [0,98,99,100] Qob (fun q hI => ?_) ?_
 · obtain ⟨wf,ws,w,now,sure,cs,ts,us,busy,n,v,has,place,mp,tr,last,j⟩ := q;refine ⟨?_,?_,QiG wf ws w now sure cs ts us busy n v has place mp tr last j hI⟩
   · simp_all [Ql,Qaw,Qoa,JK,JL,D.refs,Obj.refs,rEnc]
   · simp_all [Qaw,Yt,JK,JL,RT.refsOK,Ql,D.refs,Obj.refs,rEnc]
 · intro env os b q hd_ hb;unfold Qob at hd_
   split at hd_
   · obtain ⟨hs,hd_⟩ := Qi hd_;cases hd_;simp only [Bool.and_eq_true,decide_eq_true_eq] at hb;obtain ⟨⟨⟨⟨e0,e1⟩,e2⟩,e3⟩,e4⟩ := hb;subst e0;subst e1;subst e2;subst e3;exact ⟨QP.1 e4,rfl,rfl⟩
   · cases hd_
noncomputable def comR (w:Int) (s:HS) (c back:Int) (ws:List Qc):HS := if comB s ws = true then Y4 keq w s c back ws else s
structure Qod where
 c:Int
 x:Int
 dd:Int
 back:Int
 wf:Bool
 ws:List Qc
 w:Int
 now:List Sector
 sure:List Sector
 cs:List Int
 ts:List Task
 us:List Task
 busy:List Bool
 n:Int
 v:Int
 has:List Int
 place:List Int
 mp:List (Int × Try)
 tr:List Try
 last:Int
def Qoe (c:Int) (x:Int) (dd:Int) (back:Int) (wf:Bool) (ws:List Qc) (w:Int) (now:List Sector) (sure:List Sector) (cs:List Int) (ts:List Task) (us:List Task) (busy:List Bool) (n:Int) (v:Int) (has:List Int) (place:List Int) (mp:List (Int × Try)) (tr:List Try) (last:Int):List (D RC) := [.ptr 0 [],.int .i64 c,.acons (.int .i64 x) (.acons (.int .i64 dd) (.acons (.int .i64 back) (.acons (.sl (C := RC) .write wf ws) .anil)))]
def Qbq (c:Int) (x:Int) (dd:Int) (back:Int) (wf:Bool) (ws:List Qc) (w:Int) (now:List Sector) (sure:List Sector) (cs:List Int) (ts:List Task) (us:List Task) (busy:List Bool) (n:Int) (v:Int) (has:List Int) (place:List Int) (mp:List (Int × Try)) (tr:List Try) (last:Int):List (Obj RC) := [.var 50 (.acons (.ptr 1 []) (.acons (.int .i64 w) (.acons (.int .i64 n) (.acons (.int .i64 v) (.acons (.arr (C := RC) .int 4 has) (.acons (.arr (C := RC) .int 4 place) (.acons (.mp 2) (.acons (.vs 3 (tr.length)) (.acons (.int .i64 last) .anil))))))))),.var 44 (.acons (.acons (.sl (C := RC) .int false cs) (.acons (.acons (.sl (C := RC) .sector false now) (.acons (.sl (C := RC) .sector false sure) .anil)) .anil)) (.acons (.arr (C := RC) .task 4 ts) (.acons (.arr (C := RC) .task 4 us) (.acons (.arr (C := RC) .bool 4 busy) .anil)))),.map .int .tryd mp,.vec .tryd true tr]
noncomputable def Qst (c:Int) (x:Int) (dd:Int) (back:Int) (wf:Bool) (ws:List Qc) (w:Int) (now:List Sector) (sure:List Sector) (cs:List Int) (ts:List Task) (us:List Task) (busy:List Bool) (n:Int) (v:Int) (has:List Int) (place:List Int) (mp:List (Int × Try)) (tr:List Try) (last:Int) := fnO s25 uw_1 34 100 4 (Qoe c x dd back wf ws w now sure cs ts us busy n v has place mp tr last) (Qbq c x dd back wf ws w now sure cs ts us busy n v has place mp tr last)
theorem QuI (c:Int) (x:Int) (dd:Int) (back:Int) (wf:Bool) (ws:List Qc) (w:Int) (now:List Sector) (sure:List Sector) (cs:List Int) (ts:List Task) (us:List Task) (busy:List Bool) (n:Int) (v:Int) (has:List Int) (place:List Int) (mp:List (Int × Try)) (tr:List Try) (last:Int):Qst c x dd back wf ws w now sure cs ts us busy n v has place mp tr last = (let Z0:D RC := .anil;let Z1:Nat := List.length tr;let Z2:D RC := D.acons (D.mp (2:Nat)) (.acons (D.vs 3 Z1) (.acons (D.int .i64 last) Z0));let Z3:D RC := D.acons (D.acons (D.sl RTy.sector false now) (.acons (D.sl RTy.sector false sure) Z0)) Z0;let Z4:D RC := D.acons (D.arr RTy.task (4:Nat) ts) (.acons (D.arr RTy.task (4:Nat) us) (.acons (D.arr RTy.bool (4:Nat) busy) Z0));let Z5:Option (D RC × List (Option (Obj RC))) := some (D.tup Z0,[some (Obj.var 50 (.acons (D.ptr 1 []) (.acons (D.int .i64 w) (.acons (D.int .i64 n) (.acons (D.int .i64 v) (.acons (D.arr RTy.int (4:Nat) has) (.acons (D.arr RTy.int (4:Nat) place) Z2))))))),some (Obj.var 44 (.acons (D.acons (D.sl RTy.int false cs) Z3) Z4)),some (Obj.map RTy.int RTy.tryd mp),some (Obj.vec RTy.tryd true tr)]);let Z6:Nat := List.length ws;let Z7:Bool := lenOK Z6;let Z8:Int := (↑Z6:Int);let Z9:Nat := (0:Nat) + List.length cs;let Z10:List Int := List.replicate (0:Nat) (0:Int) ++ cs;let Z11:Bool := Nat.beq Z9 Z10.length;let Z12:Int := (↑Z10.length:Int);let Z13:Int := lField (99:Int) n (0:Int) (16:Int) (12:Int);let Z14:List Int := List.set Z10 Z13.toNat (3:Int);let Z15:Bool := Nat.beq Z9 Z14.length;let Z16:Int := lField (99:Int) n (2:Int) (16:Int) (12:Int);let Z17:Int := if (20:Int) < back then (20:Int) else back;let Z18:Int := IntKind.wrap .i64 (List.getD Z10 (0:Nat) (0:Int) - if (0:Int) < Z17 then Z17 else (0:Int));let Z19:Int := if (0:Int) < Z18 then Z18 else (0:Int);let Z20:List Int := List.set Z14 Z16.toNat Z19;let Z21:Bool := Nat.beq Z9 Z20.length;let Z22:Int := lField (99:Int) n (3:Int) (16:Int) (12:Int);let Z23:List Int := List.set Z20 Z22.toNat Z8;let Z24:Bool := decide ((0:Int) <= c /\ c < (4:Int));let Z25:Int := IntKind.wrap .i64 ((256:Int) + n);let Z26:Nat := Int.toNat c;let Z27:List Int := comW n (0:Nat) v (List.drop (0:Nat) ws) Z23;let Z28:Bool := Nat.beq Z27.length Z27.length;let Z29:Option (Obj RC) := some (Obj.var 50 (.acons (D.ptr 1 []) (.acons (D.int .i64 w) (.acons (D.int .i64 (IntKind.wrap .i64 (n + 1))) (.acons (D.int .i64 (v + (↑(Z6 - 0):Int))) (.acons (D.arr RTy.int (4:Nat) (List.set has Z26 Z25)) (.acons (D.arr RTy.int (4:Nat) (List.set place Z26 (0:Int))) Z2)))))));let Z30:D RC := D.acons (D.sl RTy.int false Z27) Z3;let Z31:List (Option (Obj RC)) := [some (Obj.map RTy.int RTy.tryd (mput (Jh s25 RTy.int) Z25 (Try.mk (0:Int) Z19 ws) mp)),some (Obj.vec RTy.tryd true tr)];let Z32:Option (D RC × List (Option (Obj RC))) := none;let Z33:Task := Task.mk c [Qe.mk (68:Int) (0:Int) (Za [w,Z25])] [] false;bif decide ((16:Int) <= n) then Z5 else bif Z7 then bif decide ((60:Int) < IntKind.wrap .i64 (v + Z8)) then Z5 else bif Z7 then bif !Qx ws then Z5 else bif Qg Z9 (8:Nat) then bif Z11 && decide ((0:Int) <= (0:Int) /\ (0:Int) < Z12) then bif Z11 then bif Z11 && decide ((0:Int) <= Z13 /\ Z13 < Z12) then bif Z11 then bif Z15 && decide ((0:Int) <= Z16 /\ Z16 < (↑Z14.length:Int)) then bif Z15 then bif Z7 then bif Z21 && decide ((0:Int) <= Z22 /\ Z22 < (↑Z20.length:Int)) then bif Z21 then bif Z7 then bif decide (Z8 = Z8) && true && decide (Z1 = Z1) && decide (Z9 = List.length Z23) && cdec (OkCm Z23 n v ws (0:Nat)) then bif Z24 then bif Z24 then bif decide ((0:Int) <= c /\ c <= (3:Int) /\ (0:Int) <= (68:Int) /\ List.length [w,Z25] <= (96:Nat)) then bif Z24 then bif List.getD busy Z26 false then bif Z28 then some (D.tup Z0,Z29 :: some (Obj.var 44 (.acons Z30 Z4)) :: Z31) else Z32 else bif Z24 then bif Z24 then bif Z24 then bif Z28 then some (D.tup Z0,Z29 :: some (Obj.var 44 (.acons Z30 (D.acons (D.arr RTy.task (4:Nat) (List.set ts Z26 Z33)) (.acons (D.arr RTy.task (4:Nat) (List.set us Z26 Z33)) (.acons (D.arr RTy.bool (4:Nat) (List.set busy Z26 true)) Z0))))) :: Z31) else Z32 else Z32 else Z32 else Z32 else Z32 else Z32 else Z32 else Z32 else Z32 else Z32 else Z32 else Z32 else Z32 else Z32 else Z32 else Z32 else Z32 else Z32 else Z32 else Z32 else Z32 else Z32) := by kernel_rfl
noncomputable def KH (c:Int) (x:Int) (dd:Int) (back:Int) (wf:Bool) (ws:List Qc) (w:Int) (now:List Sector) (sure:List Sector) (cs:List Int) (ts:List Task) (us:List Task) (busy:List Bool) (n:Int) (v:Int) (has:List Int) (place:List Int) (mp:List (Int × Try)) (tr:List Try) (last:Int):RT RC := .leaf .ret [(0,.tup .anil)] (Qbq c x dd back wf ws w now sure (comR w ⟨cs,now,sure,ts,us,busy,n,v,has,place,mp,tr,last⟩ c back ws).cs (comR w ⟨cs,now,sure,ts,us,busy,n,v,has,place,mp,tr,last⟩ c back ws).ts (comR w ⟨cs,now,sure,ts,us,busy,n,v,has,place,mp,tr,last⟩ c back ws).us (comR w ⟨cs,now,sure,ts,us,busy,n,v,has,place,mp,tr,last⟩ c back ws).busy (comR w ⟨cs,now,sure,ts,us,busy,n,v,has,place,mp,tr,last⟩ c back ws).n (comR w ⟨cs,now,sure,ts,us,busy,n,v,has,place,mp,tr,last⟩ c back ws).v (comR w ⟨cs,now,sure,ts,us,busy,n,v,has,place,mp,tr,last⟩ c back ws).has (comR w ⟨cs,now,sure,ts,us,busy,n,v,has,place,mp,tr,last⟩ c back ws).place (comR w ⟨cs,now,sure,ts,us,busy,n,v,has,place,mp,tr,last⟩ c back ws).mp (comR w ⟨cs,now,sure,ts,us,busy,n,v,has,place,mp,tr,last⟩ c back ws).tr (comR w ⟨cs,now,sure,ts,us,busy,n,v,has,place,mp,tr,last⟩ c back ws).last)
def Qcb (c:Int) (x:Int) (dd:Int) (back:Int) (wf:Bool) (ws:List Qc) (w:Int) (now:List Sector) (sure:List Sector) (cs:List Int) (ts:List Task) (us:List Task) (busy:List Bool) (n:Int) (v:Int) (has:List Int) (place:List Int) (mp:List (Int × Try)) (tr:List Try) (last:Int):Prop := 0 <= c /\ c <= 3 /\ ws.length <= 40 /\ busy.getD c.toNat false = false /\ ∃ ds k,0 <= k /\ k <= 800000 /\ HI w ds k ⟨cs,now,sure,ts,us,busy,n,v,has,place,mp,tr,last⟩
noncomputable def Qax:FunR RC Qod where
 k := 4
 args q := Qoe q.c q.x q.dd q.back q.wf q.ws q.w q.now q.sure q.cs q.ts q.us q.busy q.n q.v q.has q.place q.mp q.tr q.last
 objs q := Qbq q.c q.x q.dd q.back q.wf q.ws q.w q.now q.sure q.cs q.ts q.us q.busy q.n q.v q.has q.place q.mp q.tr q.last
 fin q := KH q.c q.x q.dd q.back q.wf q.ws q.w q.now q.sure q.cs q.ts q.us q.busy q.n q.v q.has q.place q.mp q.tr q.last
 Inv q := Qcb q.c q.x q.dd q.back q.wf q.ws q.w q.now q.sure q.cs q.ts q.us q.busy q.n q.v q.has q.place q.mp q.tr q.last
theorem JN {c x dd back:Int} {wf:Bool} {ws:List Qc} {w:Int} {now:List Sector} {sure:List Sector} {cs:List Int} {ts:List Task} {us:List Task} {busy:List Bool} {n:Int} {v:Int} {has:List Int} {place:List Int} {mp:List (Int × Try)} {tr:List Try} {last:Int} {os:List (Option (Obj RC))} (H:HS) (hH:comR w ⟨cs,now,sure,ts,us,busy,n,v,has,place,mp,tr,last⟩ c back ws = H) (hos:os = (Qbq c x dd back wf ws w now sure H.cs H.ts H.us H.busy H.n H.v H.has H.place H.mp H.tr H.last).map some) :
 Leaf (some (D.tup .anil,os)) (LedF Qax ⟨c,x,dd,back,wf,ws,w,now,sure,cs,ts,us,busy,n,v,has,place,mp,tr,last⟩) :=
 QeB (S := Qax) (s := ⟨c,x,dd,back,wf,ws,w,now,sure,cs,ts,us,busy,n,v,has,place,mp,tr,last⟩) _ (by show (KH c x dd back wf ws w now sure cs ts us busy n v has place mp tr last).val = _;unfold KH;rw [hH];rfl) hos
theorem lfT {α:Type} {c:Bool} {x y:Option α} {P:α -> Prop} (h:c = true) (hx:Leaf x P):Leaf (cond c x y) P := by rw [h];exact hx
theorem lfN {α:Type} {c:Bool} {x y:Option α} {P:α -> Prop} (h:c = false) (hx:Leaf y P):Leaf (cond c x y) P := by rw [h];exact hx
theorem QuJ (c:Int) (x:Int) (dd:Int) (back:Int) (wf:Bool) (ws:List Qc) (w:Int) (now:List Sector) (sure:List Sector) (cs:List Int) (ts:List Task) (us:List Task) (busy:List Bool) (n:Int) (v:Int) (has:List Int) (place:List Int) (mp:List (Int × Try)) (tr:List Try) (last:Int) (hI:Qcb c x dd back wf ws w now sure cs ts us busy n v has place mp tr last):Leaf (Qst c x dd back wf ws w now sure cs ts us busy n v has place mp tr last) (LedF Qax ⟨c,x,dd,back,wf,ws,w,now,sure,cs,ts,us,busy,n,v,has,place,mp,tr,last⟩) := by
 (rw [QuI];conv => zeta)
 unfold Qcb at hI;obtain ⟨c0,c3,hws,hb,ds,k,k0,k1,hI⟩ := hI;have hl:cs.length = 771 := hI.sc.len;have hn:n = (ds.length:Int) := hI.nn;have hv:0 <= v /\ v <= 60 := hI.vv;have lw:lenOK ws.length = true := Qk (by omega)
 have hno:comB ⟨cs,now,sure,ts,us,busy,n,v,has,place,mp,tr,last⟩ ws = false -> comR w ⟨cs,now,sure,ts,us,busy,n,v,has,place,mp,tr,last⟩ c back ws = ⟨cs,now,sure,ts,us,busy,n,v,has,place,mp,tr,last⟩ := fun e => if_neg (by rw [e];simp)
 have hB:comB ⟨cs,now,sure,ts,us,busy,n,v,has,place,mp,tr,last⟩ ws = (decide (n < 16) && decide (v + ws.length <= 60) && Qx ws) := rfl
 by_cases b1:16 <= n
 · exact lfT (decide_eq_true b1) (JN _ (hno (by rw [hB,decide_eq_false (show ¬ n < 16 by omega)];rfl)) rfl)
 refine lfN (decide_eq_false b1) (lfT lw ?_);have w1:IntKind.i64.wrap (v + (ws.length:Int)) = v + (ws.length:Int) := Qb (by omega) (by omega)
 rw [w1]
 by_cases b2:60 < v + (ws.length:Int)
 · exact lfT (decide_eq_true b2) (JN _ (hno (by rw [hB,decide_eq_false (show ¬ v + (ws.length:Int) <= 60 by omega),Bool.and_false];rfl)) rfl)
 refine lfN (decide_eq_false b2) (lfT lw ?_);cases b3:Qx ws
 · exact lfT rfl (JN _ (hno (by rw [hB,b3,Bool.and_false])) rfl)
 refine lfN rfl ?_;have hBt:comB ⟨cs,now,sure,ts,us,busy,n,v,has,place,mp,tr,last⟩ ws = true := by rw [hB,b3,decide_eq_true (show n < 16 by omega),decide_eq_true (show v + (ws.length:Int) <= 60 by omega)];rfl
 have hst := Vz hI back;have hf := (hI.sc.ty 0 (by decide) (by decide)).t0 rfl
 have hf:0 <= cs.getD 0 0 /\ cs.getD 0 0 <= 1048575 := hf;have s1:Qg cs.length 8 = true := VR (by omega)
 have z0:decide ((0:Int) <= 0 /\ (0:Int) < (cs.length:Int)) = true := decide_eq_true ⟨by decide,by omega⟩
 have a0:∀ f:Int,0 <= f -> f < 12 -> decide (0 <= lField 99 n f 16 12 /\ lField 99 n f 16 12 < (cs.length:Int)) = true := fun f f0 f1 => by
  rw [Qb9 (by omega) (by omega) f0 f1];exact decide_eq_true ⟨by omega,by omega⟩
 have e1:(if 20 < back then (20:Int) else back) = min back 20 := by split <;> omega
 have e2:∀ d:Int,(if 0 < d then d else 0) = max 0 d := fun d => by split <;> omega
 have e3:IntKind.i64.wrap (cs.getD 0 0 - max 0 (min back 20)) = cs.getD 0 0 - max 0 (min back 20) := Qb (by omega) (by omega)
 have e4:max 0 (cs.getD 0 0 - max 0 (min back 20)) = Ym ⟨cs,now,sure,ts,us,busy,n,v,has,place,mp,tr,last⟩ back := rfl;have v2:IntKind.i64.wrap (256 + n) = 256 + n := Qb (by omega) (by omega)
 have v3:IntKind.i64.wrap (n + 1) = n + 1 := Qb (by omega) (by omega)
 have hc:decide (0 <= c /\ c < 4) = true := decide_eq_true ⟨c0,by omega⟩
 have kN:decide (0 <= c /\ c <= 3 /\ (0:Int) <= 68 /\ [w,256 + n].length <= 96) = true := decide_eq_true ⟨c0,c3,by decide,by simp⟩
 have t0:(0:Int).toNat = 0 := rfl;have eS:∀ st:Int,((cs.set (lField 99 n 0 16 12).toNat 3).set (lField 99 n 2 16 12).toNat st).set (lField 99 n 3 16 12).toNat (ws.length:Int) = comS cs n v st ws := fun _ => rfl;have lS:∀ st:Int,(comS cs n v st ws).length = cs.length := fun st => by unfold comS;simp only [List.length_set]
 have kC:∀ st:Int,cdec (OkCm (comS cs n v st ws) n v ws 0) = true := fun st => QD ⟨by rw [lS];exact hl,by omega,by omega,b3,Nat.zero_le _⟩
 have kL:∀ X:List Int,X.length = cs.length -> Nat.beq (0 + cs.length) X.length = true := fun X hX => J1 (by omega)
 simp only [List.replicate_zero,List.nil_append,Nat.zero_add,List.length_set,s1,z0,t0,a0 0 (by decide) (by decide),a0 2 (by decide) (by decide),a0 3 (by decide) (by decide),e1,e2,e3,e4,v2,v3,hc,kN,hb,lw,J1 rfl,Bool.and_self,Bool.and_true,Bool.true_and,cond_true,cond_false,List.drop_zero,Nat.sub_zero,eS,lS,kC,decide_true]
 exact JN (Y4 keq w ⟨cs,now,sure,ts,us,busy,n,v,has,place,mp,tr,last⟩ c back ws) (if_pos hBt) rfl
noncomputable def Qof (env:Env RC) (os:List (Obj RC)):Option (Bool × Qod) := match env,os with
 | [(0,.ptr 0 []),(1,.int .i64 c),(2,.acons (.int .i64 x) (.acons (.int .i64 dd) (.acons (.int .i64 back) (.acons (.sl .write wf ws) .anil))))],[.var 50 (.acons (.ptr 1 []) (.acons (.int .i64 w) (.acons (.int .i64 n) (.acons (.int .i64 v) (.acons (.arr .int 4 has) (.acons (.arr .int 4 place) (.acons (.mp 2) (.acons (.vs 3 x0) (.acons (.int .i64 last) .anil))))))))),.var 44 (.acons (.acons (.sl .int false cs) (.acons (.acons (.sl .sector false now) (.acons (.sl .sector false sure) .anil)) .anil)) (.acons (.arr .task 4 ts) (.acons (.arr .task 4 us) (.acons (.arr .bool 4 busy) .anil)))),.map .int .tryd mp,.vec .tryd true tr] => Qz (true) (decide (x0 = tr.length) && cdec (0 <= c /\ c <= 3 /\ ws.length <= 40 /\ busy.getD c.toNat false = false /\ ∃ ds k,0 <= k /\ k <= 800000 /\ HI w ds k ⟨cs,now,sure,ts,us,busy,n,v,has,place,mp,tr,last⟩),⟨c,x,dd,back,wf,ws,w,now,sure,cs,ts,us,busy,n,v,has,place,mp,tr,last⟩)
 | _,_ => none
noncomputable def uw_2 := uw_1.addObj 34 (sumF s25 [.slot 0 0,.path 0 [0],.path 0 [6],.path 0 [7]] 3 Qax Qof)
theorem Qog:Qh Tryz.prog s25 uw_2 := by
 refine Qoc.addFun Qa Qax 100 3 [.slot 0 0,.path 0 [0],.path 0 [6],.path 0 [7]] Qof (fun q hI => ?_) ?_
 · obtain ⟨c,x,dd,back,wf,ws,w,now,sure,cs,ts,us,busy,n,v,has,place,mp,tr,last⟩ := q;refine ⟨?_,?_,rfl,QuJ c x dd back wf ws w now sure cs ts us busy n v has place mp tr last hI⟩
   · simp [Ql,Qax,Qoe,Qbq,eargs,D.refs,Obj.refs]
   · simp [Qax,KH,Qbq,RT.refsOK,Ql,D.refs,Obj.refs]
 · intro env os b q hd_ hb;unfold Qof at hd_
   split at hd_
   · obtain ⟨hs,hd_⟩ := Qi hd_;cases hd_
     try simp only [Bool.and_eq_true,decide_eq_true_eq] at hb
     obtain ⟨e0,e1⟩ := hb;subst e0;exact ⟨QP.1 e1,rfl,rfl⟩
   · cases hd_
open Go.Proofs
def pkOv (s:HS) (c:Int):Bool := if Qar s c = true then !(endH s c).is && !wonB s c else false
structure QgX where
 x:Int
 dd:Int
 back:Int
 wf:Bool
 ws:List Qc
 w:Int
 now:List Sector
 sure:List Sector
 cs:List Int
 ts:List Task
 us:List Task
 busy:List Bool
 n:Int
 v:Int
 has:List Int
 place:List Int
 mp:List (Int × Try)
 tr:List Try
 last:Int
def Qe0 (x:Int) (dd:Int) (back:Int) (wf:Bool) (ws:List Qc) (w:Int) (now:List Sector) (sure:List Sector) (cs:List Int) (ts:List Task) (us:List Task) (busy:List Bool) (n:Int) (v:Int) (has:List Int) (place:List Int) (mp:List (Int × Try)) (tr:List Try) (last:Int):List (D RC) := [.ptr 0 [],.acons (.int .i64 x) (.acons (.int .i64 dd) (.acons (.int .i64 back) (.acons (.sl (C := RC) .write wf ws) .anil)))]
def Jf (x:Int) (dd:Int) (back:Int) (wf:Bool) (ws:List Qc) (w:Int) (now:List Sector) (sure:List Sector) (cs:List Int) (ts:List Task) (us:List Task) (busy:List Bool) (n:Int) (v:Int) (has:List Int) (place:List Int) (mp:List (Int × Try)) (tr:List Try) (last:Int):List (Obj RC) := [.var 50 (.acons (.ptr 1 []) (.acons (.int .i64 w) (.acons (.int .i64 n) (.acons (.int .i64 v) (.acons (.arr (C := RC) .int 4 has) (.acons (.arr (C := RC) .int 4 place) (.acons (.mp 2) (.acons (.vs 3 (tr.length)) (.acons (.int .i64 last) .anil))))))))),.var 44 (.acons (.acons (.sl (C := RC) .int false cs) (.acons (.acons (.sl (C := RC) .sector false now) (.acons (.sl (C := RC) .sector false sure) .anil)) .anil)) (.acons (.arr (C := RC) .task 4 ts) (.acons (.arr (C := RC) .task 4 us) (.acons (.arr (C := RC) .bool 4 busy) .anil)))),.map .int .tryd mp,.vec .tryd true tr]
noncomputable def Qoh (x:Int) (dd:Int) (back:Int) (wf:Bool) (ws:List Qc) (w:Int) (now:List Sector) (sure:List Sector) (cs:List Int) (ts:List Task) (us:List Task) (busy:List Bool) (n:Int) (v:Int) (has:List Int) (place:List Int) (mp:List (Int × Try)) (tr:List Try) (last:Int) := fnO s25 uw_2 12 100 4 (Qe0 x dd back wf ws w now sure cs ts us busy n v has place mp tr last) (Jf x dd back wf ws w now sure cs ts us busy n v has place mp tr last)
theorem Qrj (x:Int) (dd:Int) (back:Int) (wf:Bool) (ws:List Qc) (w:Int) (now:List Sector) (sure:List Sector) (cs:List Int) (ts:List Task) (us:List Task) (busy:List Bool) (n:Int) (v:Int) (has:List Int) (place:List Int) (mp:List (Int × Try)) (tr:List Try) (last:Int):Qoh x dd back wf ws w now sure cs ts us busy n v has place mp tr last = (let Z0:Int := Int.tmod (IntKind.wrap .i64 (Int.tmod x (4:Int) + (4:Int))) (4:Int);let Z1:Bool := decide ((0:Int) <= Z0 /\ Z0 < (4:Int));let Z2:Nat := Int.toNat Z0;let Z3:Bool := List.getD busy Z2 false;let Z4:Nat := List.length tr;let Z5:HS := HS.mk cs now sure ts us busy n v has place mp tr last;let Z6:D RC := .anil;let Z7:D RC := D.acons (D.bool true) Z6;let Z8:D RC := D.tup (D.acons (D.int .i64 Z0) (.acons (D.bool false) Z7));let Z9:D RC := D.ptr 1 [];let Z10:D RC := D.int .i64 w;let Z11:HS := comR w Z5 Z0 back ws;let Z12:D RC := D.mp (2:Nat);let Z13:D RC := D.acons (D.acons (D.sl RTy.sector false now) (.acons (D.sl RTy.sector false sure) Z6)) Z6;let Z14:D RC := D.int .i64 n;let Z15:D RC := D.int .i64 v;let Z16:D RC := D.arr RTy.int (4:Nat) has;let Z17:D RC := D.arr RTy.int (4:Nat) place;let Z18:Task := tkC ts Z0;let Z19:List Int := gdCs nHp cs Z18;let Z20:Task := gmT nHp false (gdX nHp cs Z18) Z18;let Z21:Bool := GoM.is (goT nHp false Z20);let Z22:List Int := bif Z21 then [] else GoM.got (goT nHp false Z20);let Z23:Int := (↑Z22.length:Int);let Z24:Bool := decide ((0:Int) <= (1:Int) /\ (1:Int) < Z23);let Z25:Int := List.getD Z22 (1:Nat) (0:Int);let Z26:List Bool := bif Z21 then busy else List.set busy Z2 false;let Z27:Int × List Try := Zq keq Z19 w mp w.toNat last tr;let Z28:D RC := D.acons Z12 (D.acons (D.vs 3 Z27.2.length) (.acons (D.int .i64 Z27.1) Z6));let Z29:Option (Obj RC) := some (Obj.var 50 (.acons Z9 (D.acons Z10 (D.acons Z14 (D.acons Z15 (D.acons Z16 (D.acons (D.arr RTy.int (4:Nat) (List.set place Z2 Z25)) Z28)))))));let Z30:D RC := D.acons (D.sl RTy.int false Z19) (.acons (D.acons (D.sl RTy.sector false (Qiz nHp now Z18)) (.acons (D.sl RTy.sector false (Qbo nHp now sure Z18)) Z6)) Z6);let Z31:List Task := List.set us Z2 (gmT nHp true (gdX nHp cs Z18) (tkC us Z0));let Z32:List (Option (Obj RC)) := [some (Obj.map RTy.int RTy.tryd mp),some (Obj.vec RTy.tryd true Z27.2)];let Z33:List (Option (Obj RC)) := some (Obj.var 44 (.acons Z30 (D.acons (D.arr RTy.task (4:Nat) (List.set ts Z2 Z20)) (.acons (D.arr RTy.task (4:Nat) Z31) (.acons (D.arr RTy.bool (4:Nat) Z26) Z6))))) :: Z32;let Z34:Task := Task.mk Z0 [Qe.mk (100:Int) (0:Int) (Za [Z25,w])] [] false;let Z35:Option (D RC × List (Option (Obj RC))) := some (D.tup (D.acons (D.int .i64 Z0) (.acons (D.bool !Z21) Z7)),some (Obj.var 50 (.acons Z9 (D.acons Z10 (D.acons Z14 (D.acons Z15 (D.acons Z16 (D.acons Z17 Z28))))))) :: Z33);bif Z1 then bif !Z3 then bif dd == (0:Int) then bif decide (Z4 = Z4) && cdec ((0:Int) <= Z0 /\ Z0 <= (3:Int) /\ List.length ws <= (40:Nat) /\ Z3 = false /\ ∃ (ds:List HD),∃ (k:Int),(0:Int) <= k /\ k <= (800000:Int) /\ HI w ds k Z5) then some (Z8,[some (Obj.var 50 (.acons Z9 (D.acons Z10 (D.acons (D.int .i64 (HS.n Z11)) (.acons (D.int .i64 (HS.v Z11)) (.acons (D.arr RTy.int (4:Nat) (HS.has Z11)) (.acons (D.arr RTy.int (4:Nat) (HS.place Z11)) (.acons Z12 (D.acons (D.vs 3 (HS.tr Z11).length) (.acons (D.int .i64 (HS.last Z11)) Z6)))))))))),some (Obj.var 44 (.acons (D.acons (D.sl RTy.int false (HS.cs Z11)) Z13) (.acons (D.arr RTy.task (4:Nat) (HS.ts Z11)) (.acons (D.arr RTy.task (4:Nat) (HS.us Z11)) (.acons (D.arr RTy.bool (4:Nat) (HS.busy Z11)) Z6))))),some (Obj.map RTy.int RTy.tryd (HS.mp Z11)),some (Obj.vec RTy.tryd true (HS.tr Z11))]) else none else some (Z8,[some (Obj.var 50 (.acons Z9 (D.acons Z10 (D.acons Z14 (D.acons Z15 (D.acons Z16 (D.acons Z17 (D.acons Z12 (D.acons (D.vs 3 Z4) (.acons (D.int .i64 last) Z6)))))))))),some (Obj.var 44 (.acons (D.acons (D.sl RTy.int false cs) Z13) (.acons (D.arr RTy.task (4:Nat) ts) (.acons (D.arr RTy.task (4:Nat) us) (.acons (D.arr RTy.bool (4:Nat) busy) Z6))))),some (Obj.map RTy.int RTy.tryd mp),some (Obj.vec RTy.tryd true tr)]) else bif cdec ((0:Int) <= Z0 /\ Z0 <= (3:Int) /\ List.length ts = (4:Nat) /\ List.length us = (4:Nat) /\ Qal nHp okHp Z0 cs Z18 (tkC us Z0) now sure) then bif decide (Z4 = Z4) && cdec (OkLk w Z19 mp tr last (0:Int)) then bif !Z21 then bif Z1 then bif List.getD place Z2 (0:Int) == (0:Int) then bif lenOK Z22.length then bif Z23 == (2:Int) then bif decide ((0:Int) <= (0:Int) /\ (0:Int) < Z23) then bif List.getD Z22 (0:Nat) (0:Int) == (0:Int) then bif Z24 then bif Z1 then bif Z24 then bif decide ((0:Int) <= Z0 /\ Z0 <= (3:Int) /\ (0:Int) <= (100:Int) /\ List.length [Z25,w] <= (96:Nat)) then bif Z1 then bif List.getD Z26 Z2 false then some (Z8,Z29 :: Z33) else bif Z1 then bif Z1 then bif Z1 then some (Z8,Z29 :: some (Obj.var 44 (.acons Z30 (D.acons (D.arr RTy.task (4:Nat) (List.set (List.set ts Z2 Z20) Z2 Z34)) (.acons (D.arr RTy.task (4:Nat) (List.set Z31 Z2 Z34)) (.acons (D.arr RTy.bool (4:Nat) (List.set Z26 Z2 true)) Z6))))) :: Z32) else none else none else none else none else none else none else none else none else Z35 else none else Z35 else none else Z35 else none else Z35 else none else none else none) := by kernel_rfl
noncomputable def JO (x:Int) (dd:Int) (back:Int) (wf:Bool) (ws:List Qc) (w:Int) (now:List Sector) (sure:List Sector) (cs:List Int) (ts:List Task) (us:List Task) (busy:List Bool) (n:Int) (v:Int) (has:List Int) (place:List Int) (mp:List (Int × Try)) (tr:List Try) (last:Int):RT RC := .leaf .ret [(0,.tup (.acons (.int .i64 (x % 4)) (.acons (.bool (pkOv ⟨cs,now,sure,ts,us,busy,n,v,has,place,mp,tr,last⟩ (x % 4))) (.acons (.bool true) .anil))))] (Jf x dd back wf ws w (Zr keq w ⟨cs,now,sure,ts,us,busy,n,v,has,place,mp,tr,last⟩ x dd back ws).now (Zr keq w ⟨cs,now,sure,ts,us,busy,n,v,has,place,mp,tr,last⟩ x dd back ws).sure (Zr keq w ⟨cs,now,sure,ts,us,busy,n,v,has,place,mp,tr,last⟩ x dd back ws).cs (Zr keq w ⟨cs,now,sure,ts,us,busy,n,v,has,place,mp,tr,last⟩ x dd back ws).ts (Zr keq w ⟨cs,now,sure,ts,us,busy,n,v,has,place,mp,tr,last⟩ x dd back ws).us (Zr keq w ⟨cs,now,sure,ts,us,busy,n,v,has,place,mp,tr,last⟩ x dd back ws).busy (Zr keq w ⟨cs,now,sure,ts,us,busy,n,v,has,place,mp,tr,last⟩ x dd back ws).n (Zr keq w ⟨cs,now,sure,ts,us,busy,n,v,has,place,mp,tr,last⟩ x dd back ws).v (Zr keq w ⟨cs,now,sure,ts,us,busy,n,v,has,place,mp,tr,last⟩ x dd back ws).has (Zr keq w ⟨cs,now,sure,ts,us,busy,n,v,has,place,mp,tr,last⟩ x dd back ws).place (Zr keq w ⟨cs,now,sure,ts,us,busy,n,v,has,place,mp,tr,last⟩ x dd back ws).mp (Zr keq w ⟨cs,now,sure,ts,us,busy,n,v,has,place,mp,tr,last⟩ x dd back ws).tr (Zr keq w ⟨cs,now,sure,ts,us,busy,n,v,has,place,mp,tr,last⟩ x dd back ws).last)
def Qay (x:Int) (dd:Int) (back:Int) (wf:Bool) (ws:List Qc) (w:Int) (now:List Sector) (sure:List Sector) (cs:List Int) (ts:List Task) (us:List Task) (busy:List Bool) (n:Int) (v:Int) (has:List Int) (place:List Int) (mp:List (Int × Try)) (tr:List Try) (last:Int):Prop := ws.length <= 40 /\ ∃ ds k,0 <= k /\ k <= 800000 /\ HI w ds k ⟨cs,now,sure,ts,us,busy,n,v,has,place,mp,tr,last⟩
noncomputable def Jg:FunR RC QgX where
 k := 4
 args q := Qe0 q.x q.dd q.back q.wf q.ws q.w q.now q.sure q.cs q.ts q.us q.busy q.n q.v q.has q.place q.mp q.tr q.last
 objs q := Jf q.x q.dd q.back q.wf q.ws q.w q.now q.sure q.cs q.ts q.us q.busy q.n q.v q.has q.place q.mp q.tr q.last
 fin q := JO q.x q.dd q.back q.wf q.ws q.w q.now q.sure q.cs q.ts q.us q.busy q.n q.v q.has q.place q.mp q.tr q.last
 Inv q := Qay q.x q.dd q.back q.wf q.ws q.w q.now q.sure q.cs q.ts q.us q.busy q.n q.v q.has q.place q.mp q.tr q.last
theorem Zw {x dd back:Int} {wf:Bool} {ws:List Qc} {w:Int} {now:List Sector} {sure:List Sector} {cs:List Int} {ts:List Task} {us:List Task} {busy:List Bool} {n:Int} {v:Int} {has:List Int} {place:List Int} {mp:List (Int × Try)} {tr:List Try} {last:Int} {os:List (Option (Obj RC))} (c:Int) (hx:x % 4 = c) (H:HS) (o:Bool) (hG:Zr keq w ⟨cs,now,sure,ts,us,busy,n,v,has,place,mp,tr,last⟩ x dd back ws = H) (hO:pkOv ⟨cs,now,sure,ts,us,busy,n,v,has,place,mp,tr,last⟩ c = o)
 (hos:os = (Jf x dd back wf ws w H.now H.sure H.cs H.ts H.us H.busy H.n H.v H.has H.place H.mp H.tr H.last).map some):Leaf (some (D.tup (.acons (.int .i64 c) (.acons (.bool o) (.acons (.bool true) .anil))),os)) (LedF Jg ⟨x,dd,back,wf,ws,w,now,sure,cs,ts,us,busy,n,v,has,place,mp,tr,last⟩) := by
 subst hx;exact QeB (S := Jg) (s := ⟨x,dd,back,wf,ws,w,now,sure,cs,ts,us,busy,n,v,has,place,mp,tr,last⟩) _ (by show (JO x dd back wf ws w now sure cs ts us busy n v has place mp tr last).val = _;unfold JO;rw [hG,hO];rfl) hos
theorem Qrk (x:Int) (dd:Int) (back:Int) (wf:Bool) (ws:List Qc) (w:Int) (now:List Sector) (sure:List Sector) (cs:List Int) (ts:List Task) (us:List Task) (busy:List Bool) (n:Int) (v:Int) (has:List Int) (place:List Int) (mp:List (Int × Try)) (tr:List Try) (last:Int) (hI:Qay x dd back wf ws w now sure cs ts us busy n v has place mp tr last):Leaf (Qoh x dd back wf ws w now sure cs ts us busy n v has place mp tr last) (LedF Jg ⟨x,dd,back,wf,ws,w,now,sure,cs,ts,us,busy,n,v,has,place,mp,tr,last⟩) := by
 (rw [Qrj];conv => zeta)
 unfold Qay at hI;obtain ⟨hws,ds,k,k0,k1,hI⟩ := hI;have hc1:0 <= x % 4 := Int.emod_nonneg _ (by decide)
 have hc2:x % 4 < 4 := Int.emod_lt_of_pos _ (by decide)
 simp only [mod4];generalize hx:x % 4 = c at hc1 hc2 ⊢;have c1:decide (0 <= c /\ c < 4) = true := decide_eq_true ⟨hc1,hc2⟩;refine lfT c1 ?_;cases hb:busy.getD c.toNat false with
 | false =>
  refine lfT rfl ?_;have hB:¬ Qar ⟨cs,now,sure,ts,us,busy,n,v,has,place,mp,tr,last⟩ c = true := fun q => by rw [show Qar ⟨cs,now,sure,ts,us,busy,n,v,has,place,mp,tr,last⟩ c = false from hb] at q;cases q
  have hO:pkOv ⟨cs,now,sure,ts,us,busy,n,v,has,place,mp,tr,last⟩ c = false := if_neg hB;have hP:Zr keq w ⟨cs,now,sure,ts,us,busy,n,v,has,place,mp,tr,last⟩ x dd back ws = if dd = 0 /\ comB ⟨cs,now,sure,ts,us,busy,n,v,has,place,mp,tr,last⟩ ws = true then Y4 keq w ⟨cs,now,sure,ts,us,busy,n,v,has,place,mp,tr,last⟩ c back ws else ⟨cs,now,sure,ts,us,busy,n,v,has,place,mp,tr,last⟩ := by unfold Zr;rw [hx];exact if_neg hB
  by_cases e0:dd = 0
  · refine lfT (Zt e0) (lfT (by rw [QD ⟨hc1,by omega,hws,rfl,ds,k,k0,k1,hI⟩,decide_true];rfl) ?_)
    have hR:Zr keq w ⟨cs,now,sure,ts,us,busy,n,v,has,place,mp,tr,last⟩ x dd back ws = comR w ⟨cs,now,sure,ts,us,busy,n,v,has,place,mp,tr,last⟩ c back ws := by
     rw [hP];unfold comR
     by_cases q:comB ⟨cs,now,sure,ts,us,busy,n,v,has,place,mp,tr,last⟩ ws = true
     · rw [if_pos ⟨e0,q⟩,if_pos q]
     · rw [if_neg (fun z => q z.2),if_neg q]
    have hN:now = (comR w ⟨cs,now,sure,ts,us,busy,n,v,has,place,mp,tr,last⟩ c back ws).now /\ sure = (comR w ⟨cs,now,sure,ts,us,busy,n,v,has,place,mp,tr,last⟩ c back ws).sure := by
     unfold comR;split <;> exact ⟨rfl,rfl⟩
    refine Zw c hx (comR w ⟨cs,now,sure,ts,us,busy,n,v,has,place,mp,tr,last⟩ c back ws) false hR hO ?_;obtain ⟨u1,u2⟩ := hN;unfold Jf;rw [<- u1,<- u2];rfl
  · refine lfN (Zd e0) ?_;exact Zw c hx ⟨cs,now,sure,ts,us,busy,n,v,has,place,mp,tr,last⟩ false (hP.trans (if_neg (fun z => e0 z.1))) hO rfl
 | true =>
  have hS := hI.step k0 k1 hc1 (by omega) hb
  refine lfN rfl (lfT (QD ⟨hc1,by omega,hI.lt,hI.lu,hS.1⟩) ?_)
  have hla:0 <= last /\ last <= 8 * k := hI.la;have htl:(tr.length:Int) <= 8 * k := hI.tl;have hw:2 <= w /\ w <= 8 := hI.w;have hL:OkLk w (gdCs nHp cs (tkC ts c)) mp tr last 0 := ⟨hS.2.1.sc.len,hw,by omega,by omega,by omega,hI.mw⟩
  refine lfT (by rw [QD hL,decide_true];rfl) ?_
  have hB:Qar ⟨cs,now,sure,ts,us,busy,n,v,has,place,mp,tr,last⟩ c = true := hb;have hP:Zr keq w ⟨cs,now,sure,ts,us,busy,n,v,has,place,mp,tr,last⟩ x dd back ws = if wonB ⟨cs,now,sure,ts,us,busy,n,v,has,place,mp,tr,last⟩ c = true then wonH w (VV keq w (Vy ⟨cs,now,sure,ts,us,busy,n,v,has,place,mp,tr,last⟩ c)) c ((endH ⟨cs,now,sure,ts,us,busy,n,v,has,place,mp,tr,last⟩ c).got.getD 1 0) else VV keq w (Vy ⟨cs,now,sure,ts,us,busy,n,v,has,place,mp,tr,last⟩ c) := by unfold Zr;rw [hx];exact if_pos hB
  have hO:pkOv ⟨cs,now,sure,ts,us,busy,n,v,has,place,mp,tr,last⟩ c = (!(endH ⟨cs,now,sure,ts,us,busy,n,v,has,place,mp,tr,last⟩ c).is && !wonB ⟨cs,now,sure,ts,us,busy,n,v,has,place,mp,tr,last⟩ c) := if_pos hB;have hW:wonB ⟨cs,now,sure,ts,us,busy,n,v,has,place,mp,tr,last⟩ c = (!(endH ⟨cs,now,sure,ts,us,busy,n,v,has,place,mp,tr,last⟩ c).is && (decide (place.getD c.toNat 0 = 0) && (decide ((endH ⟨cs,now,sure,ts,us,busy,n,v,has,place,mp,tr,last⟩ c).got.length = 2) && decide ((endH ⟨cs,now,sure,ts,us,busy,n,v,has,place,mp,tr,last⟩ c).got.getD 0 0 = 0)))) := rfl;have hE := hS.2.2;unfold Vy at hP;rw [show endH ⟨cs,now,sure,ts,us,busy,n,v,has,place,mp,tr,last⟩ c = goT nHp false (gmT nHp false (gdX nHp cs (tkC ts c)) (tkC ts c)) from rfl] at hP hO hW hE;generalize goT nHp false (gmT nHp false (gdX nHp cs (tkC ts c)) (tkC ts c)) = Q at *;cases hi:Q.is with
  | true =>
   rw [hi] at hP hO hW;refine lfN rfl ?_;exact Zw c hx _ false (hP.trans (if_neg (by rw [hW];simp))) (by rw [hO];rfl) rfl
  | false =>
   rw [hi] at hP hO hW;have hE := hE hi
   have hgl:Q.got.length <= 2 := by
    rcases hE with e | ⟨t,e,_⟩ | ⟨t,e⟩ <;> rw [e] <;> simp
   refine lfT rfl (lfT c1 ?_);simp only [cond_false]
   by_cases e1:place.getD c.toNat 0 = 0
   · refine lfT (Zt e1) (lfT (Qk (by omega)) ?_)
     by_cases e2:Q.got.length = 2
     · refine lfT (Zt (by omega)) (lfT (decide_eq_true ⟨by decide,by omega⟩) ?_)
       have n1:decide ((0:Int) <= 1 /\ (1:Int) < (Q.got.length:Int)) = true := decide_eq_true ⟨by decide,by omega⟩
       have t0:(0:Int).toNat = 0 := rfl
       by_cases e3:Q.got.getD 0 0 = 0
       · have kN:decide (0 <= c /\ c <= 3 /\ (0:Int) <= 100 /\ [Q.got.getD 1 0,w].length <= 96) = true := decide_eq_true ⟨hc1,by omega,by decide,by simp⟩
         refine lfT (Zt e3) (lfT n1 (lfT c1 (lfT n1 (lfT kN (lfT c1 (lfN ?_ (lfT c1 (lfT c1 (lfT c1 ?_)))))))))
         · show (busy.set c.toNat false).getD c.toNat false = false;rw [bS hI.lb hc1 (by omega) hc1,if_pos rfl]
         · exact Zw c hx _ false (hP.trans (if_pos (by rw [hW,decide_eq_true e1,decide_eq_true e2,decide_eq_true e3];rfl))) (by rw [hO,hW,decide_eq_true e1,decide_eq_true e2,decide_eq_true e3];rfl) rfl
       · refine lfN (Zd e3) ?_;exact Zw c hx _ true (hP.trans (if_neg (by rw [hW,decide_eq_false e3];simp))) (by rw [hO,hW,decide_eq_false e3,Bool.and_false,Bool.and_false,Bool.and_false];rfl) rfl
     · refine lfN (Zd (by omega)) ?_
       exact Zw c hx _ true (hP.trans (if_neg (by rw [hW,decide_eq_false e2];simp))) (by rw [hO,hW,decide_eq_false e2,Bool.false_and,Bool.and_false,Bool.and_false];rfl) rfl
   · refine lfN (Zd e1) ?_;exact Zw c hx _ true (hP.trans (if_neg (by rw [hW,decide_eq_false e1];simp))) (by rw [hO,hW,decide_eq_false e1,Bool.false_and,Bool.and_false];rfl) rfl
noncomputable def Qe1 (env:Env RC) (os:List (Obj RC)):Option (Bool × QgX) := match env,os with
 | [(0,.ptr 0 []),(1,.acons (.int .i64 x) (.acons (.int .i64 dd) (.acons (.int .i64 back) (.acons (.sl .write wf ws) .anil))))],[.var 50 (.acons (.ptr 1 []) (.acons (.int .i64 w) (.acons (.int .i64 n) (.acons (.int .i64 v) (.acons (.arr .int 4 has) (.acons (.arr .int 4 place) (.acons (.mp 2) (.acons (.vs 3 x0) (.acons (.int .i64 last) .anil))))))))),.var 44 (.acons (.acons (.sl .int false cs) (.acons (.acons (.sl .sector false now) (.acons (.sl .sector false sure) .anil)) .anil)) (.acons (.arr .task 4 ts) (.acons (.arr .task 4 us) (.acons (.arr .bool 4 busy) .anil)))),.map .int .tryd mp,.vec .tryd true tr] => Qz (true) (decide (x0 = tr.length) && cdec (ws.length <= 40 /\ ∃ ds k,0 <= k /\ k <= 800000 /\ HI w ds k ⟨cs,now,sure,ts,us,busy,n,v,has,place,mp,tr,last⟩),⟨x,dd,back,wf,ws,w,now,sure,cs,ts,us,busy,n,v,has,place,mp,tr,last⟩)
 | _,_ => none
noncomputable def ux_1 := uw_2.addObj 12 (sumF s25 [.slot 0 0,.path 0 [0],.path 0 [6],.path 0 [7]] 2 Jg Qe1)
theorem Qoi:Qh Tryz.prog s25 ux_1 := by
 refine Qog.addFun Qa Jg 100 2 [.slot 0 0,.path 0 [0],.path 0 [6],.path 0 [7]] Qe1 (fun q hI => ?_) ?_
 · obtain ⟨x,dd,back,wf,ws,w,now,sure,cs,ts,us,busy,n,v,has,place,mp,tr,last⟩ := q;refine ⟨?_,?_,rfl,Qrk x dd back wf ws w now sure cs ts us busy n v has place mp tr last hI⟩
   · simp [Ql,Jg,Qe0,Jf,eargs,D.refs,Obj.refs]
   · simp [Jg,JO,Jf,RT.refsOK,Ql,D.refs,Obj.refs]
 · intro env os b q hd_ hb;unfold Qe1 at hd_
   split at hd_
   · obtain ⟨hs,hd_⟩ := Qi hd_;cases hd_
     try simp only [Bool.and_eq_true,decide_eq_true_eq] at hb
     obtain ⟨e0,e1⟩ := hb;subst e0;exact ⟨QP.1 e1,rfl,rfl⟩
   · cases hd_
def AcF (F:Int) (A:Qf):Prop := A.kind = 2 -> (A.a = 0 -> A.v = A.b + 1) /\ (∀ s:Int,0 <= s -> s < 16 -> A.a = 99 + s * 12 + 1 -> A.b = 0) /\ (21 <= A.a -> A.a <= 44 -> plc A.b < plc A.v /\ plc A.v <= F + 1)
def RsF (F:Int) (A:Qf) (x:Int):Prop := A.kind = 0 -> A.a = 0 -> x <= F
inductive HF (F:Int):List Qe -> List Int -> Prop
 | ins {k:Int} {r got:List Int}:HF F [⟨68,k,r⟩] got
 | hlp {k:Int} {r got:List Int} (h:2 <= k -> k <= 14 -> r.getD 2 0 <= F) (h1:k = 1 -> ∀ x,got = [x] -> x <= F):HF F [⟨100,k,r⟩] got
 | inr {k:Int} {r s got:List Int} (h:r.getD 2 0 <= F) (h2:1 <= s.getD 0 0 /\ s.getD 0 0 <= 1048575) (h3:s.getD 0 0 <= F + 1) (h4:k = 2 -> plc (s.getD 3 0) < s.getD 0 0):HF F [⟨100,13,r⟩,⟨73,k,s⟩] got
 | app {k:Int} {r s got:List Int} (h:r.getD 2 0 <= F):HF F [⟨100,14,r⟩,⟨76,k,s⟩] got
theorem HF.mono {F F':Int} (hF:F <= F') {st:List Qe} {got:List Int} (h:HF F st got):HF F' st got := by
 cases h with
 | ins => exact .ins
 | hlp h h1 => exact .hlp (fun a b => by have := h a b;omega) (fun a x e => by have := h1 a x e;omega)
 | inr h h2 h3 h4 => exact .inr (by omega) h2 (by omega) h4
 | app h => exact .app (by omega)
theorem QvX {p h:Int} (hp:0 <= p /\ p <= 1048575) (hh:256 <= h /\ h <= 262143):plc (wordN p h) = p := by
 have hw:OkWord p h := ⟨hp.1,hp.2,.inl hh⟩;unfold wordN plc;rw [if_pos hw,Zm (by omega)]
 omega
def StF (F:Int) (N:NA) (H:Int -> Prop):Prop := N.a.kind < 6 -> AcF F N.a /\ ∀ x,RsF F N.a x -> H x
theorem acLd {F p n c g:Int} {r:List Int}:AcF F (naLd p n r c g).a := fun q => absurd q (by show ((0:Int) ≠ 2);decide)
theorem QvY {ds:List HD} (hds:OkDs ds) {F k:Int} {r q got:List Int} (h:R100 ds k r q got) (hF:HF F [⟨100,k,r⟩] got):StF F (nHlp false k r (got.headD 0)) fun x => HF F [(nHlp false k r (got.headD 0)).f] [x] := by
 have hs := hds.1;obtain ⟨b1,up,wd,eq,fr,hd,sr,mn,j5,j9,k5,k6,k7,gt⟩ := h;have l1 := b1.1;have h2:2 <= k -> k <= 14 -> r.getD 2 0 <= F := by cases hF with | hlp a b => exact a
 have h1:k = 1 -> ∀ x,got = [x] -> x <= F := by cases hF with | hlp a b => exact b
 have beg:∀ r:List Int,StF F (hBeg r) fun x => HF F [(hBeg r).f] [x] := fun r _ => ⟨acLd,fun x hx => .hlp (fun a => absurd a (by decide)) fun _ y e => by
  have := hx rfl rfl;simp only [List.cons.injEq,and_true] at e;omega⟩
 have of':∀ (k' f:Int) (r':List Int),2 <= k' -> (r'.getD 2 0 <= F) -> StF F (hOf k' r' f) fun x => HF F [(hOf k' r' f).f] [x] := fun k' f r' hk' hr' _ => ⟨acLd,fun x hx => .hlp (fun _ _ => hr') fun c => by omega⟩
 have wrs:∀ r':List Int,r'.getD 2 0 <= F -> StF F (hWrs r') fun x => HF F [(hWrs r').f] [x] := fun r' hr' => by
  unfold hWrs
  split
  · exact of' _ _ _ (by decide) hr'
  · exact of' _ _ _ (by decide) hr'
 have dec:∀ (r':List Int) (o:Int),OkH ds (r'.getD 3 0) -> r'.getD 2 0 <= F -> StF F (hDec r' o) fun x => HF F [(hDec r' o).f] [x] := fun r' o hh hr' _ => by
  have hc := ZT (f := 1) hs hh (by omega) (by omega)
  unfold OkH at hh;refine ⟨fun _ => ⟨fun c => ?_,fun _ _ _ _ => rfl,fun c1 c2 => ?_⟩,fun x hx => .hlp (fun _ _ => ?_) fun c => absurd c (by show ((9:Int) ≠ 1);decide)⟩
  · have c:hDesc (r'.getD 3 0) 1 = 0 := c;omega
  · have c2:hDesc (r'.getD 3 0) 1 <= 44 := c2;omega
  · rw [getD_set_ne' (by decide)];exact hr'
 have hds':∀ r':List Int,OkH ds (r'.getD 3 0) -> r'.getD 2 0 <= F -> StF F (hHds r') fun x => HF F [(hHds r').f] [x] := fun r' hh hr' => by
  unfold hHds
  split
  · exact fun _ => ⟨acLd,fun x hx => .hlp (fun _ _ => hr') fun c => absurd c (by show ((8:Int) ≠ 1);decide)⟩
  · exact dec _ _ hh hr'
 have put:∀ (r':List Int) (o:Int),r'.getD 2 0 <= F -> StF F (hPut r' o) fun x => HF F [(hPut r' o).f] [x] := fun r' o hr' _ =>
  ⟨fun c => absurd c (by show ((4:Int) ≠ 2);decide),fun x hx => .hlp (fun _ _ => by rw [getD_set_ne' (by decide)];exact hr') fun c => absurd c (by show ((11:Int) ≠ 1);decide)⟩
 have app:∀ r':List Int,r'.getD 2 0 <= F -> StF F (hApp r') fun x => HF F [(hApp r').f] [x] := fun r' hr' => by
  unfold hApp
  split
  · exact fun c => absurd c (by show ¬ ((6:Int) < 6);decide)
  · refine fun _ => ⟨fun _ => ⟨fun _ => rfl,fun s s0 s1 c => ?_,fun c => ?_⟩,fun x hx => .hlp (fun _ c => ?_) fun c => ?_⟩
    · have c:(0:Int) = 99 + s * 12 + 1 := c;omega
    · have c:(21:Int) <= 0 := c;omega
    · have c:(15:Int) <= 14 := c;omega
    · have c:(15:Int) = 1 := c;omega
 rcases gt with ⟨rfl,rfl⟩ | ⟨hk,rfl⟩ | ⟨x,rfl,a1,a15,a13,a14,x0,x1,y1,y2,y3,y4,y5,y6⟩
 · exact beg r
 · have hr := h2 (by omega) (by omega)
   rcases hk with rfl | rfl
   · exact fun c => absurd c (by show ¬ ((6:Int) < 6);decide)
   · exact app (r.set 6 (r.getD 6 0 + 1)) (by rw [getD_set_ne' (by decide)];exact hr)
 simp only [List.headD_cons];have ks:k = 1 \/ k = 2 \/ k = 3 \/ k = 4 \/ k = 5 \/ k = 6 \/ k = 7 \/ k = 8 \/ k = 9 \/ k = 10 \/ k = 11 \/ k = 12 \/ k = 15 := by omega
 rcases ks with rfl | rfl | rfl | rfl | rfl | rfl | rfl | rfl | rfl | rfl | rfl | rfl | rfl
 · have e:nHlp false 1 r x = if r.getD 0 0 <= x then naEn 100 1 (r.set 2 x) [] true else naLd 100 2 (r.set 2 x) (lRing (x + 1) (r.getD 1 0)) 0 := rfl
   have hx := h1 rfl x rfl;rw [e]
   split
   · exact fun c => absurd c (by show ¬ ((7:Int) < 6);decide)
   · exact fun _ => ⟨acLd,fun z hz => .hlp (fun _ _ => by rw [Qd (by omega)];exact hx) fun c => absurd c (by show ((2:Int) ≠ 1);decide)⟩
 · have hr := h2 (by decide) (by decide)
   have e:nHlp false 2 r x = if plc x = r.getD 2 0 + 1 then hOf 3 (r.set 3 (bare x)) 2 else hBeg r := rfl
   rw [e]
   split
   · exact of' _ _ _ (by decide) (by rw [getD_set_ne' (by decide)];exact hr)
   · exact beg r
 · have hr := h2 (by decide) (by decide)
   exact of' 4 3 (r.set 4 x) (by decide) (by rw [getD_set_ne' (by decide)];exact hr)
 · have hr := h2 (by decide) (by decide)
   exact wrs ((r.set 5 x).set 6 0) (by rw [getD_set_ne' (by decide),getD_set_ne' (by decide)];exact hr)
 · have hr := h2 (by decide) (by decide)
   have j := j5 (.inl rfl);exact of' 6 (8 + r.getD 6 0) (r.set (8 + (r.getD 6 0).toNat) x) (by decide) (by rw [getD_set_ne' (by omega)];exact hr)
 · have hr := h2 (by decide) (by decide)
   exact wrs ((r.set (12 + (r.getD 6 0).toNat) x).set 6 (r.getD 6 0 + 1)) (by rw [getD_set_ne' (by decide),getD_set_ne' (by omega)];exact hr)
 · have hr := h2 (by decide) (by decide)
   have hh := hd (by decide) (by decide)
   have e:nHlp false 7 r x = if x = 0 then hHds (r.set 6 0) else hPut (r.set 6 0) x := rfl
   rw [e]
   split
   · exact hds' _ (by rw [getD_set_ne' (by decide)];exact hh) (by rw [getD_set_ne' (by decide)];exact hr)
   · exact put _ _ (by rw [getD_set_ne' (by decide)];exact hr)
 · have hr := h2 (by decide) (by decide)
   have hh := hd (by decide) (by decide)
   have e:nHlp false 8 r x = if r.getD 4 0 < plc x then hDec r 2 else hHds (r.set 6 (r.getD 6 0 + 1)) := rfl
   rw [e]
   split
   · exact dec _ _ hh hr
   · exact hds' _ (by rw [getD_set_ne' (by decide)];exact hh) (by rw [getD_set_ne' (by decide)];exact hr)
 · have hr := h2 (by decide) (by decide)
   exact of' 10 1 r (by decide) hr
 · have hr := h2 (by decide) (by decide)
   exact put (r.set 6 0) x (by rw [getD_set_ne' (by decide)];exact hr)
 · have hr := h2 (by decide) (by decide)
   exact fun _ => ⟨fun c => absurd c (by show ((5:Int) ≠ 2);decide),fun z hz => .hlp (fun _ _ => hr) fun c => absurd c (by show ((12:Int) ≠ 1);decide)⟩
 · have hr := h2 (by decide) (by decide)
   exact app r hr
 · exact beg r
theorem QvZ {F k:Int} {r s got:List Int} (h:R73 k s got) (hF:HF F [⟨100,13,r⟩,⟨73,k,s⟩] got):StF F (nInr false k s (got.headD 0)) fun x => HF F [⟨100,13,r⟩,(nInr false k s (got.headD 0)).f] [x] := by
 obtain ⟨hb,hk,hn,hK⟩ := h;have l1 := hb.1;have hr:r.getD 2 0 <= F := by cases hF with | inr a b c d => exact a
 have h2:1 <= s.getD 0 0 /\ s.getD 0 0 <= 1048575 := by cases hF with | inr a b c d => exact b
 have h3:s.getD 0 0 <= F + 1 := by cases hF with | inr a b c d => exact c
 have h4:k = 2 -> plc (s.getD 3 0) < s.getD 0 0 := by cases hF with | inr a b c d => exact d
 have hrow:lRow 21 (s.getD 2 0) 24 = 21 + s.getD 2 0 := J9 hk.1 (by omega)
 rcases hK with ⟨rfl,rfl⟩ | ⟨x,rfl,k1,k3,x0,x1,y⟩
 · have e:nInr false 0 s (([]:List Int).headD 0) = naLd 73 1 s (lRow 21 (s.getD 2 0) 24) 0 := by
    show (if lRow 21 (s.getD 2 0) 24 < 0 then _ else _) = _
    rw [if_neg (by omega)]
   rw [e];exact fun _ => ⟨acLd,fun x _ => .inr hr h2 h3 fun c => absurd c (by decide)⟩
 simp only [List.headD_cons];have ks:k = 1 \/ k = 2 \/ k = 3 := by omega
 rcases ks with rfl | rfl | rfl
 · have e:nInr false 1 s x = if sCell (s.getD 1 0) 1 < 0 \/ s.getD 0 0 <= plc (max x 0) then naEn 73 1 (s.set 3 (max x 0)) [] true
    else naCs 73 2 (s.set 3 (max x 0)) (sCell (s.getD 1 0) 1) (-1) (max x 0) (s.getD 1 0) := rfl
   have hc:sCell (s.getD 1 0) 1 = 291 + (s.getD 1 0 - 256) * 3 + 1 := by
    have := QgN (v := s.getD 1 0 - 256) (by omega) (by omega)
    rwa [show 256 + (s.getD 1 0 - 256) = s.getD 1 0 by omega] at this
   rw [e]
   split
   · exact fun c => absurd c (by show ¬ ((7:Int) < 6);decide)
   · rename_i hq;have g0:(s.set 3 (max x 0)).getD 0 0 = s.getD 0 0 := getD_set_ne' (by decide)
     refine fun _ => ⟨fun _ => ⟨fun c => ?_,fun t t0 t1 c => ?_,fun _ c => ?_⟩,fun z _ => .inr hr (by rw [g0];exact h2) (by rw [g0];exact h3) fun _ => ?_⟩
     · have c:sCell (s.getD 1 0) 1 = 0 := c;omega
     · have c:sCell (s.getD 1 0) 1 = 99 + t * 12 + 1 := c;omega
     · have c:sCell (s.getD 1 0) 1 <= 44 := c;omega
     · rw [g0,Qd (by omega)]
       omega
 · have e:nInr false 2 s x = naCs 73 3 s (lRow 21 (s.getD 2 0) 24) (s.getD 3 0) (wordN (s.getD 0 0) (s.getD 1 0)) 0 := rfl;have h4 := h4 rfl;have hw := QvX (p := s.getD 0 0) (h := s.getD 1 0) (by omega) (by omega)
   rw [e];refine fun _ => ⟨fun _ => ⟨fun c => ?_,fun t t0 t1 c => ?_,fun _ _ => ?_⟩,fun z _ => .inr hr h2 h3 fun c => absurd c (by show ((3:Int) ≠ 2);decide)⟩
   · have c:lRow 21 (s.getD 2 0) 24 = 0 := c;omega
   · have c:lRow 21 (s.getD 2 0) 24 = 99 + t * 12 + 1 := c;omega
   · show plc (s.getD 3 0) < plc (wordN (s.getD 0 0) (s.getD 1 0)) /\ plc (wordN (s.getD 0 0) (s.getD 1 0)) <= F + 1;rw [hw];exact ⟨h4,h3⟩
 · exact fun c => absurd c (by show ¬ ((7:Int) < 6);decide)
theorem ins_a {ds:List HD} {k:Int} {r got:List Int} (h:R68 ds k r got) (h2:(nIns k r (got.headD 0)).a.kind = 2):(nIns k r (got.headD 0)).a.a = 1 \/ 13 <= (nIns k r (got.headD 0)).a.a /\ (nIns k r (got.headD 0)).a.a <= 20 := by
 obtain ⟨hb,hw,hd,hK⟩ := h;rcases hK with ⟨rfl,rfl⟩ | ⟨x,rfl,k1,k7,x0,x1,y1,y2,y3,y4⟩
 · exact absurd h2 (by show ((0:Int) ≠ 2);decide)
 simp only [List.headD_cons] at h2 ⊢;have ks:k = 1 \/ k = 2 \/ k = 3 \/ k = 4 \/ k = 5 \/ k = 6 \/ k = 7 := by omega
 rcases ks with rfl | rfl | rfl | rfl | rfl | rfl | rfl
 · exact absurd h2 (by show ((0:Int) ≠ 2);decide)
 · have e:nIns 2 r x = if x + r.getD 0 0 < r.getD 2 0 then naEn 68 2 r [170] true else if 1048575 < r.getD 2 0 then naEn 68 2 r [172] true else naLd 68 3 r 4 0 := rfl
   rw [e] at h2
   split at h2
   · exact absurd h2 (by show ((7:Int) ≠ 2);decide)
   · split at h2
     · exact absurd h2 (by show ((7:Int) ≠ 2);decide)
     · exact absurd h2 (by show ((0:Int) ≠ 2);decide)
 · have e:nIns 3 r x = if x < r.getD 2 0 - 32 then naEn 68 3 r [171] true else naLd 68 4 r (lRing (r.getD 2 0) (r.getD 0 0)) 0 := rfl
   rw [e] at h2
   split at h2
   · exact absurd h2 (by show ((7:Int) ≠ 2);decide)
   · exact absurd h2 (by show ((0:Int) ≠ 2);decide)
 · have e:nIns 4 r x = if plc x = r.getD 2 0 then naCs 68 5 (r.set 3 x) 1 (r.getD 2 0) (r.getD 2 0 + 1) 0 else if r.getD 2 0 < plc x then naLd 68 1 (r.set 3 x) 1 0
    else naCs 68 6 (r.set 3 x) (lRing (r.getD 2 0) (r.getD 0 0)) x (wordN (r.getD 2 0) (r.getD 1 0)) 0 := rfl
   have hr := JA (p := r.getD 2 0) (by have := y3 (by decide);omega) hw
   rw [e] at h2 ⊢
   split at h2
   · rename_i q;rw [if_pos q];exact .inl rfl
   · rename_i q
     split at h2
     · exact absurd h2 (by show ((0:Int) ≠ 2);decide)
     · rename_i q2;rw [if_neg q,if_neg q2];exact .inr ⟨hr.1,by show lRing (r.getD 2 0) (r.getD 0 0) <= 20;omega⟩
 · exact absurd h2 (by show ((0:Int) ≠ 2);decide)
 · have e:nIns 6 r x = if x = 0 then naLd 68 1 r 1 0 else naCs 68 7 r 1 (r.getD 2 0) (r.getD 2 0 + 1) 0 := rfl
   rw [e] at h2 ⊢
   split at h2
   · exact absurd h2 (by show ((0:Int) ≠ 2);decide)
   · rename_i q;rw [if_neg q];exact .inl rfl
 · exact absurd h2 (by show ((7:Int) ≠ 2);decide)
theorem Qv0 {F:Int} {A:Qf} (h:A.kind = 2 -> A.a = 1 \/ 13 <= A.a /\ A.a <= 20 \/ 45 <= A.a /\ A.a <= 98):AcF F A := fun q => by
 have := h q;exact ⟨fun c => by omega,fun s s0 s1 c => by omega,fun c1 c2 => by omega⟩
theorem QuK {ds:List HD} {F k:Int} {r q got:List Int} (h:R100 ds k r q got) (hF:HF F [⟨100,k,r⟩] got) (h6:(nHlp false k r (got.headD 0)).a.kind = 6) :
 (nHlp false k r (got.headD 0)).f.r.getD 2 0 <= F /\ ((nHlp false k r (got.headD 0)).a.a = 73 -> (nHlp false k r (got.headD 0)).a.args.getD 0 0 = (nHlp false k r (got.headD 0)).f.r.getD 2 0 + 1) := by
 obtain ⟨b1,up,wd,eq,fr,hd,sr,mn,j5,j9,k5,k6,k7,gt⟩ := h;have h2:2 <= k -> k <= 14 -> r.getD 2 0 <= F := by cases hF with | hlp a b => exact a
 have app:∀ r':List Int,r'.getD 2 0 <= F -> (hApp r').a.kind = 6 -> (hApp r').f.r.getD 2 0 <= F /\ ((hApp r').a.a = 73 -> (hApp r').a.args.getD 0 0 = (hApp r').f.r.getD 2 0 + 1) := fun r' hr' h6 => by
  unfold hApp at h6 ⊢
  split at h6
  · rename_i q;rw [if_pos q];exact ⟨hr',fun _ => rfl⟩
  · exact absurd h6 (by show ((2:Int) ≠ 6);decide)
 have no0:(0:Int) ≠ 6 := by decide
 have no2:(2:Int) ≠ 6 := by decide
 have no4:(4:Int) ≠ 6 := by decide
 have no5:(5:Int) ≠ 6 := by decide
 have no7:(7:Int) ≠ 6 := by decide
 have wrs:∀ r':List Int,(hWrs r').a.kind ≠ 6 := fun r' => by unfold hWrs;split <;> exact no0
 have hds:∀ r':List Int,(hHds r').a.kind ≠ 6 := fun r' => by
  unfold hHds;split
  · exact no0
  · exact no2
 rcases gt with ⟨rfl,rfl⟩ | ⟨hk,rfl⟩ | ⟨x,rfl,a1,a15,a13,a14,x0,x1,y1,y2,y3,y4,y5,y6⟩
 · exact absurd h6 no0
 · have hr := h2 (by omega) (by omega)
   rcases hk with rfl | rfl
   · exact ⟨hr,fun c => absurd c (by show ((76:Int) ≠ 73);decide)⟩
   · exact app (r.set 6 (r.getD 6 0 + 1)) (by rw [getD_set_ne' (by decide)];exact hr) h6
 simp only [List.headD_cons] at h6 ⊢;have ks:k = 1 \/ k = 2 \/ k = 3 \/ k = 4 \/ k = 5 \/ k = 6 \/ k = 7 \/ k = 8 \/ k = 9 \/ k = 10 \/ k = 11 \/ k = 12 \/ k = 15 := by omega
 rcases ks with rfl | rfl | rfl | rfl | rfl | rfl | rfl | rfl | rfl | rfl | rfl | rfl | rfl
 · have e:nHlp false 1 r x = if r.getD 0 0 <= x then naEn 100 1 (r.set 2 x) [] true else naLd 100 2 (r.set 2 x) (lRing (x + 1) (r.getD 1 0)) 0 := rfl
   rw [e] at h6
   split at h6
   · exact absurd h6 no7
   · exact absurd h6 no0
 · have e:nHlp false 2 r x = if plc x = r.getD 2 0 + 1 then hOf 3 (r.set 3 (bare x)) 2 else hBeg r := rfl
   rw [e] at h6
   split at h6
   · exact absurd h6 no0
   · exact absurd h6 no0
 · exact absurd h6 no0
 · exact absurd h6 (wrs _)
 · exact absurd h6 no0
 · exact absurd h6 (wrs _)
 · have e:nHlp false 7 r x = if x = 0 then hHds (r.set 6 0) else hPut (r.set 6 0) x := rfl
   rw [e] at h6
   split at h6
   · exact absurd h6 (hds _)
   · exact absurd h6 no4
 · have e:nHlp false 8 r x = if r.getD 4 0 < plc x then hDec r 2 else hHds (r.set 6 (r.getD 6 0 + 1)) := rfl
   rw [e] at h6
   split at h6
   · exact absurd h6 no2
   · exact absurd h6 (hds _)
 · exact absurd h6 no0
 · exact absurd h6 no4
 · exact absurd h6 no5
 · exact app r (h2 (by decide) (by decide)) h6
 · exact absurd h6 no0
structure GoF (F:Int) (G:GoM):Prop where
 ac:G.is = true -> AcF F G.a /\ ∀ x,RsF F G.a x -> HF F G.st [x]
theorem QgY {F:Int} {m:Nat} {st:List Qe} {got:List Int} {e:Bool} (h0:st ≠ []) (hk:(nHp false (topF st) got).a.kind < 6) (h:AcF F (nHp false (topF st) got).a /\ ∀ x,RsF F (nHp false (topF st) got).a x -> HF F (st.dropLast ++ [(nHp false (topF st) got).f]) [x]):GoF F (goN (nHp false) (m + 1) st got e) := by
 rw [QeT h0 hk];exact ⟨fun _ => h⟩
theorem Qsu {ds:List HD} {n F:Int} (hds:OkDs ds) {k:Int} {r s got:List Int} (h2:R73 k s got) (hF:HF F [⟨100,13,r⟩,⟨73,k,s⟩] got) (hk:¬ (nInr false k s (got.headD 0)).a = ⟨7,0,0,0,0,[],[]⟩) (m:Nat) (e:Bool):GoF F (goN (nHp false) (m + 1) [⟨100,13,r⟩,⟨73,k,s⟩] got e) := by
 have hs := QvZ h2 hF;rcases inr_step (n := n) h2 hds.1 with ⟨c,_⟩ | ⟨q1,q2,q3,q4⟩
 · exact absurd c hk
 · have hk6 := q2.may.2.2;exact QgY (by simp) hk6 (hs hk6)
theorem Qsv {ds:List HD} {n F:Int} (h0:0 <= n) (hn:n <= 900000) (hds:OkDs ds) {k:Int} {r s got:List Int} (h2:R76 n k s got) (hF:r.getD 2 0 <= F) (hk:(nApp k s (got.headD 0)).a.kind ≠ 7) (m:Nat) (e:Bool):GoF F (goN (nHp false) (m + 1) [⟨100,14,r⟩,⟨76,k,s⟩] got e) := by
 rcases (app_step h2 h0 (by omega)).1 with ⟨c,_⟩ | ⟨q2,_,q3,q4⟩
 · exact absurd c hk
 · have hA := (QeV q2 hds.1 h0 hn).1;have hk6 := hA.may.2.2;refine QgY (by simp) hk6 ⟨Qv0 fun _ => .inr (.inr ⟨q2.2.2.2.1,q2.2.2.2.2.1⟩),fun x _ => ?_⟩
   have e1:nHp false ⟨76,k,s⟩ got = nApp k s (got.headD 0) := rfl;have hFm:(nApp k s (got.headD 0)).f = ⟨76,(nApp k s (got.headD 0)).f.at',(nApp k s (got.headD 0)).f.r⟩ := by rw [<- q3]
   show HF F [⟨100,14,r⟩,nHp false ⟨76,k,s⟩ got |>.f] [x];rw [e1,hFm];exact .app hF
theorem Qsw {F:Int} {m:Nat} {f:Qe} {got:List Int} {e:Bool} (h:(nHp false f got).a.kind = 7):GoF F (goN (nHp false) (m + 2) [f] got e) := by
 rw [Jc (by simp) h,show [f].dropLast = [] from rfl,QeU]
 exact ⟨fun q => by cases q⟩
theorem Qoj {ds:List HD} {n F:Int} (h0:0 <= n) (hn:n <= 900000) (hds:OkDs ds) {k:Int} {r q got:List Int} (h:R100 ds k r q got) (hF:HF F [⟨100,k,r⟩] got) (m:Nat) (e:Bool):GoF F (goN (nHp false) (m + 2) [⟨100,k,r⟩] got e) := by
 have e1:nHp false ⟨100,k,r⟩ got = nHlp false k r (got.headD 0) := rfl;have hs := QgO (n := n) h hds;have hst := QvY hds h hF;have hcl := QuK h hF;rw [<- e1] at hs hst hcl;generalize hN:nHp false ⟨100,k,r⟩ got = N at hs hst hcl;generalize nHlp true k q (got.headD 0) = M at hs;cases hs with
 | fin h1 h2 => exact Qsw (by rw [hN,h1])
 | act h1 h2 h3 h4 h5 h6 =>
  have hk6 := h5.may.2.2;exact QgY (by simp) (by rw [Qq,hN];exact hk6) (by rw [Qq,hN];exact hst hk6)
 | ins r' l h1 h2 h3 h4 h5 =>
  have hc := hcl (by rw [h1];rfl)
  rw [h1] at hc;have hr2:r'.getD 2 0 <= F := hc.1;have hl0:l.getD 0 0 = r'.getD 2 0 + 1 := hc.2 rfl;rw [KG (by simp) (by rw [Qq,hN,h1];rfl),Qq,hN,h1]
  have hfr := h3.fr (by decide) (by decide)
  have hup := h3.up
  have hs0:(Za l).getD 0 0 = r'.getD 2 0 + 1 := by
   by_cases hl:0 < l.length
   · rw [Qas _ 0 hl];exact hl0
   · exfalso;have:l = [] := List.eq_nil_of_length_eq_zero (by omega)
     have h9:(0:Int) = r'.getD 2 0 + 1 := by rw [this] at hl0;exact hl0
     omega
  refine Qsu (n := n) (r := r') hds h4 (.inr hr2 (by rw [hs0];omega) (by rw [hs0];omega) fun c => absurd c (by decide)) ?_ m true
  show ¬ (nInr false 0 (Za l) (([]:List Int).headD 0)).a = _;rcases inr_step (n := n) h4 hds.1 with ⟨_,_,c⟩ | ⟨_,c,_⟩
  · exact absurd rfl c
  · intro d;have := c.may;rw [d] at this;have := this.2.2;simp at this
 | app r' l h1 h2 h3 h4 h5 =>
  have hc := hcl (by rw [h1];rfl)
  rw [h1] at hc;have hr2:r'.getD 2 0 <= F := hc.1;rw [KG (by simp) (by rw [Qq,hN,h1];rfl),Qq,hN,h1]
  exact Qsv (r := r') h0 hn hds h4 hr2 (by show ((0:Int) ≠ 7);decide) m true
theorem HRel.gf {ds:List HD} {n F:Int} (h0:0 <= n) (hn:n <= 900000) (hds:OkDs ds) {st st':List Qe} {got:List Int} (h:HRel ds n st st' got) (hF:HF F st got) (m:Nat) (e:Bool):GoF F (goN (nHp false) (m + 3) st got e) := by
 cases h with
 | @ins k r got h =>
  have e1:nHp false ⟨68,k,r⟩ got = nIns k r (got.headD 0) := rfl;rcases ins_step (n := n) h hds.1 with ⟨q1,q2,q3⟩ | ⟨q1,q2,q3⟩
  · exact Qsw (m := m + 1) (by rw [e1];exact q1)
  · have hk6 := q1.may.2.2;refine QgY (m := m + 2) (by simp) hk6 ⟨Qv0 fun c => ?_,fun x _ => ?_⟩
    · rcases ins_a h c with c | c
      · exact .inl c
      · exact .inr (.inl c)
    · have hFm:(nIns k r (got.headD 0)).f = ⟨68,(nIns k r (got.headD 0)).f.at',(nIns k r (got.headD 0)).f.r⟩ := by rw [<- q2]
      show HF F [nHp false ⟨68,k,r⟩ got |>.f] [x];rw [e1,hFm];exact .ins
 | hlp h => exact Qoj h0 hn hds h hF (m + 1) e
 | @inr k r s got h h2 =>
  have e1:nHp false ⟨73,k,s⟩ got = nInr false k s (got.headD 0) := rfl;have hr:r.getD 2 0 <= F := by cases hF with | inr a b c d => exact a
  by_cases hk:(nInr false k s (got.headD 0)).a = ⟨7,0,0,0,0,[],[]⟩
  · rw [Jc (by simp) (by rw [QE,e1,hk]),QE,e1,hk]
    exact Qoj h0 hn hds h (.hlp (fun _ _ => hr) fun c => absurd c (by decide)) m false
  · exact Qsu (n := n) hds h2 hF hk (m + 2) e
 | @app k r s got h h2 =>
  have e1:nHp false ⟨76,k,s⟩ got = nApp k s (got.headD 0) := rfl;have hr:r.getD 2 0 <= F := by cases hF with | app a => exact a
  by_cases hk:(nApp k s (got.headD 0)).a.kind = 7
  · have ha := (app_step h2 h0 (by omega)).2 hk
    rw [Jc (by simp) (by rw [QE,e1];exact hk),QE,e1,ha]
    exact Qoj h0 hn hds h (.hlp (fun _ _ => hr) fun c => absurd c (by decide)) m false
  · exact Qsv h0 hn hds h2 hr hk (m + 2) e
structure Once (cs cs':List Int):Prop where
 fr:cs'.getD 0 0 = cs.getD 0 0 \/ cs'.getD 0 0 = cs.getD 0 0 + 1
 ou:∀ d:Nat,d < 16 -> cs.getD (99 + d * 12 + 1) 0 ≠ 0 -> cs'.getD (99 + d * 12 + 1) 0 = cs.getD (99 + d * 12 + 1) 0
 hd:∀ a:Nat,21 <= a -> a <= 44 -> plc (cs.getD a 0) <= plc (cs'.getD a 0) /\ plc (cs'.getD a 0) <= cs.getD 0 0 + 1
def HdF (cs:List Int):Prop := ∀ a:Nat,21 <= a -> a <= 44 -> plc (cs.getD a 0) <= cs.getD 0 0 + 1
theorem Once.refl {cs:List Int} (h:HdF cs):Once cs cs := ⟨.inl rfl,fun _ _ _ => rfl,fun a a0 a1 => ⟨Int.le_refl _,h a a0 a1⟩⟩
theorem Once.hdf {cs cs':List Int} (h:Once cs cs'):HdF cs' := fun a a0 a1 => by
 have := (h.hd a a0 a1).2;rcases h.fr with e | e <;> omega
theorem Once.up {cs cs':List Int} (h:Once cs cs'):cs.getD 0 0 <= cs'.getD 0 0 := by
 rcases h.fr with e | e <;> omega
theorem AtH.once {ds:List HD} {n:Int} {A:Qf} {cs:List Int} (h:AtH ds n A) (hc:SH ds n cs) (hF:AcF (cs.getD 0 0) A) (hh:HdF cs) :
 Once cs (doC5 cs A) /\ RsF (cs.getD 0 0) A (doG5 cs A) := by
 obtain ⟨h1,h2,h3,h6⟩ := h;have hl := hc.len;rcases h6 with ⟨k,t,b,v,a0,a1⟩ | ⟨k,t,a0,a1,b0,b1,v0,v1,ty⟩ | ⟨k,g,v,a0,a1,b0,b1,t0,t1⟩ | ⟨k,g,t,a,b,v⟩
 · have e1:doC5 cs A = cs := by
    unfold doC5;rw [if_pos (by omega),k];unfold doC4;rw [if_neg (by omega),if_neg (by omega)]
   have e2:doG5 cs A = cs.getD A.a.toNat 0 := by
    unfold doG5;rw [if_pos (by omega),k];unfold doG4;rw [if_pos (.inl rfl)]
   rw [e1,e2];refine ⟨.refl hh,fun _ c => ?_⟩;rw [c];exact Int.le_refl _
 · have e1:doC5 cs A = if cs.getD A.a.toNat 0 = A.b then cs.set A.a.toNat A.v else cs := by
    unfold doC5;rw [if_pos (by omega),k];unfold doC4
    by_cases q:cs.getD A.a.toNat 0 = A.b
    · rw [if_pos (.inr ⟨rfl,q⟩),if_pos q]
    · rw [if_neg (by intro c;rcases c with c | c;omega;exact q c.2),if_neg (by omega),if_neg q]
   rw [e1];obtain ⟨f1,f2,f3⟩ := hF k;refine ⟨?_,fun c => by omega⟩
   split
   · rename_i q;have g:∀ x:Nat,(cs.set A.a.toNat A.v).getD x 0 = if x = A.a.toNat then A.v else cs.getD x 0 := fun x => QaL (by omega)
     refine ⟨?_,fun d hd hne => ?_,fun a q0 q1 => ?_⟩
     · rw [g]
       by_cases e:A.a = 0
       · rw [if_pos (by omega),f1 e]
         rw [e] at q;exact .inr (by rw [<- q];rfl)
       · rw [if_neg (by omega)];exact .inl rfl
     · rw [g]
       by_cases e:99 + d * 12 + 1 = A.a.toNat
       · have := f2 d (by omega) (by omega) (by omega)
         rw [<- e] at q;omega
       · rw [if_neg e]
     · rw [g]
       by_cases e:a = A.a.toNat
       · rw [if_pos e,e,q];have := f3 (by omega) (by omega)
         omega
       · rw [if_neg e];exact ⟨Int.le_refl _,hh a q0 q1⟩
   · exact .refl hh
 · have e1:doC5 cs A = cs := if_neg (by omega)
   rw [e1];exact ⟨.refl hh,fun c => by omega⟩
 · have e1:doC5 cs A = cs := if_neg (by omega)
   rw [e1];exact ⟨.refl hh,fun c => by omega⟩
structure HJ (s:HS):Prop where
 hd:HdF s.cs
 cl:∀ c:Int,0 <= c -> c <= 3 -> Qar s c = true -> HF (s.cs.getD 0 0) (tkC s.ts c).stack (tkC s.ts c).got
theorem HI.once {w:Int} {ds:List HD} {k:Int} {s:HS} (h:HI w ds k s) (j:HJ s) (h0:0 <= k) (hk:k <= 800000) {c:Int} (c0:0 <= c) (c3:c <= 3) (hb:Qar s c = true) :
 Once s.cs (Vy s c).cs /\ HJ (Vy s c) := by
 obtain ⟨st,st',got,e1,e2,hR,hi⟩ := h.cl c c0 c3 hb;have hF := j.cl c c0 c3 hb;rw [e1] at hF;have hG := hR.gf h0 (by omega) h.od hF 61 false
 have hac := (hR.go h0 (by omega) h.od 61 false false).ac hi
 obtain ⟨g1,g2⟩ := hG.ac hi;obtain ⟨o,r⟩ := hac.2.1.once h.sc g1 j.hd
 have ec:(Vy s c).cs = doC5 s.cs (goN (nHp false) 64 st got false).a := by
  show doC5 s.cs (goT nHp false (tkC s.ts c)).a = _;rw [e1];rfl
 rw [<- ec] at o;refine ⟨o,o.hdf,fun c' d0 d3 hb' => ?_⟩;have hts:tkC (Vy s c).ts c' = if c = c' then gmT nHp false (gdX nHp s.cs (tkC s.ts c)) (tkC s.ts c) else tkC s.ts c' := tkS h.lt c0 c3 d0 _
 rw [hts]
 by_cases e:c = c'
 · rw [if_pos e,e1];exact (g2 _ r).mono o.up
 · rw [if_neg e];refine (j.cl c' d0 d3 ?_).mono o.up;have hb':(bif (endH s c).is then s.busy else s.busy.set c.toNat false).getD c'.toNat false = true := hb';cases hi:(endH s c).is
   · rw [hi] at hb';simp only [cond_false] at hb';rw [bS h.lb c0 c3 d0,if_neg e] at hb';exact hb'
   · rw [hi] at hb';exact hb'
theorem HJ.begin {w:Int} {ds:List HD} {k:Int} {s:HS} (h:HI w ds k s) (j:HJ s) {c:Int} (c0:0 <= c) (c3:c <= 3) {p:Int} {l:List Int} (hp:p = 68 \/ p = 100):HJ (Km s c p l) := by
 refine ⟨j.hd,fun c' d0 d3 hb => ?_⟩;have hts:tkC (Km s c p l).ts c' = if c = c' then mkHt c p l else tkC s.ts c' := tkS h.lt c0 c3 d0 _
 rw [hts]
 by_cases e:c = c'
 · rw [if_pos e];rcases hp with rfl | rfl
   · exact .ins
   · exact .hlp (fun q => absurd q (by decide)) fun q => absurd q (by decide)
 · rw [if_neg e];refine j.cl c' d0 d3 ?_;have hb:(s.busy.set c.toNat true).getD c'.toNat false = true := hb;rw [bS h.lb c0 c3 d0,if_neg e] at hb;exact hb
theorem Qok {ds:List HD} {k:Int} {cs:List Int} (h:SH ds k cs) {v start:Int} {ws:List Qc} {n:Int} (n0:0 <= n) (n1:n < 16) (v0:0 <= v) (v1:v + ws.length <= 60) (hw:Qx ws = true) (hs:0 <= start /\ start <= 1048575) :
 ∀ a:Nat,(a <= 98 \/ ∃ d:Nat,d < 16 /\ a = 99 + d * 12 + 1) -> (comC cs n v start ws).getD a 0 = cs.getD a 0 := by
 have hl := h.len;have hw4 := Y5 hw
 have hmem:∀ y ∈ ws,0 <= packW y /\ packW y <= 6143 := fun y hy => by
  obtain ⟨i,hi,rfl⟩ := List.mem_iff_getElem.1 hy;have := QeQ hw hi;have e:ws.getD i wrH = ws[i] := by simp [hi]
  rw [e] at this;exact Qat this
 have cl:(comS cs n v start ws).length = 771 := by unfold comS;simp only [List.length_set];exact hl
 have cc:cellsOK (comS cs n v start ws) = true := by
  unfold comS;exact Zp (Zp (Zp h.ok (by decide)) (by omega)) (by omega)
 obtain ⟨q1,q2,q3,q4⟩ := QeX n0 n1 ws (j := 0) (v := v) cl cc (by omega) v0 v1 hmem
 have g0 := QgU (v := v) (start := start) (ws := ws) hl n0 n1;intro a ha;show (comW n 0 v ws (comS cs n v start ws)).getD a 0 = _;rcases ha with ha | ⟨d,hd,rfl⟩
 · rw [q3 _ (by omega) (fun i hi => by omega),g0,if_neg (by omega),if_neg (by omega),if_neg (by omega)]
 · rw [q3 _ (by omega) (fun i hi => by omega),g0,if_neg (by omega),if_neg (by omega),if_neg (by omega)]
theorem HI.onceC {eq:Int -> Int -> Bool} {w:Int} {ds:List HD} {k:Int} {s:HS} (h:HI w ds k s) (j:HJ s) {c:Int} (c0:0 <= c) (c3:c <= 3) (back:Int) {ws:List Qc} (hb:comB s ws = true) :
 Once s.cs (Y4 eq w s c back ws).cs /\ HJ (Y4 eq w s c back ws) := by
 obtain ⟨b1,b2,b3⟩ := QgV hb;have hst := Vz h back;have hn := h.nn;have hvv := h.vv;have hs := Qok h.sc (n := s.n) (v := s.v) (start := Ym s back) (ws := ws) (by omega) b1 hvv.1 b2 b3 hst
 have o:Once s.cs (comC s.cs s.n s.v (Ym s back) ws) := by
  refine ⟨.inl (hs 0 (.inl (by decide))),fun d hd _ => hs _ (.inr ⟨d,hd,rfl⟩),fun a a0 a1 => ?_⟩
  rw [hs a (.inl (by omega))]
  exact ⟨Int.le_refl _,j.hd a a0 a1⟩
 refine ⟨o,o.hdf,fun c' d0 d3 hb' => ?_⟩;have hts:tkC (Y4 eq w s c back ws).ts c' = if c = c' then mkHt c 68 [w,256 + s.n] else tkC s.ts c' := tkS h.lt c0 c3 d0 _
 rw [hts]
 by_cases e:c = c'
 · rw [if_pos e];exact .ins
 · rw [if_neg e];refine (j.cl c' d0 d3 ?_).mono o.up;have hb':(s.busy.set c.toNat true).getD c'.toNat false = true := hb';rw [bS h.lb c0 c3 d0,if_neg e] at hb';exact hb'
theorem HI.onceP {eq:Int -> Int -> Bool} {w:Int} {ds:List HD} {k:Int} {s:HS} (h:HI w ds k s) (j:HJ s) (h0:0 <= k) (hk:k <= 800000) (x dd back:Int) (ws:List Qc) :
 Once s.cs (Zr eq w s x dd back ws).cs /\ HJ (Zr eq w s x dd back ws) := by
 have c0 := Int.emod_nonneg x (show (4:Int) ≠ 0 by decide)
 have c3 := Int.emod_lt_of_pos x (show (0:Int) < 4 by decide)
 unfold Zr
 by_cases hb:Qar s (x % 4) = true
 · rw [if_pos hb];obtain ⟨o,j'⟩ := h.once j h0 hk c0 (by omega) hb
   have q1 := (h.step h0 hk c0 (by omega) hb).2.1
   have q3 := q1.looks (eq := eq) (k' := k + 2) (by omega)
   have j3:HJ (VV eq w (Vy s (x % 4))) := ⟨j'.hd,j'.cl⟩
   split
   · generalize (endH s (x % 4)).got.getD 1 0 = t;refine ⟨o,?_⟩;unfold wonH
     have q4:HI w ds (k + 2) { VV eq w (Vy s (x % 4)) with place := (VV eq w (Vy s (x % 4))).place.set (x % 4).toNat t } :=
      ⟨q3.w,q3.od,q3.nn,q3.vv,q3.sc,q3.dk,q3.lt,q3.lu,q3.lb,q3.lh,by simp [q3.lp],q3.la,q3.tl,q3.tw,q3.mw,q3.cl⟩
     exact HJ.begin q4 ⟨j3.hd,j3.cl⟩ c0 (by omega) (.inr rfl)
   · exact ⟨o,j3⟩
 · rw [if_neg hb]
   split
   · rename_i hc;exact h.onceC j c0 (by omega) back hc.2
   · exact ⟨.refl j.hd,j⟩
def outL (cs:List Int):List Int := (List.range 16).map fun d => cs.getD (99 + d * 12 + 1) 0
def hdL (cs:List Int):List Int := (List.range 24).map fun k => plc (cs.getD (21 + k) 0)
theorem Qe2 {cs:List Int} {d:Nat} (h:d < 16):(outL cs).getD d 0 = cs.getD (99 + d * 12 + 1) 0 := by
 unfold outL;rw [List.getD_eq_getElem?_getD,List.getElem?_map,List.getElem?_range h];rfl
theorem Qol {cs:List Int} {d:Nat} (h:d < 24):(hdL cs).getD d 0 = plc (cs.getD (21 + d) 0) := by
 unfold hdL;rw [List.getD_eq_getElem?_getD,List.getElem?_map,List.getElem?_range h];rfl
theorem Qcc {cs:List Int}:(outL cs).length = 16 := by simp [outL]
theorem Qe3 {cs:List Int}:(hdL cs).length = 24 := by simp [hdL]
theorem Qcd {l m:List Int} {n:Nat} (hl:l.length = n) (hm:m.length = n) (h:∀ i,i < n -> l.getD i 0 = m.getD i 0):l = m := by
 apply List.ext_getElem (by omega)
 intro i h1 h2;have := h i (by omega)
 rw [List.getD_eq_getElem?_getD,List.getD_eq_getElem?_getD,List.getElem?_eq_getElem h1,List.getElem?_eq_getElem h2] at this;exact this
structure QaM (cs outs:List Int) (d:Nat):Prop where
 len:cs.length = 771
 lo:outs.length = 16
 dn:∀ e,e < d -> outs.getD e 0 = cs.getD (99 + e * 12 + 1) 0
 up:∀ e,d <= e -> e < 16 -> outs.getD e 0 ≠ 0 -> cs.getD (99 + e * 12 + 1) 0 = outs.getD e 0
 rg:∀ e,e < 16 -> 0 <= cs.getD (99 + e * 12 + 1) 0 /\ cs.getD (99 + e * 12 + 1) 0 <= 2
structure QaN (cs heads:List Int) (f:Int) (d:Nat):Prop where
 len:cs.length = 771
 lo:heads.length = 24
 ff:0 <= f /\ f <= 1048575
 dn:∀ e,e < d -> heads.getD e 0 = plc (cs.getD (21 + e) 0)
 up:∀ e,d <= e -> e < 24 -> heads.getD e 0 <= plc (cs.getD (21 + e) 0)
 rg:∀ e,e < 24 -> plc (cs.getD (21 + e) 0) <= f + 1
theorem QaM.go {cs outs:List Int} {d:Nat} (h:QaM cs outs d) (hd:d < 16):QaM cs (outs.set d (cs.getD (99 + d * 12 + 1) 0)) (d + 1) := by
 have hl := h.lo;have g:∀ x:Nat,(outs.set d (cs.getD (99 + d * 12 + 1) 0)).getD x 0 = if x = d then cs.getD (99 + d * 12 + 1) 0 else outs.getD x 0 := fun x => QaL (by omega)
 refine ⟨h.len,by rw [List.length_set];exact h.lo,fun e he => ?_,fun e h1 h2 => ?_,h.rg⟩
 · rw [g]
   by_cases q:e = d
   · rw [if_pos q,q]
   · rw [if_neg q];exact h.dn e (by omega)
 · rw [g,if_neg (by omega)]
   exact h.up e (by omega) h2
theorem QaM.done {cs outs:List Int} (h:QaM cs outs 16):outs = outL cs :=
 Qcd h.lo Qcc fun i hi => by rw [h.dn i hi,Qe2 hi]
theorem QaN.go {cs heads:List Int} {f:Int} {d:Nat} (h:QaN cs heads f d) (hd:d < 24):QaN cs (heads.set d (plc (cs.getD (21 + d) 0))) f (d + 1) := by
 have hl := h.lo;have g:∀ x:Nat,(heads.set d (plc (cs.getD (21 + d) 0))).getD x 0 = if x = d then plc (cs.getD (21 + d) 0) else heads.getD x 0 := fun x => QaL (by omega)
 refine ⟨h.len,by rw [List.length_set];exact h.lo,h.ff,fun e he => ?_,fun e h1 h2 => ?_,h.rg⟩
 · rw [g]
   by_cases q:e = d
   · rw [if_pos q,q]
   · rw [if_neg q];exact h.dn e (by omega)
 · rw [g,if_neg (by omega)]
   exact h.up e (by omega) h2
theorem QaN.done {cs heads:List Int} {f:Int} (h:QaN cs heads f 24):heads = hdL cs :=
 Qcd h.lo Qe3 fun i hi => by rw [h.dn i hi,Qol hi]
theorem Once.out {ds:List HD} {k:Int} {cs cs':List Int} (h:Once cs cs') (hc:SH ds k cs'):QaM cs' (outL cs) 0 :=
 ⟨hc.len,Qcc,fun e he => by omega,fun e _ h1 => by rw [Qe2 h1];exact h.ou e h1,fun e he => by
  have := (hc.ty (99 + (e:Int) * 12 + 1) (by omega) (by omega)).t7 e (by omega) (by omega) rfl
  rw [show (99 + (e:Int) * 12 + 1).toNat = 99 + e * 12 + 1 by omega] at this
  exact this⟩
theorem Once.hds {ds:List HD} {k:Int} {cs cs':List Int} (h:Once cs cs') (hc:SH ds k cs') (h0:SH ds k cs \/ 0 <= cs.getD 0 0 /\ cs.getD 0 0 <= 1048575):QaN cs' (hdL cs) (cs.getD 0 0) 0 :=
 ⟨hc.len,Qe3,by
  rcases h0 with h0 | h0
  · exact (h0.ty 0 (by decide) (by decide)).t0 rfl
  · exact h0,fun e he => by omega,fun e _ h1 => by rw [Qol h1];exact (h.hd (21 + e) (by omega) (by omega)).1,fun e he => (h.hd (21 + e) (by omega) (by omega)).2⟩
theorem Qrl:outL QL = List.replicate 16 0 := Qcd Qcc (by simp) fun i hi => by
 rw [Qe2 hi,Qau (by omega) (by omega),List.getD_eq_getElem?_getD,List.getElem?_replicate,if_pos hi];rfl
theorem QuL:hdL QL = List.replicate 24 0 := Qcd Qe3 (by simp) fun i hi => by
 rw [Qol hi,Qau (by omega) (by omega),List.getD_eq_getElem?_getD,List.getElem?_replicate,if_pos hi];rfl
theorem QuM:HJ ⟨QL,QK,QK,List.replicate 4 ⟨0,[],[],false⟩,List.replicate 4 ⟨0,[],[],false⟩,List.replicate 4 false,0,0,List.replicate 4 0,List.replicate 4 0,[],[],0⟩ := by
 refine ⟨fun a a0 a1 => ?_,fun c c0 c3 hb => ?_⟩
 · show plc (QL.getD a 0) <= QL.getD 0 0 + 1;rw [Qau (by omega) (by omega),Qau (a := 0) (by decide) (by decide)]
   decide
 · obtain rfl | rfl | rfl | rfl:c = 0 \/ c = 1 \/ c = 2 \/ c = 3 := by omega
   all_goals cases hb
open Go.Proofs
def bigP (x:Pick):Bool := decide ((40:Int) < (x.writes.length:Int))
structure Qom where
 c:Bool
 l:List Pick
 i:Nat
def Qon (c:Bool) (l:List Pick) (i:Nat):Env RC := [(2,.bool false),(8,.sl (C := RC) .pick c l),(9,.int .i64 ((l.length:Int))),(10,.int .i64 (i:Int))]
def QgZ (c:Bool) (l:List Pick) (i:Nat):List (Obj RC) := []
noncomputable def Qsx (c:Bool) (l:List Pick) (i:Nat) := rndO s25 ux_1 9 4 60 0 [2,8,9,10] [2] [] (Qon c l i) (QgZ c l i)
theorem QuN (c:Bool) (l:List Pick) (i:Nat):Qsx c l i = (let Z0:Int := (↑i:Int);let Z1:Int := (↑l.length:Int);let Z2:Nat := List.length (Pick.writes (List.getD l Z0.toNat (Pick.mk (0:Int) (0:Int) (0:Int) [])));bif decide (Z0 < Z1) then bif decide ((0:Int) <= Z0 /\ Z0 < Z1) then bif lenOK Z2 then bif decide ((40:Int) < (↑Z2:Int)) then some ((X.ret,[(2,D.bool true)]),[]) else some ((X.normal,[(2,D.bool false),(8,D.sl RTy.pick c l),(9,D.int .i64 Z1),(10,D.int .i64 (IntKind.wrap .i64 (Z0 + (1:Int))))]),[]) else none else none else some ((X.exit (0:Nat),[(2,D.bool false)]),[])) := by kernel_rfl
def ZV (c:Bool) (l:List Pick) (i:Nat):RT RC := .br ((l.drop i).any bigP) (.leaf .ret [(2,.bool true)] []) (.leaf (.exit 0) [(2,.bool false)] [])
def JP (c:Bool) (l:List Pick) (i:Nat):Prop := i <= l.length /\ l.length <= 500 /\ (l.all fun x => lenOK x.writes.length) = true
def Qaz:QU RC Qom where
 k := 0
 canon q := Qon q.c q.l q.i
 objs q := QgZ q.c q.l q.i
 fin q := ZV q.c q.l q.i
 Inv q := JP q.c q.l q.i
 μ q := q.l.length - q.i
theorem QiH (c:Bool) (l:List Pick) (i:Nat) (hI:JP c l i):Leaf (Qsx c l i) (LedR Qaz ⟨c,l,i⟩) := by
 (rw [QuN];conv => zeta)
 unfold JP at hI;obtain ⟨h1,h2,h3⟩ := hI
 by_cases hlt:i < l.length
 · have w_succ:IntKind.i64.wrap ((i:Int) + 1) = ((i + 1:Nat):Int) := by rw [Qb (by omega) (by omega)];simp
   have d_lt:decide ((i:Int) < l.length) = true := by simp;omega
   have d_in:decide (0 <= (i:Int) /\ (i:Int) < l.length) = true := by simp;omega
   have t_nat:((i:Int)).toNat = i := by simp
   simp only [w_succ,d_lt,d_in,t_nat,cond_true]
   have hst:(l.drop i).any bigP = (bigP (l.getD i ⟨0,0,0,[]⟩) || (l.drop (i + 1)).any bigP) := by
    have e:l.getD i ⟨0,0,0,[]⟩ = l[i] := by simp [hlt]
    rw [List.drop_eq_getElem_cons hlt,e,List.any_cons]
   have lw:lenOK (l.getD i ⟨0,0,0,[]⟩).writes.length = true := by
    have := List.all_eq_true.1 h3 _ (List.getElem_mem hlt);have e:l.getD i ⟨0,0,0,[]⟩ = l[i] := by simp [hlt]
    rw [e];exact this
   generalize l.getD i ⟨0,0,0,[]⟩ = x at hst lw ⊢;simp only [lw,cond_true];cases hb:bigP x
   · rw [show decide ((40:Int) < (x.writes.length:Int)) = false from hb];exact Qw (S := Qaz) (s := ⟨c,l,i⟩) ⟨c,l,i + 1⟩ ⟨hlt,h2,h3⟩ (by simp only [Qaz];omega) (by show (ZV c l (i + 1)).val = (ZV c l i).val;unfold ZV;rw [hst,hb,Bool.false_or]) rfl rfl
   · rw [show decide ((40:Int) < (x.writes.length:Int)) = true from hb];exact Q7 [] (by show (ZV c l i).val = _;unfold ZV;rw [hst,hb,Bool.true_or];rfl) rfl
 · have hi:i = l.length := by omega
   have c1:decide ((i:Int) < l.length) = false := by simp;omega
   rw [c1];exact Qn [] (by show (ZV c l i).val = _;unfold ZV;rw [hi,List.drop_length];rfl) rfl
def Qoo (env:Env RC) (os:List (Obj RC)):Option (Bool × Qom) := match env,os with
 | [(2,.bool false),(8,.sl .pick c l),(9,.int .i64 x0),(10,.int .i64 x1)],[] => Qz (true) (decide (x0 = (l.length:Int)) && decide (x1 = 0) && decide (l.length <= 500) && (l.all fun x => lenOK x.writes.length),⟨c,l,0⟩)
 | _,_ => none
noncomputable def uz_1 := ux_1.addLoop 9 4 (sumR s25 [] [2,8,9,10] Qaz Qoo)
theorem Qop:Qh Tryz.prog s25 uz_1 := by
 refine Qoi.addRoundsR Qa (by kernel_rfl) Qaz 60 [2,8,9,10] [2] [] [2,8,9,10] Qoo (fun q hI => ?_) ?_
 · obtain ⟨c,l,i⟩ := q;refine ⟨?_,?_,QiH c l i hI⟩
   · simp_all [Ql,Qaz,Qon,QgZ,JP,D.refs,Obj.refs,rEnc]
   · simp_all [Qaz,ZV,QgZ,JP,RT.refsOK,Ql,D.refs,Obj.refs,rEnc]
 · intro env os b q hd_ hb;unfold Qoo at hd_
   split at hd_
   · obtain ⟨hs,hd_⟩ := Qi hd_;cases hd_;simp only [Bool.and_eq_true,decide_eq_true_eq] at hb;obtain ⟨⟨⟨e0,e1⟩,e2⟩,e3⟩ := hb;subst e0;subst e1;exact ⟨⟨Nat.zero_le _,e2,e3⟩,rfl,rfl⟩
   · cases hd_
def Qd0 (c:Bool) (l:List Pick):Option (Bool × D RC) := some (lenOK l.length && (l.all fun x => lenOK x.writes.length),.bool (decide ((500:Int) < (l.length:Int)) || l.any bigP))
def Qbr:List (D RC) -> Option (Bool × D RC)
 | [.sl .pick c l] => Qd0 c l
 | _ => none
noncomputable def Qd1 (c:Bool) (l:List Pick) := evF s25 uz_1 60 9 [.sl (C := RC) .pick c l]
theorem QiI (c:Bool) (l:List Pick):Qd1 c l = (let Z0:Nat := List.length l;let Z1:Int := (↑Z0:Int);bif lenOK Z0 then bif decide ((500:Int) < Z1) then some (D.bool true) else bif lenOK Z0 then bif decide (Z1 = Z1) && true && decide (Z0 <= (500:Nat)) && List.all l fun (x:Pick) => lenOK (Pick.writes x).length then bif List.any (List.drop (0:Nat) l) bigP then some (D.bool true) else some (D.bool false) else none else none else none) := by kernel_rfl
theorem QiJ (c:Bool) (l:List Pick) (h:(lenOK l.length && (l.all fun x => lenOK x.writes.length)) = true):Qd1 c l = some (.bool (decide ((500:Int) < (l.length:Int)) || l.any bigP)) := by
 (rw [QiI];conv => zeta)
 rw [Bool.and_eq_true] at h;obtain ⟨h1,h2⟩ := h
 by_cases h5:l.length <= 500
 · have c1:decide ((500:Int) < (l.length:Int)) = false := decide_eq_false (by omega)
   simp only [h1,h2,c1,decide_eq_true h5,decide_true,Bool.and_self,Bool.false_or,cond_true,cond_false,List.drop_zero];cases l.any bigP <;> rfl
 · have c1:decide ((500:Int) < (l.length:Int)) = true := decide_eq_true (by omega)
   simp only [h1,c1,Bool.true_or,cond_true]
noncomputable def uz_2 := uz_1.addSpec 9 Qbr
theorem Qoq:Qh Tryz.prog s25 uz_2 := Qop.addEv Qa fun args d h => by
 unfold Qbr at h
 split at h
 · unfold Qd0 at h;have h1 := congrArg Prod.fst (Option.some.inj h);obtain rfl:_ = d := congrArg Prod.snd (Option.some.inj h);exact ⟨by simp [D.refs],60,QiJ _ _ h1⟩
 · cases h
def Qg0 :Option (Bool × D RC) := some (true,.sl (C := RC) .int false QL)
def Qd2:List (D RC) -> Option (Bool × D RC)
 | [] => Qg0 
 | _ => none
noncomputable def Qrm  := evF s25 uz_2 1000 78 []
theorem Qor  (h:(true) = true):Qrm  = some (.sl (C := RC) .int false QL) := by
 kernel_rfl
noncomputable def uz_3 := uz_2.addSpec 78 Qd2
theorem Qos:Qh Tryz.prog s25 uz_3 := Qoq.addEv Qa fun args d h => by
 unfold Qd2 at h
 split at h
 · unfold Qg0 at h;have h1 := congrArg Prod.fst (Option.some.inj h);obtain rfl:_ = d := congrArg Prod.snd (Option.some.inj h);exact ⟨by simp [D.refs],1000,Qor  h1⟩
 · cases h
noncomputable def runH (w:Int):List Pick -> HS -> HS
 | [],s => s
 | x :: l,s => runH w l (Zr keq w s x.client x.do_ x.back x.writes)
theorem Qot {w:Int} {l:List Pick} {i:Nat} (h:i < l.length) (s:HS):runH w (l.drop i) s = runH w (l.drop (i + 1)) (Zr keq w s (l.getD i ⟨0,0,0,[]⟩).client (l.getD i ⟨0,0,0,[]⟩).do_ (l.getD i ⟨0,0,0,[]⟩).back (l.getD i ⟨0,0,0,[]⟩).writes) := by
 have e:l.getD i ⟨0,0,0,[]⟩ = l[i] := by simp [h]
 rw [List.drop_eq_getElem_cons h,e,runH]
structure Qou where
 cs:List Int
 outs:List Int
 d:Nat
noncomputable def Qov (cs:List Int) (outs:List Int) (d:Nat):Env RC := [(4,.bool false),(6,.ptr 0 []),(14,.sl (C := RC) .int false cs),(48,.int .i64 (d:Int))]
def Qd3 (cs:List Int) (outs:List Int) (d:Nat):List (Obj RC) := [.var 77 (.arr (C := RC) .int 16 outs)]
noncomputable def Qsy (cs:List Int) (outs:List Int) (d:Nat) := rndO s25 uz_3 7 15 100 1 [4,6,14,48] [4] [.slot 6 0] (Qov cs outs d) (Qd3 cs outs d)
theorem QuO (cs:List Int) (outs:List Int) (d:Nat):Qsy cs outs d = (let Z0:Int := (↑d:Int);let Z1:Int := lField (99:Int) Z0 (1:Int) (16:Int) (12:Int);let Z2:Bool := decide ((0:Int) <= Z0 /\ Z0 < (16:Int));let Z3:Int := List.getD outs Z0.toNat (0:Int);let Z4:Int := List.getD cs Z1.toNat (0:Int);let Z5:List (Option (Obj RC)) := [some (Obj.var 77 (D.arr RTy.int (16:Nat) outs))];let Z6:RO_ := some ((X.ret,[(4,D.bool false)]),Z5);let Z7:RO_ := bif decide (Z4 < (0:Int)) then Z6 else bif decide ((2:Int) < Z4) then Z6 else bif Z2 then some ((X.normal,[(4,D.bool false),(6,D.ptr 0 []),(14,D.sl RTy.int false cs),(48,D.int .i64 (IntKind.wrap .i64 (Z0 + (1:Int))))]),[some (Obj.var 77 (D.arr RTy.int (16:Nat) (List.set outs Z0.toNat Z4)))]) else none;bif decide (Z0 < (16:Int)) then bif decide ((0:Int) <= Z1 /\ Z1 < (↑cs.length:Int)) then bif Z2 then bif Z3 != (0:Int) then bif Z2 then bif Z4 != Z3 then Z6 else Z7 else none else Z7 else none else none else some ((X.exit (2:Nat),[(4,D.bool false)]),Z5)) := by kernel_rfl
noncomputable def KI (cs:List Int) (outs:List Int) (d:Nat):RT RC := .leaf (.exit 2) [(4,.bool false)] [.var 77 (.arr (C := RC) .int 16 (outL cs))]
def JQ (cs:List Int) (outs:List Int) (d:Nat):Prop := d <= 16 /\ QaM cs outs d
noncomputable def QaA:QU RC Qou where
 k := 1
 canon q := Qov q.cs q.outs q.d
 objs q := Qd3 q.cs q.outs q.d
 fin q := KI q.cs q.outs q.d
 Inv q := JQ q.cs q.outs q.d
 μ q := 16 - q.d
theorem QiK (cs:List Int) (outs:List Int) (d:Nat) (hI:JQ cs outs d):Leaf (Qsy cs outs d) (LedR QaA ⟨cs,outs,d⟩) := by
 (rw [QuO];conv => zeta)
 unfold JQ at hI;obtain ⟨h1,h2⟩ := hI;have hl := h2.len;have ho := h2.lo
 by_cases hlt:d < 16
 · have t_nat0:((d:Int)).toNat = d := by simp
   have w_succ:IntKind.i64.wrap ((d:Int) + 1) = ((d + 1:Nat):Int) := by rw [Qb (by omega) (by omega)];simp
   have d_lt:decide ((d:Int) < 16) = true := decide_eq_true (by omega)
   have d_in:decide (0 <= (d:Int) /\ (d:Int) < 16) = true := decide_eq_true (by omega)
   have f1:lField 99 (d:Int) 1 16 12 = 99 + (d:Int) * 12 + 1 := Qb9 (by omega) (by omega) (by decide) (by decide)
   have f2:(99 + (d:Int) * 12 + 1).toNat = 99 + d * 12 + 1 := by omega
   have c_in:decide (0 <= 99 + (d:Int) * 12 + 1 /\ 99 + (d:Int) * 12 + 1 < (cs.length:Int)) = true := decide_eq_true (by omega)
   have hr := h2.rg d hlt;have hu := h2.up d (Nat.le_refl _) hlt;have g := h2.go hlt;simp only [f1,f2,t_nat0,w_succ,d_lt,d_in,c_in,cond_true];generalize cs.getD (99 + d * 12 + 1) 0 = o at hr hu g ⊢;have r1:decide (o < 0) = false := decide_eq_false (by omega)
   have r2:decide (2 < o) = false := decide_eq_false (by omega)
   simp only [r1,r2,cond_false]
   by_cases q:outs.getD d 0 = 0
   · rw [YU q,cond_false];exact Qw (S := QaA) (s := ⟨cs,outs,d⟩) ⟨cs,outs.set d o,d + 1⟩ ⟨hlt,g⟩ (by show 16 - (d + 1) < 16 - d;omega) rfl rfl rfl
   · rw [J0 q,cond_true,YU (hu q),cond_false];exact Qw (S := QaA) (s := ⟨cs,outs,d⟩) ⟨cs,outs.set d o,d + 1⟩ ⟨hlt,g⟩ (by show 16 - (d + 1) < 16 - d;omega) rfl rfl rfl
 · have hd:d = 16 := by omega
   have c1:decide ((d:Int) < 16) = false := decide_eq_false (by omega)
   have hL:outs = outL cs := by rw [hd] at h2;exact h2.done
   rw [c1];exact Qn (Qd3 cs outs d) (by show (KI cs outs d).val = _;unfold KI;rw [<- hL];rfl) rfl
noncomputable def Qow (env:Env RC) (os:List (Obj RC)):Option (Bool × Qou) := match env,os with
 | [(4,.bool false),(6,.ptr 0 []),(14,.sl .int false cs),(48,.int .i64 x0)],[.var 77 (.arr .int 16 outs)] => Qz (true) (decide (x0 = 0) && cdec (QaM cs outs 0),⟨cs,outs,0⟩)
 | _,_ => none
noncomputable def uz_4 := uz_3.addLoop 7 15 (sumR s25 [.slot 6 0] [4,6,14,48] QaA Qow)
theorem Qox:Qh Tryz.prog s25 uz_4 := by
 refine Qos.addRoundsR Qa (by kernel_rfl) QaA 100 [4,6,14,48] [4] [.slot 6 0] [4,6,14,48] Qow (fun q hI => ?_) ?_
 · obtain ⟨cs,outs,d⟩ := q;refine ⟨?_,?_,QiK cs outs d hI⟩
   · simp_all [Ql,QaA,Qov,Qd3,JQ,D.refs,Obj.refs,rEnc]
   · simp_all [QaA,KI,Qd3,JQ,RT.refsOK,Ql,D.refs,Obj.refs,rEnc]
 · intro env os b q hd_ hb;unfold Qow at hd_
   split at hd_
   · obtain ⟨hs,hd_⟩ := Qi hd_;cases hd_;simp only [Bool.and_eq_true,decide_eq_true_eq] at hb;obtain ⟨e0,e1⟩ := hb;subst e0;exact ⟨⟨Nat.zero_le _,QP.1 e1⟩,rfl,rfl⟩
   · cases hd_
structure Qsz where
 cs:List Int
 heads:List Int
 front:Int
 d:Nat
noncomputable def QuP (cs:List Int) (heads:List Int) (front:Int) (d:Nat):Env RC := [(4,.bool false),(7,.ptr 0 []),(8,.int .i64 front),(14,.sl (C := RC) .int false cs),(79,.int .i64 (d:Int))]
def Qoy (cs:List Int) (heads:List Int) (front:Int) (d:Nat):List (Obj RC) := [.var 78 (.arr (C := RC) .int 24 heads)]
noncomputable def Qv1 (cs:List Int) (heads:List Int) (front:Int) (d:Nat) := rndO s25 uz_4 7 23 100 1 [4,7,8,14,79] [4] [.slot 7 0] (QuP cs heads front d) (Qoy cs heads front d)
theorem Qv2 (cs:List Int) (heads:List Int) (front:Int) (d:Nat):Qv1 cs heads front d = (let Z0:Int := (↑d:Int);let Z1:Int := lRow (21:Int) Z0 (24:Int);let Z2:Bool := decide ((0:Int) <= Z0 /\ Z0 < (24:Int));let Z3:Int := plc (List.getD cs Z1.toNat (0:Int));let Z4:List (Option (Obj RC)) := [some (Obj.var 78 (D.arr RTy.int (24:Nat) heads))];bif decide (Z0 < (24:Int)) then bif decide ((0:Int) <= Z1 /\ Z1 < (↑cs.length:Int)) then bif Z2 then bif decide (Z3 < List.getD heads Z0.toNat (0:Int)) then some ((X.ret,[(4,D.bool false)]),Z4) else bif decide (IntKind.wrap .i64 (front + (1:Int)) < Z3) then some ((X.ret,[(4,D.bool false)]),Z4) else bif Z2 then some ((X.normal,[(4,D.bool false),(7,D.ptr 0 []),(8,D.int .i64 front),(14,D.sl RTy.int false cs),(79,D.int .i64 (IntKind.wrap .i64 (Z0 + (1:Int))))]),[some (Obj.var 78 (D.arr RTy.int (24:Nat) (List.set heads Z0.toNat Z3)))]) else none else none else none else some ((X.exit (4:Nat),[(4,D.bool false)]),Z4)) := by kernel_rfl
noncomputable def Qce (cs:List Int) (heads:List Int) (front:Int) (d:Nat):RT RC := .leaf (.exit 4) [(4,.bool false)] [.var 78 (.arr (C := RC) .int 24 (hdL cs))]
def QaB (cs:List Int) (heads:List Int) (front:Int) (d:Nat):Prop := d <= 24 /\ QaN cs heads front d
noncomputable def QiL:QU RC Qsz where
 k := 1
 canon q := QuP q.cs q.heads q.front q.d
 objs q := Qoy q.cs q.heads q.front q.d
 fin q := Qce q.cs q.heads q.front q.d
 Inv q := QaB q.cs q.heads q.front q.d
 μ q := 24 - q.d
theorem Qoz (cs:List Int) (heads:List Int) (front:Int) (d:Nat) (hI:QaB cs heads front d):Leaf (Qv1 cs heads front d) (LedR QiL ⟨cs,heads,front,d⟩) := by
 (rw [Qv2];conv => zeta)
 unfold QaB at hI;obtain ⟨h1,h2⟩ := hI;have hl := h2.len;have ho := h2.lo;have hf := h2.ff
 by_cases hlt:d < 24
 · have t_nat0:((d:Int)).toNat = d := by simp
   have w_succ:IntKind.i64.wrap ((d:Int) + 1) = ((d + 1:Nat):Int) := by rw [Qb (by omega) (by omega)];simp
   have d_lt:decide ((d:Int) < 24) = true := decide_eq_true (by omega)
   have d_in:decide (0 <= (d:Int) /\ (d:Int) < 24) = true := decide_eq_true (by omega)
   have f1:lRow 21 (d:Int) 24 = 21 + (d:Int) := J9 (by omega) (by omega)
   have f2:(21 + (d:Int)).toNat = 21 + d := by omega
   have c_in:decide (0 <= 21 + (d:Int) /\ 21 + (d:Int) < (cs.length:Int)) = true := decide_eq_true (by omega)
   have v1:IntKind.i64.wrap (front + 1) = front + 1 := Qb (by omega) (by omega)
   have hr := h2.rg d hlt;have hu := h2.up d (Nat.le_refl _) hlt;have g := h2.go hlt;simp only [f1,f2,t_nat0,w_succ,d_lt,d_in,c_in,v1,cond_true];generalize plc (cs.getD (21 + d) 0) = o at hr hu g ⊢;have r1:decide (o < heads.getD d 0) = false := decide_eq_false (by omega)
   have r2:decide (front + 1 < o) = false := decide_eq_false (by omega)
   simp only [r1,r2,cond_false];exact Qw (S := QiL) (s := ⟨cs,heads,front,d⟩) ⟨cs,heads.set d o,front,d + 1⟩ ⟨hlt,g⟩ (by show 24 - (d + 1) < 24 - d;omega) rfl rfl rfl
 · have hd:d = 24 := by omega
   have c1:decide ((d:Int) < 24) = false := decide_eq_false (by omega)
   have hL:heads = hdL cs := by rw [hd] at h2;exact h2.done
   rw [c1];exact Qn (Qoy cs heads front d) (by show (Qce cs heads front d).val = _;unfold Qce;rw [<- hL];rfl) rfl
noncomputable def QuQ (env:Env RC) (os:List (Obj RC)):Option (Bool × Qsz) := match env,os with
 | [(4,.bool false),(7,.ptr 0 []),(8,.int .i64 front),(14,.sl .int false cs),(79,.int .i64 x0)],[.var 78 (.arr .int 24 heads)] => Qz (true) (decide (x0 = 0) && cdec (QaN cs heads front 0),⟨cs,heads,front,0⟩)
 | _,_ => none
noncomputable def uz_5 := uz_4.addLoop 7 23 (sumR s25 [.slot 7 0] [4,7,8,14,79] QiL QuQ)
theorem QoA:Qh Tryz.prog s25 uz_5 := by
 refine Qox.addRoundsR Qa (by kernel_rfl) QiL 100 [4,7,8,14,79] [4] [.slot 7 0] [4,7,8,14,79] QuQ (fun q hI => ?_) ?_
 · obtain ⟨cs,heads,front,d⟩ := q;refine ⟨?_,?_,Qoz cs heads front d hI⟩
   · simp_all [Ql,QiL,QuP,Qoy,QaB,D.refs,Obj.refs,rEnc]
   · simp_all [QiL,Qce,Qoy,QaB,RT.refsOK,Ql,D.refs,Obj.refs,rEnc]
 · intro env os b q hd_ hb;unfold QuQ at hd_
   split at hd_
   · obtain ⟨hs,hd_⟩ := Qi hd_;cases hd_;simp only [Bool.and_eq_true,decide_eq_true_eq] at hb;obtain ⟨e0,e1⟩ := hb;subst e0;exact ⟨⟨Nat.zero_le _,QP.1 e1⟩,rfl,rfl⟩
   · cases hd_
structure QsA where
 c:Bool
 l:List Pick
 w:Int
 now:List Sector
 sure:List Sector
 cs:List Int
 ts:List Task
 us:List Task
 busy:List Bool
 n:Int
 v:Int
 has:List Int
 place:List Int
 mp:List (Int × Try)
 tr:List Try
 last:Int
 outs:List Int
 heads:List Int
 i:Nat
noncomputable def QuR (c:Bool) (l:List Pick) (w:Int) (now:List Sector) (sure:List Sector) (cs:List Int) (ts:List Task) (us:List Task) (busy:List Bool) (n:Int) (v:Int) (has:List Int) (place:List Int) (mp:List (Int × Try)) (tr:List Try) (last:Int) (outs:List Int) (heads:List Int) (i:Nat):Env RC := [(4,.bool false),(5,.ptr 0 []),(6,.ptr 4 []),(7,.ptr 5 []),(8,.int .i64 (cs.getD 0 0)),(25,.sl (C := RC) .pick c l),(26,.int .i64 ((l.length:Int))),(27,.int .i64 (i:Int))]
def Qe4 (c:Bool) (l:List Pick) (w:Int) (now:List Sector) (sure:List Sector) (cs:List Int) (ts:List Task) (us:List Task) (busy:List Bool) (n:Int) (v:Int) (has:List Int) (place:List Int) (mp:List (Int × Try)) (tr:List Try) (last:Int) (outs:List Int) (heads:List Int) (i:Nat):List (Obj RC) := [.var 50 (.acons (.ptr 1 []) (.acons (.int .i64 w) (.acons (.int .i64 n) (.acons (.int .i64 v) (.acons (.arr (C := RC) .int 4 has) (.acons (.arr (C := RC) .int 4 place) (.acons (.mp 2) (.acons (.vs 3 (tr.length)) (.acons (.int .i64 last) .anil))))))))),.var 44 (.acons (.acons (.sl (C := RC) .int false cs) (.acons (.acons (.sl (C := RC) .sector false now) (.acons (.sl (C := RC) .sector false sure) .anil)) .anil)) (.acons (.arr (C := RC) .task 4 ts) (.acons (.arr (C := RC) .task 4 us) (.acons (.arr (C := RC) .bool 4 busy) .anil)))),.map .int .tryd mp,.vec .tryd true tr,.var 77 (.arr (C := RC) .int 16 outs),.var 78 (.arr (C := RC) .int 24 heads)]
noncomputable def Qv3 (c:Bool) (l:List Pick) (w:Int) (now:List Sector) (sure:List Sector) (cs:List Int) (ts:List Task) (us:List Task) (busy:List Bool) (n:Int) (v:Int) (has:List Int) (place:List Int) (mp:List (Int × Try)) (tr:List Try) (last:Int) (outs:List Int) (heads:List Int) (i:Nat) := rndO s25 uz_5 7 8 100 6 [4,5,6,7,8,25,26,27] [4] [.slot 5 0,.path 0 [0],.path 0 [6],.path 0 [7],.slot 6 0,.slot 7 0] (QuR c l w now sure cs ts us busy n v has place mp tr last outs heads i) (Qe4 c l w now sure cs ts us busy n v has place mp tr last outs heads i)
theorem Qv4 (c:Bool) (l:List Pick) (w:Int) (now:List Sector) (sure:List Sector) (cs:List Int) (ts:List Task) (us:List Task) (busy:List Bool) (n:Int) (v:Int) (has:List Int) (place:List Int) (mp:List (Int × Try)) (tr:List Try) (last:Int) (outs:List Int) (heads:List Int) (i:Nat):Qv3 c l w now sure cs ts us busy n v has place mp tr last outs heads i = (let Z0:Int := (↑i:Int);let Z1:Int := (↑l.length:Int);let Z2:Nat := List.length tr;let Z3:Pick := List.getD l Z0.toNat (Pick.mk (0:Int) (0:Int) (0:Int) []);let Z4:HS := HS.mk cs now sure ts us busy n v has place mp tr last;let Z5:HS := Zr keq w Z4 (Pick.client Z3) (Pick.do_ Z3) (Pick.back Z3) (Pick.writes Z3);let Z6:List Int := HS.cs Z5;let Z7:Int := List.getD cs (0:Nat) (0:Int);let Z8:Bool := decide ((0:Int) <= (0:Int) /\ (0:Int) < (↑Z6.length:Int));let Z9:Int := List.getD Z6 (0:Nat) (0:Int);let Z10:D RC := .anil;let Z11:List (Option (Obj RC)) := [some (Obj.var 50 (.acons (D.ptr 1 []) (.acons (D.int .i64 w) (.acons (D.int .i64 (HS.n Z5)) (.acons (D.int .i64 (HS.v Z5)) (.acons (D.arr RTy.int (4:Nat) (HS.has Z5)) (.acons (D.arr RTy.int (4:Nat) (HS.place Z5)) (.acons (D.mp (2:Nat)) (.acons (D.vs 3 (HS.tr Z5).length) (.acons (D.int .i64 (HS.last Z5)) Z10)))))))))),some (Obj.var 44 (.acons (D.acons (D.sl RTy.int false Z6) (.acons (D.acons (D.sl RTy.sector false (HS.now Z5)) (.acons (D.sl RTy.sector false (HS.sure Z5)) Z10)) Z10)) (.acons (D.arr RTy.task (4:Nat) (HS.ts Z5)) (.acons (D.arr RTy.task (4:Nat) (HS.us Z5)) (.acons (D.arr RTy.bool (4:Nat) (HS.busy Z5)) Z10))))),some (Obj.map RTy.int RTy.tryd (HS.mp Z5)),some (Obj.vec RTy.tryd true (HS.tr Z5)),some (Obj.var 77 (D.arr RTy.int (16:Nat) (outL Z6))),some (Obj.var 78 (D.arr RTy.int (24:Nat) (hdL Z6)))];let Z12:RO_ := bif Z8 then some ((X.normal,[(4,D.bool false),(5,D.ptr 0 []),(6,D.ptr 4 []),(7,D.ptr 5 []),(8,D.int .i64 Z9),(25,D.sl RTy.pick c l),(26,D.int .i64 Z1),(27,D.int .i64 (IntKind.wrap .i64 (Z0 + (1:Int))))]),Z11) else none;bif decide (Z0 < Z1) then bif decide ((0:Int) <= Z0 /\ Z0 < Z1) then bif decide (Z2 = Z2) && cdec (List.length (Pick.writes Z3) <= (40:Nat) /\ ∃ (ds:List HD),∃ (k:Int),(0:Int) <= k /\ k <= (800000:Int) /\ HI w ds k Z4) then bif cdec (QaM Z6 outs (0:Nat)) then bif cdec (QaN Z6 heads Z7 (0:Nat)) then bif Z8 then bif Z9 != Z7 then bif Z9 != IntKind.wrap .i64 (Z7 + (1:Int)) then some ((X.ret,[(4,D.bool false)]),Z11) else Z12 else Z12 else none else none else none else none else none else some ((X.exit (0:Nat),[(4,D.bool false)]),[some (Obj.var 50 (.acons (D.ptr 1 []) (.acons (D.int .i64 w) (.acons (D.int .i64 n) (.acons (D.int .i64 v) (.acons (D.arr RTy.int (4:Nat) has) (.acons (D.arr RTy.int (4:Nat) place) (.acons (D.mp (2:Nat)) (.acons (D.vs 3 Z2) (.acons (D.int .i64 last) Z10)))))))))),some (Obj.var 44 (.acons (D.acons (D.sl RTy.int false cs) (.acons (D.acons (D.sl RTy.sector false now) (.acons (D.sl RTy.sector false sure) Z10)) Z10)) (.acons (D.arr RTy.task (4:Nat) ts) (.acons (D.arr RTy.task (4:Nat) us) (.acons (D.arr RTy.bool (4:Nat) busy) Z10))))),some (Obj.map RTy.int RTy.tryd mp),some (Obj.vec RTy.tryd true tr),some (Obj.var 77 (D.arr RTy.int (16:Nat) outs)),some (Obj.var 78 (D.arr RTy.int (24:Nat) heads))])) := by kernel_rfl
noncomputable def Yy (c:Bool) (l:List Pick) (w:Int) (now:List Sector) (sure:List Sector) (cs:List Int) (ts:List Task) (us:List Task) (busy:List Bool) (n:Int) (v:Int) (has:List Int) (place:List Int) (mp:List (Int × Try)) (tr:List Try) (last:Int) (outs:List Int) (heads:List Int) (i:Nat):RT RC := .leaf (.exit 0) [(4,.bool false)] (Qe4 c l w (runH w (l.drop i) ⟨cs,now,sure,ts,us,busy,n,v,has,place,mp,tr,last⟩).now (runH w (l.drop i) ⟨cs,now,sure,ts,us,busy,n,v,has,place,mp,tr,last⟩).sure (runH w (l.drop i) ⟨cs,now,sure,ts,us,busy,n,v,has,place,mp,tr,last⟩).cs (runH w (l.drop i) ⟨cs,now,sure,ts,us,busy,n,v,has,place,mp,tr,last⟩).ts (runH w (l.drop i) ⟨cs,now,sure,ts,us,busy,n,v,has,place,mp,tr,last⟩).us (runH w (l.drop i) ⟨cs,now,sure,ts,us,busy,n,v,has,place,mp,tr,last⟩).busy (runH w (l.drop i) ⟨cs,now,sure,ts,us,busy,n,v,has,place,mp,tr,last⟩).n (runH w (l.drop i) ⟨cs,now,sure,ts,us,busy,n,v,has,place,mp,tr,last⟩).v (runH w (l.drop i) ⟨cs,now,sure,ts,us,busy,n,v,has,place,mp,tr,last⟩).has (runH w (l.drop i) ⟨cs,now,sure,ts,us,busy,n,v,has,place,mp,tr,last⟩).place (runH w (l.drop i) ⟨cs,now,sure,ts,us,busy,n,v,has,place,mp,tr,last⟩).mp (runH w (l.drop i) ⟨cs,now,sure,ts,us,busy,n,v,has,place,mp,tr,last⟩).tr (runH w (l.drop i) ⟨cs,now,sure,ts,us,busy,n,v,has,place,mp,tr,last⟩).last (outL (runH w (l.drop i) ⟨cs,now,sure,ts,us,busy,n,v,has,place,mp,tr,last⟩).cs) (hdL (runH w (l.drop i) ⟨cs,now,sure,ts,us,busy,n,v,has,place,mp,tr,last⟩).cs) i)
def QaC (c:Bool) (l:List Pick) (w:Int) (now:List Sector) (sure:List Sector) (cs:List Int) (ts:List Task) (us:List Task) (busy:List Bool) (n:Int) (v:Int) (has:List Int) (place:List Int) (mp:List (Int × Try)) (tr:List Try) (last:Int) (outs:List Int) (heads:List Int) (i:Nat):Prop := i <= l.length /\ l.length <= 500 /\ (∀ x ∈ l,x.writes.length <= 40) /\ (∃ ds,HI w ds (2 * i) ⟨cs,now,sure,ts,us,busy,n,v,has,place,mp,tr,last⟩) /\ HJ ⟨cs,now,sure,ts,us,busy,n,v,has,place,mp,tr,last⟩ /\ outs = outL cs /\ heads = hdL cs
noncomputable def Qe5:QU RC QsA where
 k := 6
 canon q := QuR q.c q.l q.w q.now q.sure q.cs q.ts q.us q.busy q.n q.v q.has q.place q.mp q.tr q.last q.outs q.heads q.i
 objs q := Qe4 q.c q.l q.w q.now q.sure q.cs q.ts q.us q.busy q.n q.v q.has q.place q.mp q.tr q.last q.outs q.heads q.i
 fin q := Yy q.c q.l q.w q.now q.sure q.cs q.ts q.us q.busy q.n q.v q.has q.place q.mp q.tr q.last q.outs q.heads q.i
 Inv q := QaC q.c q.l q.w q.now q.sure q.cs q.ts q.us q.busy q.n q.v q.has q.place q.mp q.tr q.last q.outs q.heads q.i
 μ q := q.l.length - q.i
theorem QoB (c:Bool) (l:List Pick) (w:Int) (now:List Sector) (sure:List Sector) (cs:List Int) (ts:List Task) (us:List Task) (busy:List Bool) (n:Int) (v:Int) (has:List Int) (place:List Int) (mp:List (Int × Try)) (tr:List Try) (last:Int) (outs:List Int) (heads:List Int) (i:Nat) (hI:QaC c l w now sure cs ts us busy n v has place mp tr last outs heads i):Leaf (Qv3 c l w now sure cs ts us busy n v has place mp tr last outs heads i) (LedR Qe5 ⟨c,l,w,now,sure,cs,ts,us,busy,n,v,has,place,mp,tr,last,outs,heads,i⟩) := by
 (rw [Qv4];conv => zeta)
 unfold QaC at hI;obtain ⟨h1,h2,hws,⟨ds,hI⟩,hJ,ho,hh⟩ := hI;subst ho;subst hh;have ft:0 <= cs.getD 0 0 /\ cs.getD 0 0 <= 1048575 := (hI.sc.ty 0 (by decide) (by decide)).t0 rfl
 have v1:IntKind.i64.wrap (cs.getD 0 0 + 1) = cs.getD 0 0 + 1 := Qb (by omega) (by omega)
 by_cases hlt:i < l.length
 · have t_nat0:((i:Int)).toNat = i := by simp
   have w_succ:IntKind.i64.wrap ((i:Int) + 1) = ((i + 1:Nat):Int) := by rw [Qb (by omega) (by omega)];simp
   have d_lt:decide ((i:Int) < l.length) = true := by simp;omega
   have d_in:decide (0 <= (i:Int) /\ (i:Int) < l.length) = true := by simp;omega
   simp only [t_nat0,w_succ,d_lt,d_in,v1,cond_true];have hrun := Qot (w := w) hlt ⟨cs,now,sure,ts,us,busy,n,v,has,place,mp,tr,last⟩;have hfin:∀ s,runH w (l.drop i) ⟨cs,now,sure,ts,us,busy,n,v,has,place,mp,tr,last⟩ = s -> Yy c l w now sure cs ts us busy n v has place mp tr last (outL cs) (hdL cs) i = .leaf (.exit 0) [(4,.bool false)] (Qe4 c l w s.now s.sure s.cs s.ts s.us s.busy s.n s.v s.has s.place s.mp s.tr s.last (outL s.cs) (hdL s.cs) i) := fun s hs => by unfold Yy;rw [hs]
   have hfin := hfin _ hrun;clear hrun
   have hmem:(l.getD i ⟨0,0,0,[]⟩).writes.length <= 40 := by
    have e:l.getD i ⟨0,0,0,[]⟩ = l[i] := by simp [hlt]
    rw [e];exact hws _ (List.getElem_mem hlt)
   generalize l.getD i (⟨0,0,0,[]⟩:Pick) = x at hfin hmem ⊢;obtain ⟨ds',hp⟩ := hI.pick (eq := keq) (by omega) (by omega) x.client x.do_ x.back x.writes
   obtain ⟨hO,hJ'⟩ := hI.onceP (eq := keq) hJ (by omega) (by omega) x.client x.do_ x.back x.writes
   have k0:cdec (x.writes.length <= 40 /\ ∃ ds k,0 <= k /\ k <= 800000 /\ HI w ds k ⟨cs,now,sure,ts,us,busy,n,v,has,place,mp,tr,last⟩) = true := QD ⟨hmem,ds,2 * i,by omega,by omega,hI⟩
   generalize Zr keq w ⟨cs,now,sure,ts,us,busy,n,v,has,place,mp,tr,last⟩ x.client x.do_ x.back x.writes = P at *
   have hO:Once cs P.cs := hO;have q0:cdec (QaM P.cs (outL cs) 0) = true := QD (hO.out hp.sc);have q1:cdec (QaN P.cs (hdL cs) (cs.getD 0 0) 0) = true := QD (hO.hds hp.sc (.inr ft));have q2:decide ((0:Int) <= 0 /\ (0:Int) < (P.cs.length:Int)) = true := decide_eq_true ⟨by decide,by have := hp.sc.len;omega⟩
   refine lfT (by rw [k0];simp) (lfT q0 (lfT q1 (lfT q2 ?_)))
   rcases hO.fr with e | e
   · refine lfN (YU e) (lfT q2 ?_);exact Qw (S := Qe5) (s := ⟨c,l,w,now,sure,cs,ts,us,busy,n,v,has,place,mp,tr,last,outL cs,hdL cs,i⟩) ⟨c,l,w,P.now,P.sure,P.cs,P.ts,P.us,P.busy,P.n,P.v,P.has,P.place,P.mp,P.tr,P.last,outL P.cs,hdL P.cs,i + 1⟩ ⟨hlt,h2,hws,⟨ds',by rw [show 2 * ((i + 1:Nat):Int) = 2 * (i:Int) + 2 by omega];exact hp⟩,hJ',rfl,rfl⟩ (by show l.length - (i + 1) < l.length - i;omega) (by show (Yy c l w P.now P.sure P.cs P.ts P.us P.busy P.n P.v P.has P.place P.mp P.tr P.last (outL P.cs) (hdL P.cs) (i + 1)).val = (Yy c l w now sure cs ts us busy n v has place mp tr last (outL cs) (hdL cs) i).val;rw [hfin];rfl) rfl rfl
   · refine lfT (J0 (by omega)) (lfN (YU e) (lfT q2 ?_))
     exact Qw (S := Qe5) (s := ⟨c,l,w,now,sure,cs,ts,us,busy,n,v,has,place,mp,tr,last,outL cs,hdL cs,i⟩) ⟨c,l,w,P.now,P.sure,P.cs,P.ts,P.us,P.busy,P.n,P.v,P.has,P.place,P.mp,P.tr,P.last,outL P.cs,hdL P.cs,i + 1⟩ ⟨hlt,h2,hws,⟨ds',by rw [show 2 * ((i + 1:Nat):Int) = 2 * (i:Int) + 2 by omega];exact hp⟩,hJ',rfl,rfl⟩ (by show l.length - (i + 1) < l.length - i;omega) (by show (Yy c l w P.now P.sure P.cs P.ts P.us P.busy P.n P.v P.has P.place P.mp P.tr P.last (outL P.cs) (hdL P.cs) (i + 1)).val = (Yy c l w now sure cs ts us busy n v has place mp tr last (outL cs) (hdL cs) i).val;rw [hfin];rfl) rfl rfl
 · have hi:i = l.length := by omega
   have c1:decide ((i:Int) < l.length) = false := by simp;omega
   rw [c1];exact Qn (Qe4 c l w now sure cs ts us busy n v has place mp tr last (outL cs) (hdL cs) i) (by show (Yy c l w now sure cs ts us busy n v has place mp tr last (outL cs) (hdL cs) i).val = _;unfold Yy;rw [hi,List.drop_length];rfl) rfl
noncomputable def QuS (env:Env RC) (os:List (Obj RC)):Option (Bool × QsA) := match env,os with
 | [(4,.bool false),(5,.ptr 0 []),(6,.ptr 4 []),(7,.ptr 5 []),(8,.int .i64 x0),(25,.sl .pick c l),(26,.int .i64 x1),(27,.int .i64 x2)],[.var 50 (.acons (.ptr 1 []) (.acons (.int .i64 w) (.acons (.int .i64 n) (.acons (.int .i64 v) (.acons (.arr .int 4 has) (.acons (.arr .int 4 place) (.acons (.mp 2) (.acons (.vs 3 x3) (.acons (.int .i64 last) .anil))))))))),.var 44 (.acons (.acons (.sl .int false cs) (.acons (.acons (.sl .sector false now) (.acons (.sl .sector false sure) .anil)) .anil)) (.acons (.arr .task 4 ts) (.acons (.arr .task 4 us) (.acons (.arr .bool 4 busy) .anil)))),.map .int .tryd mp,.vec .tryd true tr,.var 77 (.arr .int 16 outs),.var 78 (.arr .int 24 heads)] => Qz (true) (decide (x0 = cs.getD 0 0) && decide (x1 = (l.length:Int)) && decide (x2 = 0) && decide (x3 = tr.length) && cdec (l.length <= 500 /\ (∀ x ∈ l,x.writes.length <= 40) /\ (∃ ds,HI w ds 0 ⟨cs,now,sure,ts,us,busy,n,v,has,place,mp,tr,last⟩) /\ HJ ⟨cs,now,sure,ts,us,busy,n,v,has,place,mp,tr,last⟩ /\ outs = outL cs /\ heads = hdL cs),⟨c,l,w,now,sure,cs,ts,us,busy,n,v,has,place,mp,tr,last,outs,heads,0⟩)
 | _,_ => none
noncomputable def uz_6 := uz_5.addLoop 7 8 (sumR s25 [.slot 5 0,.path 0 [0],.path 0 [6],.path 0 [7],.slot 6 0,.slot 7 0] [4,5,6,7,8,25,26,27] Qe5 QuS)
theorem JR:Qh Tryz.prog s25 uz_6 := by
 refine QoA.addRoundsR Qa (by kernel_rfl) Qe5 100 [4,5,6,7,8,25,26,27] [4] [.slot 5 0,.path 0 [0],.path 0 [6],.path 0 [7],.slot 6 0,.slot 7 0] [4,5,6,7,8,25,26,27] QuS (fun q hI => ?_) ?_
 · obtain ⟨c,l,w,now,sure,cs,ts,us,busy,n,v,has,place,mp,tr,last,outs,heads,i⟩ := q;refine ⟨?_,?_,QoB c l w now sure cs ts us busy n v has place mp tr last outs heads i hI⟩
   · simp_all [Ql,Qe5,QuR,Qe4,QaC,D.refs,Obj.refs,rEnc]
   · simp_all [Qe5,Yy,Qe4,QaC,RT.refsOK,Ql,D.refs,Obj.refs,rEnc]
 · intro env os b q hd_ hb;unfold QuS at hd_
   split at hd_
   · obtain ⟨hs,hd_⟩ := Qi hd_;cases hd_;simp only [Bool.and_eq_true,decide_eq_true_eq] at hb;obtain ⟨⟨⟨⟨e0,e1⟩,e2⟩,e3⟩,e4⟩ := hb;obtain ⟨e4,e5,e6,e7,e8,e9⟩ := QP.1 e4;subst e0;subst e1;subst e2;subst e3;exact ⟨⟨Nat.zero_le _,e4,e5,e6,e7,e8,e9⟩,rfl,rfl⟩
   · cases hd_
noncomputable def uzK:Fns RC := { uz_6 with keeps := fun f => (uz_6).keeps f || Nat.beq f 11 }
theorem Qrn:Qh Tryz.prog s25 uzK := ⟨JR.fn,JR.spec,JR.ospec,JR.loop⟩
noncomputable def Qe6 (c:Bool) (l:List Pick) (wide:Int) := evF s25 uzK 200 7 [.sl (C := RC) .pick c l,.int .i64 wide]
theorem Qro (c:Bool) (l:List Pick) (wide:Int):Qe6 c l wide = (let Z0:Nat := List.length l;let Z1:Int := (↑Z0:Int);let Z2:List Task := List.replicate (4:Nat) (Q0 RTy.task);let Z3:List Int := List.replicate (4:Nat) (0:Int);let Z4:HS := HS.mk QL QK QK Z2 Z2 (List.replicate (4:Nat) false) (0:Int) (0:Int) Z3 Z3 [] [] (0:Int);bif lenOK Z0 && List.all l fun (x:Pick) => lenOK (Pick.writes x).length then bif decide ((500:Int) < Z1) || List.any l bigP then some (D.bool true) else bif lenOK Z0 then bif decide (Z1 = Z1) && true && true && cdec (Z0 <= (500:Nat) /\ (∀ (x:Pick),x ∈ l -> List.length (Pick.writes x) <= (40:Nat)) /\ (∃ (ds:List HD),HI (IntKind.wrap .i64 ((2:Int) + Int.tmod (IntKind.wrap .i64 (Int.tmod wide (7:Int) + (7:Int))) (7:Int))) ds (0:Int) Z4) /\ HJ Z4 /\ List.replicate (16:Nat) (0:Int) = outL QL /\ List.replicate (24:Nat) (0:Int) = hdL QL) then some (D.bool true) else none else none else none) := by kernel_rfl
theorem Qrp (c:Bool) (l:List Pick) (wide:Int) (h:(lenOK l.length && (l.all fun x => lenOK x.writes.length)) = true):Qe6 c l wide = some (.bool true) := by
 (rw [Qro];conv => zeta)
 rw [Bool.and_eq_true] at h;obtain ⟨h1,h2⟩ := h;have a1:-7 < Int.tmod wide 7 := Int.lt_tmod_of_pos _ (by decide)
 have a2:Int.tmod wide 7 < 7 := Int.tmod_lt_of_pos _ (by decide)
 have a3:IntKind.i64.wrap (Int.tmod wide 7 + 7) = Int.tmod wide 7 + 7 := Qb (by omega) (by omega)
 have a4:Int.tmod (Int.tmod wide 7 + 7) 7 = (Int.tmod wide 7 + 7) % 7 := Int.tmod_eq_emod_of_nonneg (by omega)
 rw [a3,a4];have a5:IntKind.i64.wrap (2 + (Int.tmod wide 7 + 7) % 7) = 2 + (Int.tmod wide 7 + 7) % 7 := Qb (by omega) (by omega)
 rw [a5];simp only [h1,h2,Bool.and_self,cond_true]
 by_cases h5:l.length <= 500
 · have c1:decide ((500:Int) < (l.length:Int)) = false := decide_eq_false (by omega)
   simp only [c1,Bool.false_or];cases hb:l.any bigP
   · have hw:∀ x ∈ l,x.writes.length <= 40 := fun x hx => by
      have := List.any_eq_false.1 hb x hx;unfold bigP at this;rw [decide_eq_true_eq] at this;omega
     have k1:cdec (l.length <= 500 /\ (∀ x:Pick,x ∈ l -> x.writes.length <= 40) /\ (∃ ds,HI (2 + (Int.tmod wide 7 + 7) % 7) ds 0 ⟨QL,QK,QK,List.replicate 4 (Q0 RTy.task),List.replicate 4 (Q0 RTy.task),List.replicate 4 false,0,0,List.replicate 4 0,List.replicate 4 0,[],[],0⟩) /\ HJ ⟨QL,QK,QK,List.replicate 4 (Q0 RTy.task),List.replicate 4 (Q0 RTy.task),List.replicate 4 false,0,0,List.replicate 4 0,List.replicate 4 0,[],[],0⟩ /\ List.replicate 16 (0:Int) = outL QL /\ List.replicate 24 (0:Int) = hdL QL) = true := QD ⟨h5,hw,⟨[],QuF (by omega)⟩,QuM,Qrl.symm,QuL.symm⟩
     rw [cond_false,k1];simp only [decide_true,Bool.and_self,cond_true]
   · rfl
 · have c1:decide ((500:Int) < (l.length:Int)) = true := decide_eq_true (by omega)
   simp only [c1,Bool.true_or,cond_true]
open Go.ChangeShapes Go.WideShapes Go.RowKit
section
variable {C:Cdc}
def good (gA:(t:C.Ty) -> C.A t -> Prop):D C -> Prop
 | .int k n => k.min <= n /\ n <= k.max
 | .str s => s.length <= maxLen
 | .acons d ds => good gA d /\ good gA ds
 | .arr t n l => l.length = n /\ ∀ x ∈ l,gA t x
 | .sl t _ l => l.length <= maxLen /\ ∀ x ∈ l,gA t x
 | _ => True
def plainT (T:Tab C):Nat -> TypeId -> Bool
 | 0,_ => false
 | k + 1,t => match T.ty t with
  | .bool | .int _ | .str => true
  | .struct _ fs => fs.all (plainT T k)
  | .arr _ e _ => plainT T k e
  | .sl e _ => plainT T k e
  | _ => false
structure Dec (T:Tab C) (gA:(t:C.Ty) -> C.A t -> Prop):Prop where
 dec:∀ t d,fit T d (.inl (T.ety t)) = true -> d.refs = [] -> good gA d -> (∃ k u,T.ty u = T.ty (T.ety t) /\ plainT T k u = true) -> ∃ x,T.dec t d = some x /\ gA t x
variable {P:Program} {T:Tab C} {gA:(t:C.Ty) -> C.A t -> Prop}
def X0 (W:World):Cx := ⟨W,fun _ => none,fun _ _ => False⟩
theorem QuT (W:World) (b o:Nat):(X0 W).free b o := ⟨fun h => h,fun ⟨_,_,h,_⟩ => by simp [X0] at h⟩
theorem Qv5 {X:Cx} (t:C.Ty) (sz:Nat):∀ (n:Nat) (cs:List Value),cs.length = n * sz -> (∀ i,i < n -> ∃ x:C.A t,R T X false (T.enc t x) ((cs.drop (i * sz)).take sz) /\ gA t x) ->
 ∃ l:List (C.A t),R T X false (.arr t n l) cs /\ l.length = n /\ ∀ x ∈ l,gA t x
 | 0,cs,hl,_ => by
  obtain rfl:cs = [] := by simpa using hl
  exact ⟨[],.arr0 _,rfl,by simp⟩
 | n + 1,cs,hl,h => by
  obtain ⟨x,hx,gx⟩ := h 0 (by omega)
  obtain ⟨l,hr,hn,gl⟩ := Qv5 t sz n (cs.drop sz) (by rw [List.length_drop,hl,Nat.succ_mul];omega) fun i hi => by
   obtain ⟨y,hy,gy⟩ := h (i + 1) (by omega)
   refine ⟨y,?_,gy⟩;rw [List.drop_drop];rw [show sz + i * sz = (i + 1) * sz by rw [Nat.succ_mul];omega]
   exact hy
  refine ⟨x :: l,?_,by simp [hn],by simpa using ⟨gx,gl⟩⟩
  have := R.arrS hx hr
  simpa using this
theorem sl_R {W:World} (t:C.Ty) (b sz:Nat):∀ (n off:Nat),(∀ i,i < n -> ∃ (x:C.A t) (ci:List Value),R T (X0 W) false (T.enc t x) ci /\ ci.length = sz /\ (∀ j,j < sz -> W.cell? ⟨b,off + i * sz + j,none⟩ = ci[j]?) /\ gA t x) ->
 ∃ (l:List (C.A t)) (cs:List Value),R T (X0 W) false (.arr t n l) cs /\ l.length = n /\ (X0 W).at b off cs /\ ∀ x ∈ l,gA t x
 | 0,off,_ => ⟨[],[],.arr0 _,rfl,fun j v h => by simp at h,by simp⟩
 | n + 1,off,h => by
  obtain ⟨x,ci,hx,hlen,hc,gx⟩ := h 0 (by omega)
  obtain ⟨l,cs,hr,hn,hat,gl⟩ := sl_R t b sz n (off + sz) fun i hi => by
   obtain ⟨y,c2,hy,h2,h3,gy⟩ := h (i + 1) (by omega)
   refine ⟨y,c2,hy,h2,fun j hj => ?_,gy⟩;have := h3 j hj
   rwa [show off + (i + 1) * sz + j = off + sz + i * sz + j by rw [Nat.succ_mul];omega] at this
  refine ⟨x :: l,ci ++ cs,.arrS hx hr,by simp [hn],fun j v hj => ⟨?_,QuT _ _ _⟩,by simpa using ⟨gx,gl⟩⟩
  by_cases hlt:j < ci.length
  · rw [List.getElem?_append_left hlt] at hj;have := hc j (by omega)
    simp only [Nat.zero_mul,Nat.add_zero] at this;exact this.trans hj
  · rw [List.getElem?_append_right (by omega)] at hj
    have := (hat _ _ hj).1
    rwa [show off + sz + (j - ci.length) = off + j by omega] at this
theorem st_R {X:Cx}:∀ (fs:List TypeId) (cs:List Value),(∀ i f,fs[i]? = some f -> ∃ d,R T X false d ((cs.drop (QJ T (fs.take i))).take (T.size f)) /\ fit T d (.inl f) = true /\ good gA d /\ d.refs = []) ->
 ∃ d,R T X false d (cs.take (QJ T fs)) /\ fit T d (.inr fs) = true /\ good gA d /\ d.refs = [] /\ d.isRow = true /\ (∀ t a,T.ty t = .struct a fs -> fit T d (.inl t) = true)
 | [],cs,_ => ⟨.anil,by simpa [QJ] using R.anil,rfl,trivial,rfl,rfl,fun t a ht => by simp [fit,ht]⟩
 | f :: fs,cs,h => by
  obtain ⟨d,hd,fd,gd,rd⟩ := h 0 f rfl
  obtain ⟨ds,hr,fr,gr,rr,_,_⟩ := st_R fs (cs.drop (T.size f)) fun i g hg => by
   obtain ⟨e,he,h2⟩ := h (i + 1) g (by simpa using hg)
   refine ⟨e,?_,h2⟩
   simpa [QJ,List.drop_drop] using he
  refine ⟨.acons d ds,?_,by simp [fit,fd,fr],⟨gd,gr⟩,by simp [D.refs,rd,rr],rfl,fun t a ht => by simp [fit,ht,fd,fr]⟩
  have := R.acons hd hr
  simpa [QJ,List.take_add] using this
theorem QX {t:TypeId} {i:TypeInfo} (h:P.info? t = some i):P.cellsOf t = i.size := by
 simp [Program.cellsOf,h]
theorem Qv6 (K:Q5 P T) (hd:Dec T gA) {H:Type} {enc:TypeId × Value -> H} {W:World}:∀ (k:Nat) (t:TypeId),plainT T k t = true -> ∀ (fuel:Nat) (cs:List Value) (x:DataW H × List MemPlace),DataW.trod enc P W 0 (fun _ => true) true fuel t cs = some x ->
 ∃ d,R T (X0 W) false d cs /\ fit T d (.inl t) = true /\ good gA d /\ d.refs = [] := by
 intro k
 induction k with
 | zero => intro t h;simp [plainT] at h
 | succ k ih =>
  intro t hp fuel cs x h;unfold plainT at hp
  split at hp
  · rename_i ht;obtain ⟨b,rfl,_⟩ := DataW.trod_bool (K.uBool t ht) h;exact ⟨.bool b,.bool b,by simp [fit,ht],trivial,rfl⟩
  · rename_i kd ht;obtain ⟨n,rfl,_,hw⟩ := DataW.trod_int (K.uInt t kd ht) h;have hw':kd.min <= n /\ n <= kd.max := by simpa [Lit.wf] using hw
    exact ⟨.int kd n,.int hw',by simp [fit,ht],hw',rfl⟩
  · rename_i ht;obtain ⟨s,rfl,_,hs⟩ := DataW.trod_string (K.uStr t ht) h;exact ⟨.str s.data.toList,.str s.data.toList,by simp [fit,ht],by simpa [good] using hs,rfl⟩
  · rename_i isA fs ht;cases isA with
    | true =>
     obtain ⟨el,hu,hfs,hpos,inf,hi1,hi2⟩ := K.uRow t fs ht;obtain ⟨xs,m,_,_,hlen,hxs,hel⟩ := DataW.trod_array hu h
     have hget:∀ i f,fs[i]? = some f -> f = el /\ i < fs.length := fun i f hf => by
      have := (List.getElem?_eq_some_iff.1 hf).1;rw [hfs,List.getElem?_replicate] at hf;simp at hf;exact ⟨hf.2.symm,this⟩
     have hsum:∀ i,i <= fs.length -> QJ T (fs.take i) = i * T.size el := by
      intro i hi;rw [hfs,List.take_replicate,Nat.min_eq_left hi];clear hi
      induction i with
      | zero => simp [QJ]
      | succ i ih => simp only [List.replicate_succ,QJ,ih];rw [Nat.succ_mul];omega
     obtain ⟨d,hr,_,gd,rd,_,hfit⟩ := st_R (T := T) (X := X0 W) (gA := gA) fs cs fun i f hf => by
      obtain ⟨rfl,hi⟩ := hget i f hf;have := hel i hi;rw [QX hi1,hi2] at this;have hx:xs[i]? = some xs[i] := by simp [hxs,hi]
      rw [hx] at this;obtain ⟨d,h1,h2,h3,h4⟩ := ih f (List.all_eq_true.1 hp _ (List.mem_of_getElem? hf)) m _ _ this;refine ⟨d,?_,h2,h3,h4⟩;rw [hsum i (by omega)];exact h1
     obtain ⟨inf,hi1,hi2⟩ := K.info t d (hfit t _ ht);rw [QX hi1,hi2,K.base.szStruct t _ fs ht] at hlen;rw [<- hlen,List.take_length] at hr;exact ⟨d,hr,hfit t _ ht,gd,rd⟩
    | false =>
     obtain ⟨fields,hu,hfs,hoff,_⟩ := K.uStruct t fs ht;obtain ⟨xs,n,_,_,hlen,hxs,hel⟩ := DataW.trod_struct hu h
     obtain ⟨d,hr,_,gd,rd,_,hfit⟩ := st_R (T := T) (X := X0 W) (gA := gA) fs cs fun i f hf => by
      rw [<- hfs,List.getElem?_map] at hf;cases hfi:fields.toList[i]? with
      | none => simp [hfi] at hf
      | some fld =>
       simp only [hfi,Option.map_some,Option.some.injEq] at hf;have hfa:fields[i]? = some fld := by rw [<- Array.getElem?_toList];exact hfi
       have := hel i fld hfa
       have hx:∃ y,xs[i]? = some y := by
        have:i < fields.size := (Array.getElem?_eq_some_iff.1 hfa).1;exact ⟨xs[i],by simp [hxs,this]⟩
       obtain ⟨y,hy⟩ := hx;rw [hy] at this;subst hf;have hmem:fld.type ∈ fs := by rw [<- hfs];exact List.mem_map.2 ⟨fld,by exact List.mem_of_getElem? hfi,rfl⟩
       obtain ⟨d,h1,h2,h3,h4⟩ := ih fld.type (List.all_eq_true.1 hp _ hmem) n _ _ this;obtain ⟨inf,hi1,hi2,_⟩ := K.uField t fs fld.type ht hmem;refine ⟨d,?_,h2,h3,h4⟩;rw [hoff i fld hfa,QX hi1,hi2] at h1;exact h1
     obtain ⟨inf,hi1,hi2⟩ := K.info t d (hfit t _ ht);rw [QX hi1,hi2,K.base.szStruct t _ fs ht] at hlen;rw [<- hlen,List.take_length] at hr;exact ⟨d,hr,hfit t _ ht,gd,rd⟩
  · rename_i n e ct ht;obtain ⟨hu,_⟩ := K.uArr t n e ct ht;obtain ⟨xs,m,_,_,hlen,hxs,hel⟩ := DataW.trod_array hu h;obtain ⟨inf,z,hi1,hi2,_⟩ := K.uElem t e ct (.inl ⟨n,ht⟩);obtain ⟨it,hj1,hj2⟩ := K.info t (.arr ct n []) (by simp [fit,ht])
    obtain ⟨hs1,hs2,hs3⟩ := K.base.szArr t n e ct ht;rw [QX hj1,hj2,hs1] at hlen
    obtain ⟨l,hr,hn,gl⟩ := Qv5 (T := T) (X := X0 W) (gA := gA) ct (T.size e) n cs hlen fun i hi => by
     have := hel i hi;rw [QX hi1,hi2] at this;have hx:xs[i]? = some xs[i] := by simp [hxs,hi]
     rw [hx] at this;obtain ⟨d,h1,h2,h3,h4⟩ := ih e hp m _ _ this;obtain ⟨x,h5,h6⟩ := hd.dec ct d (by rw [<- Zi hs2];exact h2) h4 h3 ⟨k,e,hs2,hp⟩
     exact ⟨x,K.base.decR _ _ _ _ _ h5 h1,h6⟩
    exact ⟨.arr ct n l,hr,by simp [fit,ht],⟨hn,gl⟩,rfl⟩
  · rename_i e ct ht;have hu := K.uSl t e ct ht;obtain ⟨inf,z,hi1,hi2,_,_,hpos,_⟩ := K.uElem t e ct (.inr ht);obtain ⟨hs1,hs2,hs3⟩ := K.base.szSl t e ct ht;rcases DataW.trod_slice hu h with ⟨rfl,_⟩ | ⟨a,len,cap,elems,rest,m,_,rfl,_,_,hlc,hcm,hel,he,hrest,_⟩
    · exact ⟨.sl ct false [],.sl0 _ _ _,by simp [fit,ht],by simp [good],rfl⟩
    · by_cases hc0:cap = 0
      · subst hc0;obtain rfl:len = 0 := by omega
        exact ⟨.sl ct false [],.sl0 _ _ _,by simp [fit,ht],by simp [good],rfl⟩
      · have hspot:a.spot = none := by
         have key:∀ i y,i = 0 -> (W.cells? 0 (a.add (i * P.cellsOf e)) (P.cellsOf e)).bind (DataW.trod enc P W 0 (fun _ => true) true m e) = some y -> a.spot = none := by
          intro i y hi0 hy;subst hi0;rw [QX hi1,hi2] at hy;cases hcs:W.cells? 0 (a.add (0 * T.size e)) (T.size e) with
          | none => rw [hcs] at hy;cases hy
          | some ci =>
           obtain ⟨_,h2,h3⟩ := World.cells?_some hcs;have h4 := h3 0 hpos;have h5:ci[0]? = some ci[0] := by simp
           rw [h5] at h4;have := World.cell?_spot h4
           simpa [Addr.add] using this
         by_cases hl0:0 < len
         · have := he 0 hl0;have hx:elems[0]? = some elems[0] := by simp
           exact key 0 _ rfl (this.trans hx)
         · have hr2 := hrest rfl;have := hr2.2 0 (by omega)
           have h0:0 < rest.length := by omega
           have hx:rest[0]? = some rest[0] := by simp
           exact key _ _ (by omega) (this.trans hx)
        obtain ⟨b,off,sp⟩ := a;simp only at hspot;subst hspot
        obtain ⟨l,cs,hr,hn,hat,gl⟩ := sl_R (T := T) (W := W) (gA := gA) ct b (T.size e) len off fun i hi => by
         have := he i hi;have hx:elems[i]? = some elems[i] := by simp [hel,hi]
         rw [hx,QX hi1,hi2] at this;cases hcs:W.cells? 0 ((⟨b,off,none⟩:Addr).add (i * T.size e)) (T.size e) with
         | none => simp [hcs] at this
         | some ci =>
          simp only [hcs,Option.bind_some] at this;obtain ⟨_,h2,h3⟩ := World.cells?_some hcs;obtain ⟨d,k1,k2,k3,k4⟩ := ih e hp m _ _ this;obtain ⟨x,k5,k6⟩ := hd.dec ct d (by rw [<- Zi hs2];exact k2) k4 k3 ⟨k,e,hs2,hp⟩
          refine ⟨x,ci,K.base.decR _ _ _ _ _ k5 k1,h2,fun j hj => ?_,k6⟩;have := h3 j hj
          rwa [add_plain,add_plain] at this
        subst hn;exact ⟨.sl ct false l,.sl hat hr hlc (by simp),by simp [fit,ht],⟨by omega,gl⟩,rfl⟩
  · cases hp
theorem QiM (K:Q5 P T) {W:World} {r:Reach} {base:Nat} {t:TypeId} {v:Value} {d:D C} (hv:Value.okWide P W r base t v) (hp:∃ k,plainT T k t = true) (hf:fit T d (.inl t) = true) (hr:R T (X0 W) false d v.cells.toList) (hrf:d.refs = []):RV T (X0 W) d v := by
 obtain ⟨k,hp⟩ := hp;cases k with
 | zero => simp [plainT] at hp
 | succ k =>
  unfold plainT at hp
  split at hp
  · rename_i ht;obtain ⟨b,rfl⟩ := okWide_bool (K.uBool t ht) hv;refine .inr ⟨?_,by simpa [Value.cells] using hr⟩
    cases d <;> simp [fit,ht] at hf <;> rfl
  · rename_i kd ht;obtain ⟨b,rfl⟩ := okWide_int (K.uInt t kd ht) hv;refine .inr ⟨?_,by simpa [Value.cells] using hr⟩
    cases d <;> simp [fit,ht] at hf <;> rfl
  · rename_i ht;obtain ⟨b,rfl⟩ := okWide_string (K.uStr t ht) hv;refine .inr ⟨?_,by simpa [Value.cells] using hr⟩
    cases d <;> simp [fit,ht] at hf <;> rfl
  · rename_i isA fs ht
    have:∃ cs,v = .agg cs := by
     cases isA with
     | false =>
      obtain ⟨fields,hu,_⟩ := K.uStruct t fs ht;obtain ⟨cs,rfl,_⟩ := okWide_struct hu hv;exact ⟨cs,rfl⟩
     | true =>
      obtain ⟨el,hu,_⟩ := K.uRow t fs ht;simp only [Value.okWide,hu] at hv;obtain ⟨cs,rfl,_⟩ := hv;exact ⟨cs,rfl⟩
    obtain ⟨cs,rfl⟩ := this;refine .inl ⟨?_,cs.toList,by simpa [Value.cells] using hr,rfl⟩
    cases d <;> simp [fit,ht] at hf <;> rfl
  · rename_i n e ct ht;obtain ⟨hu,_⟩ := K.uArr t n e ct ht
    have:∃ cs,v = .agg cs := by
     simp only [Value.okWide,hu] at hv;obtain ⟨cs,rfl,_⟩ := hv;exact ⟨cs,rfl⟩
    obtain ⟨cs,rfl⟩ := this;refine .inl ⟨?_,cs.toList,by simpa [Value.cells] using hr,rfl⟩
    cases d <;> simp [fit,ht] at hf <;> rfl
  · rename_i e ct ht;obtain ⟨a,len,cap,rfl⟩ := okWide_slice (K.uSl t e ct ht) hv;refine .inr ⟨?_,by simpa [Value.cells] using hr⟩
    cases d <;> simp [fit,ht] at hf <;> rfl
  · cases hp
inductive Fits (T:Tab C) (gA:(t:C.Ty) -> C.A t -> Prop):List TypeId -> List (D C) -> Prop
 | nil:Fits T gA [] []
 | cons {t:TypeId} {ts:List TypeId} {d:D C} {ds:List (D C)} (hf:fit T d (.inl t) = true) (hg:good gA d) (hr:d.refs = []) (h:Fits T gA ts ds):Fits T gA (t :: ts) (d :: ds)
theorem Fits.refs {ts:List TypeId} {ds:List (D C)} (h:Fits T gA ts ds):∀ a ∈ ds,D.refs a = [] := by
 induction h with
 | nil => simp
 | cons _ _ hr _ ih => simpa using ⟨hr,ih⟩
theorem Qd4 (K:Q5 P T) (hd:Dec T gA) {H:Type} {enc:TypeId × Value -> H} {W:World} {r:Reach} {base:Nat}:∀ (ts:List TypeId) (vs:List Value) (ds:List (DataW H)) (ps:List MemPlace),(∀ t ∈ ts,∃ k,plainT T k t = true) ->
 (∀ (j:Nat) t v,ts[j]? = some t -> vs[j]? = some v -> Value.okWide P W r base t v) -> DataW.TrodAll enc P W 0 (fun _ => true) true ts vs ds ps -> ∃ al,Fits T gA ts al /\ RVs T (X0 W) al vs
 | [],vs,ds,ps,_,_,h => by
  obtain ⟨rfl,rfl,rfl⟩ := trodAll_nil h;exact ⟨[],.nil,.nil⟩
 | t :: ts,vs,ds,ps,hp,hv,h => by
  obtain ⟨v,vs1,d,ds1,p,q,rfl,rfl,rfl,⟨fuel,h1⟩,h2⟩ := trodAll_cons h;obtain ⟨al,f1,r1⟩ := Qd4 K hd ts vs1 ds1 q (fun t ht => hp t (by simp [ht])) (fun j t v a b => hv (j + 1) t v (by simpa using a) (by simpa using b)) h2
  obtain ⟨k,hk⟩ := hp t (by simp)
  obtain ⟨a,k1,k2,k3,k4⟩ := Qv6 K hd k t hk fuel _ _ h1;exact ⟨a :: al,.cons k2 k3 k4 f1,.cons (QiM K (hv 0 t v rfl rfl) ⟨k,hk⟩ k2 k1 k4) r1⟩
theorem Qv7 (hl:laidOutB P = true) {H:Type} {enc:TypeId × Value -> H} {W W':World} {sp:Nat -> Bool}:∀ (ts:List TypeId) (vs:List Value) (ds:List (DataW H)) (ps:List MemPlace),(∀ t ∈ ts,P.readableRec t = true /\ t < P.types.size) ->
 DataW.TrodAll enc P W 0 (fun _ => true) true ts vs ds ps -> (∀ p ∈ ps,W.sameAt W' p) -> (∀ p ∈ ps,sp p.block = true) -> DataW.TrodAll enc P W' 0 sp true ts vs ds ps
 | [],vs,ds,ps,_,h,_,_ => by
  obtain ⟨rfl,rfl,rfl⟩ := trodAll_nil h;exact trodAll_mk0
 | t :: ts,vs,ds,ps,ht,h,h3,h4 => by
  obtain ⟨v,vs1,d,ds1,p,q,rfl,rfl,rfl,h1,h2⟩ := trodAll_cons h
  exact trodAll_cons_mk (WideElems.Trod_stays hl (ht t (by simp)).1 (ht t (by simp)).2 h1 (fun x hx => h3 x (by simp [hx])) (fun x hx => h4 x (by simp [hx])))
   (Qv7 hl ts vs1 ds1 q (fun t h => ht t (by simp [h])) h2 (fun x hx => h3 x (by simp [hx])) (fun x hx => h4 x (by simp [hx])))
theorem Qcf {H:Type} {enc:TypeId × Value -> H} {f:Func} {s:ChangeSpec} {apart fresh handsOn again:Bool} {W W':World} {args:Array Value} {v:Value} {ds gs:List (DataW H)} {before pa pv:List MemPlace}
 (hW:DataW.Whole enc P f.params.toList s.vars apart W args.toList ds gs before)
 (hres:∀ (b:Nat) (sp:Nat -> Bool) (hd:Bool),DataW.TrodAll enc P W' b sp hd f.resultTypes.toList (v.resultList f.resultTypes.size) (s.fn H (ds ++ gs)).results [])
 (hargs:∀ sp:Nat -> Bool,(∀ p ∈ before,sp p.block = true) -> DataW.TrodAll enc P W' 0 sp true f.params.toList args.toList (s.fn H (ds ++ gs)).args pa)
 (hvars:∀ sp:Nat -> Bool,(∀ p ∈ before,sp p.block = true) -> DataW.TrodVars enc P W' sp s.vars (s.fn H (ds ++ gs)).vars pv)
 (hps:before = pa ++ pv) (hk:W.keptBut W' (· ∈ before)) (hfz:∀ a:Addr,a.block < W.heap.size -> W'.frozen? a = W.frozen? a)
 (hok:∀ (j:Nat) (t:TypeId) (r:Value),f.resultTypes[j]? = some t -> (v.resultList f.resultTypes.size)[j]? = some r -> Value.okWide P W' .any 0 t r) :
 s.post enc P f apart fresh handsOn again W args v W' := by
 have hold:∀ p ∈ before,(fun b => decide (b < W.heap.size)) p.block = true := fun p hp => by simpa using hW.lt p hp
 refine ⟨ds,gs,before,[],pa,pv,hW,hres _ _ _,hargs _ hold,hvars _ hold,World.keptBut_mono (fun p hp => ⟨hp,?_⟩) hk,fun _ => ?_⟩
 · rw [hps,List.mem_append] at hp;exact Or.inr hp
 · have hlt := hW.lt;obtain ⟨_,_,_,_,_,hz,hn⟩ := hW;refine ⟨hok,_,_,([] ++ pa) ++ pv,⟨[] ++ pa,pv,trodAll_append (hargs _ (fun _ _ => rfl)) (hres _ _ _),hvars _ (fun _ _ => rfl),rfl,?_,?_⟩,?_⟩
   · intro b off hp;have hb:MemPlace.cell b off ∈ before := by rw [hps];simpa using hp
     rw [hfz _ (by simpa [MemPlace.block] using hlt _ hb)]
     exact hz b off hb
   · intro ha;have := hn ha;rw [hps] at this
     simpa using this
   · intro p hp _;rw [hps]
     simpa using hp
theorem Qe7 (K:Q5 P T) {Φ:Fns C} (F:Qh P T Φ) (hd:Dec T gA) (hl:laidOutB P = true) {f:FuncId} {fn:Func} {s:ChangeSpec} {tb:TypeId} {m:Nat}
 (hres:fn.resultTypes = #[tb]) (hb:P.underlying tb = some .bool) (hvars:s.vars = [])
 (hts:fn.params.toList.all (fun t => plainT T m t && P.readableRec t && Nat.blt t P.types.size) = true)
 (hspec:∀ (H:Type) (ds:List (DataW H)),ds.length = fn.params.toList.length -> s.fn H ds = { results := [.lit (.bool true)],args := ds })
 (hev:∀ ds:List (D C),Fits T gA fn.params.toList ds -> ∃ n,evF T Φ n f ds = some (.bool true))
 (H:Type) (enc:TypeId × Value -> H) (W:World) (base:Nat) (args:Array Value) (ds gs:List (DataW H)) (before:List MemPlace)
 (hval:∀ (j:Nat) t v,fn.params[j]? = some t -> args[j]? = some v -> Value.okWide P W .any base t v)
 (hW:DataW.Whole enc P fn.params.toList s.vars false W args.toList ds gs before) :
 Calls P f args W fun e W' => ∃ v,e = .returned v /\ s.post enc P fn false true false false W args v W' := by
 have hts':∀ t ∈ fn.params.toList,plainT T m t = true /\ P.readableRec t = true /\ t < P.types.size := by
  intro t ht;have := List.all_eq_true.1 hts t ht;simp only [Bool.and_eq_true] at this;exact ⟨this.1.1,this.1.2,by simpa [Nat.blt_eq] using this.2⟩
 have hW' := hW;obtain ⟨p,q,hA,hV,rfl,hfz,hnd⟩ := hW;rw [hvars] at hV;obtain ⟨rfl,rfl⟩ := trodVars_none hV;obtain ⟨al,hf,hr⟩ := Qd4 (gA := gA) K hd (r := .any) (base := base) _ _ _ _ (fun t ht => ⟨m,(hts' t ht).1⟩) (fun j t v a b => hval j t v (by rw [<- Array.getElem?_toList];exact a) (by rw [<- Array.getElem?_toList];exact b)) hA
 obtain ⟨n,hn⟩ := hev al hf;have hc := (QcH K F hn hf.refs W (fun _ _ => False) (fun _ _ h => h.elim) (vs := args.toList) hr).2;have ea:(⟨args.toList⟩:Array Value) = args := by simp
 rw [ea] at hc;refine hc.mono fun e W' hp => ?_;obtain ⟨v,ρ,rfl,rv,a1,a2,a3,a4,a5,a6⟩ := hp;obtain rfl := rv.bool
 have hlen:ds.length = fn.params.toList.length := by
  have:∀ (ts:List TypeId) (vs:List Value) (ds:List (DataW H)) (ps:List MemPlace),DataW.TrodAll enc P W 0 (fun _ => true) true ts vs ds ps -> ds.length = ts.length := by
   intro ts
   induction ts with
   | nil => intro vs ds ps h;obtain ⟨rfl,rfl,rfl⟩ := trodAll_nil h;rfl
   | cons t ts ih =>
    intro vs ds ps h;obtain ⟨v,vs1,d,ds1,p,q,rfl,rfl,rfl,h1,h2⟩ := trodAll_cons h;simp [ih _ _ _ h2]
  exact this _ _ _ _ hA
 have hs := hspec H ds hlen;have hbel:Below W.heap.size W W' := ⟨a3,a4,a5,a1,a2⟩;have hlt:∀ x ∈ p,x.block < W.heap.size := fun x hx => by simpa using hW'.lt x (by simpa using hx)
 refine ⟨_,rfl,Qcf (pa := p) (pv := []) hW' ?_ ?_ ?_ (by simp) (hbel.frame _) a6 ?_⟩
 · intro b sp hd;simp only [List.append_nil];rw [hs,hres];exact trodAll_cons_mk (p := []) (p' := []) (shut_bool hb _) trodAll_mk0
 · intro sp hsp;simp only [List.append_nil] at hsp ⊢;rw [hs];exact Qv7 hl _ _ _ _ (fun t ht => (hts' t ht).2) hA (fun x hx => hbel.same (hlt x hx)) hsp
 · intro sp hsp;simp only [List.append_nil];rw [hs,hvars];rfl
 · exact ok_one hres rfl (okWide_bool_mk hb _)
end
def i64 (n:Int):Prop := -9223372036854775808 <= n /\ n <= 9223372036854775807
def inK (k:IntKind) (n:Int):Prop := k.min <= n /\ n <= k.max
theorem Zh {n:Int} (h:IntKind.i64.min <= n /\ n <= IntKind.i64.max):i64 n := by
 simpa [i64,IntKind.min,IntKind.max,IntKind.signed,IntKind.bits] using h
section
variable {C:Cdc} {T:Tab C} {d:D C} {u:TypeId}
theorem QO {k:IntKind} (hu:T.ty u = .int k) (hf:fit T d (.inl u) = true):∃ n,d = .int k n := by
 cases d <;> simp [fit,hu] at hf
 subst hf;exact ⟨_,rfl⟩
theorem Qcg (hu:T.ty u = .bool) (hf:fit T d (.inl u) = true):∃ n,d = .bool n := by
 cases d <;> simp [fit,hu] at hf
 exact ⟨_,rfl⟩
theorem QuU (hu:T.ty u = .str) (hf:fit T d (.inl u) = true):∃ n,d = .str n := by
 cases d <;> simp [fit,hu] at hf
 exact ⟨_,rfl⟩
theorem QaD {e:TypeId} {t:C.Ty} (hu:T.ty u = .sl e t) (hf:fit T d (.inl u) = true) (hr:d.refs = []):∃ c l,d = .sl t c l := by
 cases d <;> simp [fit,hu] at hf
 · subst hf;exact ⟨_,_,rfl⟩
 · simp [D.refs] at hr
 · simp [D.refs] at hr
theorem QuV {e:TypeId} {t:C.Ty} {n:Nat} (hu:T.ty u = .arr n e t) (hf:fit T d (.inl u) = true):∃ l,d = .arr t n l := by
 cases d <;> simp [fit,hu] at hf
 obtain ⟨h1,h2⟩ := hf;subst h1;subst h2;exact ⟨_,rfl⟩
theorem JS {a:Bool} {f:TypeId} {fs:List TypeId} (hu:T.ty u = .struct a (f :: fs)) (hf:fit T d (.inl u) = true):∃ x y,d = .acons x y /\ fit T x (.inl f) = true /\ fit T y (.inr fs) = true := by
 cases d <;> simp [fit,hu] at hf
 exact ⟨_,_,rfl,hf.1,hf.2⟩
theorem QI {f:TypeId} {fs:List TypeId} (hf:fit T d (.inr (f :: fs)) = true):∃ a b,d = .acons a b /\ fit T a (.inl f) = true /\ fit T b (.inr fs) = true := by
 cases d <;> simp [fit] at hf
 exact ⟨_,_,rfl,hf.1,hf.2⟩
theorem Y6 (hf:fit T d (.inr []) = true):d = .anil := by
 cases d <;> simp [fit] at hf
 rfl
end
end Go.Ev
