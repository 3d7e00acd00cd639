/-
  Each action of installs and of helping, whatever is begun and picked, is the document's: HelpPlays holds of every list of picks and every width. (text 7)
-/
import Derived.Test.YtnopcebdncdbgaaGreatP5
import Derived.OpenShut
import Derived.ReadAgain
import Derived.WalkKit
import Derived.ProofKit
import Derived.Test.YtnopcebdncdbgaaGreatRows
namespace Go.Ev
open Go.Proofs
set_option maxRecDepth 100000
set_option linter.unusedVariables false
set_option linter.unusedSimpArgs false
def rfC : Code -> Option (Code × Code)
 | .rangeFunc _ _ a b => some (a,b)
 | .seq a b => (match rfC a with | some x => some x | none => rfC b)
 | .cond _ a b => (match rfC a with | some x => some x | none => rfC b)
 | .block _ b => rfC b
 | .loop b => rfC b
 | .scope b => rfC b
 | _ => none
noncomputable def rfF (f : Nat) : Code × Code := match p0.fn f with
 | some fn => (match fn.body with
  | some b => (match rfC b with | some x => x | none => (.skip,.skip))
  | none => (.skip,.skip))
 | none => (.skip,.skip)
noncomputable def keq : Int -> Int -> Bool := Jn s25 .int
noncomputable def stdA : Code := (rfF 56).1
noncomputable def stdB : Code := (rfF 56).2
structure QgT where
 c : Bool
 cs : List Int
 a : Bool
 now : List Sector
 b : Bool
 sure : List Sector
 w : Int
 l : List Int
 f : Int
 p : Int
noncomputable def QeW (c : Bool) (cs : List Int) (a : Bool) (now : List Sector) (b : Bool) (sure : List Sector) (w : Int) (l : List Int) (f : Int) (p : Int) : Env RC := [(0,.yl 17 [4] [10,11] (stdA) (stdB) (.acons (.ptr 2 []) .anil)),(1,.ptr 0 []),(2,.ptr 1 []),(4,.int .i64 f),(5,.int .i64 p)]
def Yn (c : Bool) (cs : List Int) (a : Bool) (now : List Sector) (b : Bool) (sure : List Sector) (w : Int) (l : List Int) (f : Int) (p : Int) : List (Obj RC) := [.var 37 (.acons (.sl (C := RC) .int c cs) (.acons (.acons (.sl (C := RC) .sector a now) (.acons (.sl (C := RC) .sector b sure) .anil)) .anil)),.var 3 (.int .i64 w),.var 32 (.vs 3 (l.length)),.vec .int true l]
noncomputable def Qn5 (c : Bool) (cs : List Int) (a : Bool) (now : List Sector) (b : Bool) (sure : List Sector) (w : Int) (l : List Int) (f : Int) (p : Int) := rndO s25 ut_2 161 4 120 4 [0,1,2,4,5] [] [.slot 1 0,.slot 2 0,.slot 0 0,.path 2 []] (QeW c cs a now b sure w l f p) (Yn c cs a now b sure w l f p)
theorem Qrn (c : Bool) (cs : List Int) (a : Bool) (now : List Sector) (b : Bool) (sure : List Sector) (w : Int) (l : List Int) (f : Int) (p : Int) : Qn5 c cs a now b sure w l f p = (let Z0 : Int := List.getD cs (lRing p w).toNat (0 : Int);let Z1 : Option (Obj RC) := some (Obj.var 37 (.acons (D.sl RTy.int c cs) (.acons (D.acons (D.sl RTy.sector a now) (.acons (D.sl RTy.sector b sure) .anil)) .anil)));let Z2 : Option (Obj RC) := some (Obj.var 3 (D.int .i64 w));let Z3 : Nat := List.length l;let Z4 : List (Option (Obj RC)) := [Z1,Z2,some (Obj.var 32 (D.vs 3 Z3)),some (Obj.vec RTy.int true l)];let Z5 : Nat := Z3 + List.length [bare Z0];bif decide (p <= IntKind.wrap .i64 (f + w)) then bif decide ((0 : Int) <= lRing p w /\ lRing p w < (↑cs.length : Int)) then bif plc Z0 != p then some ((X.ret,[]),Z4) else bif Nat.beq Z3 Z3 && Qh Z5 (8 : Nat) then some ((X.normal,[(0,D.yl (17 : Nat) [(4 : Nat)] [(10 : Nat),(11 : Nat)] stdA stdB (D.acons (D.ptr 2 []) .anil)),(1,D.ptr 0 []),(2,D.ptr 1 []),(4,D.int .i64 f),(5,D.int .i64 (IntKind.wrap .i64 (p + 1)))]),[Z1,Z2,some (Obj.var 32 (D.vs 3 Z5)),some (Obj.vec RTy.int true (l ++ [bare Z0]))]) else none else none else some ((X.exit (0 : Nat),[]),Z4)) := by kernel_rfl
noncomputable def Zo (c : Bool) (cs : List Int) (a : Bool) (now : List Sector) (b : Bool) (sure : List Sector) (w : Int) (l : List Int) (f : Int) (p : Int) : RT RC := .br (decide ((insL cs w (f + w + 1 - p).toNat p).length = (f + w + 1 - p).toNat)) (.leaf (.exit 0) [] (Yn c cs a now b sure w (l ++ insL cs w (f + w + 1 - p).toNat p) f p)) (.leaf .ret [] (Yn c cs a now b sure w (l ++ insL cs w (f + w + 1 - p).toNat p) f p))
def VC (c : Bool) (cs : List Int) (a : Bool) (now : List Sector) (b : Bool) (sure : List Sector) (w : Int) (l : List Int) (f : Int) (p : Int) : Prop := QdZ cs w f (p - f) l
noncomputable def Y7 : QT RC QgT where
 k := 4
 canon q := QeW q.c q.cs q.a q.now q.b q.sure q.w q.l q.f q.p
 objs q := Yn q.c q.cs q.a q.now q.b q.sure q.w q.l q.f q.p
 fin q := Zo q.c q.cs q.a q.now q.b q.sure q.w q.l q.f q.p
 Inv q := VC q.c q.cs q.a q.now q.b q.sure q.w q.l q.f q.p
 μ q := (q.f + q.w + 1 - q.p).toNat
theorem QeX (c : Bool) (cs : List Int) (a : Bool) (now : List Sector) (b : Bool) (sure : List Sector) (w : Int) (l : List Int) (f : Int) (p : Int) (hI : VC c cs a now b sure w l f p) : Leaf (Qn5 c cs a now b sure w l f p) (LedR Y7 ⟨c,cs,a,now,b,sure,w,l,f,p⟩) := by
 (rw [Qrn];conv => zeta)
 unfold VC at hI;obtain ⟨hl,hw,hf,hi,hn⟩ := hI;have w1 : IntKind.i64.wrap (f + w) = f + w := Qc (by omega) (by omega)
 have w2 : IntKind.i64.wrap (p + 1) = p + 1 := Qc (by omega) (by omega)
 have hfin : ∀ L,insL cs w (f + w + 1 - p).toNat p = L -> Zo c cs a now b sure w l f p = .br (decide (L.length = (f + w + 1 - p).toNat)) (.leaf (.exit 0) [] (Yn c cs a now b sure w (l ++ L) f p)) (.leaf .ret [] (Yn c cs a now b sure w (l ++ L) f p)) := fun L hL => by unfold Zo;rw [hL]
 by_cases hp : p <= f + w
 · obtain ⟨m,hm⟩ : ∃ m,(f + w + 1 - p).toNat = m + 1 := ⟨(f + w - p).toNat,by omega⟩
   have hm2 : (f + w + 1 - (p + 1)).toNat = m := by omega
   have hr := VS (p := p) (by omega) hw
   have d1 : decide (0 <= lRing p w /\ lRing p w < (cs.length : Int)) = true := decide_eq_true ⟨by omega,by omega⟩
   have hD : insL cs w (m + 1) p = if plc (stdW cs w p) = p then bare (stdW cs w p) :: insL cs w m (p + 1) else [] := rfl
   have eS : cs.getD (lRing p w).toNat 0 = stdW cs w p := rfl;have sz : Qh (l.length + [bare (stdW cs w p)].length) 8 = true := Vd (by simp only [List.length_cons,List.length_nil];omega)
   rw [hm] at hfin;simp only [w1,w2,decide_eq_true hp,d1,eS,sz,VY rfl,Bool.and_self,cond_true]
   by_cases hq : plc (stdW cs w p) = p
   · rw [YD hq,cond_false];have hfin := hfin _ (hD.trans (if_pos hq));refine QB (S := Y7) (s := ⟨c,cs,a,now,b,sure,w,l,f,p⟩) ⟨c,cs,a,now,b,sure,w,l ++ [bare (stdW cs w p)],f,p + 1⟩ ⟨hl,hw,hf,by show 1 <= p + 1 - f /\ p + 1 - f <= w + 1;omega,by show (l ++ [bare (stdW cs w p)]).length + (w + 1 - (p + 1 - f)).toNat <= 8;simp only [List.length_append,List.length_cons,List.length_nil];omega⟩ (by show (f + w + 1 - (p + 1)).toNat < (f + w + 1 - p).toNat;omega) ?_ rfl ?_
     · show (Zo c cs a now b sure w (l ++ [bare (stdW cs w p)]) f (p + 1)).val = (Zo c cs a now b sure w l f p).val;rw [hfin];unfold Zo;rw [hm2,show decide ((bare (stdW cs w p) :: insL cs w m (p + 1)).length = m + 1) = decide ((insL cs w m (p + 1)).length = m) by simp,List.append_assoc]
       rfl
     · simp only [Y7,Yn,List.map_cons,List.map_nil,List.length_append]
   · rw [J4 hq,cond_true];have hfin := hfin _ (hD.trans (if_neg hq));refine QZ (S := Y7) (s := ⟨c,cs,a,now,b,sure,w,l,f,p⟩) (Yn c cs a now b sure w l f p) ?_ rfl;show (Zo c cs a now b sure w l f p).val = _;rw [hfin,decide_eq_false (by simp),List.append_nil]
     rfl
 · have hm : (f + w + 1 - p).toNat = 0 := by omega
   rw [hm] at hfin;simp only [w1,decide_eq_false hp,cond_false];refine Qn (S := Y7) (s := ⟨c,cs,a,now,b,sure,w,l,f,p⟩) (Yn c cs a now b sure w l f p) ?_ rfl;show (Zo c cs a now b sure w l f p).val = _;rw [hfin [] rfl,List.append_nil];rfl
noncomputable def QeY (env : Env RC) (os : List (Obj RC)) : Option (Bool × QgT) := match env,os with
 | [(0,.yl 17 [4] [10,11] x0 x1 (.acons (.ptr 2 []) .anil)),(1,.ptr 0 []),(2,.ptr 1 []),(4,.int .i64 f),(5,.int .i64 p)],[.var 37 (.acons (.sl .int c cs) (.acons (.acons (.sl .sector a now) (.acons (.sl .sector b sure) .anil)) .anil)),.var 3 (.int .i64 w),.var 32 (.vs 3 x2),.vec .int true l] => QA (true) (cdec (x0 = stdA) && cdec (x1 = stdB) && decide (x2 = l.length) && cdec (QdZ cs w f (p - f) l),⟨c,cs,a,now,b,sure,w,l,f,p⟩)
 | _,_ => none
noncomputable def uu_1 := ut_2.addLoop 161 4 (sumR s25 [.slot 1 0,.slot 2 0,.slot 0 0,.path 2 []] [0,1,2,4,5] Y7 QeY)
theorem Qn6 : Qi Tryz.prog s25 uu_1 := by
 refine QnM.addRoundsR Qb (by kernel_rfl) Y7 120 [0,1,2,4,5] [] [.slot 1 0,.slot 2 0,.slot 0 0,.path 2 []] [0,1,2,4,5] QeY (fun q hI => ?_) ?_
 · obtain ⟨c,cs,a,now,b,sure,w,l,f,p⟩ := q;refine ⟨?_,?_,QeX c cs a now b sure w l f p hI⟩
   · simp_all [Qm,Y7,QeW,Yn,VC,D.refs,Obj.refs,rEnc]
   · simp_all [Y7,Zo,Yn,VC,RT.refsOK,Qm,D.refs,Obj.refs,rEnc]
 · intro env os b q hd_ hb;unfold QeY at hd_
   split at hd_
   · obtain ⟨hs,hd_⟩ := Qj hd_;cases hd_;simp only [Bool.and_eq_true,decide_eq_true_eq] at hb;obtain ⟨⟨⟨e0,e1⟩,e2⟩,e3⟩ := hb;have e0 := QF.1 e0;have e1 := QF.1 e1;subst e0;subst e1;subst e2;exact ⟨QF.1 e3,rfl,rfl⟩
   · cases hd_
structure QgU where
 c : Bool
 cs : List Int
 a : Bool
 now : List Sector
 b : Bool
 sure : List Sector
 w : Int
 l : List Int
 f : Int
 i : Int
noncomputable def Qb9 (c : Bool) (cs : List Int) (a : Bool) (now : List Sector) (b : Bool) (sure : List Sector) (w : Int) (l : List Int) (f : Int) (i : Int) : Env RC := [(1,.int .i64 w),(2,.ptr 0 []),(5,.vs 1 (l.length)),(6,.int .i64 f),(7,.int .i64 i)]
def VD (c : Bool) (cs : List Int) (a : Bool) (now : List Sector) (b : Bool) (sure : List Sector) (w : Int) (l : List Int) (f : Int) (i : Int) : List (Obj RC) := [.var 37 (.acons (.sl (C := RC) .int c cs) (.acons (.acons (.sl (C := RC) .sector a now) (.acons (.sl (C := RC) .sector b sure) .anil)) .anil)),.vec .int true l]
noncomputable def Qn7 (c : Bool) (cs : List Int) (a : Bool) (now : List Sector) (b : Bool) (sure : List Sector) (w : Int) (l : List Int) (f : Int) (i : Int) := rndO s25 uu_1 59 8 100 2 [1,2,5,6,7] [5] [.slot 2 0,.slot 5 0] (Qb9 c cs a now b sure w l f i) (VD c cs a now b sure w l f i)
theorem Qro (c : Bool) (cs : List Int) (a : Bool) (now : List Sector) (b : Bool) (sure : List Sector) (w : Int) (l : List Int) (f : Int) (i : Int) : Qn7 c cs a now b sure w l f i = (let Z0 : Int := IntKind.wrap .i64 (f + i);let Z1 : Int := lRing Z0 w;let Z2 : Int := List.getD cs Z1.toNat (0 : Int);let Z3 : Nat := List.length l;let Z4 : Option (Obj RC) := some (Obj.var 37 (.acons (D.sl RTy.int c cs) (.acons (D.acons (D.sl RTy.sector a now) (.acons (D.sl RTy.sector b sure) .anil)) .anil)));let Z5 : RO_ := some ((X.exit (0 : Nat),[(5,D.vs 1 Z3)]),[Z4,some (Obj.vec RTy.int true l)]);let Z6 : Nat := Z3 + List.length [bare Z2];bif decide (i <= w) then bif decide ((0 : Int) <= Z1 /\ Z1 < (↑cs.length : Int)) then bif plc Z2 != Z0 then Z5 else bif Nat.beq Z3 Z3 && Qh Z6 (8 : Nat) then some ((X.normal,[(1,D.int .i64 w),(2,D.ptr 0 []),(5,D.vs 1 Z6),(6,D.int .i64 f),(7,D.int .i64 (IntKind.wrap .i64 (i + (1 : Int))))]),[Z4,some (Obj.vec RTy.int true (l ++ [bare Z2]))]) else none else none else Z5) := by kernel_rfl
noncomputable def Zp (c : Bool) (cs : List Int) (a : Bool) (now : List Sector) (b : Bool) (sure : List Sector) (w : Int) (l : List Int) (f : Int) (i : Int) : RT RC := .leaf (.exit 0) [(5,.vs 1 (l ++ insL cs w (w + 1 - i).toNat (f + i)).length)] (VD c cs a now b sure w (l ++ insL cs w (w + 1 - i).toNat (f + i)) f i)
def VE (c : Bool) (cs : List Int) (a : Bool) (now : List Sector) (b : Bool) (sure : List Sector) (w : Int) (l : List Int) (f : Int) (i : Int) : Prop := QdZ cs w f i l
noncomputable def Y8 : QT RC QgU where
 k := 2
 canon q := Qb9 q.c q.cs q.a q.now q.b q.sure q.w q.l q.f q.i
 objs q := VD q.c q.cs q.a q.now q.b q.sure q.w q.l q.f q.i
 fin q := Zp q.c q.cs q.a q.now q.b q.sure q.w q.l q.f q.i
 Inv q := VE q.c q.cs q.a q.now q.b q.sure q.w q.l q.f q.i
 μ q := (q.w + 1 - q.i).toNat
theorem QeZ (c : Bool) (cs : List Int) (a : Bool) (now : List Sector) (b : Bool) (sure : List Sector) (w : Int) (l : List Int) (f : Int) (i : Int) (hI : VE c cs a now b sure w l f i) : Leaf (Qn7 c cs a now b sure w l f i) (LedR Y8 ⟨c,cs,a,now,b,sure,w,l,f,i⟩) := by
 (rw [Qro];conv => zeta)
 unfold VE at hI;obtain ⟨hl,hw,hf,hi,hn⟩ := hI;have w1 : IntKind.i64.wrap (f + i) = f + i := Qc (by omega) (by omega)
 have w2 : IntKind.i64.wrap (i + 1) = i + 1 := Qc (by omega) (by omega)
 have hfin : ∀ L,insL cs w (w + 1 - i).toNat (f + i) = L -> Zp c cs a now b sure w l f i = .leaf (.exit 0) [(5,.vs 1 (l ++ L).length)] (VD c cs a now b sure w (l ++ L) f i) := fun L hL => by unfold Zp;rw [hL]
 by_cases hp : i <= w
 · obtain ⟨m,hm⟩ : ∃ m,(w + 1 - i).toNat = m + 1 := ⟨(w - i).toNat,by omega⟩
   have hm2 : (w + 1 - (i + 1)).toNat = m := by omega
   have hr := VS (p := f + i) (by omega) hw
   have d1 : decide (0 <= lRing (f + i) w /\ lRing (f + i) w < (cs.length : Int)) = true := decide_eq_true ⟨by omega,by omega⟩
   have hD : insL cs w (m + 1) (f + i) = if plc (stdW cs w (f + i)) = f + i then bare (stdW cs w (f + i)) :: insL cs w m (f + i + 1) else [] := rfl
   have eS : cs.getD (lRing (f + i) w).toNat 0 = stdW cs w (f + i) := rfl;have sz : Qh (l.length + [bare (stdW cs w (f + i))].length) 8 = true := Vd (by simp only [List.length_cons,List.length_nil];omega)
   rw [hm] at hfin;simp only [w1,w2,decide_eq_true hp,d1,eS,sz,VY rfl,Bool.and_self,cond_true]
   by_cases hq : plc (stdW cs w (f + i)) = f + i
   · rw [YD hq,cond_false];have hfin := hfin _ (hD.trans (if_pos hq));refine QB (S := Y8) (s := ⟨c,cs,a,now,b,sure,w,l,f,i⟩) ⟨c,cs,a,now,b,sure,w,l ++ [bare (stdW cs w (f + i))],f,i + 1⟩ ⟨hl,hw,hf,by show 1 <= i + 1 /\ i + 1 <= w + 1;omega,by show (l ++ [bare (stdW cs w (f + i))]).length + (w + 1 - (i + 1)).toNat <= 8;simp only [List.length_append,List.length_cons,List.length_nil];omega⟩ (by show (w + 1 - (i + 1)).toNat < (w + 1 - i).toNat;omega) ?_ ?_ rfl
     · show (Zp c cs a now b sure w (l ++ [bare (stdW cs w (f + i))]) f (i + 1)).val = (Zp c cs a now b sure w l f i).val;rw [hfin];unfold Zp;rw [hm2,show f + (i + 1) = f + i + 1 by omega,List.append_assoc]
       rfl
     · simp only [Y8,Qb9,List.length_append]
   · rw [J4 hq,cond_true];have hfin := hfin _ (hD.trans (if_neg hq));refine Qn (S := Y8) (s := ⟨c,cs,a,now,b,sure,w,l,f,i⟩) (VD c cs a now b sure w l f i) ?_ rfl;show (Zp c cs a now b sure w l f i).val = _;rw [hfin,List.append_nil];rfl
 · have hm : (w + 1 - i).toNat = 0 := by omega
   rw [hm] at hfin;simp only [decide_eq_false hp,cond_false];refine Qn (S := Y8) (s := ⟨c,cs,a,now,b,sure,w,l,f,i⟩) (VD c cs a now b sure w l f i) ?_ rfl;show (Zp c cs a now b sure w l f i).val = _;rw [hfin [] rfl,List.append_nil];rfl
noncomputable def Qe0 (env : Env RC) (os : List (Obj RC)) : Option (Bool × QgU) := match env,os with
 | [(1,.int .i64 w),(2,.ptr 0 []),(5,.vs 1 x0),(6,.int .i64 f),(7,.int .i64 i)],[.var 37 (.acons (.sl .int c cs) (.acons (.acons (.sl .sector a now) (.acons (.sl .sector b sure) .anil)) .anil)),.vec .int true l] => QA (true) (decide (x0 = l.length) && cdec (QdZ cs w f i l),⟨c,cs,a,now,b,sure,w,l,f,i⟩)
 | _,_ => none
noncomputable def uu_2 := uu_1.addLoop 59 8 (sumR s25 [.slot 2 0,.slot 5 0] [1,2,5,6,7] Y8 Qe0)
theorem Qn8 : Qi Tryz.prog s25 uu_2 := by
 refine Qn6.addRoundsR Qb (by kernel_rfl) Y8 100 [1,2,5,6,7] [5] [.slot 2 0,.slot 5 0] [1,2,5,6,7] Qe0 (fun q hI => ?_) ?_
 · obtain ⟨c,cs,a,now,b,sure,w,l,f,i⟩ := q;refine ⟨?_,?_,QeZ c cs a now b sure w l f i hI⟩
   · simp_all [Qm,Y8,Qb9,VD,VE,D.refs,Obj.refs,rEnc]
   · simp_all [Y8,Zp,VD,VE,RT.refsOK,Qm,D.refs,Obj.refs,rEnc]
 · intro env os b q hd_ hb;unfold Qe0 at hd_
   split at hd_
   · obtain ⟨hs,hd_⟩ := Qj hd_;cases hd_;simp only [Bool.and_eq_true,decide_eq_true_eq] at hb;obtain ⟨e0,e1⟩ := hb;subst e0;exact ⟨QF.1 e1,rfl,rfl⟩
   · cases hd_
def Qrp : Option (D RC) := some (.tup (.acons (.int .i64 0) (.acons (.bool false) .anil)))
def Qca (cs L : List Int) : Option (D RC) :=
 bif Nat.beq ([] ++ L).length ([] ++ L).length then bif lenOK ([] ++ L).length then bif ((([] ++ L).length : Int) == 0) then Qrp else
  bif decide ((0 : Int) <= 0 /\ (0 : Int) < (([] ++ L).length : Int)) then bif decide (lField 99 (inWord (List.getD ([] ++ L) 0 0) % 256) 1 16 12 < 0) then Qrp else
   bif decide (0 <= lField 99 (inWord (List.getD ([] ++ L) 0 0) % 256) 1 16 12 /\ lField 99 (inWord (List.getD ([] ++ L) 0 0) % 256) 1 16 12 < (cs.length : Int)) then
    some (.tup (.acons (.int .i64 (cs.getD (lField 99 (inWord (List.getD ([] ++ L) 0 0) % 256) 1 16 12).toNat 0)) (.acons (.bool true) .anil))) else none else none else none else none
theorem Qbl {cs : List Int} {w : Int} (h : Qd0 cs w) {m : Nat} (hm : m = w.toNat) : Qca cs (insL cs w m (cs.getD 0 0 + 1)) = some (.tup (.acons (.int .i64 (decV cs w)) (.acons (.bool (decB cs w)) .anil))) := by
 obtain ⟨hl,hw,hf⟩ := h;obtain ⟨n,rfl⟩ : ∃ n,m = n + 1 := ⟨m - 1,by omega⟩
 have hD : insL cs w (n + 1) (cs.getD 0 0 + 1) = if plc (stdW cs w (cs.getD 0 0 + 1)) = cs.getD 0 0 + 1 then bare (stdW cs w (cs.getD 0 0 + 1)) :: insL cs w n (cs.getD 0 0 + 1 + 1) else [] := rfl
 have hlen := QgS cs w (n + 1) (cs.getD 0 0 + 1);have lk : lenOK ([] ++ insL cs w (n + 1) (cs.getD 0 0 + 1)).length = true := Qk (by rw [List.nil_append];omega)
 unfold Qca;rw [VY rfl,lk,cond_true,cond_true];simp only [List.nil_append];unfold decV decB
 by_cases hq : plc (stdW cs w (cs.getD 0 0 + 1)) = cs.getD 0 0 + 1
 · rw [hD,if_pos hq];have g0 : List.getD (bare (stdW cs w (cs.getD 0 0 + 1)) :: insL cs w n (cs.getD 0 0 + 1 + 1)) 0 0 = bare (stdW cs w (cs.getD 0 0 + 1)) := rfl;have hx : lField 99 (inWord (bare (stdW cs w (cs.getD 0 0 + 1))) % 256) 1 16 12 = hDesc (bare (stdW cs w (cs.getD 0 0 + 1))) 1 := rfl;have c0 : (((bare (stdW cs w (cs.getD 0 0 + 1)) :: insL cs w n (cs.getD 0 0 + 1 + 1)).length : Int) == 0) = false := Za (by simp only [List.length_cons];omega)
   have c1 : decide ((0 : Int) <= 0 /\ (0 : Int) < ((bare (stdW cs w (cs.getD 0 0 + 1)) :: insL cs w n (cs.getD 0 0 + 1 + 1)).length : Int)) = true := decide_eq_true ⟨by decide,by simp only [List.length_cons];omega⟩
   simp only [c0,c1,g0,hx,cond_false,cond_true]
   have hb : hDesc (bare (stdW cs w (cs.getD 0 0 + 1))) 1 < 771 := by
    unfold hDesc lField
    split <;> omega
   by_cases hk : hDesc (bare (stdW cs w (cs.getD 0 0 + 1))) 1 < 0
   · rw [decide_eq_true hk,cond_true,decide_eq_false (fun q => by omega)]
     rfl
   · rw [decide_eq_false hk,cond_false,decide_eq_true (show 0 <= hDesc (bare (stdW cs w (cs.getD 0 0 + 1))) 1 /\ hDesc (bare (stdW cs w (cs.getD 0 0 + 1))) 1 < (cs.length : Int) by omega),cond_true,decide_eq_true ⟨hq,by omega⟩]
     rfl
 · have dF : decide (plc (stdW cs w (cs.getD 0 0 + 1)) = cs.getD 0 0 + 1 /\ 0 <= hDesc (bare (stdW cs w (cs.getD 0 0 + 1))) 1) = false := decide_eq_false (fun q => hq q.1);rw [hD,if_neg hq,dF];rfl
noncomputable def Qsx (c : Bool) (cs : List Int) (a : Bool) (now : List Sector) (b : Bool) (sure : List Sector) (w : Int) : Option (Bool × D RC) := some (cdec (Qd0 cs w),.tup (.acons (.int .i64 (decV cs w)) (.acons (.bool (decB cs w)) .anil)))
noncomputable def Qn9 : List (D RC) -> Option (Bool × D RC)
 | [.acons (.sl .int c cs) (.acons (.acons (.sl .sector a now) (.acons (.sl .sector b sure) .anil)) .anil),.int .i64 w] => Qsx c cs a now b sure w
 | _ => none
noncomputable def Qsy (c : Bool) (cs : List Int) (a : Bool) (now : List Sector) (b : Bool) (sure : List Sector) (w : Int) := evF s25 uu_2 200 30 [.acons (.sl (C := RC) .int c cs) (.acons (.acons (.sl (C := RC) .sector a now) (.acons (.sl (C := RC) .sector b sure) .anil)) .anil),.int .i64 w]
theorem QuM (c : Bool) (cs : List Int) (a : Bool) (now : List Sector) (b : Bool) (sure : List Sector) (w : Int) : Qsy c cs a now b sure w = (let Z0 : Int := (↑cs.length : Int);let Z1 : DO_ := some (D.tup (D.acons (D.int .i64 0) (.acons (D.bool false) .anil)));let Z2 : Int := List.getD cs (0 : Nat) (0 : Int);let Z3 : Int := IntKind.wrap .i64 (Z2 + (1 : Int));let Z4 : Nat := Int.toNat (Z2 + w + (1 : Int) - Z3);let Z5 : Nat := List.length ([] ++ insL cs w Z4 Z3);let Z6 : Int := lField (99 : Int) (inWord (List.getD ([] ++ insL cs w Z4 Z3) (0 : Nat) (0 : Int)) % (256 : Int)) (1 : Int) (16 : Int) (12 : Int);let Z7 : DO_ := bif Nat.beq Z5 Z5 then bif lenOK Z5 then bif (↑Z5 : Int) == (0 : Int) then Z1 else bif decide ((0 : Int) <= (0 : Int) /\ (0 : Int) < (↑Z5 : Int)) then bif decide (Z6 < (0 : Int)) then Z1 else bif decide ((0 : Int) <= Z6 /\ Z6 < Z0) then some (D.tup (D.acons (D.int .i64 (List.getD cs Z6.toNat (0 : Int))) (.acons (D.bool true) .anil))) else none else none else none else none;bif lenOK cs.length then bif Z0 != (771 : Int) then Z1 else bif decide (w < (2 : Int)) then Z1 else bif decide ((8 : Int) < w) then Z1 else bif decide ((0 : Int) <= (0 : Int) /\ (0 : Int) < Z0) then bif decide (Z2 < (0 : Int)) then Z1 else bif decide ((1048575 : Int) < Z2) then Z1 else bif cdec (stdA = stdA) && cdec (stdB = stdB) && true && cdec (QdZ cs w Z2 (Z3 - Z2) []) then bif decide (List.length (insL cs w Z4 Z3) = Z4) then Z7 else Z7 else none else none else none) := by kernel_rfl
theorem QuN (c : Bool) (cs : List Int) (a : Bool) (now : List Sector) (b : Bool) (sure : List Sector) (w : Int) (h : (cdec (Qd0 cs w)) = true) : Qsy c cs a now b sure w = some (.tup (.acons (.int .i64 (decV cs w)) (.acons (.bool (decB cs w)) .anil))) := by
 (rw [QuM];conv => zeta)
 have hO := QF.1 h;obtain ⟨hl,hw,hf⟩ := hO;have c1 : lenOK cs.length = true := Qk (by omega)
 have c2 : ((cs.length : Int) != 771) = false := YD (by omega)
 have c3 : decide (w < 2) = false := decide_eq_false (by omega)
 have c4 : decide (8 < w) = false := decide_eq_false (by omega)
 have c5 : decide ((0 : Int) <= 0 /\ (0 : Int) < (cs.length : Int)) = true := decide_eq_true ⟨by decide,by omega⟩
 have c6 : decide (cs.getD 0 0 < 0) = false := decide_eq_false (by omega)
 have c7 : decide (1048575 < cs.getD 0 0) = false := decide_eq_false (by omega)
 simp only [c1,c2,c3,c4,c5,c6,c7,cond_true,cond_false];have v1 : IntKind.i64.wrap (cs.getD 0 0 + 1) = cs.getD 0 0 + 1 := Qc (by omega) (by omega)
 have m1 : (cs.getD 0 0 + w + 1 - (cs.getD 0 0 + 1)).toNat = w.toNat := by omega
 have k1 : cdec (QdZ cs w (cs.getD 0 0) (cs.getD 0 0 + 1 - cs.getD 0 0) []) = true := Qx ⟨hl,hw,hf,by omega,by simp only [List.length_nil];omega⟩
 have e1 : ∀ X : Code,X = stdA -> cdec (X = stdA) = true := fun X hX => Qx hX;have e2 : ∀ X : Code,X = stdB -> cdec (X = stdB) = true := fun X hX => Qx hX;rw [show cdec True = true from Qx trivial]
 have hd := Qbl ⟨hl,hw,hf⟩ (m := w.toNat) rfl;unfold Qca Qrp at hd;simp only [v1,m1,k1,Bool.and_self,cond_true];generalize insL cs w w.toNat (cs.getD 0 0 + 1) = L at hd ⊢
 by_cases z : L.length = w.toNat
 · rw [decide_eq_true z,cond_true];exact hd
 · rw [decide_eq_false z,cond_false];exact hd
noncomputable def uu_3 := uu_2.addSpec 30 Qn9
theorem Qoa : Qi Tryz.prog s25 uu_3 := Qn8.addEv Qb fun args d h => by
 unfold Qn9 at h
 split at h
 · unfold Qsx at h;have h1 := congrArg Prod.fst (Option.some.inj h);obtain rfl : _ = d := congrArg Prod.snd (Option.some.inj h);exact ⟨by simp [D.refs],200,QuN _ _ _ _ _ _ _ h1⟩
 · cases h
noncomputable def Qsz (c : Bool) (cs : List Int) (a : Bool) (now : List Sector) (b : Bool) (sure : List Sector) (w : Int) : Option (Bool × D RC) := some (cdec (Qd0 cs w),.tup (.acons (.int .i64 (decV cs w)) (.acons (.bool (decB cs w)) .anil)))
noncomputable def Qob : List (D RC) -> Option (Bool × D RC)
 | [.acons (.sl .int c cs) (.acons (.acons (.sl .sector a now) (.acons (.sl .sector b sure) .anil)) .anil),.int .i64 w] => Qsz c cs a now b sure w
 | _ => none
noncomputable def QsA (c : Bool) (cs : List Int) (a : Bool) (now : List Sector) (b : Bool) (sure : List Sector) (w : Int) := evF s25 uu_3 200 31 [.acons (.sl (C := RC) .int c cs) (.acons (.acons (.sl (C := RC) .sector a now) (.acons (.sl (C := RC) .sector b sure) .anil)) .anil),.int .i64 w]
theorem QuO (c : Bool) (cs : List Int) (a : Bool) (now : List Sector) (b : Bool) (sure : List Sector) (w : Int) : QsA c cs a now b sure w = (let Z0 : Int := (↑cs.length : Int);let Z1 : DO_ := some (D.tup (D.acons (D.int .i64 0) (.acons (D.bool false) .anil)));let Z2 : Int := List.getD cs (0 : Nat) (0 : Int);let Z3 : List Int := [] ++ insL cs w (w + (1 : Int) - (1 : Int)).toNat (Z2 + (1 : Int));let Z4 : Nat := List.length Z3;let Z5 : Int := lField (99 : Int) (inWord (List.getD Z3 (0 : Nat) (0 : Int)) % (256 : Int)) (1 : Int) (16 : Int) (12 : Int);bif lenOK cs.length then bif Z0 != (771 : Int) then Z1 else bif decide (w < (2 : Int)) then Z1 else bif decide ((8 : Int) < w) then Z1 else bif decide ((0 : Int) <= (0 : Int) /\ (0 : Int) < Z0) then bif decide (Z2 < (0 : Int)) then Z1 else bif decide ((1048575 : Int) < Z2) then Z1 else bif cdec (QdZ cs w Z2 (1 : Int) []) then bif Nat.beq Z4 Z4 then bif lenOK Z4 then bif (↑Z4 : Int) == (0 : Int) then Z1 else bif decide ((0 : Int) <= (0 : Int) /\ (0 : Int) < (↑Z4 : Int)) then bif decide (Z5 < (0 : Int)) then Z1 else bif decide ((0 : Int) <= Z5 /\ Z5 < Z0) then some (D.tup (D.acons (D.int .i64 (List.getD cs Z5.toNat (0 : Int))) (.acons (D.bool true) .anil))) else none else none else none else none else none else none else none) := by kernel_rfl
theorem QuP (c : Bool) (cs : List Int) (a : Bool) (now : List Sector) (b : Bool) (sure : List Sector) (w : Int) (h : (cdec (Qd0 cs w)) = true) : QsA c cs a now b sure w = some (.tup (.acons (.int .i64 (decV cs w)) (.acons (.bool (decB cs w)) .anil))) := by
 (rw [QuO];conv => zeta)
 have hO := QF.1 h;obtain ⟨hl,hw,hf⟩ := hO;have c1 : lenOK cs.length = true := Qk (by omega)
 have c2 : ((cs.length : Int) != 771) = false := YD (by omega)
 have c3 : decide (w < 2) = false := decide_eq_false (by omega)
 have c4 : decide (8 < w) = false := decide_eq_false (by omega)
 have c5 : decide ((0 : Int) <= 0 /\ (0 : Int) < (cs.length : Int)) = true := decide_eq_true ⟨by decide,by omega⟩
 have c6 : decide (cs.getD 0 0 < 0) = false := decide_eq_false (by omega)
 have c7 : decide (1048575 < cs.getD 0 0) = false := decide_eq_false (by omega)
 simp only [c1,c2,c3,c4,c5,c6,c7,cond_true,cond_false];have m1 : (w + 1 - 1).toNat = w.toNat := by omega
 have k1 : cdec (QdZ cs w (cs.getD 0 0) 1 []) = true := Qx ⟨hl,hw,hf,by omega,by simp only [List.length_nil];omega⟩
 have hd := Qbl ⟨hl,hw,hf⟩ (m := w.toNat) rfl;unfold Qca Qrp at hd;simp only [m1,k1,cond_true];exact hd
noncomputable def uu_4 := uu_3.addSpec 31 Qob
theorem Qoc : Qi Tryz.prog s25 uu_4 := Qoa.addEv Qb fun args d h => by
 unfold Qob at h
 split at h
 · unfold Qsz at h;have h1 := congrArg Prod.fst (Option.some.inj h);obtain rfl : _ = d := congrArg Prod.snd (Option.some.inj h);exact ⟨by simp [D.refs],200,QuP _ _ _ _ _ _ _ h1⟩
 · cases h
open Go.Proofs
structure Qod where
 w : Int
 now : List Sector
 sure : List Sector
 cs : List Int
 ts : List Task
 us : List Task
 busy : List Bool
 n : Int
 v : Int
 has : List Int
 place : List Int
 mp : List (Int × Try)
 tr : List Try
 last : Int
 i : Int
noncomputable def Qoe (w : Int) (now : List Sector) (sure : List Sector) (cs : List Int) (ts : List Task) (us : List Task) (busy : List Bool) (n : Int) (v : Int) (has : List Int) (place : List Int) (mp : List (Int × Try)) (tr : List Try) (last : Int) (i : Int) : Env RC := [(0,.ptr 0 []),(2,.sl (C := RC) .int false (cs)),(3,.int .i64 i)]
def VF (w : Int) (now : List Sector) (sure : List Sector) (cs : List Int) (ts : List Task) (us : List Task) (busy : List Bool) (n : Int) (v : Int) (has : List Int) (place : List Int) (mp : List (Int × Try)) (tr : List Try) (last : Int) (i : Int) : List (Obj RC) := [.var 50 (.acons (.ptr 1 []) (.acons (.int .i64 w) (.acons (.int .i64 n) (.acons (.int .i64 v) (.acons (.arr (C := RC) .int 4 has) (.acons (.arr (C := RC) .int 4 place) (.acons (.mp 2) (.acons (.vs 3 (tr.length)) (.acons (.int .i64 last) .anil))))))))),.var 44 (.acons (.acons (.sl (C := RC) .int false cs) (.acons (.acons (.sl (C := RC) .sector false now) (.acons (.sl (C := RC) .sector false sure) .anil)) .anil)) (.acons (.arr (C := RC) .task 4 ts) (.acons (.arr (C := RC) .task 4 us) (.acons (.arr (C := RC) .bool 4 busy) .anil)))),.map .int .tryd mp,.vec .tryd true tr]
noncomputable def QsB (w : Int) (now : List Sector) (sure : List Sector) (cs : List Int) (ts : List Task) (us : List Task) (busy : List Bool) (n : Int) (v : Int) (has : List Int) (place : List Int) (mp : List (Int × Try)) (tr : List Try) (last : Int) (i : Int) := rndO s25 uu_4 36 2 100 4 [0,2,3] [] [.slot 0 0,.path 0 [0],.path 0 [6],.path 0 [7]] (Qoe w now sure cs ts us busy n v has place mp tr last i) (VF w now sure cs ts us busy n v has place mp tr last i)
theorem QuQ (w : Int) (now : List Sector) (sure : List Sector) (cs : List Int) (ts : List Task) (us : List Task) (busy : List Bool) (n : Int) (v : Int) (has : List Int) (place : List Int) (mp : List (Int × Try)) (tr : List Try) (last : Int) (i : Int) : QsB w now sure cs ts us busy n v has place mp tr last i = (let Z0 : Int := IntKind.wrap .i64 (last + (1 : Int));let Z1 : Int := lRing Z0 w;let Z2 : Int := List.getD cs Z1.toNat (0 : Int);let Z3 : D RC := D.arr RTy.int (4 : Nat) has;let Z4 : D RC := D.arr RTy.int (4 : Nat) place;let Z5 : Nat := List.length tr;let Z6 : D RC := .anil;let Z7 : D RC := D.sl RTy.int false cs;let Z8 : Option (Obj RC) := some (Obj.var 44 (.acons (D.acons Z7 (D.acons (D.acons (D.sl RTy.sector false now) (.acons (D.sl RTy.sector false sure) Z6)) Z6)) (.acons (D.arr RTy.task (4 : Nat) ts) (.acons (D.arr RTy.task (4 : Nat) us) (.acons (D.arr RTy.bool (4 : Nat) busy) Z6)))));let Z9 : Option (Obj RC) := some (Obj.map RTy.int RTy.tryd mp);let Z10 : List (Option (Obj RC)) := [some (Obj.var 50 (.acons (D.ptr 1 []) (.acons (D.int .i64 w) (.acons (D.int .i64 n) (.acons (D.int .i64 v) (.acons Z3 (D.acons Z4 (D.acons (D.mp (2 : Nat)) (.acons (D.vs 3 Z5) (.acons (D.int .i64 last) Z6)))))))))),Z8,Z9,some (Obj.vec RTy.tryd true tr)];let Z11 : Try := Option.getD (mget (Jn s25 RTy.int) (bare Z2) mp) (Try.mk (0 : Int) (0 : Int) []);let Z12 : List Try := [Try.mk Z0 (Try.start Z11) (Try.writes Z11)];bif decide (i < w) then bif decide ((0 : Int) <= Z1 /\ Z1 < (↑cs.length : Int)) then bif plc Z2 != Z0 then some ((X.ret,[]),Z10) else bif Nat.beq Z5 Z5 && Qh (Z5 + List.length Z12) (40 : Nat) then some ((X.normal,[(0,D.ptr 0 []),(2,Z7),(3,D.int .i64 (IntKind.wrap .i64 (i + (1 : Int))))]),[some (Obj.var 50 (.acons (D.ptr 1 []) (.acons (D.int .i64 w) (.acons (D.int .i64 n) (.acons (D.int .i64 v) (.acons Z3 (D.acons Z4 (D.acons (D.mp (2 : Nat)) (.acons (D.vs 3 (Z5 + List.length Z12)) (.acons (D.int .i64 Z0) Z6)))))))))),Z8,Z9,some (Obj.vec RTy.tryd true (tr ++ Z12))]) else none else none else some ((X.exit (0 : Nat),[]),Z10)) := by kernel_rfl
noncomputable def ZV (w : Int) (now : List Sector) (sure : List Sector) (cs : List Int) (ts : List Task) (us : List Task) (busy : List Bool) (n : Int) (v : Int) (has : List Int) (place : List Int) (mp : List (Int × Try)) (tr : List Try) (last : Int) (i : Int) : RT RC := .br (decide ((Zq keq cs w mp (w - i).toNat last tr).1 = last + (w - i))) (.leaf (.exit 0) [] (VF w now sure cs ts us busy n v has place mp (Zq keq cs w mp (w - i).toNat last tr).2 (Zq keq cs w mp (w - i).toNat last tr).1 i)) (.leaf .ret [] (VF w now sure cs ts us busy n v has place mp (Zq keq cs w mp (w - i).toNat last tr).2 (Zq keq cs w mp (w - i).toNat last tr).1 i))
def JO (w : Int) (now : List Sector) (sure : List Sector) (cs : List Int) (ts : List Task) (us : List Task) (busy : List Bool) (n : Int) (v : Int) (has : List Int) (place : List Int) (mp : List (Int × Try)) (tr : List Try) (last : Int) (i : Int) : Prop := OkLk w cs mp tr last i
noncomputable def JP : QT RC Qod where
 k := 4
 canon q := Qoe q.w q.now q.sure q.cs q.ts q.us q.busy q.n q.v q.has q.place q.mp q.tr q.last q.i
 objs q := VF q.w q.now q.sure q.cs q.ts q.us q.busy q.n q.v q.has q.place q.mp q.tr q.last q.i
 fin q := ZV q.w q.now q.sure q.cs q.ts q.us q.busy q.n q.v q.has q.place q.mp q.tr q.last q.i
 Inv q := JO q.w q.now q.sure q.cs q.ts q.us q.busy q.n q.v q.has q.place q.mp q.tr q.last q.i
 μ q := (q.w - q.i).toNat
theorem QiE (w : Int) (now : List Sector) (sure : List Sector) (cs : List Int) (ts : List Task) (us : List Task) (busy : List Bool) (n : Int) (v : Int) (has : List Int) (place : List Int) (mp : List (Int × Try)) (tr : List Try) (last : Int) (i : Int) (hI : JO w now sure cs ts us busy n v has place mp tr last i) : Leaf (QsB w now sure cs ts us busy n v has place mp tr last i) (LedR JP ⟨w,now,sure,cs,ts,us,busy,n,v,has,place,mp,tr,last,i⟩) := by
 (rw [QuQ];conv => zeta)
 unfold JO at hI;obtain ⟨hl,hw,hi,hla,htl,hmw⟩ := hI;have w1 : IntKind.i64.wrap (last + 1) = last + 1 := Qc (by omega) (by omega)
 have w2 : IntKind.i64.wrap (i + 1) = i + 1 := Qc (by omega) (by omega)
 have eT : ∀ h,Option.getD (mget (Jn s25 .int) h mp) (⟨0,0,[]⟩ : Try) = QaG keq mp h := fun _ => rfl;have hfin : ∀ R,Zq keq cs w mp (w - i).toNat last tr = R -> ZV w now sure cs ts us busy n v has place mp tr last i = .br (decide (R.1 = last + (w - i))) (.leaf (.exit 0) [] (VF w now sure cs ts us busy n v has place mp R.2 R.1 i)) (.leaf .ret [] (VF w now sure cs ts us busy n v has place mp R.2 R.1 i)) := fun R hR => by unfold ZV;rw [hR]
 by_cases hp : i < w
 · obtain ⟨m,hm⟩ : ∃ m,(w - i).toNat = m + 1 := ⟨(w - i - 1).toNat,by omega⟩
   have hm2 : (w - (i + 1)).toNat = m := by omega
   have hr := VS (p := last + 1) (by omega) hw
   have d1 : decide (0 <= lRing (last + 1) w /\ lRing (last + 1) w < (cs.length : Int)) = true := decide_eq_true ⟨by omega,by omega⟩
   have hD : Zq keq cs w mp (m + 1) last tr = if plc (cs.getD (lRing (last + 1) w).toNat 0) = last + 1 then
    Zq keq cs w mp m (last + 1) (tr ++ [⟨last + 1,(QaG keq mp (bare (cs.getD (lRing (last + 1) w).toNat 0))).start,(QaG keq mp (bare (cs.getD (lRing (last + 1) w).toNat 0))).writes⟩]) else (last,tr) := rfl
   rw [hm] at hfin;simp only [w1,w2,eT,decide_eq_true hp,d1,VY rfl,cond_true];generalize cs.getD (lRing (last + 1) w).toNat 0 = y at hD ⊢;generalize QaG keq mp (bare y) = T at hD ⊢;have sz : Qh (tr.length + [(⟨last + 1,T.start,T.writes⟩ : Try)].length) 40 = true := Vd (by simp only [List.length_cons,List.length_nil];omega)
   by_cases hq : plc y = last + 1
   · rw [YD hq,cond_false,sz];have hfin := hfin _ (hD.trans (if_pos hq));refine QB (S := JP) (s := ⟨w,now,sure,cs,ts,us,busy,n,v,has,place,mp,tr,last,i⟩) ⟨w,now,sure,cs,ts,us,busy,n,v,has,place,mp,tr ++ [⟨last + 1,T.start,T.writes⟩],last + 1,i + 1⟩ ⟨hl,hw,by show 0 <= i + 1 /\ i + 1 <= w;omega,by show 0 <= last + 1 /\ last + 1 + (w - (i + 1)) <= 100000000;omega,by show ((tr ++ [_]).length : Int) + (w - (i + 1)) <= 100000000;simp only [List.length_append,List.length_cons,List.length_nil];omega,hmw⟩ (by show (w - (i + 1)).toNat < (w - i).toNat;omega) ?_ rfl ?_
     · show (ZV w now sure cs ts us busy n v has place mp (tr ++ [⟨last + 1,T.start,T.writes⟩]) (last + 1) (i + 1)).val = (ZV w now sure cs ts us busy n v has place mp tr last i).val;rw [hfin];unfold ZV;rw [hm2,show last + 1 + (w - (i + 1)) = last + (w - i) by omega]
       rfl
     · simp only [JP,VF,List.map_cons,List.map_nil,List.length_append]
   · rw [J4 hq,cond_true];have hfin := hfin _ (hD.trans (if_neg hq));refine QZ (S := JP) (s := ⟨w,now,sure,cs,ts,us,busy,n,v,has,place,mp,tr,last,i⟩) (VF w now sure cs ts us busy n v has place mp tr last i) ?_ rfl;show (ZV w now sure cs ts us busy n v has place mp tr last i).val = _;rw [hfin,decide_eq_false (by show ¬ last = last + (w - i);omega)]
     rfl
 · have hm : (w - i).toNat = 0 := by omega
   rw [hm] at hfin;simp only [decide_eq_false hp,cond_false];refine Qn (S := JP) (s := ⟨w,now,sure,cs,ts,us,busy,n,v,has,place,mp,tr,last,i⟩) (VF w now sure cs ts us busy n v has place mp tr last i) ?_ rfl;show (ZV w now sure cs ts us busy n v has place mp tr last i).val = _;rw [hfin (last,tr) rfl,decide_eq_true (by show last = last + (w - i);omega)]
   rfl
noncomputable def Qof (env : Env RC) (os : List (Obj RC)) : Option (Bool × Qod) := match env,os with
 | [(0,.ptr 0 []),(2,.sl .int false x0),(3,.int .i64 i)],[.var 50 (.acons (.ptr 1 []) (.acons (.int .i64 w) (.acons (.int .i64 n) (.acons (.int .i64 v) (.acons (.arr .int 4 has) (.acons (.arr .int 4 place) (.acons (.mp 2) (.acons (.vs 3 x1) (.acons (.int .i64 last) .anil))))))))),.var 44 (.acons (.acons (.sl .int false cs) (.acons (.acons (.sl .sector false now) (.acons (.sl .sector false sure) .anil)) .anil)) (.acons (.arr .task 4 ts) (.acons (.arr .task 4 us) (.acons (.arr .bool 4 busy) .anil)))),.map .int .tryd mp,.vec .tryd true tr] => QA (true) (cdec (x0 = cs) && decide (x1 = tr.length) && cdec (OkLk w cs mp tr last i),⟨w,now,sure,cs,ts,us,busy,n,v,has,place,mp,tr,last,i⟩)
 | _,_ => none
noncomputable def uv_1 := uu_4.addLoop 36 2 (sumR s25 [.slot 0 0,.path 0 [0],.path 0 [6],.path 0 [7]] [0,2,3] JP Qof)
theorem Qog : Qi Tryz.prog s25 uv_1 := by
 refine Qoc.addRoundsR Qb (by kernel_rfl) JP 100 [0,2,3] [] [.slot 0 0,.path 0 [0],.path 0 [6],.path 0 [7]] [0,2,3] Qof (fun q hI => ?_) ?_
 · obtain ⟨w,now,sure,cs,ts,us,busy,n,v,has,place,mp,tr,last,i⟩ := q;refine ⟨?_,?_,QiE w now sure cs ts us busy n v has place mp tr last i hI⟩
   · simp_all [Qm,JP,Qoe,VF,JO,D.refs,Obj.refs,rEnc]
   · simp_all [JP,ZV,VF,JO,RT.refsOK,Qm,D.refs,Obj.refs,rEnc]
 · intro env os b q hd_ hb;unfold Qof at hd_
   split at hd_
   · obtain ⟨hs,hd_⟩ := Qj hd_;cases hd_;simp only [Bool.and_eq_true,decide_eq_true_eq] at hb;obtain ⟨⟨e0,e1⟩,e2⟩ := hb;have e0 := QF.1 e0;subst e0;subst e1;exact ⟨QF.1 e2,rfl,rfl⟩
   · cases hd_
structure QgV where
 w : Int
 now : List Sector
 sure : List Sector
 cs : List Int
 ts : List Task
 us : List Task
 busy : List Bool
 n : Int
 v : Int
 has : List Int
 place : List Int
 mp : List (Int × Try)
 tr : List Try
 last : Int
def Qe1 (w : Int) (now : List Sector) (sure : List Sector) (cs : List Int) (ts : List Task) (us : List Task) (busy : List Bool) (n : Int) (v : Int) (has : List Int) (place : List Int) (mp : List (Int × Try)) (tr : List Try) (last : Int) : List (D RC) := [.ptr 0 []]
def Jj (w : Int) (now : List Sector) (sure : List Sector) (cs : List Int) (ts : List Task) (us : List Task) (busy : List Bool) (n : Int) (v : Int) (has : List Int) (place : List Int) (mp : List (Int × Try)) (tr : List Try) (last : Int) : List (Obj RC) := [.var 50 (.acons (.ptr 1 []) (.acons (.int .i64 w) (.acons (.int .i64 n) (.acons (.int .i64 v) (.acons (.arr (C := RC) .int 4 has) (.acons (.arr (C := RC) .int 4 place) (.acons (.mp 2) (.acons (.vs 3 (tr.length)) (.acons (.int .i64 last) .anil))))))))),.var 44 (.acons (.acons (.sl (C := RC) .int false cs) (.acons (.acons (.sl (C := RC) .sector false now) (.acons (.sl (C := RC) .sector false sure) .anil)) .anil)) (.acons (.arr (C := RC) .task 4 ts) (.acons (.arr (C := RC) .task 4 us) (.acons (.arr (C := RC) .bool 4 busy) .anil)))),.map .int .tryd mp,.vec .tryd true tr]
noncomputable def Qoh (w : Int) (now : List Sector) (sure : List Sector) (cs : List Int) (ts : List Task) (us : List Task) (busy : List Bool) (n : Int) (v : Int) (has : List Int) (place : List Int) (mp : List (Int × Try)) (tr : List Try) (last : Int) := fnO s25 uv_1 36 100 4 (Qe1 w now sure cs ts us busy n v has place mp tr last) (Jj w now sure cs ts us busy n v has place mp tr last)
theorem Qrq (w : Int) (now : List Sector) (sure : List Sector) (cs : List Int) (ts : List Task) (us : List Task) (busy : List Bool) (n : Int) (v : Int) (has : List Int) (place : List Int) (mp : List (Int × Try)) (tr : List Try) (last : Int) : Qoh w now sure cs ts us busy n v has place mp tr last = (let Z0 : Int × List Try := Zq keq cs w mp (w - (0 : Int)).toNat last tr;let Z1 : D RC := .anil;let Z2 : Option (D RC × List (Option (Obj RC))) := some (D.tup Z1,[some (Obj.var 50 (.acons (D.ptr 1 []) (.acons (D.int .i64 w) (.acons (D.int .i64 n) (.acons (D.int .i64 v) (.acons (D.arr RTy.int (4 : Nat) has) (.acons (D.arr RTy.int (4 : Nat) place) (.acons (D.mp (2 : Nat)) (.acons (D.vs 3 Z0.2.length) (.acons (D.int .i64 Z0.1) Z1)))))))))),some (Obj.var 44 (.acons (D.acons (D.sl RTy.int false cs) (.acons (D.acons (D.sl RTy.sector false now) (.acons (D.sl RTy.sector false sure) Z1)) Z1)) (.acons (D.arr RTy.task (4 : Nat) ts) (.acons (D.arr RTy.task (4 : Nat) us) (.acons (D.arr RTy.bool (4 : Nat) busy) Z1))))),some (Obj.map RTy.int RTy.tryd mp),some (Obj.vec RTy.tryd true Z0.2)]);bif cdec (cs = cs) && decide (List.length tr = List.length tr) && cdec (OkLk w cs mp tr last (0 : Int)) then bif decide (Prod.fst Z0 = last + (w - (0 : Int))) then Z2 else Z2 else none) := by kernel_rfl
noncomputable def Qd1 (w : Int) (now : List Sector) (sure : List Sector) (cs : List Int) (ts : List Task) (us : List Task) (busy : List Bool) (n : Int) (v : Int) (has : List Int) (place : List Int) (mp : List (Int × Try)) (tr : List Try) (last : Int) : RT RC := .leaf .ret [(0,.tup .anil)] (Jj w now sure cs ts us busy n v has place mp (Zq keq cs w mp w.toNat last tr).2 (Zq keq cs w mp w.toNat last tr).1)
def Qat (w : Int) (now : List Sector) (sure : List Sector) (cs : List Int) (ts : List Task) (us : List Task) (busy : List Bool) (n : Int) (v : Int) (has : List Int) (place : List Int) (mp : List (Int × Try)) (tr : List Try) (last : Int) : Prop := OkLk w cs mp tr last 0
noncomputable def Jk : FunR RC QgV where
 k := 4
 args q := Qe1 q.w q.now q.sure q.cs q.ts q.us q.busy q.n q.v q.has q.place q.mp q.tr q.last
 objs q := Jj q.w q.now q.sure q.cs q.ts q.us q.busy q.n q.v q.has q.place q.mp q.tr q.last
 fin q := Qd1 q.w q.now q.sure q.cs q.ts q.us q.busy q.n q.v q.has q.place q.mp q.tr q.last
 Inv q := Qat q.w q.now q.sure q.cs q.ts q.us q.busy q.n q.v q.has q.place q.mp q.tr q.last
theorem Qrr (w : Int) (now : List Sector) (sure : List Sector) (cs : List Int) (ts : List Task) (us : List Task) (busy : List Bool) (n : Int) (v : Int) (has : List Int) (place : List Int) (mp : List (Int × Try)) (tr : List Try) (last : Int) (hI : Qat w now sure cs ts us busy n v has place mp tr last) : Leaf (Qoh w now sure cs ts us busy n v has place mp tr last) (LedF Jk ⟨w,now,sure,cs,ts,us,busy,n,v,has,place,mp,tr,last⟩) := by
 (rw [Qrq];conv => zeta)
 unfold Qat at hI;have k0 : cdec True = true := Qx trivial;have k1 : cdec (OkLk w cs mp tr last 0) = true := Qx hI;simp only [k0,k1,Int.sub_zero,decide_true,Bool.and_self,cond_true];cases decide ((Zq keq cs w mp w.toNat last tr).1 = last + w)
 · exact QeC (S := Jk) (s := ⟨w,now,sure,cs,ts,us,busy,n,v,has,place,mp,tr,last⟩) (Jj w now sure cs ts us busy n v has place mp (Zq keq cs w mp w.toNat last tr).2 (Zq keq cs w mp w.toNat last tr).1) rfl rfl
 · exact QeC (S := Jk) (s := ⟨w,now,sure,cs,ts,us,busy,n,v,has,place,mp,tr,last⟩) (Jj w now sure cs ts us busy n v has place mp (Zq keq cs w mp w.toNat last tr).2 (Zq keq cs w mp w.toNat last tr).1) rfl rfl
noncomputable def Qe2 (env : Env RC) (os : List (Obj RC)) : Option (Bool × QgV) := match env,os with
 | [(0,.ptr 0 [])],[.var 50 (.acons (.ptr 1 []) (.acons (.int .i64 w) (.acons (.int .i64 n) (.acons (.int .i64 v) (.acons (.arr .int 4 has) (.acons (.arr .int 4 place) (.acons (.mp 2) (.acons (.vs 3 x0) (.acons (.int .i64 last) .anil))))))))),.var 44 (.acons (.acons (.sl .int false cs) (.acons (.acons (.sl .sector false now) (.acons (.sl .sector false sure) .anil)) .anil)) (.acons (.arr .task 4 ts) (.acons (.arr .task 4 us) (.acons (.arr .bool 4 busy) .anil)))),.map .int .tryd mp,.vec .tryd true tr] => QA (true) (decide (x0 = tr.length) && cdec (OkLk w cs mp tr last 0),⟨w,now,sure,cs,ts,us,busy,n,v,has,place,mp,tr,last⟩)
 | _,_ => none
noncomputable def uv_2 := uv_1.addObj 36 (sumF s25 [.slot 0 0,.path 0 [0],.path 0 [6],.path 0 [7]] 1 Jk Qe2)
theorem Qoi : Qi Tryz.prog s25 uv_2 := by
 refine Qog.addFun Qb Jk 100 1 [.slot 0 0,.path 0 [0],.path 0 [6],.path 0 [7]] Qe2 (fun q hI => ?_) ?_
 · obtain ⟨w,now,sure,cs,ts,us,busy,n,v,has,place,mp,tr,last⟩ := q;refine ⟨?_,?_,rfl,Qrr w now sure cs ts us busy n v has place mp tr last hI⟩
   · simp [Qm,Jk,Qe1,Jj,eargs,D.refs,Obj.refs]
   · simp [Jk,Qd1,Jj,RT.refsOK,Qm,D.refs,Obj.refs]
 · intro env os b q hd_ hb;unfold Qe2 at hd_
   split at hd_
   · obtain ⟨hs,hd_⟩ := Qj hd_;cases hd_
     try simp only [Bool.and_eq_true,decide_eq_true_eq] at hb
     obtain ⟨e0,e1⟩ := hb;subst e0;exact ⟨QF.1 e1,rfl,rfl⟩
   · cases hd_
open Go.Proofs
structure Qoj where
 wf : Bool
 ws : List Qd
 w : Int
 now : List Sector
 sure : List Sector
 cs : List Int
 ts : List Task
 us : List Task
 busy : List Bool
 n : Int
 v : Int
 has : List Int
 place : List Int
 mp : List (Int × Try)
 tr : List Try
 last : Int
 j : Nat
noncomputable def Qok (wf : Bool) (ws : List Qd) (w : Int) (now : List Sector) (sure : List Sector) (cs : List Int) (ts : List Task) (us : List Task) (busy : List Bool) (n : Int) (v : Int) (has : List Int) (place : List Int) (mp : List (Int × Try)) (tr : List Try) (last : Int) (j : Nat) : Env RC := [(0,.ptr 0 []),(98,.sl (C := RC) .write wf ws),(99,.int .i64 ((ws.length : Int))),(100,.int .i64 (j : Int))]
def JQ (wf : Bool) (ws : List Qd) (w : Int) (now : List Sector) (sure : List Sector) (cs : List Int) (ts : List Task) (us : List Task) (busy : List Bool) (n : Int) (v : Int) (has : List Int) (place : List Int) (mp : List (Int × Try)) (tr : List Try) (last : Int) (j : Nat) : List (Obj RC) := [.var 50 (.acons (.ptr 1 []) (.acons (.int .i64 w) (.acons (.int .i64 n) (.acons (.int .i64 v) (.acons (.arr (C := RC) .int 4 has) (.acons (.arr (C := RC) .int 4 place) (.acons (.mp 3) (.acons (.vs 4 (tr.length)) (.acons (.int .i64 last) .anil))))))))),.var 44 (.acons (.acons (.vs 2 (cs.length)) (.acons (.acons (.sl (C := RC) .sector false now) (.acons (.sl (C := RC) .sector false sure) .anil)) .anil)) (.acons (.arr (C := RC) .task 4 ts) (.acons (.arr (C := RC) .task 4 us) (.acons (.arr (C := RC) .bool 4 busy) .anil)))),.vec .int true cs,.map .int .tryd mp,.vec .tryd true tr]
noncomputable def QsC (wf : Bool) (ws : List Qd) (w : Int) (now : List Sector) (sure : List Sector) (cs : List Int) (ts : List Task) (us : List Task) (busy : List Bool) (n : Int) (v : Int) (has : List Int) (place : List Int) (mp : List (Int × Try)) (tr : List Try) (last : Int) (j : Nat) := rndO s25 uv_2 34 10 100 5 [0,98,99,100] [] [.slot 0 0,.path 0 [0],.path 1 [0,0],.path 0 [6],.path 0 [7]] (Qok wf ws w now sure cs ts us busy n v has place mp tr last j) (JQ wf ws w now sure cs ts us busy n v has place mp tr last j)
theorem QuR (wf : Bool) (ws : List Qd) (w : Int) (now : List Sector) (sure : List Sector) (cs : List Int) (ts : List Task) (us : List Task) (busy : List Bool) (n : Int) (v : Int) (has : List Int) (place : List Int) (mp : List (Int × Try)) (tr : List Try) (last : Int) (j : Nat) : QsC wf ws w now sure cs ts us busy n v has place mp tr last j = (let Z0 : Int := (↑j : Int);let Z1 : Int := (↑ws.length : Int);let Z2 : Nat := List.length cs;let Z3 : Int := lField (99 : Int) n (IntKind.wrap .i64 ((4 : Int) + Z0)) (16 : Int) (12 : Int);let Z4 : Qd := List.getD ws Z0.toNat (Qd.mk (0 : Int) (0 : Int));let Z5 : Int := IntKind.wrap .i64 (IntKind.wrap .i64 (Qd.key Z4 * (256 : Int)) + Qd.value Z4);let Z6 : List Int := List.set cs Z3.toNat Z5;let Z7 : Bool := Nat.beq Z2 Z6.length;let Z8 : Int := lField (99 : Int) n (IntKind.wrap .i64 ((8 : Int) + Z0)) (16 : Int) (12 : Int);let Z9 : List Int := List.set Z6 Z8.toNat (IntKind.wrap .i64 ((256 : Int) + v));let Z10 : Bool := Nat.beq Z2 Z9.length;let Z11 : Int := lField (291 : Int) v (0 : Int) (160 : Int) (3 : Int);let Z12 : List Int := List.set Z9 Z11.toNat (3 : Int);let Z13 : Bool := Nat.beq Z2 Z12.length;let Z14 : Int := lField (291 : Int) v (2 : Int) (160 : Int) (3 : Int);let Z15 : D RC := D.acons (D.arr RTy.int (4 : Nat) has) (.acons (D.arr RTy.int (4 : Nat) place) (.acons (D.mp (3 : Nat)) (.acons (D.vs 4 tr.length) (.acons (D.int .i64 last) .anil))));let Z16 : Option (Obj RC) := some (Obj.var 44 (.acons (D.acons (D.vs 2 Z2) (.acons (D.acons (D.sl RTy.sector false now) (.acons (D.sl RTy.sector false sure) .anil)) .anil)) (.acons (D.arr RTy.task (4 : Nat) ts) (.acons (D.arr RTy.task (4 : Nat) us) (.acons (D.arr RTy.bool (4 : Nat) busy) .anil)))));let Z17 : List (Option (Obj RC)) := [some (Obj.map RTy.int RTy.tryd mp),some (Obj.vec RTy.tryd true tr)];bif decide (Z0 < Z1) then bif decide ((0 : Int) <= Z0 /\ Z0 < Z1) then bif Nat.beq Z2 Z2 && decide ((0 : Int) <= Z3 /\ Z3 < (↑Z2 : Int)) then bif Nat.beq Z2 Z2 then bif Z7 && decide ((0 : Int) <= Z8 /\ Z8 < (↑Z6.length : Int)) then bif Z7 then bif Z10 && decide ((0 : Int) <= Z11 /\ Z11 < (↑Z9.length : Int)) then bif Z10 then bif Z13 && decide ((0 : Int) <= Z14 /\ Z14 < (↑Z12.length : Int)) then bif Z13 then some ((X.normal,[(0,D.ptr 0 []),(98,D.sl RTy.write wf ws),(99,D.int .i64 Z1),(100,D.int .i64 (IntKind.wrap .i64 (Z0 + (1 : Int))))]),some (Obj.var 50 (.acons (D.ptr 1 []) (.acons (D.int .i64 w) (.acons (D.int .i64 n) (.acons (D.int .i64 (IntKind.wrap .i64 (v + (1 : Int)))) Z15))))) :: Z16 :: some (Obj.vec RTy.int true (List.set Z12 Z14.toNat Z5)) :: Z17) else none else none else none else none else none else none else none else none else none else some ((X.exit (0 : Nat),[]),some (Obj.var 50 (.acons (D.ptr 1 []) (.acons (D.int .i64 w) (.acons (D.int .i64 n) (.acons (D.int .i64 v) Z15))))) :: Z16 :: some (Obj.vec RTy.int true cs) :: Z17)) := by kernel_rfl
noncomputable def Yw (wf : Bool) (ws : List Qd) (w : Int) (now : List Sector) (sure : List Sector) (cs : List Int) (ts : List Task) (us : List Task) (busy : List Bool) (n : Int) (v : Int) (has : List Int) (place : List Int) (mp : List (Int × Try)) (tr : List Try) (last : Int) (j : Nat) : RT RC := .leaf (.exit 0) [] (JQ wf ws w now sure (comW n j v (ws.drop j) cs) ts us busy n (v + (ws.length - j : Nat)) has place mp tr last j)
def JR (wf : Bool) (ws : List Qd) (w : Int) (now : List Sector) (sure : List Sector) (cs : List Int) (ts : List Task) (us : List Task) (busy : List Bool) (n : Int) (v : Int) (has : List Int) (place : List Int) (mp : List (Int × Try)) (tr : List Try) (last : Int) (j : Nat) : Prop := OkCm cs n v ws j
noncomputable def Qau : QT RC Qoj where
 k := 5
 canon q := Qok q.wf q.ws q.w q.now q.sure q.cs q.ts q.us q.busy q.n q.v q.has q.place q.mp q.tr q.last q.j
 objs q := JQ q.wf q.ws q.w q.now q.sure q.cs q.ts q.us q.busy q.n q.v q.has q.place q.mp q.tr q.last q.j
 fin q := Yw q.wf q.ws q.w q.now q.sure q.cs q.ts q.us q.busy q.n q.v q.has q.place q.mp q.tr q.last q.j
 Inv q := JR q.wf q.ws q.w q.now q.sure q.cs q.ts q.us q.busy q.n q.v q.has q.place q.mp q.tr q.last q.j
 μ q := q.ws.length - q.j
theorem QiF (wf : Bool) (ws : List Qd) (w : Int) (now : List Sector) (sure : List Sector) (cs : List Int) (ts : List Task) (us : List Task) (busy : List Bool) (n : Int) (v : Int) (has : List Int) (place : List Int) (mp : List (Int × Try)) (tr : List Try) (last : Int) (j : Nat) (hI : JR wf ws w now sure cs ts us busy n v has place mp tr last j) : Leaf (QsC wf ws w now sure cs ts us busy n v has place mp tr last j) (LedR Qau ⟨wf,ws,w,now,sure,cs,ts,us,busy,n,v,has,place,mp,tr,last,j⟩) := by
 (rw [QuR];conv => zeta)
 unfold JR at hI;obtain ⟨hl,hn,hv,hw,hj⟩ := hI;have hw4 := Ji hw;have hfin : ∀ X (V : Int),comW n j v (ws.drop j) cs = X -> v + ((ws.length - j : Nat) : Int) = V -> Yw wf ws w now sure cs ts us busy n v has place mp tr last j = .leaf (.exit 0) [] (JQ wf ws w now sure X ts us busy n V has place mp tr last j) := fun X V hX hV => by unfold Yw;rw [hX,hV]
 by_cases hlt : j < ws.length
 · have w_succ : IntKind.i64.wrap ((j : Int) + 1) = ((j + 1 : Nat) : Int) := by rw [Qc (by omega) (by omega)];simp
   have d_lt : decide ((j : Int) < ws.length) = true := by simp;omega
   have d_in : decide (0 <= (j : Int) /\ (j : Int) < ws.length) = true := by simp;omega
   have t_nat : ((j : Int)).toNat = j := by simp
   have hy := QiC hw hlt;have eY : ws.getD j (Qd.mk 0 0) = ws.getD j wrH := rfl
   have hdr : ws.drop j = ws.getD j wrH :: ws.drop (j + 1) := by
    have e : ws.getD j wrH = ws[j] := by simp [hlt]
    rw [List.drop_eq_getElem_cons hlt,e]
   have hD : comW n j v (ws.drop j) cs = comW n (j + 1) (v + 1) (ws.drop (j + 1)) (put1 n j v (ws.getD j wrH) cs) := by rw [hdr];rfl
   have hfin := hfin _ _ hD rfl;simp only [w_succ,d_lt,d_in,t_nat,eY,cond_true];generalize ws.getD j wrH = y at hy hD hfin hdr ⊢
   have v1 : IntKind.i64.wrap (IntKind.i64.wrap (y.key * 256) + y.value) = packW y := by
    rw [Qc (n := y.key * 256) (by omega) (by omega),Qc (by omega) (by omega)];rfl
   have v2 : IntKind.i64.wrap (256 + v) = 256 + v := Qc (by omega) (by omega)
   have v3 : IntKind.i64.wrap (v + 1) = v + 1 := Qc (by omega) (by omega)
   have v4 : IntKind.i64.wrap (4 + (j : Int)) = 4 + (j : Int) := Qc (by omega) (by omega)
   have v8 : IntKind.i64.wrap (8 + (j : Int)) = 8 + (j : Int) := Qc (by omega) (by omega)
   have a1 : decide (0 <= lField 99 n (4 + (j : Int)) 16 12 /\ lField 99 n (4 + (j : Int)) 16 12 < (cs.length : Int)) = true := by
    rw [QdY hn.1 hn.2 (by omega) (by omega)];exact decide_eq_true ⟨by omega,by omega⟩
   have a2 : decide (0 <= lField 99 n (8 + (j : Int)) 16 12 /\ lField 99 n (8 + (j : Int)) 16 12 < (cs.length : Int)) = true := by
    rw [QdY hn.1 hn.2 (by omega) (by omega)];exact decide_eq_true ⟨by omega,by omega⟩
   have a3 : decide (0 <= lField 291 v 0 160 3 /\ lField 291 v 0 160 3 < (cs.length : Int)) = true := by
    rw [Qri hv.1 (by omega) (by omega) (by omega)];exact decide_eq_true ⟨by omega,by omega⟩
   have a4 : decide (0 <= lField 291 v 2 160 3 /\ lField 291 v 2 160 3 < (cs.length : Int)) = true := by
    rw [Qri hv.1 (by omega) (by omega) (by omega)];exact decide_eq_true ⟨by omega,by omega⟩
   simp only [v1,v2,v3,v4,v8,List.length_set,a1,a2,a3,a4,VY rfl,Bool.and_self,cond_true];refine QB (S := Qau) (s := ⟨wf,ws,w,now,sure,cs,ts,us,busy,n,v,has,place,mp,tr,last,j⟩) ⟨wf,ws,w,now,sure,put1 n j v y cs,ts,us,busy,n,v + 1,has,place,mp,tr,last,j + 1⟩ ⟨by rw [Qb8];exact hl,hn,by show 0 <= v + 1 /\ v + 1 + ((ws.length - (j + 1) : Nat) : Int) <= 60;omega,hw,hlt⟩ (by show ws.length - (j + 1) < ws.length - j;omega) ?_ rfl ?_
   · show (Yw wf ws w now sure (put1 n j v y cs) ts us busy n (v + 1) has place mp tr last (j + 1)).val = (Yw wf ws w now sure cs ts us busy n v has place mp tr last j).val;rw [hfin];unfold Yw;rw [show v + 1 + ((ws.length - (j + 1) : Nat) : Int) = v + ((ws.length - j : Nat) : Int) by omega]
     rfl
   · have hp : (put1 n j v y cs).length = cs.length := Qb8;show _ = (JQ wf ws w now sure (put1 n j v y cs) ts us busy n (v + 1) has place mp tr last (j + 1)).map some;simp only [JQ,hp,List.map_cons,List.map_nil];rfl
 · have hjj : j = ws.length := by omega
   have c1 : decide ((j : Int) < ws.length) = false := by simp;omega
   simp only [c1,cond_false];refine Qn (S := Qau) (s := ⟨wf,ws,w,now,sure,cs,ts,us,busy,n,v,has,place,mp,tr,last,j⟩) (JQ wf ws w now sure cs ts us busy n v has place mp tr last j) ?_ rfl;show (Yw wf ws w now sure cs ts us busy n v has place mp tr last j).val = _;rw [hfin cs v (by rw [hjj,List.drop_length];rfl) (by rw [hjj];simp)]
   rfl
noncomputable def Qol (env : Env RC) (os : List (Obj RC)) : Option (Bool × Qoj) := match env,os with
 | [(0,.ptr 0 []),(98,.sl .write wf ws),(99,.int .i64 x0),(100,.int .i64 x1)],[.var 50 (.acons (.ptr 1 []) (.acons (.int .i64 w) (.acons (.int .i64 n) (.acons (.int .i64 v) (.acons (.arr .int 4 has) (.acons (.arr .int 4 place) (.acons (.mp 3) (.acons (.vs 4 x2) (.acons (.int .i64 last) .anil))))))))),.var 44 (.acons (.acons (.vs 2 x3) (.acons (.acons (.sl .sector false now) (.acons (.sl .sector false sure) .anil)) .anil)) (.acons (.arr .task 4 ts) (.acons (.arr .task 4 us) (.acons (.arr .bool 4 busy) .anil)))),.vec .int true cs,.map .int .tryd mp,.vec .tryd true tr] => QA (true) (decide (x0 = (ws.length : Int)) && decide (x1 = 0) && decide (x2 = tr.length) && decide (x3 = cs.length) && cdec (OkCm cs n v ws 0),⟨wf,ws,w,now,sure,cs,ts,us,busy,n,v,has,place,mp,tr,last,0⟩)
 | _,_ => none
noncomputable def uw_1 := uv_2.addLoop 34 10 (sumR s25 [.slot 0 0,.path 0 [0],.path 1 [0,0],.path 0 [6],.path 0 [7]] [0,98,99,100] Qau Qol)
theorem Qom : Qi Tryz.prog s25 uw_1 := by
 refine Qoi.addRoundsR Qb (by kernel_rfl) Qau 100 [0,98,99,100] [] [.slot 0 0,.path 0 [0],.path 1 [0,0],.path 0 [6],.path 0 [7]] [0,98,99,100] Qol (fun q hI => ?_) ?_
 · obtain ⟨wf,ws,w,now,sure,cs,ts,us,busy,n,v,has,place,mp,tr,last,j⟩ := q;refine ⟨?_,?_,QiF wf ws w now sure cs ts us busy n v has place mp tr last j hI⟩
   · simp_all [Qm,Qau,Qok,JQ,JR,D.refs,Obj.refs,rEnc]
   · simp_all [Qau,Yw,JQ,JR,RT.refsOK,Qm,D.refs,Obj.refs,rEnc]
 · intro env os b q hd_ hb;unfold Qol at hd_
   split at hd_
   · obtain ⟨hs,hd_⟩ := Qj hd_;cases hd_;simp only [Bool.and_eq_true,decide_eq_true_eq] at hb;obtain ⟨⟨⟨⟨e0,e1⟩,e2⟩,e3⟩,e4⟩ := hb;subst e0;subst e1;subst e2;subst e3;exact ⟨QF.1 e4,rfl,rfl⟩
   · cases hd_
noncomputable def comR (w : Int) (s : HS) (c back : Int) (ws : List Qd) : HS := if comB s ws = true then Kc keq w s c back ws else s
structure Qon where
 c : Int
 x : Int
 dd : Int
 back : Int
 wf : Bool
 ws : List Qd
 w : Int
 now : List Sector
 sure : List Sector
 cs : List Int
 ts : List Task
 us : List Task
 busy : List Bool
 n : Int
 v : Int
 has : List Int
 place : List Int
 mp : List (Int × Try)
 tr : List Try
 last : Int
def Qoo (c : Int) (x : Int) (dd : Int) (back : Int) (wf : Bool) (ws : List Qd) (w : Int) (now : List Sector) (sure : List Sector) (cs : List Int) (ts : List Task) (us : List Task) (busy : List Bool) (n : Int) (v : Int) (has : List Int) (place : List Int) (mp : List (Int × Try)) (tr : List Try) (last : Int) : List (D RC) := [.ptr 0 [],.int .i64 c,.acons (.int .i64 x) (.acons (.int .i64 dd) (.acons (.int .i64 back) (.acons (.sl (C := RC) .write wf ws) .anil)))]
def Qbm (c : Int) (x : Int) (dd : Int) (back : Int) (wf : Bool) (ws : List Qd) (w : Int) (now : List Sector) (sure : List Sector) (cs : List Int) (ts : List Task) (us : List Task) (busy : List Bool) (n : Int) (v : Int) (has : List Int) (place : List Int) (mp : List (Int × Try)) (tr : List Try) (last : Int) : List (Obj RC) := [.var 50 (.acons (.ptr 1 []) (.acons (.int .i64 w) (.acons (.int .i64 n) (.acons (.int .i64 v) (.acons (.arr (C := RC) .int 4 has) (.acons (.arr (C := RC) .int 4 place) (.acons (.mp 2) (.acons (.vs 3 (tr.length)) (.acons (.int .i64 last) .anil))))))))),.var 44 (.acons (.acons (.sl (C := RC) .int false cs) (.acons (.acons (.sl (C := RC) .sector false now) (.acons (.sl (C := RC) .sector false sure) .anil)) .anil)) (.acons (.arr (C := RC) .task 4 ts) (.acons (.arr (C := RC) .task 4 us) (.acons (.arr (C := RC) .bool 4 busy) .anil)))),.map .int .tryd mp,.vec .tryd true tr]
noncomputable def QsD (c : Int) (x : Int) (dd : Int) (back : Int) (wf : Bool) (ws : List Qd) (w : Int) (now : List Sector) (sure : List Sector) (cs : List Int) (ts : List Task) (us : List Task) (busy : List Bool) (n : Int) (v : Int) (has : List Int) (place : List Int) (mp : List (Int × Try)) (tr : List Try) (last : Int) := fnO s25 uw_1 34 100 4 (Qoo c x dd back wf ws w now sure cs ts us busy n v has place mp tr last) (Qbm c x dd back wf ws w now sure cs ts us busy n v has place mp tr last)
theorem QuS (c : Int) (x : Int) (dd : Int) (back : Int) (wf : Bool) (ws : List Qd) (w : Int) (now : List Sector) (sure : List Sector) (cs : List Int) (ts : List Task) (us : List Task) (busy : List Bool) (n : Int) (v : Int) (has : List Int) (place : List Int) (mp : List (Int × Try)) (tr : List Try) (last : Int) : QsD c x dd back wf ws w now sure cs ts us busy n v has place mp tr last = (let Z0 : D RC := .anil;let Z1 : Nat := List.length tr;let Z2 : D RC := D.acons (D.mp (2 : Nat)) (.acons (D.vs 3 Z1) (.acons (D.int .i64 last) Z0));let Z3 : D RC := D.acons (D.acons (D.sl RTy.sector false now) (.acons (D.sl RTy.sector false sure) Z0)) Z0;let Z4 : D RC := D.acons (D.arr RTy.task (4 : Nat) ts) (.acons (D.arr RTy.task (4 : Nat) us) (.acons (D.arr RTy.bool (4 : Nat) busy) Z0));let Z5 : Option (D RC × List (Option (Obj RC))) := some (D.tup Z0,[some (Obj.var 50 (.acons (D.ptr 1 []) (.acons (D.int .i64 w) (.acons (D.int .i64 n) (.acons (D.int .i64 v) (.acons (D.arr RTy.int (4 : Nat) has) (.acons (D.arr RTy.int (4 : Nat) place) Z2))))))),some (Obj.var 44 (.acons (D.acons (D.sl RTy.int false cs) Z3) Z4)),some (Obj.map RTy.int RTy.tryd mp),some (Obj.vec RTy.tryd true tr)]);let Z6 : Nat := List.length ws;let Z7 : Bool := lenOK Z6;let Z8 : Int := (↑Z6 : Int);let Z9 : Nat := (0 : Nat) + List.length cs;let Z10 : List Int := List.replicate (0 : Nat) (0 : Int) ++ cs;let Z11 : Bool := Nat.beq Z9 Z10.length;let Z12 : Int := (↑Z10.length : Int);let Z13 : Int := lField (99 : Int) n (0 : Int) (16 : Int) (12 : Int);let Z14 : List Int := List.set Z10 Z13.toNat (3 : Int);let Z15 : Bool := Nat.beq Z9 Z14.length;let Z16 : Int := lField (99 : Int) n (2 : Int) (16 : Int) (12 : Int);let Z17 : Int := if (20 : Int) < back then (20 : Int) else back;let Z18 : Int := IntKind.wrap .i64 (List.getD Z10 (0 : Nat) (0 : Int) - if (0 : Int) < Z17 then Z17 else (0 : Int));let Z19 : Int := if (0 : Int) < Z18 then Z18 else (0 : Int);let Z20 : List Int := List.set Z14 Z16.toNat Z19;let Z21 : Bool := Nat.beq Z9 Z20.length;let Z22 : Int := lField (99 : Int) n (3 : Int) (16 : Int) (12 : Int);let Z23 : List Int := List.set Z20 Z22.toNat Z8;let Z24 : Bool := decide ((0 : Int) <= c /\ c < (4 : Int));let Z25 : Int := IntKind.wrap .i64 ((256 : Int) + n);let Z26 : Nat := Int.toNat c;let Z27 : List Int := comW n (0 : Nat) v (List.drop (0 : Nat) ws) Z23;let Z28 : Bool := Nat.beq Z27.length Z27.length;let Z29 : Option (Obj RC) := some (Obj.var 50 (.acons (D.ptr 1 []) (.acons (D.int .i64 w) (.acons (D.int .i64 (IntKind.wrap .i64 (n + 1))) (.acons (D.int .i64 (v + (↑(Z6 - 0) : Int))) (.acons (D.arr RTy.int (4 : Nat) (List.set has Z26 Z25)) (.acons (D.arr RTy.int (4 : Nat) (List.set place Z26 (0 : Int))) Z2)))))));let Z30 : D RC := D.acons (D.sl RTy.int false Z27) Z3;let Z31 : List (Option (Obj RC)) := [some (Obj.map RTy.int RTy.tryd (mput (Jn s25 RTy.int) Z25 (Try.mk (0 : Int) Z19 ws) mp)),some (Obj.vec RTy.tryd true tr)];let Z32 : Option (D RC × List (Option (Obj RC))) := none;let Z33 : Task := Task.mk c [Qf.mk (68 : Int) (0 : Int) (Zf [w,Z25])] [] false;bif decide ((16 : Int) <= n) then Z5 else bif Z7 then bif decide ((60 : Int) < IntKind.wrap .i64 (v + Z8)) then Z5 else bif Z7 then bif !Qy ws then Z5 else bif Qh Z9 (8 : Nat) then bif Z11 && decide ((0 : Int) <= (0 : Int) /\ (0 : Int) < Z12) then bif Z11 then bif Z11 && decide ((0 : Int) <= Z13 /\ Z13 < Z12) then bif Z11 then bif Z15 && decide ((0 : Int) <= Z16 /\ Z16 < (↑Z14.length : Int)) then bif Z15 then bif Z7 then bif Z21 && decide ((0 : Int) <= Z22 /\ Z22 < (↑Z20.length : Int)) then bif Z21 then bif Z7 then bif decide (Z8 = Z8) && true && decide (Z1 = Z1) && decide (Z9 = List.length Z23) && cdec (OkCm Z23 n v ws (0 : Nat)) then bif Z24 then bif Z24 then bif decide ((0 : Int) <= c /\ c <= (3 : Int) /\ (0 : Int) <= (68 : Int) /\ List.length [w,Z25] <= (96 : Nat)) then bif Z24 then bif List.getD busy Z26 false then bif Z28 then some (D.tup Z0,Z29 :: some (Obj.var 44 (.acons Z30 Z4)) :: Z31) else Z32 else bif Z24 then bif Z24 then bif Z24 then bif Z28 then some (D.tup Z0,Z29 :: some (Obj.var 44 (.acons Z30 (D.acons (D.arr RTy.task (4 : Nat) (List.set ts Z26 Z33)) (.acons (D.arr RTy.task (4 : Nat) (List.set us Z26 Z33)) (.acons (D.arr RTy.bool (4 : Nat) (List.set busy Z26 true)) Z0))))) :: Z31) else Z32 else Z32 else Z32 else Z32 else Z32 else Z32 else Z32 else Z32 else Z32 else Z32 else Z32 else Z32 else Z32 else Z32 else Z32 else Z32 else Z32 else Z32 else Z32 else Z32 else Z32 else Z32) := by kernel_rfl
noncomputable def KJ (c : Int) (x : Int) (dd : Int) (back : Int) (wf : Bool) (ws : List Qd) (w : Int) (now : List Sector) (sure : List Sector) (cs : List Int) (ts : List Task) (us : List Task) (busy : List Bool) (n : Int) (v : Int) (has : List Int) (place : List Int) (mp : List (Int × Try)) (tr : List Try) (last : Int) : RT RC := .leaf .ret [(0,.tup .anil)] (Qbm c x dd back wf ws w now sure (comR w ⟨cs,now,sure,ts,us,busy,n,v,has,place,mp,tr,last⟩ c back ws).cs (comR w ⟨cs,now,sure,ts,us,busy,n,v,has,place,mp,tr,last⟩ c back ws).ts (comR w ⟨cs,now,sure,ts,us,busy,n,v,has,place,mp,tr,last⟩ c back ws).us (comR w ⟨cs,now,sure,ts,us,busy,n,v,has,place,mp,tr,last⟩ c back ws).busy (comR w ⟨cs,now,sure,ts,us,busy,n,v,has,place,mp,tr,last⟩ c back ws).n (comR w ⟨cs,now,sure,ts,us,busy,n,v,has,place,mp,tr,last⟩ c back ws).v (comR w ⟨cs,now,sure,ts,us,busy,n,v,has,place,mp,tr,last⟩ c back ws).has (comR w ⟨cs,now,sure,ts,us,busy,n,v,has,place,mp,tr,last⟩ c back ws).place (comR w ⟨cs,now,sure,ts,us,busy,n,v,has,place,mp,tr,last⟩ c back ws).mp (comR w ⟨cs,now,sure,ts,us,busy,n,v,has,place,mp,tr,last⟩ c back ws).tr (comR w ⟨cs,now,sure,ts,us,busy,n,v,has,place,mp,tr,last⟩ c back ws).last)
def Qcb (c : Int) (x : Int) (dd : Int) (back : Int) (wf : Bool) (ws : List Qd) (w : Int) (now : List Sector) (sure : List Sector) (cs : List Int) (ts : List Task) (us : List Task) (busy : List Bool) (n : Int) (v : Int) (has : List Int) (place : List Int) (mp : List (Int × Try)) (tr : List Try) (last : Int) : Prop := 0 <= c /\ c <= 3 /\ ws.length <= 40 /\ busy.getD c.toNat false = false /\ ∃ ds k,0 <= k /\ k <= 800000 /\ HI w ds k ⟨cs,now,sure,ts,us,busy,n,v,has,place,mp,tr,last⟩
noncomputable def Qav : FunR RC Qon where
 k := 4
 args q := Qoo q.c q.x q.dd q.back q.wf q.ws q.w q.now q.sure q.cs q.ts q.us q.busy q.n q.v q.has q.place q.mp q.tr q.last
 objs q := Qbm q.c q.x q.dd q.back q.wf q.ws q.w q.now q.sure q.cs q.ts q.us q.busy q.n q.v q.has q.place q.mp q.tr q.last
 fin q := KJ q.c q.x q.dd q.back q.wf q.ws q.w q.now q.sure q.cs q.ts q.us q.busy q.n q.v q.has q.place q.mp q.tr q.last
 Inv q := Qcb q.c q.x q.dd q.back q.wf q.ws q.w q.now q.sure q.cs q.ts q.us q.busy q.n q.v q.has q.place q.mp q.tr q.last
theorem JS {c x dd back : Int} {wf : Bool} {ws : List Qd} {w : Int} {now : List Sector} {sure : List Sector} {cs : List Int} {ts : List Task} {us : List Task} {busy : List Bool} {n : Int} {v : Int} {has : List Int} {place : List Int} {mp : List (Int × Try)} {tr : List Try} {last : Int} {os : List (Option (Obj RC))} (H : HS) (hH : comR w ⟨cs,now,sure,ts,us,busy,n,v,has,place,mp,tr,last⟩ c back ws = H) (hos : os = (Qbm c x dd back wf ws w now sure H.cs H.ts H.us H.busy H.n H.v H.has H.place H.mp H.tr H.last).map some) :
 Leaf (some (D.tup .anil,os)) (LedF Qav ⟨c,x,dd,back,wf,ws,w,now,sure,cs,ts,us,busy,n,v,has,place,mp,tr,last⟩) :=
 QeC (S := Qav) (s := ⟨c,x,dd,back,wf,ws,w,now,sure,cs,ts,us,busy,n,v,has,place,mp,tr,last⟩) _ (by show (KJ c x dd back wf ws w now sure cs ts us busy n v has place mp tr last).val = _;unfold KJ;rw [hH];rfl) hos
theorem lfT {α : Type} {c : Bool} {x y : Option α} {P : α -> Prop} (h : c = true) (hx : Leaf x P) : Leaf (cond c x y) P := by rw [h];exact hx
theorem lfN {α : Type} {c : Bool} {x y : Option α} {P : α -> Prop} (h : c = false) (hx : Leaf y P) : Leaf (cond c x y) P := by rw [h];exact hx
theorem QuT (c : Int) (x : Int) (dd : Int) (back : Int) (wf : Bool) (ws : List Qd) (w : Int) (now : List Sector) (sure : List Sector) (cs : List Int) (ts : List Task) (us : List Task) (busy : List Bool) (n : Int) (v : Int) (has : List Int) (place : List Int) (mp : List (Int × Try)) (tr : List Try) (last : Int) (hI : Qcb c x dd back wf ws w now sure cs ts us busy n v has place mp tr last) : Leaf (QsD c x dd back wf ws w now sure cs ts us busy n v has place mp tr last) (LedF Qav ⟨c,x,dd,back,wf,ws,w,now,sure,cs,ts,us,busy,n,v,has,place,mp,tr,last⟩) := by
 (rw [QuS];conv => zeta)
 unfold Qcb at hI;obtain ⟨c0,c3,hws,hb,ds,k,k0,k1,hI⟩ := hI;have hl : cs.length = 771 := hI.sc.len;have hn : n = (ds.length : Int) := hI.nn;have hv : 0 <= v /\ v <= 60 := hI.vv;have lw : lenOK ws.length = true := Qk (by omega)
 have hno : comB ⟨cs,now,sure,ts,us,busy,n,v,has,place,mp,tr,last⟩ ws = false -> comR w ⟨cs,now,sure,ts,us,busy,n,v,has,place,mp,tr,last⟩ c back ws = ⟨cs,now,sure,ts,us,busy,n,v,has,place,mp,tr,last⟩ := fun e => if_neg (by rw [e];simp)
 have hB : comB ⟨cs,now,sure,ts,us,busy,n,v,has,place,mp,tr,last⟩ ws = (decide (n < 16) && decide (v + ws.length <= 60) && Qy ws) := rfl
 by_cases b1 : 16 <= n
 · exact lfT (decide_eq_true b1) (JS _ (hno (by rw [hB,decide_eq_false (show ¬ n < 16 by omega)];rfl)) rfl)
 refine lfN (decide_eq_false b1) (lfT lw ?_);have w1 : IntKind.i64.wrap (v + (ws.length : Int)) = v + (ws.length : Int) := Qc (by omega) (by omega)
 rw [w1]
 by_cases b2 : 60 < v + (ws.length : Int)
 · exact lfT (decide_eq_true b2) (JS _ (hno (by rw [hB,decide_eq_false (show ¬ v + (ws.length : Int) <= 60 by omega),Bool.and_false];rfl)) rfl)
 refine lfN (decide_eq_false b2) (lfT lw ?_);cases b3 : Qy ws
 · exact lfT rfl (JS _ (hno (by rw [hB,b3,Bool.and_false])) rfl)
 refine lfN rfl ?_;have hBt : comB ⟨cs,now,sure,ts,us,busy,n,v,has,place,mp,tr,last⟩ ws = true := by rw [hB,b3,decide_eq_true (show n < 16 by omega),decide_eq_true (show v + (ws.length : Int) <= 60 by omega)];rfl
 have hst := Kr hI back;have hf := (hI.sc.ty 0 (by decide) (by decide)).t0 rfl
 have hf : 0 <= cs.getD 0 0 /\ cs.getD 0 0 <= 1048575 := hf;have s1 : Qh cs.length 8 = true := Vd (by omega)
 have z0 : decide ((0 : Int) <= 0 /\ (0 : Int) < (cs.length : Int)) = true := decide_eq_true ⟨by decide,by omega⟩
 have a0 : ∀ f : Int,0 <= f -> f < 12 -> decide (0 <= lField 99 n f 16 12 /\ lField 99 n f 16 12 < (cs.length : Int)) = true := fun f f0 f1 => by
  rw [QdY (by omega) (by omega) f0 f1];exact decide_eq_true ⟨by omega,by omega⟩
 have e1 : (if 20 < back then (20 : Int) else back) = min back 20 := by split <;> omega
 have e2 : ∀ d : Int,(if 0 < d then d else 0) = max 0 d := fun d => by split <;> omega
 have e3 : IntKind.i64.wrap (cs.getD 0 0 - max 0 (min back 20)) = cs.getD 0 0 - max 0 (min back 20) := Qc (by omega) (by omega)
 have e4 : max 0 (cs.getD 0 0 - max 0 (min back 20)) = YN ⟨cs,now,sure,ts,us,busy,n,v,has,place,mp,tr,last⟩ back := rfl;have v2 : IntKind.i64.wrap (256 + n) = 256 + n := Qc (by omega) (by omega)
 have v3 : IntKind.i64.wrap (n + 1) = n + 1 := Qc (by omega) (by omega)
 have hc : decide (0 <= c /\ c < 4) = true := decide_eq_true ⟨c0,by omega⟩
 have kN : decide (0 <= c /\ c <= 3 /\ (0 : Int) <= 68 /\ [w,256 + n].length <= 96) = true := decide_eq_true ⟨c0,c3,by decide,by simp⟩
 have t0 : (0 : Int).toNat = 0 := rfl;have eS : ∀ st : Int,((cs.set (lField 99 n 0 16 12).toNat 3).set (lField 99 n 2 16 12).toNat st).set (lField 99 n 3 16 12).toNat (ws.length : Int) = comS cs n v st ws := fun _ => rfl;have lS : ∀ st : Int,(comS cs n v st ws).length = cs.length := fun st => by unfold comS;simp only [List.length_set]
 have kC : ∀ st : Int,cdec (OkCm (comS cs n v st ws) n v ws 0) = true := fun st => Qx ⟨by rw [lS];exact hl,by omega,by omega,b3,Nat.zero_le _⟩
 have kL : ∀ X : List Int,X.length = cs.length -> Nat.beq (0 + cs.length) X.length = true := fun X hX => VY (by omega)
 simp only [List.replicate_zero,List.nil_append,Nat.zero_add,List.length_set,s1,z0,t0,a0 0 (by decide) (by decide),a0 2 (by decide) (by decide),a0 3 (by decide) (by decide),e1,e2,e3,e4,v2,v3,hc,kN,hb,lw,VY rfl,Bool.and_self,Bool.and_true,Bool.true_and,cond_true,cond_false,List.drop_zero,Nat.sub_zero,eS,lS,kC,decide_true]
 exact JS (Kc keq w ⟨cs,now,sure,ts,us,busy,n,v,has,place,mp,tr,last⟩ c back ws) (if_pos hBt) rfl
noncomputable def Qop (env : Env RC) (os : List (Obj RC)) : Option (Bool × Qon) := match env,os with
 | [(0,.ptr 0 []),(1,.int .i64 c),(2,.acons (.int .i64 x) (.acons (.int .i64 dd) (.acons (.int .i64 back) (.acons (.sl .write wf ws) .anil))))],[.var 50 (.acons (.ptr 1 []) (.acons (.int .i64 w) (.acons (.int .i64 n) (.acons (.int .i64 v) (.acons (.arr .int 4 has) (.acons (.arr .int 4 place) (.acons (.mp 2) (.acons (.vs 3 x0) (.acons (.int .i64 last) .anil))))))))),.var 44 (.acons (.acons (.sl .int false cs) (.acons (.acons (.sl .sector false now) (.acons (.sl .sector false sure) .anil)) .anil)) (.acons (.arr .task 4 ts) (.acons (.arr .task 4 us) (.acons (.arr .bool 4 busy) .anil)))),.map .int .tryd mp,.vec .tryd true tr] => QA (true) (decide (x0 = tr.length) && cdec (0 <= c /\ c <= 3 /\ ws.length <= 40 /\ busy.getD c.toNat false = false /\ ∃ ds k,0 <= k /\ k <= 800000 /\ HI w ds k ⟨cs,now,sure,ts,us,busy,n,v,has,place,mp,tr,last⟩),⟨c,x,dd,back,wf,ws,w,now,sure,cs,ts,us,busy,n,v,has,place,mp,tr,last⟩)
 | _,_ => none
noncomputable def uw_2 := uw_1.addObj 34 (sumF s25 [.slot 0 0,.path 0 [0],.path 0 [6],.path 0 [7]] 3 Qav Qop)
theorem Qoq : Qi Tryz.prog s25 uw_2 := by
 refine Qom.addFun Qb Qav 100 3 [.slot 0 0,.path 0 [0],.path 0 [6],.path 0 [7]] Qop (fun q hI => ?_) ?_
 · obtain ⟨c,x,dd,back,wf,ws,w,now,sure,cs,ts,us,busy,n,v,has,place,mp,tr,last⟩ := q;refine ⟨?_,?_,rfl,QuT c x dd back wf ws w now sure cs ts us busy n v has place mp tr last hI⟩
   · simp [Qm,Qav,Qoo,Qbm,eargs,D.refs,Obj.refs]
   · simp [Qav,KJ,Qbm,RT.refsOK,Qm,D.refs,Obj.refs]
 · intro env os b q hd_ hb;unfold Qop at hd_
   split at hd_
   · obtain ⟨hs,hd_⟩ := Qj hd_;cases hd_
     try simp only [Bool.and_eq_true,decide_eq_true_eq] at hb
     obtain ⟨e0,e1⟩ := hb;subst e0;exact ⟨QF.1 e1,rfl,rfl⟩
   · cases hd_
open Go.Proofs
def pkOv (s : HS) (c : Int) : Bool := if QdX s c = true then !(endH s c).is && !wonB s c else false
structure QgW where
 x : Int
 dd : Int
 back : Int
 wf : Bool
 ws : List Qd
 w : Int
 now : List Sector
 sure : List Sector
 cs : List Int
 ts : List Task
 us : List Task
 busy : List Bool
 n : Int
 v : Int
 has : List Int
 place : List Int
 mp : List (Int × Try)
 tr : List Try
 last : Int
def Qe3 (x : Int) (dd : Int) (back : Int) (wf : Bool) (ws : List Qd) (w : Int) (now : List Sector) (sure : List Sector) (cs : List Int) (ts : List Task) (us : List Task) (busy : List Bool) (n : Int) (v : Int) (has : List Int) (place : List Int) (mp : List (Int × Try)) (tr : List Try) (last : Int) : List (D RC) := [.ptr 0 [],.acons (.int .i64 x) (.acons (.int .i64 dd) (.acons (.int .i64 back) (.acons (.sl (C := RC) .write wf ws) .anil)))]
def Jl (x : Int) (dd : Int) (back : Int) (wf : Bool) (ws : List Qd) (w : Int) (now : List Sector) (sure : List Sector) (cs : List Int) (ts : List Task) (us : List Task) (busy : List Bool) (n : Int) (v : Int) (has : List Int) (place : List Int) (mp : List (Int × Try)) (tr : List Try) (last : Int) : List (Obj RC) := [.var 50 (.acons (.ptr 1 []) (.acons (.int .i64 w) (.acons (.int .i64 n) (.acons (.int .i64 v) (.acons (.arr (C := RC) .int 4 has) (.acons (.arr (C := RC) .int 4 place) (.acons (.mp 2) (.acons (.vs 3 (tr.length)) (.acons (.int .i64 last) .anil))))))))),.var 44 (.acons (.acons (.sl (C := RC) .int false cs) (.acons (.acons (.sl (C := RC) .sector false now) (.acons (.sl (C := RC) .sector false sure) .anil)) .anil)) (.acons (.arr (C := RC) .task 4 ts) (.acons (.arr (C := RC) .task 4 us) (.acons (.arr (C := RC) .bool 4 busy) .anil)))),.map .int .tryd mp,.vec .tryd true tr]
noncomputable def Qor (x : Int) (dd : Int) (back : Int) (wf : Bool) (ws : List Qd) (w : Int) (now : List Sector) (sure : List Sector) (cs : List Int) (ts : List Task) (us : List Task) (busy : List Bool) (n : Int) (v : Int) (has : List Int) (place : List Int) (mp : List (Int × Try)) (tr : List Try) (last : Int) := fnO s25 uw_2 12 100 4 (Qe3 x dd back wf ws w now sure cs ts us busy n v has place mp tr last) (Jl x dd back wf ws w now sure cs ts us busy n v has place mp tr last)
theorem Qrs (x : Int) (dd : Int) (back : Int) (wf : Bool) (ws : List Qd) (w : Int) (now : List Sector) (sure : List Sector) (cs : List Int) (ts : List Task) (us : List Task) (busy : List Bool) (n : Int) (v : Int) (has : List Int) (place : List Int) (mp : List (Int × Try)) (tr : List Try) (last : Int) : Qor x dd back wf ws w now sure cs ts us busy n v has place mp tr last = (let Z0 : Int := Int.tmod (IntKind.wrap .i64 (Int.tmod x (4 : Int) + (4 : Int))) (4 : Int);let Z1 : Bool := decide ((0 : Int) <= Z0 /\ Z0 < (4 : Int));let Z2 : Nat := Int.toNat Z0;let Z3 : Bool := List.getD busy Z2 false;let Z4 : Nat := List.length tr;let Z5 : HS := HS.mk cs now sure ts us busy n v has place mp tr last;let Z6 : D RC := .anil;let Z7 : D RC := D.acons (D.bool true) Z6;let Z8 : D RC := D.tup (D.acons (D.int .i64 Z0) (.acons (D.bool false) Z7));let Z9 : D RC := D.ptr 1 [];let Z10 : D RC := D.int .i64 w;let Z11 : HS := comR w Z5 Z0 back ws;let Z12 : D RC := D.mp (2 : Nat);let Z13 : D RC := D.acons (D.acons (D.sl RTy.sector false now) (.acons (D.sl RTy.sector false sure) Z6)) Z6;let Z14 : D RC := D.int .i64 n;let Z15 : D RC := D.int .i64 v;let Z16 : D RC := D.arr RTy.int (4 : Nat) has;let Z17 : D RC := D.arr RTy.int (4 : Nat) place;let Z18 : Task := tkC ts Z0;let Z19 : List Int := gdCs nHp cs Z18;let Z20 : Task := gmT nHp false (gdX nHp cs Z18) Z18;let Z21 : Bool := GoM.is (goT nHp false Z20);let Z22 : List Int := bif Z21 then [] else GoM.got (goT nHp false Z20);let Z23 : Int := (↑Z22.length : Int);let Z24 : Bool := decide ((0 : Int) <= (1 : Int) /\ (1 : Int) < Z23);let Z25 : Int := List.getD Z22 (1 : Nat) (0 : Int);let Z26 : List Bool := bif Z21 then busy else List.set busy Z2 false;let Z27 : Int × List Try := Zq keq Z19 w mp w.toNat last tr;let Z28 : D RC := D.acons Z12 (D.acons (D.vs 3 Z27.2.length) (.acons (D.int .i64 Z27.1) Z6));let Z29 : Option (Obj RC) := some (Obj.var 50 (.acons Z9 (D.acons Z10 (D.acons Z14 (D.acons Z15 (D.acons Z16 (D.acons (D.arr RTy.int (4 : Nat) (List.set place Z2 Z25)) Z28)))))));let Z30 : D RC := D.acons (D.sl RTy.int false Z19) (.acons (D.acons (D.sl RTy.sector false (Qix nHp now Z18)) (.acons (D.sl RTy.sector false (Qbi nHp now sure Z18)) Z6)) Z6);let Z31 : List Task := List.set us Z2 (gmT nHp true (gdX nHp cs Z18) (tkC us Z0));let Z32 : List (Option (Obj RC)) := [some (Obj.map RTy.int RTy.tryd mp),some (Obj.vec RTy.tryd true Z27.2)];let Z33 : List (Option (Obj RC)) := some (Obj.var 44 (.acons Z30 (D.acons (D.arr RTy.task (4 : Nat) (List.set ts Z2 Z20)) (.acons (D.arr RTy.task (4 : Nat) Z31) (.acons (D.arr RTy.bool (4 : Nat) Z26) Z6))))) :: Z32;let Z34 : Task := Task.mk Z0 [Qf.mk (100 : Int) (0 : Int) (Zf [Z25,w])] [] false;let Z35 : Option (D RC × List (Option (Obj RC))) := some (D.tup (D.acons (D.int .i64 Z0) (.acons (D.bool !Z21) Z7)),some (Obj.var 50 (.acons Z9 (D.acons Z10 (D.acons Z14 (D.acons Z15 (D.acons Z16 (D.acons Z17 Z28))))))) :: Z33);bif Z1 then bif !Z3 then bif dd == (0 : Int) then bif decide (Z4 = Z4) && cdec ((0 : Int) <= Z0 /\ Z0 <= (3 : Int) /\ List.length ws <= (40 : Nat) /\ Z3 = false /\ ∃ (ds : List HD),∃ (k : Int),(0 : Int) <= k /\ k <= (800000 : Int) /\ HI w ds k Z5) then some (Z8,[some (Obj.var 50 (.acons Z9 (D.acons Z10 (D.acons (D.int .i64 (HS.n Z11)) (.acons (D.int .i64 (HS.v Z11)) (.acons (D.arr RTy.int (4 : Nat) (HS.has Z11)) (.acons (D.arr RTy.int (4 : Nat) (HS.place Z11)) (.acons Z12 (D.acons (D.vs 3 (HS.tr Z11).length) (.acons (D.int .i64 (HS.last Z11)) Z6)))))))))),some (Obj.var 44 (.acons (D.acons (D.sl RTy.int false (HS.cs Z11)) Z13) (.acons (D.arr RTy.task (4 : Nat) (HS.ts Z11)) (.acons (D.arr RTy.task (4 : Nat) (HS.us Z11)) (.acons (D.arr RTy.bool (4 : Nat) (HS.busy Z11)) Z6))))),some (Obj.map RTy.int RTy.tryd (HS.mp Z11)),some (Obj.vec RTy.tryd true (HS.tr Z11))]) else none else some (Z8,[some (Obj.var 50 (.acons Z9 (D.acons Z10 (D.acons Z14 (D.acons Z15 (D.acons Z16 (D.acons Z17 (D.acons Z12 (D.acons (D.vs 3 Z4) (.acons (D.int .i64 last) Z6)))))))))),some (Obj.var 44 (.acons (D.acons (D.sl RTy.int false cs) Z13) (.acons (D.arr RTy.task (4 : Nat) ts) (.acons (D.arr RTy.task (4 : Nat) us) (.acons (D.arr RTy.bool (4 : Nat) busy) Z6))))),some (Obj.map RTy.int RTy.tryd mp),some (Obj.vec RTy.tryd true tr)]) else bif cdec ((0 : Int) <= Z0 /\ Z0 <= (3 : Int) /\ List.length ts = (4 : Nat) /\ List.length us = (4 : Nat) /\ Qam nHp okHp Z0 cs Z18 (tkC us Z0) now sure) then bif decide (Z4 = Z4) && cdec (OkLk w Z19 mp tr last (0 : Int)) then bif !Z21 then bif Z1 then bif List.getD place Z2 (0 : Int) == (0 : Int) then bif lenOK Z22.length then bif Z23 == (2 : Int) then bif decide ((0 : Int) <= (0 : Int) /\ (0 : Int) < Z23) then bif List.getD Z22 (0 : Nat) (0 : Int) == (0 : Int) then bif Z24 then bif Z1 then bif Z24 then bif decide ((0 : Int) <= Z0 /\ Z0 <= (3 : Int) /\ (0 : Int) <= (100 : Int) /\ List.length [Z25,w] <= (96 : Nat)) then bif Z1 then bif List.getD Z26 Z2 false then some (Z8,Z29 :: Z33) else bif Z1 then bif Z1 then bif Z1 then some (Z8,Z29 :: some (Obj.var 44 (.acons Z30 (D.acons (D.arr RTy.task (4 : Nat) (List.set (List.set ts Z2 Z20) Z2 Z34)) (.acons (D.arr RTy.task (4 : Nat) (List.set Z31 Z2 Z34)) (.acons (D.arr RTy.bool (4 : Nat) (List.set Z26 Z2 true)) Z6))))) :: Z32) else none else none else none else none else none else none else none else none else Z35 else none else Z35 else none else Z35 else none else Z35 else none else none else none) := by kernel_rfl
noncomputable def JT (x : Int) (dd : Int) (back : Int) (wf : Bool) (ws : List Qd) (w : Int) (now : List Sector) (sure : List Sector) (cs : List Int) (ts : List Task) (us : List Task) (busy : List Bool) (n : Int) (v : Int) (has : List Int) (place : List Int) (mp : List (Int × Try)) (tr : List Try) (last : Int) : RT RC := .leaf .ret [(0,.tup (.acons (.int .i64 (x % 4)) (.acons (.bool (pkOv ⟨cs,now,sure,ts,us,busy,n,v,has,place,mp,tr,last⟩ (x % 4))) (.acons (.bool true) .anil))))] (Jl x dd back wf ws w (ZM keq w ⟨cs,now,sure,ts,us,busy,n,v,has,place,mp,tr,last⟩ x dd back ws).now (ZM keq w ⟨cs,now,sure,ts,us,busy,n,v,has,place,mp,tr,last⟩ x dd back ws).sure (ZM keq w ⟨cs,now,sure,ts,us,busy,n,v,has,place,mp,tr,last⟩ x dd back ws).cs (ZM keq w ⟨cs,now,sure,ts,us,busy,n,v,has,place,mp,tr,last⟩ x dd back ws).ts (ZM keq w ⟨cs,now,sure,ts,us,busy,n,v,has,place,mp,tr,last⟩ x dd back ws).us (ZM keq w ⟨cs,now,sure,ts,us,busy,n,v,has,place,mp,tr,last⟩ x dd back ws).busy (ZM keq w ⟨cs,now,sure,ts,us,busy,n,v,has,place,mp,tr,last⟩ x dd back ws).n (ZM keq w ⟨cs,now,sure,ts,us,busy,n,v,has,place,mp,tr,last⟩ x dd back ws).v (ZM keq w ⟨cs,now,sure,ts,us,busy,n,v,has,place,mp,tr,last⟩ x dd back ws).has (ZM keq w ⟨cs,now,sure,ts,us,busy,n,v,has,place,mp,tr,last⟩ x dd back ws).place (ZM keq w ⟨cs,now,sure,ts,us,busy,n,v,has,place,mp,tr,last⟩ x dd back ws).mp (ZM keq w ⟨cs,now,sure,ts,us,busy,n,v,has,place,mp,tr,last⟩ x dd back ws).tr (ZM keq w ⟨cs,now,sure,ts,us,busy,n,v,has,place,mp,tr,last⟩ x dd back ws).last)
def Qaw (x : Int) (dd : Int) (back : Int) (wf : Bool) (ws : List Qd) (w : Int) (now : List Sector) (sure : List Sector) (cs : List Int) (ts : List Task) (us : List Task) (busy : List Bool) (n : Int) (v : Int) (has : List Int) (place : List Int) (mp : List (Int × Try)) (tr : List Try) (last : Int) : Prop := ws.length <= 40 /\ ∃ ds k,0 <= k /\ k <= 800000 /\ HI w ds k ⟨cs,now,sure,ts,us,busy,n,v,has,place,mp,tr,last⟩
noncomputable def Jm : FunR RC QgW where
 k := 4
 args q := Qe3 q.x q.dd q.back q.wf q.ws q.w q.now q.sure q.cs q.ts q.us q.busy q.n q.v q.has q.place q.mp q.tr q.last
 objs q := Jl q.x q.dd q.back q.wf q.ws q.w q.now q.sure q.cs q.ts q.us q.busy q.n q.v q.has q.place q.mp q.tr q.last
 fin q := JT q.x q.dd q.back q.wf q.ws q.w q.now q.sure q.cs q.ts q.us q.busy q.n q.v q.has q.place q.mp q.tr q.last
 Inv q := Qaw q.x q.dd q.back q.wf q.ws q.w q.now q.sure q.cs q.ts q.us q.busy q.n q.v q.has q.place q.mp q.tr q.last
theorem Zv {x dd back : Int} {wf : Bool} {ws : List Qd} {w : Int} {now : List Sector} {sure : List Sector} {cs : List Int} {ts : List Task} {us : List Task} {busy : List Bool} {n : Int} {v : Int} {has : List Int} {place : List Int} {mp : List (Int × Try)} {tr : List Try} {last : Int} {os : List (Option (Obj RC))} (c : Int) (hx : x % 4 = c) (H : HS) (o : Bool) (hG : ZM keq w ⟨cs,now,sure,ts,us,busy,n,v,has,place,mp,tr,last⟩ x dd back ws = H) (hO : pkOv ⟨cs,now,sure,ts,us,busy,n,v,has,place,mp,tr,last⟩ c = o)
 (hos : os = (Jl x dd back wf ws w H.now H.sure H.cs H.ts H.us H.busy H.n H.v H.has H.place H.mp H.tr H.last).map some) : Leaf (some (D.tup (.acons (.int .i64 c) (.acons (.bool o) (.acons (.bool true) .anil))),os)) (LedF Jm ⟨x,dd,back,wf,ws,w,now,sure,cs,ts,us,busy,n,v,has,place,mp,tr,last⟩) := by
 subst hx;exact QeC (S := Jm) (s := ⟨x,dd,back,wf,ws,w,now,sure,cs,ts,us,busy,n,v,has,place,mp,tr,last⟩) _ (by show (JT x dd back wf ws w now sure cs ts us busy n v has place mp tr last).val = _;unfold JT;rw [hG,hO];rfl) hos
theorem Qrt (x : Int) (dd : Int) (back : Int) (wf : Bool) (ws : List Qd) (w : Int) (now : List Sector) (sure : List Sector) (cs : List Int) (ts : List Task) (us : List Task) (busy : List Bool) (n : Int) (v : Int) (has : List Int) (place : List Int) (mp : List (Int × Try)) (tr : List Try) (last : Int) (hI : Qaw x dd back wf ws w now sure cs ts us busy n v has place mp tr last) : Leaf (Qor x dd back wf ws w now sure cs ts us busy n v has place mp tr last) (LedF Jm ⟨x,dd,back,wf,ws,w,now,sure,cs,ts,us,busy,n,v,has,place,mp,tr,last⟩) := by
 (rw [Qrs];conv => zeta)
 unfold Qaw at hI;obtain ⟨hws,ds,k,k0,k1,hI⟩ := hI;have hc1 : 0 <= x % 4 := Int.emod_nonneg _ (by decide)
 have hc2 : x % 4 < 4 := Int.emod_lt_of_pos _ (by decide)
 simp only [mod4];generalize hx : x % 4 = c at hc1 hc2 ⊢;have c1 : decide (0 <= c /\ c < 4) = true := decide_eq_true ⟨hc1,hc2⟩;refine lfT c1 ?_;cases hb : busy.getD c.toNat false with
 | false =>
  refine lfT rfl ?_;have hB : ¬ QdX ⟨cs,now,sure,ts,us,busy,n,v,has,place,mp,tr,last⟩ c = true := fun q => by rw [show QdX ⟨cs,now,sure,ts,us,busy,n,v,has,place,mp,tr,last⟩ c = false from hb] at q;cases q
  have hO : pkOv ⟨cs,now,sure,ts,us,busy,n,v,has,place,mp,tr,last⟩ c = false := if_neg hB;have hP : ZM keq w ⟨cs,now,sure,ts,us,busy,n,v,has,place,mp,tr,last⟩ x dd back ws = if dd = 0 /\ comB ⟨cs,now,sure,ts,us,busy,n,v,has,place,mp,tr,last⟩ ws = true then Kc keq w ⟨cs,now,sure,ts,us,busy,n,v,has,place,mp,tr,last⟩ c back ws else ⟨cs,now,sure,ts,us,busy,n,v,has,place,mp,tr,last⟩ := by unfold ZM;rw [hx];exact if_neg hB
  by_cases e0 : dd = 0
  · refine lfT (Zs e0) (lfT (by rw [Qx ⟨hc1,by omega,hws,rfl,ds,k,k0,k1,hI⟩,decide_true];rfl) ?_)
    have hR : ZM keq w ⟨cs,now,sure,ts,us,busy,n,v,has,place,mp,tr,last⟩ x dd back ws = comR w ⟨cs,now,sure,ts,us,busy,n,v,has,place,mp,tr,last⟩ c back ws := by
     rw [hP];unfold comR
     by_cases q : comB ⟨cs,now,sure,ts,us,busy,n,v,has,place,mp,tr,last⟩ ws = true
     · rw [if_pos ⟨e0,q⟩,if_pos q]
     · rw [if_neg (fun z => q z.2),if_neg q]
    have hN : now = (comR w ⟨cs,now,sure,ts,us,busy,n,v,has,place,mp,tr,last⟩ c back ws).now /\ sure = (comR w ⟨cs,now,sure,ts,us,busy,n,v,has,place,mp,tr,last⟩ c back ws).sure := by
     unfold comR;split <;> exact ⟨rfl,rfl⟩
    refine Zv c hx (comR w ⟨cs,now,sure,ts,us,busy,n,v,has,place,mp,tr,last⟩ c back ws) false hR hO ?_;obtain ⟨u1,u2⟩ := hN;unfold Jl;rw [<- u1,<- u2];rfl
  · refine lfN (Za e0) ?_;exact Zv c hx ⟨cs,now,sure,ts,us,busy,n,v,has,place,mp,tr,last⟩ false (hP.trans (if_neg (fun z => e0 z.1))) hO rfl
 | true =>
  have hS := hI.step k0 k1 hc1 (by omega) hb
  refine lfN rfl (lfT (Qx ⟨hc1,by omega,hI.lt,hI.lu,hS.1⟩) ?_)
  have hla : 0 <= last /\ last <= 8 * k := hI.la;have htl : (tr.length : Int) <= 8 * k := hI.tl;have hw : 2 <= w /\ w <= 8 := hI.w;have hL : OkLk w (gdCs nHp cs (tkC ts c)) mp tr last 0 := ⟨hS.2.1.sc.len,hw,by omega,by omega,by omega,hI.mw⟩
  refine lfT (by rw [Qx hL,decide_true];rfl) ?_
  have hB : QdX ⟨cs,now,sure,ts,us,busy,n,v,has,place,mp,tr,last⟩ c = true := hb;have hP : ZM keq w ⟨cs,now,sure,ts,us,busy,n,v,has,place,mp,tr,last⟩ x dd back ws = if wonB ⟨cs,now,sure,ts,us,busy,n,v,has,place,mp,tr,last⟩ c = true then wonH w (Qas keq w (QaH ⟨cs,now,sure,ts,us,busy,n,v,has,place,mp,tr,last⟩ c)) c ((endH ⟨cs,now,sure,ts,us,busy,n,v,has,place,mp,tr,last⟩ c).got.getD 1 0) else Qas keq w (QaH ⟨cs,now,sure,ts,us,busy,n,v,has,place,mp,tr,last⟩ c) := by unfold ZM;rw [hx];exact if_pos hB
  have hO : pkOv ⟨cs,now,sure,ts,us,busy,n,v,has,place,mp,tr,last⟩ c = (!(endH ⟨cs,now,sure,ts,us,busy,n,v,has,place,mp,tr,last⟩ c).is && !wonB ⟨cs,now,sure,ts,us,busy,n,v,has,place,mp,tr,last⟩ c) := if_pos hB;have hW : wonB ⟨cs,now,sure,ts,us,busy,n,v,has,place,mp,tr,last⟩ c = (!(endH ⟨cs,now,sure,ts,us,busy,n,v,has,place,mp,tr,last⟩ c).is && (decide (place.getD c.toNat 0 = 0) && (decide ((endH ⟨cs,now,sure,ts,us,busy,n,v,has,place,mp,tr,last⟩ c).got.length = 2) && decide ((endH ⟨cs,now,sure,ts,us,busy,n,v,has,place,mp,tr,last⟩ c).got.getD 0 0 = 0)))) := rfl;have hE := hS.2.2;unfold QaH at hP;rw [show endH ⟨cs,now,sure,ts,us,busy,n,v,has,place,mp,tr,last⟩ c = goT nHp false (gmT nHp false (gdX nHp cs (tkC ts c)) (tkC ts c)) from rfl] at hP hO hW hE;generalize goT nHp false (gmT nHp false (gdX nHp cs (tkC ts c)) (tkC ts c)) = Q at *;cases hi : Q.is with
  | true =>
   rw [hi] at hP hO hW;refine lfN rfl ?_;exact Zv c hx _ false (hP.trans (if_neg (by rw [hW];simp))) (by rw [hO];rfl) rfl
  | false =>
   rw [hi] at hP hO hW;have hE := hE hi
   have hgl : Q.got.length <= 2 := by
    rcases hE with e | ⟨t,e,_⟩ | ⟨t,e⟩ <;> rw [e] <;> simp
   refine lfT rfl (lfT c1 ?_);simp only [cond_false]
   by_cases e1 : place.getD c.toNat 0 = 0
   · refine lfT (Zs e1) (lfT (Qk (by omega)) ?_)
     by_cases e2 : Q.got.length = 2
     · refine lfT (Zs (by omega)) (lfT (decide_eq_true ⟨by decide,by omega⟩) ?_)
       have n1 : decide ((0 : Int) <= 1 /\ (1 : Int) < (Q.got.length : Int)) = true := decide_eq_true ⟨by decide,by omega⟩
       have t0 : (0 : Int).toNat = 0 := rfl
       by_cases e3 : Q.got.getD 0 0 = 0
       · have kN : decide (0 <= c /\ c <= 3 /\ (0 : Int) <= 100 /\ [Q.got.getD 1 0,w].length <= 96) = true := decide_eq_true ⟨hc1,by omega,by decide,by simp⟩
         refine lfT (Zs e3) (lfT n1 (lfT c1 (lfT n1 (lfT kN (lfT c1 (lfN ?_ (lfT c1 (lfT c1 (lfT c1 ?_)))))))))
         · show (busy.set c.toNat false).getD c.toNat false = false;rw [bS hI.lb hc1 (by omega) hc1,if_pos rfl]
         · exact Zv c hx _ false (hP.trans (if_pos (by rw [hW,decide_eq_true e1,decide_eq_true e2,decide_eq_true e3];rfl))) (by rw [hO,hW,decide_eq_true e1,decide_eq_true e2,decide_eq_true e3];rfl) rfl
       · refine lfN (Za e3) ?_;exact Zv c hx _ true (hP.trans (if_neg (by rw [hW,decide_eq_false e3];simp))) (by rw [hO,hW,decide_eq_false e3,Bool.and_false,Bool.and_false,Bool.and_false];rfl) rfl
     · refine lfN (Za (by omega)) ?_
       exact Zv c hx _ true (hP.trans (if_neg (by rw [hW,decide_eq_false e2];simp))) (by rw [hO,hW,decide_eq_false e2,Bool.false_and,Bool.and_false,Bool.and_false];rfl) rfl
   · refine lfN (Za e1) ?_;exact Zv c hx _ true (hP.trans (if_neg (by rw [hW,decide_eq_false e1];simp))) (by rw [hO,hW,decide_eq_false e1,Bool.false_and,Bool.and_false];rfl) rfl
noncomputable def Qe4 (env : Env RC) (os : List (Obj RC)) : Option (Bool × QgW) := match env,os with
 | [(0,.ptr 0 []),(1,.acons (.int .i64 x) (.acons (.int .i64 dd) (.acons (.int .i64 back) (.acons (.sl .write wf ws) .anil))))],[.var 50 (.acons (.ptr 1 []) (.acons (.int .i64 w) (.acons (.int .i64 n) (.acons (.int .i64 v) (.acons (.arr .int 4 has) (.acons (.arr .int 4 place) (.acons (.mp 2) (.acons (.vs 3 x0) (.acons (.int .i64 last) .anil))))))))),.var 44 (.acons (.acons (.sl .int false cs) (.acons (.acons (.sl .sector false now) (.acons (.sl .sector false sure) .anil)) .anil)) (.acons (.arr .task 4 ts) (.acons (.arr .task 4 us) (.acons (.arr .bool 4 busy) .anil)))),.map .int .tryd mp,.vec .tryd true tr] => QA (true) (decide (x0 = tr.length) && cdec (ws.length <= 40 /\ ∃ ds k,0 <= k /\ k <= 800000 /\ HI w ds k ⟨cs,now,sure,ts,us,busy,n,v,has,place,mp,tr,last⟩),⟨x,dd,back,wf,ws,w,now,sure,cs,ts,us,busy,n,v,has,place,mp,tr,last⟩)
 | _,_ => none
noncomputable def ux_1 := uw_2.addObj 12 (sumF s25 [.slot 0 0,.path 0 [0],.path 0 [6],.path 0 [7]] 2 Jm Qe4)
theorem Qos : Qi Tryz.prog s25 ux_1 := by
 refine Qoq.addFun Qb Jm 100 2 [.slot 0 0,.path 0 [0],.path 0 [6],.path 0 [7]] Qe4 (fun q hI => ?_) ?_
 · obtain ⟨x,dd,back,wf,ws,w,now,sure,cs,ts,us,busy,n,v,has,place,mp,tr,last⟩ := q;refine ⟨?_,?_,rfl,Qrt x dd back wf ws w now sure cs ts us busy n v has place mp tr last hI⟩
   · simp [Qm,Jm,Qe3,Jl,eargs,D.refs,Obj.refs]
   · simp [Jm,JT,Jl,RT.refsOK,Qm,D.refs,Obj.refs]
 · intro env os b q hd_ hb;unfold Qe4 at hd_
   split at hd_
   · obtain ⟨hs,hd_⟩ := Qj hd_;cases hd_
     try simp only [Bool.and_eq_true,decide_eq_true_eq] at hb
     obtain ⟨e0,e1⟩ := hb;subst e0;exact ⟨QF.1 e1,rfl,rfl⟩
   · cases hd_
open Go.Proofs
def bigP (x : Pick) : Bool := decide ((40 : Int) < (x.writes.length : Int))
structure Qot where
 c : Bool
 l : List Pick
 i : Nat
def Qou (c : Bool) (l : List Pick) (i : Nat) : Env RC := [(2,.bool false),(8,.sl (C := RC) .pick c l),(9,.int .i64 ((l.length : Int))),(10,.int .i64 (i : Int))]
def QgX (c : Bool) (l : List Pick) (i : Nat) : List (Obj RC) := []
noncomputable def QsE (c : Bool) (l : List Pick) (i : Nat) := rndO s25 ux_1 9 4 60 0 [2,8,9,10] [2] [] (Qou c l i) (QgX c l i)
theorem QuU (c : Bool) (l : List Pick) (i : Nat) : QsE c l i = (let Z0 : Int := (↑i : Int);let Z1 : Int := (↑l.length : Int);let Z2 : Nat := List.length (Pick.writes (List.getD l Z0.toNat (Pick.mk (0 : Int) (0 : Int) (0 : Int) [])));bif decide (Z0 < Z1) then bif decide ((0 : Int) <= Z0 /\ Z0 < Z1) then bif lenOK Z2 then bif decide ((40 : Int) < (↑Z2 : Int)) then some ((X.ret,[(2,D.bool true)]),[]) else some ((X.normal,[(2,D.bool false),(8,D.sl RTy.pick c l),(9,D.int .i64 Z1),(10,D.int .i64 (IntKind.wrap .i64 (Z0 + (1 : Int))))]),[]) else none else none else some ((X.exit (0 : Nat),[(2,D.bool false)]),[])) := by kernel_rfl
def ZW (c : Bool) (l : List Pick) (i : Nat) : RT RC := .br ((l.drop i).any bigP) (.leaf .ret [(2,.bool true)] []) (.leaf (.exit 0) [(2,.bool false)] [])
def JU (c : Bool) (l : List Pick) (i : Nat) : Prop := i <= l.length /\ l.length <= 500 /\ (l.all fun x => lenOK x.writes.length) = true
def Qax : QT RC Qot where
 k := 0
 canon q := Qou q.c q.l q.i
 objs q := QgX q.c q.l q.i
 fin q := ZW q.c q.l q.i
 Inv q := JU q.c q.l q.i
 μ q := q.l.length - q.i
theorem QiG (c : Bool) (l : List Pick) (i : Nat) (hI : JU c l i) : Leaf (QsE c l i) (LedR Qax ⟨c,l,i⟩) := by
 (rw [QuU];conv => zeta)
 unfold JU at hI;obtain ⟨h1,h2,h3⟩ := hI
 by_cases hlt : i < l.length
 · have w_succ : IntKind.i64.wrap ((i : Int) + 1) = ((i + 1 : Nat) : Int) := by rw [Qc (by omega) (by omega)];simp
   have d_lt : decide ((i : Int) < l.length) = true := by simp;omega
   have d_in : decide (0 <= (i : Int) /\ (i : Int) < l.length) = true := by simp;omega
   have t_nat : ((i : Int)).toNat = i := by simp
   simp only [w_succ,d_lt,d_in,t_nat,cond_true]
   have hst : (l.drop i).any bigP = (bigP (l.getD i ⟨0,0,0,[]⟩) || (l.drop (i + 1)).any bigP) := by
    have e : l.getD i ⟨0,0,0,[]⟩ = l[i] := by simp [hlt]
    rw [List.drop_eq_getElem_cons hlt,e,List.any_cons]
   have lw : lenOK (l.getD i ⟨0,0,0,[]⟩).writes.length = true := by
    have := List.all_eq_true.1 h3 _ (List.getElem_mem hlt);have e : l.getD i ⟨0,0,0,[]⟩ = l[i] := by simp [hlt]
    rw [e];exact this
   generalize l.getD i ⟨0,0,0,[]⟩ = x at hst lw ⊢;simp only [lw,cond_true];cases hb : bigP x
   · rw [show decide ((40 : Int) < (x.writes.length : Int)) = false from hb];exact QB (S := Qax) (s := ⟨c,l,i⟩) ⟨c,l,i + 1⟩ ⟨hlt,h2,h3⟩ (by simp only [Qax];omega) (by show (ZW c l (i + 1)).val = (ZW c l i).val;unfold ZW;rw [hst,hb,Bool.false_or]) rfl rfl
   · rw [show decide ((40 : Int) < (x.writes.length : Int)) = true from hb];exact QZ [] (by show (ZW c l i).val = _;unfold ZW;rw [hst,hb,Bool.true_or];rfl) rfl
 · have hi : i = l.length := by omega
   have c1 : decide ((i : Int) < l.length) = false := by simp;omega
   rw [c1];exact Qn [] (by show (ZW c l i).val = _;unfold ZW;rw [hi,List.drop_length];rfl) rfl
def Qov (env : Env RC) (os : List (Obj RC)) : Option (Bool × Qot) := match env,os with
 | [(2,.bool false),(8,.sl .pick c l),(9,.int .i64 x0),(10,.int .i64 x1)],[] => QA (true) (decide (x0 = (l.length : Int)) && decide (x1 = 0) && decide (l.length <= 500) && (l.all fun x => lenOK x.writes.length),⟨c,l,0⟩)
 | _,_ => none
noncomputable def uy_1 := ux_1.addLoop 9 4 (sumR s25 [] [2,8,9,10] Qax Qov)
theorem Qow : Qi Tryz.prog s25 uy_1 := by
 refine Qos.addRoundsR Qb (by kernel_rfl) Qax 60 [2,8,9,10] [2] [] [2,8,9,10] Qov (fun q hI => ?_) ?_
 · obtain ⟨c,l,i⟩ := q;refine ⟨?_,?_,QiG c l i hI⟩
   · simp_all [Qm,Qax,Qou,QgX,JU,D.refs,Obj.refs,rEnc]
   · simp_all [Qax,ZW,QgX,JU,RT.refsOK,Qm,D.refs,Obj.refs,rEnc]
 · intro env os b q hd_ hb;unfold Qov at hd_
   split at hd_
   · obtain ⟨hs,hd_⟩ := Qj hd_;cases hd_;simp only [Bool.and_eq_true,decide_eq_true_eq] at hb;obtain ⟨⟨⟨e0,e1⟩,e2⟩,e3⟩ := hb;subst e0;subst e1;exact ⟨⟨Nat.zero_le _,e2,e3⟩,rfl,rfl⟩
   · cases hd_
def Qd2 (c : Bool) (l : List Pick) : Option (Bool × D RC) := some (lenOK l.length && (l.all fun x => lenOK x.writes.length),.bool (decide ((500 : Int) < (l.length : Int)) || l.any bigP))
def Qbn : List (D RC) -> Option (Bool × D RC)
 | [.sl .pick c l] => Qd2 c l
 | _ => none
noncomputable def Qd3 (c : Bool) (l : List Pick) := evF s25 uy_1 60 9 [.sl (C := RC) .pick c l]
theorem QiH (c : Bool) (l : List Pick) : Qd3 c l = (let Z0 : Nat := List.length l;let Z1 : Int := (↑Z0 : Int);bif lenOK Z0 then bif decide ((500 : Int) < Z1) then some (D.bool true) else bif lenOK Z0 then bif decide (Z1 = Z1) && true && decide (Z0 <= (500 : Nat)) && List.all l fun (x : Pick) => lenOK (Pick.writes x).length then bif List.any (List.drop (0 : Nat) l) bigP then some (D.bool true) else some (D.bool false) else none else none else none) := by kernel_rfl
theorem QiI (c : Bool) (l : List Pick) (h : (lenOK l.length && (l.all fun x => lenOK x.writes.length)) = true) : Qd3 c l = some (.bool (decide ((500 : Int) < (l.length : Int)) || l.any bigP)) := by
 (rw [QiH];conv => zeta)
 rw [Bool.and_eq_true] at h;obtain ⟨h1,h2⟩ := h
 by_cases h5 : l.length <= 500
 · have c1 : decide ((500 : Int) < (l.length : Int)) = false := decide_eq_false (by omega)
   simp only [h1,h2,c1,decide_eq_true h5,decide_true,Bool.and_self,Bool.false_or,cond_true,cond_false,List.drop_zero];cases l.any bigP <;> rfl
 · have c1 : decide ((500 : Int) < (l.length : Int)) = true := decide_eq_true (by omega)
   simp only [h1,c1,Bool.true_or,cond_true]
noncomputable def uy_2 := uy_1.addSpec 9 Qbn
theorem Qox : Qi Tryz.prog s25 uy_2 := Qow.addEv Qb fun args d h => by
 unfold Qbn at h
 split at h
 · unfold Qd2 at h;have h1 := congrArg Prod.fst (Option.some.inj h);obtain rfl : _ = d := congrArg Prod.snd (Option.some.inj h);exact ⟨by simp [D.refs],60,QiI _ _ h1⟩
 · cases h
def QgY  : Option (Bool × D RC) := some (true,.sl (C := RC) .int false ZS)
def Qd4 : List (D RC) -> Option (Bool × D RC)
 | [] => QgY 
 | _ => none
noncomputable def Qru  := evF s25 uy_2 1000 78 []
theorem Qoy  (h : (true) = true) : Qru  = some (.sl (C := RC) .int false ZS) := by
 kernel_rfl
noncomputable def uy_3 := uy_2.addSpec 78 Qd4
theorem Qoz : Qi Tryz.prog s25 uy_3 := Qox.addEv Qb fun args d h => by
 unfold Qd4 at h
 split at h
 · unfold QgY at h;have h1 := congrArg Prod.fst (Option.some.inj h);obtain rfl : _ = d := congrArg Prod.snd (Option.some.inj h);exact ⟨by simp [D.refs],1000,Qoy  h1⟩
 · cases h
noncomputable def runH (w : Int) : List Pick -> HS -> HS
 | [],s => s
 | x :: l,s => runH w l (ZM keq w s x.client x.do_ x.back x.writes)
theorem QoA {w : Int} {l : List Pick} {i : Nat} (h : i < l.length) (s : HS) : runH w (l.drop i) s = runH w (l.drop (i + 1)) (ZM keq w s (l.getD i ⟨0,0,0,[]⟩).client (l.getD i ⟨0,0,0,[]⟩).do_ (l.getD i ⟨0,0,0,[]⟩).back (l.getD i ⟨0,0,0,[]⟩).writes) := by
 have e : l.getD i ⟨0,0,0,[]⟩ = l[i] := by simp [h]
 rw [List.drop_eq_getElem_cons h,e,runH]
structure QsF where
 c : Bool
 l : List Pick
 w : Int
 now : List Sector
 sure : List Sector
 cs : List Int
 ts : List Task
 us : List Task
 busy : List Bool
 n : Int
 v : Int
 has : List Int
 place : List Int
 mp : List (Int × Try)
 tr : List Try
 last : Int
 i : Nat
noncomputable def QuV (c : Bool) (l : List Pick) (w : Int) (now : List Sector) (sure : List Sector) (cs : List Int) (ts : List Task) (us : List Task) (busy : List Bool) (n : Int) (v : Int) (has : List Int) (place : List Int) (mp : List (Int × Try)) (tr : List Try) (last : Int) (i : Nat) : Env RC := [(4,.bool false),(5,.ptr 0 []),(20,.sl (C := RC) .pick c l),(21,.int .i64 ((l.length : Int))),(22,.int .i64 (i : Int))]
def Qe5 (c : Bool) (l : List Pick) (w : Int) (now : List Sector) (sure : List Sector) (cs : List Int) (ts : List Task) (us : List Task) (busy : List Bool) (n : Int) (v : Int) (has : List Int) (place : List Int) (mp : List (Int × Try)) (tr : List Try) (last : Int) (i : Nat) : List (Obj RC) := [.var 50 (.acons (.ptr 1 []) (.acons (.int .i64 w) (.acons (.int .i64 n) (.acons (.int .i64 v) (.acons (.arr (C := RC) .int 4 has) (.acons (.arr (C := RC) .int 4 place) (.acons (.mp 2) (.acons (.vs 3 (tr.length)) (.acons (.int .i64 last) .anil))))))))),.var 44 (.acons (.acons (.sl (C := RC) .int false cs) (.acons (.acons (.sl (C := RC) .sector false now) (.acons (.sl (C := RC) .sector false sure) .anil)) .anil)) (.acons (.arr (C := RC) .task 4 ts) (.acons (.arr (C := RC) .task 4 us) (.acons (.arr (C := RC) .bool 4 busy) .anil)))),.map .int .tryd mp,.vec .tryd true tr]
noncomputable def Qv1 (c : Bool) (l : List Pick) (w : Int) (now : List Sector) (sure : List Sector) (cs : List Int) (ts : List Task) (us : List Task) (busy : List Bool) (n : Int) (v : Int) (has : List Int) (place : List Int) (mp : List (Int × Try)) (tr : List Try) (last : Int) (i : Nat) := rndO s25 uy_3 8 5 100 4 [4,5,20,21,22] [4] [.slot 5 0,.path 0 [0],.path 0 [6],.path 0 [7]] (QuV c l w now sure cs ts us busy n v has place mp tr last i) (Qe5 c l w now sure cs ts us busy n v has place mp tr last i)
theorem Qv2 (c : Bool) (l : List Pick) (w : Int) (now : List Sector) (sure : List Sector) (cs : List Int) (ts : List Task) (us : List Task) (busy : List Bool) (n : Int) (v : Int) (has : List Int) (place : List Int) (mp : List (Int × Try)) (tr : List Try) (last : Int) (i : Nat) : Qv1 c l w now sure cs ts us busy n v has place mp tr last i = (let Z0 : Int := (↑i : Int);let Z1 : Int := (↑l.length : Int);let Z2 : Nat := List.length tr;let Z3 : Pick := List.getD l Z0.toNat (Pick.mk (0 : Int) (0 : Int) (0 : Int) []);let Z4 : HS := HS.mk cs now sure ts us busy n v has place mp tr last;let Z5 : HS := ZM keq w Z4 (Pick.client Z3) (Pick.do_ Z3) (Pick.back Z3) (Pick.writes Z3);let Z6 : Bool := cdec (Qd0 (HS.cs Z5) w);let Z7 : D RC := .anil;let Z8 : List (Option (Obj RC)) := [some (Obj.var 50 (.acons (D.ptr 1 []) (.acons (D.int .i64 w) (.acons (D.int .i64 (HS.n Z5)) (.acons (D.int .i64 (HS.v Z5)) (.acons (D.arr RTy.int (4 : Nat) (HS.has Z5)) (.acons (D.arr RTy.int (4 : Nat) (HS.place Z5)) (.acons (D.mp (2 : Nat)) (.acons (D.vs 3 (HS.tr Z5).length) (.acons (D.int .i64 (HS.last Z5)) Z7)))))))))),some (Obj.var 44 (.acons (D.acons (D.sl RTy.int false (HS.cs Z5)) (.acons (D.acons (D.sl RTy.sector false (HS.now Z5)) (.acons (D.sl RTy.sector false (HS.sure Z5)) Z7)) Z7)) (.acons (D.arr RTy.task (4 : Nat) (HS.ts Z5)) (.acons (D.arr RTy.task (4 : Nat) (HS.us Z5)) (.acons (D.arr RTy.bool (4 : Nat) (HS.busy Z5)) Z7))))),some (Obj.map RTy.int RTy.tryd (HS.mp Z5)),some (Obj.vec RTy.tryd true (HS.tr Z5))];bif decide (Z0 < Z1) then bif decide ((0 : Int) <= Z0 /\ Z0 < Z1) then bif decide (Z2 = Z2) && cdec (List.length (Pick.writes Z3) <= (40 : Nat) /\ ∃ (ds : List HD),∃ (k : Int),(0 : Int) <= k /\ k <= (800000 : Int) /\ HI w ds k Z4) then bif Z6 then bif Z6 then bif decV (HS.cs Z5) w != decV (HS.cs Z5) w then some ((X.ret,[(4,D.bool false)]),Z8) else bif !decB (HS.cs Z5) w == decB (HS.cs Z5) w then some ((X.ret,[(4,D.bool false)]),Z8) else some ((X.normal,[(4,D.bool false),(5,D.ptr 0 []),(20,D.sl RTy.pick c l),(21,D.int .i64 Z1),(22,D.int .i64 (IntKind.wrap .i64 (Z0 + (1 : Int))))]),Z8) else none else none else none else none else some ((X.exit (0 : Nat),[(4,D.bool false)]),[some (Obj.var 50 (.acons (D.ptr 1 []) (.acons (D.int .i64 w) (.acons (D.int .i64 n) (.acons (D.int .i64 v) (.acons (D.arr RTy.int (4 : Nat) has) (.acons (D.arr RTy.int (4 : Nat) place) (.acons (D.mp (2 : Nat)) (.acons (D.vs 3 Z2) (.acons (D.int .i64 last) Z7)))))))))),some (Obj.var 44 (.acons (D.acons (D.sl RTy.int false cs) (.acons (D.acons (D.sl RTy.sector false now) (.acons (D.sl RTy.sector false sure) Z7)) Z7)) (.acons (D.arr RTy.task (4 : Nat) ts) (.acons (D.arr RTy.task (4 : Nat) us) (.acons (D.arr RTy.bool (4 : Nat) busy) Z7))))),some (Obj.map RTy.int RTy.tryd mp),some (Obj.vec RTy.tryd true tr)])) := by kernel_rfl
noncomputable def VG (c : Bool) (l : List Pick) (w : Int) (now : List Sector) (sure : List Sector) (cs : List Int) (ts : List Task) (us : List Task) (busy : List Bool) (n : Int) (v : Int) (has : List Int) (place : List Int) (mp : List (Int × Try)) (tr : List Try) (last : Int) (i : Nat) : RT RC := .leaf (.exit 0) [(4,.bool false)] (Qe5 c l w (runH w (l.drop i) ⟨cs,now,sure,ts,us,busy,n,v,has,place,mp,tr,last⟩).now (runH w (l.drop i) ⟨cs,now,sure,ts,us,busy,n,v,has,place,mp,tr,last⟩).sure (runH w (l.drop i) ⟨cs,now,sure,ts,us,busy,n,v,has,place,mp,tr,last⟩).cs (runH w (l.drop i) ⟨cs,now,sure,ts,us,busy,n,v,has,place,mp,tr,last⟩).ts (runH w (l.drop i) ⟨cs,now,sure,ts,us,busy,n,v,has,place,mp,tr,last⟩).us (runH w (l.drop i) ⟨cs,now,sure,ts,us,busy,n,v,has,place,mp,tr,last⟩).busy (runH w (l.drop i) ⟨cs,now,sure,ts,us,busy,n,v,has,place,mp,tr,last⟩).n (runH w (l.drop i) ⟨cs,now,sure,ts,us,busy,n,v,has,place,mp,tr,last⟩).v (runH w (l.drop i) ⟨cs,now,sure,ts,us,busy,n,v,has,place,mp,tr,last⟩).has (runH w (l.drop i) ⟨cs,now,sure,ts,us,busy,n,v,has,place,mp,tr,last⟩).place (runH w (l.drop i) ⟨cs,now,sure,ts,us,busy,n,v,has,place,mp,tr,last⟩).mp (runH w (l.drop i) ⟨cs,now,sure,ts,us,busy,n,v,has,place,mp,tr,last⟩).tr (runH w (l.drop i) ⟨cs,now,sure,ts,us,busy,n,v,has,place,mp,tr,last⟩).last i)
def Qay (c : Bool) (l : List Pick) (w : Int) (now : List Sector) (sure : List Sector) (cs : List Int) (ts : List Task) (us : List Task) (busy : List Bool) (n : Int) (v : Int) (has : List Int) (place : List Int) (mp : List (Int × Try)) (tr : List Try) (last : Int) (i : Nat) : Prop := i <= l.length /\ l.length <= 500 /\ (∀ x ∈ l,x.writes.length <= 40) /\ ∃ ds,HI w ds (2 * i) ⟨cs,now,sure,ts,us,busy,n,v,has,place,mp,tr,last⟩
noncomputable def QiJ : QT RC QsF where
 k := 4
 canon q := QuV q.c q.l q.w q.now q.sure q.cs q.ts q.us q.busy q.n q.v q.has q.place q.mp q.tr q.last q.i
 objs q := Qe5 q.c q.l q.w q.now q.sure q.cs q.ts q.us q.busy q.n q.v q.has q.place q.mp q.tr q.last q.i
 fin q := VG q.c q.l q.w q.now q.sure q.cs q.ts q.us q.busy q.n q.v q.has q.place q.mp q.tr q.last q.i
 Inv q := Qay q.c q.l q.w q.now q.sure q.cs q.ts q.us q.busy q.n q.v q.has q.place q.mp q.tr q.last q.i
 μ q := q.l.length - q.i
theorem QoB (c : Bool) (l : List Pick) (w : Int) (now : List Sector) (sure : List Sector) (cs : List Int) (ts : List Task) (us : List Task) (busy : List Bool) (n : Int) (v : Int) (has : List Int) (place : List Int) (mp : List (Int × Try)) (tr : List Try) (last : Int) (i : Nat) (hI : Qay c l w now sure cs ts us busy n v has place mp tr last i) : Leaf (Qv1 c l w now sure cs ts us busy n v has place mp tr last i) (LedR QiJ ⟨c,l,w,now,sure,cs,ts,us,busy,n,v,has,place,mp,tr,last,i⟩) := by
 (rw [Qv2];conv => zeta)
 unfold Qay at hI;obtain ⟨h1,h2,hws,ds,hI⟩ := hI
 by_cases hlt : i < l.length
 · have t_nat0 : ((i : Int)).toNat = i := by simp
   have w_succ : IntKind.i64.wrap ((i : Int) + 1) = ((i + 1 : Nat) : Int) := by rw [Qc (by omega) (by omega)];simp
   have d_lt : decide ((i : Int) < l.length) = true := by simp;omega
   have d_in : decide (0 <= (i : Int) /\ (i : Int) < l.length) = true := by simp;omega
   simp only [t_nat0,w_succ,d_lt,d_in,cond_true];have hrun := QoA (w := w) hlt ⟨cs,now,sure,ts,us,busy,n,v,has,place,mp,tr,last⟩;have hfin : ∀ s,runH w (l.drop i) ⟨cs,now,sure,ts,us,busy,n,v,has,place,mp,tr,last⟩ = s -> VG c l w now sure cs ts us busy n v has place mp tr last i = .leaf (.exit 0) [(4,.bool false)] (Qe5 c l w s.now s.sure s.cs s.ts s.us s.busy s.n s.v s.has s.place s.mp s.tr s.last i) := fun s hs => by unfold VG;rw [hs]
   have hfin := hfin _ hrun;clear hrun
   have hmem : (l.getD i ⟨0,0,0,[]⟩).writes.length <= 40 := by
    have e : l.getD i ⟨0,0,0,[]⟩ = l[i] := by simp [hlt]
    rw [e];exact hws _ (List.getElem_mem hlt)
   generalize l.getD i (⟨0,0,0,[]⟩ : Pick) = x at hfin hmem ⊢;obtain ⟨ds',hp⟩ := hI.pick (eq := keq) (by omega) (by omega) x.client x.do_ x.back x.writes
   have k0 : cdec (x.writes.length <= 40 /\ ∃ ds k,0 <= k /\ k <= 800000 /\ HI w ds k ⟨cs,now,sure,ts,us,busy,n,v,has,place,mp,tr,last⟩) = true := Qx ⟨hmem,ds,2 * i,by omega,by omega,hI⟩
   generalize ZM keq w ⟨cs,now,sure,ts,us,busy,n,v,has,place,mp,tr,last⟩ x.client x.do_ x.back x.writes = P at *
   have q0 : cdec (Qd0 P.cs w) = true := Qx hp.dec;refine lfT (by rw [k0];simp) (lfT q0 (lfT q0 (lfN (YD rfl) (lfN (by cases decB P.cs w <;> rfl) ?_))))
   exact QB (S := QiJ) (s := ⟨c,l,w,now,sure,cs,ts,us,busy,n,v,has,place,mp,tr,last,i⟩) ⟨c,l,w,P.now,P.sure,P.cs,P.ts,P.us,P.busy,P.n,P.v,P.has,P.place,P.mp,P.tr,P.last,i + 1⟩ ⟨hlt,h2,hws,ds',by rw [show 2 * ((i + 1 : Nat) : Int) = 2 * (i : Int) + 2 by omega];exact hp⟩ (by show l.length - (i + 1) < l.length - i;omega) (by show (VG c l w P.now P.sure P.cs P.ts P.us P.busy P.n P.v P.has P.place P.mp P.tr P.last (i + 1)).val = (VG c l w now sure cs ts us busy n v has place mp tr last i).val;rw [hfin];rfl) rfl rfl
 · have hi : i = l.length := by omega
   have c1 : decide ((i : Int) < l.length) = false := by simp;omega
   rw [c1];exact Qn (Qe5 c l w now sure cs ts us busy n v has place mp tr last i) (by show (VG c l w now sure cs ts us busy n v has place mp tr last i).val = _;unfold VG;rw [hi,List.drop_length];rfl) rfl
noncomputable def QuW (env : Env RC) (os : List (Obj RC)) : Option (Bool × QsF) := match env,os with
 | [(4,.bool false),(5,.ptr 0 []),(20,.sl .pick c l),(21,.int .i64 x0),(22,.int .i64 x1)],[.var 50 (.acons (.ptr 1 []) (.acons (.int .i64 w) (.acons (.int .i64 n) (.acons (.int .i64 v) (.acons (.arr .int 4 has) (.acons (.arr .int 4 place) (.acons (.mp 2) (.acons (.vs 3 x2) (.acons (.int .i64 last) .anil))))))))),.var 44 (.acons (.acons (.sl .int false cs) (.acons (.acons (.sl .sector false now) (.acons (.sl .sector false sure) .anil)) .anil)) (.acons (.arr .task 4 ts) (.acons (.arr .task 4 us) (.acons (.arr .bool 4 busy) .anil)))),.map .int .tryd mp,.vec .tryd true tr] => QA (true) (decide (x0 = (l.length : Int)) && decide (x1 = 0) && decide (x2 = tr.length) && cdec (l.length <= 500 /\ (∀ x ∈ l,x.writes.length <= 40) /\ ∃ ds,HI w ds 0 ⟨cs,now,sure,ts,us,busy,n,v,has,place,mp,tr,last⟩),⟨c,l,w,now,sure,cs,ts,us,busy,n,v,has,place,mp,tr,last,0⟩)
 | _,_ => none
noncomputable def uy_4 := uy_3.addLoop 8 5 (sumR s25 [.slot 5 0,.path 0 [0],.path 0 [6],.path 0 [7]] [4,5,20,21,22] QiJ QuW)
theorem JV : Qi Tryz.prog s25 uy_4 := by
 refine Qoz.addRoundsR Qb (by kernel_rfl) QiJ 100 [4,5,20,21,22] [4] [.slot 5 0,.path 0 [0],.path 0 [6],.path 0 [7]] [4,5,20,21,22] QuW (fun q hI => ?_) ?_
 · obtain ⟨c,l,w,now,sure,cs,ts,us,busy,n,v,has,place,mp,tr,last,i⟩ := q;refine ⟨?_,?_,QoB c l w now sure cs ts us busy n v has place mp tr last i hI⟩
   · simp_all [Qm,QiJ,QuV,Qe5,Qay,D.refs,Obj.refs,rEnc]
   · simp_all [QiJ,VG,Qe5,Qay,RT.refsOK,Qm,D.refs,Obj.refs,rEnc]
 · intro env os b q hd_ hb;unfold QuW at hd_
   split at hd_
   · obtain ⟨hs,hd_⟩ := Qj hd_;cases hd_;simp only [Bool.and_eq_true,decide_eq_true_eq] at hb;obtain ⟨⟨⟨e0,e1⟩,e2⟩,e3⟩ := hb;obtain ⟨e4,e5,e6⟩ := QF.1 e3;subst e0;subst e1;subst e2;exact ⟨⟨Nat.zero_le _,e4,e5,e6⟩,rfl,rfl⟩
   · cases hd_
noncomputable def uyK : Fns RC := { uy_4 with keeps := fun f => (uy_4).keeps f || Nat.beq f 11 }
theorem Qrv : Qi Tryz.prog s25 uyK := ⟨JV.fn,JV.spec,JV.ospec,JV.loop⟩
noncomputable def Qcc (c : Bool) (l : List Pick) (wide : Int) := evF s25 uyK 200 8 [.sl (C := RC) .pick c l,.int .i64 wide]
theorem QoC (c : Bool) (l : List Pick) (wide : Int) : Qcc c l wide = (let Z0 : Nat := List.length l;let Z1 : Int := (↑Z0 : Int);let Z2 : List Task := List.replicate (4 : Nat) (Q4 RTy.task);let Z3 : List Int := List.replicate (4 : Nat) (0 : Int);bif lenOK Z0 && List.all l fun (x : Pick) => lenOK (Pick.writes x).length then bif decide ((500 : Int) < Z1) || List.any l bigP then some (D.bool true) else bif lenOK Z0 then bif decide (Z1 = Z1) && true && true && cdec (Z0 <= (500 : Nat) /\ (∀ (x : Pick),x ∈ l -> List.length (Pick.writes x) <= (40 : Nat)) /\ ∃ (ds : List HD),HI (IntKind.wrap .i64 ((2 : Int) + Int.tmod (IntKind.wrap .i64 (Int.tmod wide (7 : Int) + (7 : Int))) (7 : Int))) ds (0 : Int) (HS.mk ZS Q1 Q1 Z2 Z2 (List.replicate (4 : Nat) false) (0 : Int) (0 : Int) Z3 Z3 [] [] (0 : Int))) then some (D.bool true) else none else none else none) := by kernel_rfl
theorem QoD (c : Bool) (l : List Pick) (wide : Int) (h : (lenOK l.length && (l.all fun x => lenOK x.writes.length)) = true) : Qcc c l wide = some (.bool true) := by
 (rw [QoC];conv => zeta)
 rw [Bool.and_eq_true] at h;obtain ⟨h1,h2⟩ := h;have a1 : -7 < Int.tmod wide 7 := Int.lt_tmod_of_pos _ (by decide)
 have a2 : Int.tmod wide 7 < 7 := Int.tmod_lt_of_pos _ (by decide)
 have a3 : IntKind.i64.wrap (Int.tmod wide 7 + 7) = Int.tmod wide 7 + 7 := Qc (by omega) (by omega)
 have a4 : Int.tmod (Int.tmod wide 7 + 7) 7 = (Int.tmod wide 7 + 7) % 7 := Int.tmod_eq_emod_of_nonneg (by omega)
 rw [a3,a4];have a5 : IntKind.i64.wrap (2 + (Int.tmod wide 7 + 7) % 7) = 2 + (Int.tmod wide 7 + 7) % 7 := Qc (by omega) (by omega)
 rw [a5];simp only [h1,h2,Bool.and_self,cond_true]
 by_cases h5 : l.length <= 500
 · have c1 : decide ((500 : Int) < (l.length : Int)) = false := decide_eq_false (by omega)
   simp only [c1,Bool.false_or];cases hb : l.any bigP
   · have hw : ∀ x ∈ l,x.writes.length <= 40 := fun x hx => by
      have := List.any_eq_false.1 hb x hx;unfold bigP at this;rw [decide_eq_true_eq] at this;omega
     have k1 : cdec (l.length <= 500 /\ (∀ x : Pick,x ∈ l -> x.writes.length <= 40) /\ ∃ ds,HI (2 + (Int.tmod wide 7 + 7) % 7) ds 0 ⟨ZS,Q1,Q1,List.replicate 4 (Q4 RTy.task),List.replicate 4 (Q4 RTy.task),List.replicate 4 false,0,0,List.replicate 4 0,List.replicate 4 0,[],[],0⟩) = true := Qx ⟨h5,hw,[],QuL (by omega)⟩
     rw [cond_false,k1];simp only [decide_true,Bool.and_self,cond_true]
   · rfl
 · have c1 : decide ((500 : Int) < (l.length : Int)) = true := decide_eq_true (by omega)
   simp only [c1,Bool.true_or,cond_true]
end Go.Ev
