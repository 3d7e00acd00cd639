/-
  A part of the proof of a statement of this seat: the model is run over values by content, proved sound; what the functions come to. No condition beyond the given statements. (text 6)
-/
import Derived.Test.YtnopcebdncdbgaaGreatP4
import Derived.KernelRfl
namespace Go.Ev
set_option linter.unusedVariables false
set_option linter.unusedSimpArgs false
def gA (t:Task):GoR4 := goO false t.stack t.got
def gB (t:Task):GoR4 := goO true t.stack t.got
def oX (cs:List Int) (t:Task):Int := doG4 cs (gA t).kind (gA t).a (gA t).b
def oCs (cs:List Int) (t:Task):List Int := doC4 cs (gA t).kind (gA t).a (gA t).b (gA t).v
def oT (cs:List Int) (t:Task):Task := ⟨t.client,(gA t).st,[oX cs t],(gA t).over⟩
def oU (cs:List Int) (t u:Task):Task := ⟨u.client,(gB u).st,[oX cs t],(gB u).over⟩
def oE (cs:List Int) (t:Task):GoR4 := goO false (gA t).st [oX cs t]
def oF (cs:List Int) (t u:Task):GoR4 := goO true (gB u).st [oX cs t]
structure Qnj (c:Int) (cs:List Int) (t u:Task) (now sure:List Sector):Prop where
 a1:okO false c t.stack t.got
 b1:okO true c u.stack u.got
 ct:t.client = c
 cu:u.client = c
 ot:t.over = false
 ou:u.over = false
 is:(gA t).is = true
 ab:QvK (gA t) (gB u)
 hd:Qk6 cs (gA t).kind (gA t).a (gA t).b (gA t).v
 hg:0 <= (gA t).g
 hc:cellsOK cs = true
 d1:diskOK now sure = true
 d2:goodL now = true
 d3:goodL sure = true
 a2:okO false c (gA t).st [oX cs t]
 b2:okO true c (gB u).st [oX cs t]
 ef:QvK (oE cs t) (oF cs t u)
structure OS where
 cs:List Int
 ts:List Task
 us:List Task
 busy:List Bool
 kind:List Int
 opn:List Bool
 start:List Int
def QwC (s:OS) (c:Int):Bool := s.busy.getD c.toNat false
def Qnk (s:OS) (c:Int):Int := s.kind.getD c.toNat 0
def endO (s:OS) (c:Int):GoR4 := oE s.cs (tkC s.ts c)
def stepO (s:OS) (c:Int):OS :=
 { s with cs := oCs s.cs (tkC s.ts c),ts := s.ts.set c.toNat (oT s.cs (tkC s.ts c)),us := s.us.set c.toNat (oU s.cs (tkC s.ts c) (tkC s.us c)),busy := bif (endO s c).is then s.busy else s.busy.set c.toNat false }
def QvU (s:OS) (c:Int):OS :=
 if (endO s c).is = false /\ Qnk s c = 0 /\ (endO s c).got.length = 1 then { stepO s c with opn := s.opn.set c.toNat true,start := s.start.set c.toNat ((endO s c).got.getD 0 0) } else stepO s c
def OCl (s:OS) (c:Int):Prop := ∃ k r q got,
 (Qnk s c = 0 /\ tkC s.ts c = mkO c 92 k r got /\ tkC s.us c = mkO c 92 k r got /\ JB s.cs s.opn c k r got /\ (goO false [⟨92,k,r⟩] got).is = true) \/
 (Qnk s c = 1 /\ tkC s.ts c = mkO c 93 k r got /\ tkC s.us c = mkO c 93 k q got /\ JM s.cs s.opn s.start k r q got /\ (goO false [⟨93,k,r⟩] got).is = true)
structure OI (s:OS) (most kk:Int):Prop where
 oc:OC s.cs
 fk:frC s.cs <= kk
 lt:s.ts.length = 4
 lu:s.us.length = 4
 lb:s.busy.length = 4
 lk:s.kind.length = 4
 lo:s.opn.length = 4
 ls:s.start.length = 4
 mm:most <= mkC s.cs
 op:∀ i,i < 4 -> opB s.opn i = true -> scC s.cs i = stA s.start i + 1 /\ most <= stA s.start i /\ 0 <= stA s.start i
 cl:∀ c:Int,0 <= c -> c <= 3 -> QwC s c = true -> OCl s c
structure StO (s:OS) (c p n:Int) (r' q':List Int) (x:Int) (cs':List Int):Prop where
 xx:oX s.cs (tkC s.ts c) = x
 cs:oCs s.cs (tkC s.ts c) = cs'
 t:oT s.cs (tkC s.ts c) = mkO c p n r' [x]
 u:oU s.cs (tkC s.ts c) (tkC s.us c) = mkO c p n q' [x]
 e:endO s c = goO false [⟨p,n,r'⟩] [x]
 ok:∀ now sure,diskOK now sure = true -> goodL now = true -> goodL sure = true -> Qnj c s.cs (tkC s.ts c) (tkC s.us c) now sure
structure StepO (s:OS) (most kk:Int) (c:Int) (most':Int):Prop where
 ok:∀ now sure,diskOK now sure = true -> goodL now = true -> goodL sure = true -> Qnj c s.cs (tkC s.ts c) (tkC s.us c) now sure
 oi:OI (QvU s c) most' kk
 ans:(endO s c).is = true /\ most' = most \/ (endO s c).is = false /\ ∃ a,(endO s c).got = [a] /\ (Qnk s c = 0 /\ most' = most \/ Qnk s c = 1 /\ most' = max most a)
 mr:mkC s.cs <= mkC (QvU s c).cs
section
variable (nx:Bool -> Qe -> List Int -> NA) (ok:Bool -> Qe -> List Int -> Prop)
def goT (own:Bool) (t:Task):GoM := goN (nx own) 64 t.stack t.got false
def gmX (cs:List Int) (t:Task):Int := doG4 cs (goT nx false t).a.kind (goT nx false t).a.a (goT nx false t).a.b
def gmT (own:Bool) (x:Int) (u:Task):Task := ⟨u.client,(goT nx own u).st,[x],decide ((goT nx own u).st = [])⟩
structure Qso (own:Bool) (c:Int) (t:Task):Prop where
 ne:t.stack ≠ []
 a1:OkN (nx own) (ok own) 64 t.stack t.got
 ct:t.client = c
 ot:t.over = false
structure QbZ (c:Int) (t u:Task):Prop where
 ta:Qso nx ok false c t
 tb:Qso nx ok true c u
 is:(goT nx false t).is = (goT nx true u).is
 eg:(goT nx false t).is = true -> (goT nx false t).a = (goT nx true u).a /\ (goT nx false t).a.args.length <= 96
 eh:(goT nx false t).is = false -> (goT nx false t).st = [] /\ (goT nx true u).st = [] /\ (goT nx false t).got = (goT nx true u).got /\ (goT nx false t).got.length <= 96
structure QwD (c:Int) (cs:List Int) (t u:Task) (now sure:List Sector):Prop where
 e1:QbZ nx ok c t u
 is:(goT nx false t).is = true
 la:(goT nx false t).st.length <= 6 /\ (goT nx false t).got.length <= 96
 lb:(goT nx true u).st.length <= 6 /\ (goT nx true u).got.length <= 96
 tx:(goT nx false t).a.text = [] /\ (goT nx false t).a.args = []
 hd:Qk6 cs (goT nx false t).a.kind (goT nx false t).a.a (goT nx false t).a.b (goT nx false t).a.v
 hg:0 <= (goT nx false t).a.gen
 hc:cellsOK cs = true
 d1:diskOK now sure = true
 d2:goodL now = true
 d3:goodL sure = true
 e2:QbZ nx ok c (gmT nx false (gmX nx cs t) t) (gmT nx true (gmX nx cs t) u)
end
theorem QdT {nx:Qe -> List Int -> NA}:∀ {n:Nat} {st:List Qe} {got:List Int} {e:Bool},(goN nx n st got e).is = true -> (goN nx n st got e).st ≠ []
 | 0,st,got,e,h => by cases h
 | n + 1,st,got,e,h => by
  unfold goN at h ⊢
  split at h
  · cases h
  · rename_i h0;rw [if_neg h0]
    split at h
    · rename_i h6;rw [if_pos h6];simp only [tkSt,if_pos h6];simp
    · rename_i h6;rw [if_neg h6];exact QdT h
def doC5 (cs:List Int) (A:Qf):List Int := if A.kind < 4 then doC4 cs A.kind A.a A.b A.v else cs
def doG5 (cs:List Int) (A:Qf):Int := if A.kind < 4 then doG4 cs A.kind A.a A.b else 0
def doN5 (now:List Sector) (A:Qf):List Sector := if A.kind = 4 then Y8 now A.a.toNat A.b A.text else now
def doS5 (now sure:List Sector) (A:Qf):List Sector := if A.kind = 5 then now else sure
def Qiy (cs:List Int) (now sure:List Sector) (A:Qf):Prop := A.args = [] /\ 0 <= A.gen /\
 (A.text = [] /\ Qk6 cs A.kind A.a A.b A.v \/ A.kind = 4 /\ A.v = 0 /\ Yf now sure A.a A.b A.text = true \/ A.kind = 5 /\ A.text = [] /\ A.a = 0 /\ A.b = 0 /\ A.v = 0)
section
variable (nx:Bool -> Qe -> List Int -> NA) (ok:Bool -> Qe -> List Int -> Prop)
def gdX (cs:List Int) (t:Task):Int := doG5 cs (goT nx false t).a
def gdCs (cs:List Int) (t:Task):List Int := doC5 cs (goT nx false t).a
def Qiz (now:List Sector) (t:Task):List Sector := doN5 now (goT nx false t).a
def Qbo (now sure:List Sector) (t:Task):List Sector := doS5 now sure (goT nx false t).a
structure Qal (c:Int) (cs:List Int) (t u:Task) (now sure:List Sector):Prop where
 e1:QbZ nx ok c t u
 is:(goT nx false t).is = true
 la:(goT nx false t).st.length <= 6 /\ (goT nx false t).got.length <= 96
 lb:(goT nx true u).st.length <= 6 /\ (goT nx true u).got.length <= 96
 hd:Qiy cs now sure (goT nx false t).a
 hc:cellsOK cs = true
 d1:diskOK now sure = true
 d2:goodL now = true
 d3:goodL sure = true
 e2:QbZ nx ok c (gmT nx false (gdX nx cs t) t) (gmT nx true (gdX nx cs t) u)
end
open Go.Proofs
set_option maxRecDepth 100000
structure QgB where
 c:Bool
 l:List Sector
 i:Nat
def Qb0 (c:Bool) (l:List Sector) (i:Nat):Env RC := [(0,.sl (C := RC) .sector c l),(2,.bool false),(3,.int .i64 (i:Int))]
def Qb1 (c:Bool) (l:List Sector) (i:Nat):List (Obj RC) := []
noncomputable def Qnl (c:Bool) (l:List Sector) (i:Nat) := rndO s25 ur_2 95 4 40 0 [0,2,3] [2] [] (Qb0 c l i) (Qb1 c l i)
theorem QqU (c:Bool) (l:List Sector) (i:Nat):Qnl c l i = (let Z0:Int := (↑i:Int);let Z1:Bool := decide ((0:Int) <= Z0 /\ Z0 < (↑l.length:Int));let Z2:Sector := List.getD l Z0.toNat (Sector.mk (0:Int) []);let Z3:Int := Sector.n Z2;let Z4:RO_ := some ((X.ret,[(2,D.bool false)]),[]);let Z5:Nat := List.length (Sector.b Z2);let Z6:RO_ := some ((X.normal,[(0,D.sl RTy.sector c l),(2,D.bool false),(3,D.int .i64 (IntKind.wrap .i64 (Z0 + (1:Int))))]),[]);bif lenOK l.length then bif decide (Z0 < (↑l.length:Int)) then bif Z1 then bif decide (Z3 < (0:Int)) then Z4 else bif Z1 then bif decide ((1048575:Int) < Z3) then Z4 else bif Z1 then bif lenOK Z5 then bif decide ((640:Int) < (↑Z5:Int)) then Z4 else bif Z1 then bif Z3 == (0:Int) then bif Z1 then bif !Sector.b Z2 == Array.toList #[] then Z4 else Z6 else none else Z6 else none else none else none else none else none else some ((X.exit (0:Nat),[(2,D.bool false)]),[]) else none) := by kernel_rfl
def Vs (c:Bool) (l:List Sector) (i:Nat):RT RC := .br (l.drop i |>.all Zg) (.leaf (.exit 0) [(2,.bool false)] []) (.leaf .ret [(2,.bool false)] [])
def Vt (c:Bool) (l:List Sector) (i:Nat):Prop := i <= l.length /\ goodL l = true
def Yj:QU RC QgB where
 k := 0
 canon q := Qb0 q.c q.l q.i
 objs q := Qb1 q.c q.l q.i
 fin q := Vs q.c q.l q.i
 Inv q := Vt q.c q.l q.i
 μ q := q.l.length - q.i
theorem QeI (c:Bool) (l:List Sector) (i:Nat) (hI:Vt c l i):Leaf (Qnl c l i) (LedR Yj ⟨c,l,i⟩) := by
 (rw [QqU];conv => zeta)
 unfold Vt at hI;obtain ⟨h1,hg⟩ := hI;have h2 := (Vn.1 hg).1;have hlk0:lenOK l.length = true := Qk h2
 by_cases hlt:i < l.length
 · have w_succ:IntKind.i64.wrap ((i:Int) + 1) = ((i + 1:Nat):Int) := by rw [Qb (by omega) (by omega)];simp
   have d_lt:decide ((i:Int) < l.length) = true := by simp;omega
   have d_in:decide (0 <= (i:Int) /\ (i:Int) < l.length) = true := by simp;omega
   have t_nat:((i:Int)).toNat = i := by simp
   simp only [w_succ,d_lt,d_in,t_nat,cond_true];have hlk := Qpo hg i hlt (⟨0,[]⟩:Sector);have hst := YX l Zg i hlt (⟨0,[]⟩:Sector);generalize l.getD i (⟨0,[]⟩:Sector) = x at hst hlk ⊢;simp only [hlk0,hlk,cond_true]
   have hgo:Zg x = true -> Leaf (some ((X.normal,Qb0 c l (i + 1)),[])) (LedR Yj ⟨c,l,i⟩) := fun e =>
    Qw ⟨c,l,i + 1⟩ ⟨hlt,hg⟩ (by simp only [Yj];omega) (by simp [Yj,Vs,hst,e]) rfl rfl
   have hno:Zg x = false -> Leaf (some ((X.ret,[(2,D.bool false)]),[])) (LedR Yj ⟨c,l,i⟩) := fun e => Q7 [] (by simp [Yj,Vs,hst,e,RT.val]) rfl
   have hm:Zg x = (decide (0 <= x.n) && decide (x.n <= 1048575) && decide (x.b.length <= 640) && (decide (0 < x.n) || x.b == [])) := rfl;rw [hm] at hgo hno
   repeat' (refine Jm.2 ⟨fun hc_ => ?_,fun hc_ => ?_⟩)
   all_goals first | exact hno (by clear hgo hno hst hm;simp_all <;> omega) | exact hgo (by clear hgo hno hst hm;simp_all <;> omega)
 · have hi:i = l.length := by omega
   have c1:decide ((i:Int) < l.length) = false := by simp;omega
   rw [hlk0,c1];exact Qn [] (by simp [Yj,Vs,hi,RT.val]) rfl
def QeJ (env:Env RC) (os:List (Obj RC)):Option (Bool × QgB) := match env,os with
 | [(0,.sl .sector c l),(2,.bool false),(3,.int .i64 x0)],[] => Qz (true) (decide (x0 = 0) && goodL l,⟨c,l,0⟩)
 | _,_ => none
noncomputable def us_1 := ur_2.addLoop 95 4 (sumR s25 [] [0,2,3] Yj QeJ)
theorem Qnm:Qh Tryz.prog s25 us_1 := by
 refine Qni.addRoundsR Qa (by kernel_rfl) Yj 40 [0,2,3] [2] [] [0,2,3] QeJ (fun q hI => ?_) ?_
 · obtain ⟨c,l,i⟩ := q;refine ⟨?_,?_,QeI c l i hI⟩
   · simp_all [Ql,Yj,Qb0,Qb1,Vt,D.refs,Obj.refs,rEnc]
   · simp_all [Yj,Vs,Qb1,Vt,RT.refsOK,Ql,D.refs,Obj.refs,rEnc]
 · intro env os b q hd_ hb;unfold QeJ at hd_
   split at hd_
   · obtain ⟨hs,hd_⟩ := Qi hd_;cases hd_;simp only [Bool.and_eq_true,decide_eq_true_eq] at hb;obtain ⟨rfl,hl⟩ := hb;exact ⟨⟨Nat.zero_le _,hl⟩,rfl,rfl⟩
   · cases hd_
def Qnn (c:Bool) (l:List Sector):Option (Bool × D RC) := some (goodL l,.bool (YE l))
def QgC:List (D RC) -> Option (Bool × D RC)
 | [.sl .sector c l] => Qnn c l
 | _ => none
noncomputable def Qno (c:Bool) (l:List Sector) := evF s25 us_1 40 95 [.sl (C := RC) .sector c l]
theorem QqV (c:Bool) (l:List Sector):Qno c l = (bif lenOK l.length then bif (↑l.length:Int) != (33:Int) then some (D.bool false) else bif goodL l then bif List.all (List.drop (0:Nat) l) Zg then some (D.bool true) else some (D.bool false) else none else none) := by kernel_rfl
theorem QqW (c:Bool) (l:List Sector) (h:(goodL l) = true):Qno c l = some (.bool (YE l)) := by
 rw [QqV];have hl := (Vn.1 h).1;have lk := Qk hl;simp only [h,lk,YE,cond_true,List.drop_zero]
 by_cases e:l.length = 33
 · have e2:((l.length:Int) != 33) = false := by simp [e]
   cases hm:l.all Zg <;> simp [e,hm]
 · have e2:((l.length:Int) != 33) = true := by simp [bne];omega
   simp [e,e2]
noncomputable def us_2 := us_1.addSpec 95 QgC
theorem Qnp:Qh Tryz.prog s25 us_2 := Qnm.addEv Qa fun args d h => by
 unfold QgC at h
 split at h
 · unfold Qnn at h;have h1 := congrArg Prod.fst (Option.some.inj h);obtain rfl:_ = d := congrArg Prod.snd (Option.some.inj h);exact ⟨by simp [D.refs],40,QqW _ _ h1⟩
 · cases h
structure QgD where
 c:Bool
 now:List Sector
 d:Bool
 sure:List Sector
 i:Nat
def QeK (c:Bool) (now:List Sector) (d:Bool) (sure:List Sector) (i:Nat):Env RC := [(1,.ptr 0 []),(2,.int .i64 0),(3,.int .i64 (i:Int))]
def Vu (c:Bool) (now:List Sector) (d:Bool) (sure:List Sector) (i:Nat):List (Obj RC) := [.var 35 (.acons (.sl (C := RC) .sector c now) (.acons (.sl (C := RC) .sector d sure) .anil))]
noncomputable def Qnq (c:Bool) (now:List Sector) (d:Bool) (sure:List Sector) (i:Nat) := rndO s25 us_2 39 4 40 1 [1,2,3] [2] [.slot 1 0] (QeK c now d sure i) (Vu c now d sure i)
theorem QqX (c:Bool) (now:List Sector) (d:Bool) (sure:List Sector) (i:Nat):Qnq c now d sure i = (let Z0:Int := (↑i:Int);let Z1:List (Option (Obj RC)) := [some (Obj.var 35 (.acons (D.sl RTy.sector c now) (.acons (D.sl RTy.sector d sure) .anil)))];let Z2:Nat × D RC := (2,D.int .i64 0);bif lenOK now.length then bif decide (Z0 < (↑now.length:Int)) then bif decide ((0:Int) <= Z0 /\ Z0 < (↑sure.length:Int)) then bif decide ((0:Int) <= Z0 /\ Z0 < (↑now.length:Int)) then bif decide (Sector.n (List.getD now Z0.toNat (Sector.mk (0:Int) [])) < Sector.n (List.getD sure Z0.toNat (Sector.mk (0:Int) []))) then some ((X.ret,[(2,D.int .i64 2)]),Z1) else some ((X.normal,[(1,D.ptr 0 []),Z2,(3,D.int .i64 (IntKind.wrap .i64 (Z0 + (1:Int))))]),Z1) else none else none else some ((X.exit (0:Nat),[Z2]),Z1) else none) := by kernel_rfl
def Vv (c:Bool) (now:List Sector) (d:Bool) (sure:List Sector) (i:Nat):RT RC := .br (Ks now sure i) (.leaf (.exit 0) [(2,.int .i64 0)] (Vu c now d sure i)) (.leaf .ret [(2,.int .i64 2)] (Vu c now d sure i))
def Vw (c:Bool) (now:List Sector) (d:Bool) (sure:List Sector) (i:Nat):Prop := i <= now.length /\ now.length <= 9223372036854775807 /\ now.length = sure.length
def Y3:QU RC QgD where
 k := 1
 canon q := QeK q.c q.now q.d q.sure q.i
 objs q := Vu q.c q.now q.d q.sure q.i
 fin q := Vv q.c q.now q.d q.sure q.i
 Inv q := Vw q.c q.now q.d q.sure q.i
 μ q := q.now.length - q.i
theorem QeL (c:Bool) (now:List Sector) (d:Bool) (sure:List Sector) (i:Nat) (hI:Vw c now d sure i):Leaf (Qnq c now d sure i) (LedR Y3 ⟨c,now,d,sure,i⟩) := by
 (rw [QqX];conv => zeta)
 unfold Vw at hI;obtain ⟨h1,h2,h3⟩ := hI;have hlk0:lenOK now.length = true := Qk h2
 by_cases hlt:i < now.length
 · have w_succ:IntKind.i64.wrap ((i:Int) + 1) = ((i + 1:Nat):Int) := by rw [Qb (by omega) (by omega)];simp
   have d_lt:decide ((i:Int) < now.length) = true := by simp;omega
   have d_in:decide (0 <= (i:Int) /\ (i:Int) < now.length) = true := by simp;omega
   have t_nat:((i:Int)).toNat = i := by simp
   simp only [w_succ,d_lt,d_in,t_nat,cond_true];have hlt2:i < sure.length := by omega
   have d_in2:decide (0 <= (i:Int) /\ (i:Int) < sure.length) = true := by simp;omega
   simp only [d_in2,hlk0,cond_true];have hst := QhH (now := now) (sure := sure) i hlt (by omega) (⟨0,[]⟩:Sector)
   generalize now.getD i (⟨0,[]⟩:Sector) = x at hst ⊢;generalize sure.getD i (⟨0,[]⟩:Sector) = y at hst ⊢;cases a1:decide (y.n <= x.n)
   · have a2:decide (x.n < y.n) = true := by simp at a1 ⊢;exact a1
     simp only [a2,cond_true];exact Q7 (Vu c now d sure i) (by simp [Y3,Vv,hst,a1,RT.val]) rfl
   · have a2:decide (x.n < y.n) = false := by simp at a1 ⊢;exact a1
     simp only [a2,cond_false];exact Qw ⟨c,now,d,sure,i + 1⟩ ⟨hlt,h2,h3⟩ (by simp only [Y3];omega) (by simp [Y3,Vv,hst,a1];rfl) rfl rfl
 · have hi:i = now.length := by omega
   have c1:decide ((i:Int) < now.length) = false := by simp;omega
   rw [hlk0,c1];exact Qn (Vu c now d sure i) (by simp [Y3,Vv,hi,QkP,RT.val]) rfl
def QeM (env:Env RC) (os:List (Obj RC)):Option (Bool × QgD) := match env,os with
 | [(1,.ptr 0 []),(2,.int .i64 0),(3,.int .i64 x0)],[.var 35 (.acons (.sl .sector c now) (.acons (.sl .sector d sure) .anil))] => Qz (true) (decide (x0 = 0) && decide (now.length <= 9223372036854775807 /\ now.length = sure.length),⟨c,now,d,sure,0⟩)
 | _,_ => none
noncomputable def us_3 := us_2.addLoop 39 4 (sumR s25 [.slot 1 0] [1,2,3] Y3 QeM)
theorem Qnr:Qh Tryz.prog s25 us_3 := by
 refine Qnp.addRoundsR Qa (by kernel_rfl) Y3 40 [1,2,3] [2] [.slot 1 0] [1,2,3] QeM (fun q hI => ?_) ?_
 · obtain ⟨c,now,d,sure,i⟩ := q;refine ⟨?_,?_,QeL c now d sure i hI⟩
   · simp_all [Ql,Y3,QeK,Vu,Vw,D.refs,Obj.refs,rEnc]
   · simp_all [Y3,Vv,Vu,Vw,RT.refsOK,Ql,D.refs,Obj.refs,rEnc]
 · intro env os b q hd_ hb;unfold QeM at hd_
   split at hd_
   · obtain ⟨hs,hd_⟩ := Qi hd_;cases hd_;simp only [Bool.and_eq_true,decide_eq_true_eq] at hb;obtain ⟨rfl,hl⟩ := hb;exact ⟨⟨Nat.zero_le _,hl⟩,rfl,rfl⟩
   · cases hd_
def QgE (c:Bool) (now:List Sector) (d:Bool) (sure:List Sector):Option (Bool × D RC) := some (goodL now && goodL sure,.int .i64 (bif diskOK now sure then 0 else 2))
def QdU:List (D RC) -> Option (Bool × D RC)
 | [.acons (.sl .sector c now) (.acons (.sl .sector d sure) .anil)] => QgE c now d sure
 | _ => none
noncomputable def QgF (c:Bool) (now:List Sector) (d:Bool) (sure:List Sector) := evF s25 us_3 40 39 [.acons (.sl (C := RC) .sector c now) (.acons (.sl (C := RC) .sector d sure) .anil)]
theorem Qns (c:Bool) (now:List Sector) (d:Bool) (sure:List Sector):QgF c now d sure = (let Z0:DO_ := some (D.int .i64 2);bif goodL now then bif !YE now then Z0 else bif goodL sure then bif !YE sure then Z0 else bif decide (List.length now <= (9223372036854775807:Nat) /\ List.length now = List.length sure) then bif Ks now sure (0:Nat) then some (D.int .i64 0) else Z0 else none else none else none) := by kernel_rfl
theorem Qnt (c:Bool) (now:List Sector) (d:Bool) (sure:List Sector) (h:(goodL now && goodL sure) = true):QgF c now d sure = some (.int .i64 (bif diskOK now sure then 0 else 2)) := by
 (rw [Qns];conv => zeta)
 rw [Bool.and_eq_true] at h;obtain ⟨hg,hgs⟩ := h;have hl := (Vn.1 hg).1;simp only [hg,hgs,cond_true,diskOK];cases h1:YE now
 · rfl
 cases h2:YE sure
 · rfl
 have l1 := Qah h1;have l2 := Qah h2;have e:decide (now.length <= 9223372036854775807 /\ now.length = sure.length) = true := by simp;omega
 cases h3:Ks now sure 0 <;> simp [e]
noncomputable def us_4 := us_3.addSpec 39 QdU
theorem Qnu:Qh Tryz.prog s25 us_4 := Qnr.addEv Qa fun args d h => by
 unfold QdU at h
 split at h
 · unfold QgE at h;have h1 := congrArg Prod.fst (Option.some.inj h);obtain rfl:_ = d := congrArg Prod.snd (Option.some.inj h);exact ⟨by simp [D.refs],40,Qnt _ _ _ _ h1⟩
 · cases h
def Qnv (c:Bool) (now:List Sector) (d:Bool) (sure:List Sector) (k:Int) (n:Int) (b:List UInt8):Option (Bool × D RC) := some (goodL now && goodL sure && lenOK b.length,.tup (.acons (.acons (.sl (C := RC) .sector (!Yf now sure k n b) (pNow now sure k n b)) (.acons (.sl (C := RC) .sector (!Yf now sure k n b) (QaI now sure k n b)) .anil)) (.acons (.int .i64 (bif Yf now sure k n b then 0 else 2)) .anil)))
def QgG:List (D RC) -> Option (Bool × D RC)
 | [.acons (.sl .sector c now) (.acons (.sl .sector d sure) .anil),.int .i64 k,.int .i64 n,.str b] => Qnv c now d sure k n b
 | _ => none
noncomputable def Qnw (c:Bool) (now:List Sector) (d:Bool) (sure:List Sector) (k:Int) (n:Int) (b:List UInt8) := evF s25 us_4 40 148 [.acons (.sl (C := RC) .sector c now) (.acons (.sl (C := RC) .sector d sure) .anil),.int .i64 k,.int .i64 n,.str b]
theorem QqY (c:Bool) (now:List Sector) (d:Bool) (sure:List Sector) (k:Int) (n:Int) (b:List UInt8):Qnw c now d sure k n b = (let Z0:D RC := D.sl RTy.sector true [];let Z1:DO_ := some (D.tup (D.acons (D.acons Z0 (D.acons Z0 .anil)) (.acons (D.int .i64 2) .anil)));let Z2:Nat := (0:Nat) + List.length now;let Z3:Nat := (0:Nat) + List.length sure;let Z4:List Sector := List.replicate (0:Nat) (Sector.mk (0:Int) []);let Z5:Nat := List.length (Z4 ++ now);let Z6:Bool := Nat.beq Z2 Z5;let Z7:Bool := Z6 && decide ((0:Int) <= k /\ k < (↑Z5:Int));let Z8:List Sector := List.set (Z4 ++ now) k.toNat (Sector.mk n b);let Z9:Bool := Nat.beq Z3 (Z4 ++ sure).length;let Z10:D RC := D.acons (D.sl RTy.sector false (Z4 ++ sure)) .anil;let Z11:D RC := D.acons (D.int .i64 0) .anil;let Z12:DO_ := none;bif goodL now && goodL sure then bif (bif diskOK now sure then (0:Int) else (2:Int)) != (0:Int) then Z1 else bif decide (k < (0:Int)) then Z1 else bif decide ((33:Int) <= k) then Z1 else bif decide (n < (1:Int)) then Z1 else bif decide ((1048575:Int) < n) then Z1 else bif b == Array.toList #[] then Z1 else bif lenOK b.length then bif decide ((640:Int) < (↑b.length:Int)) then Z1 else bif Qg Z2 (24:Nat) then bif Qg Z3 (24:Nat) then bif Z7 then bif Z6 then bif Z6 then bif decide (Sector.n (List.getD (Z4 ++ now) k.toNat (Sector.mk (0:Int) [])) < n) then bif Z7 then bif Z6 then bif Nat.beq Z2 Z8.length then bif Z9 then some (D.tup (D.acons (D.acons (D.sl RTy.sector false Z8) Z10) Z11)) else Z12 else Z12 else Z12 else Z12 else bif Z6 then bif Z9 then some (D.tup (D.acons (D.acons (D.sl RTy.sector false (Z4 ++ now)) Z10) Z11)) else Z12 else Z12 else Z12 else Z12 else Z12 else Z12 else Z12 else Z12 else Z12) := by kernel_rfl
theorem QqZ (c:Bool) (now:List Sector) (d:Bool) (sure:List Sector) (k:Int) (n:Int) (b:List UInt8) (h:(goodL now && goodL sure && lenOK b.length) = true):Qnw c now d sure k n b = some (.tup (.acons (.acons (.sl (C := RC) .sector (!Yf now sure k n b) (pNow now sure k n b)) (.acons (.sl (C := RC) .sector (!Yf now sure k n b) (QaI now sure k n b)) .anil)) (.acons (.int .i64 (bif Yf now sure k n b then 0 else 2)) .anil))) := by
 (rw [QqY];conv => zeta)
 simp only [Bool.and_eq_true] at h;obtain ⟨⟨hg,hgs⟩,hb⟩ := h;have hgg:(goodL now && goodL sure) = true := by rw [hg,hgs];rfl
 have no:Yf now sure k n b = false -> some (D.tup (.acons (.acons (.sl (C := RC) .sector true []) (.acons (.sl (C := RC) .sector true []) .anil)) (.acons (.int .i64 2) .anil))) = some (.tup (.acons (.acons (.sl (C := RC) .sector (!Yf now sure k n b) (pNow now sure k n b)) (.acons (.sl (C := RC) .sector (!Yf now sure k n b) (QaI now sure k n b)) .anil)) (.acons (.int .i64 (bif Yf now sure k n b then 0 else 2)) .anil))) := fun e => by simp only [e,pNow,QaI];rfl
 refine QW hgg ?_;cases hd:diskOK now sure
 · exact QW rfl (no (Yg fun f => by rw [hd] at f;cases f.1))
 obtain ⟨l1,l2⟩ := J5 hd;refine Qev rfl (QC (fun e => no (Yg fun f => by simp only [decide_eq_true_eq] at e;omega)) fun e1 => ?_)
 refine (QC (fun e => no (Yg fun f => by simp only [decide_eq_true_eq] at e;omega)) fun e2 => ?_)
 refine (QC (fun e => no (Yg fun f => by simp only [decide_eq_true_eq] at e;omega)) fun e3 => ?_)
 have mf:Zg ⟨n,b⟩ = true -> n <= 1048575 /\ b.length <= 640 := fun e => by simp only [Zg,Bool.and_eq_true,decide_eq_true_eq] at e;exact ⟨e.1.1.2,e.1.2⟩
 refine (QC (fun e => no (Yg fun f => by have := mf f.2.2.2.2.2;simp only [decide_eq_true_eq] at e;omega)) fun e4 => ?_)
 refine (QC (fun e => no (Yg fun f => f.2.2.2.2.1 (by simpa using e))) fun e5 => ?_)
 refine QW hb ?_;refine (QC (fun e => no (Yg fun f => by have := mf f.2.2.2.2.2;simp only [decide_eq_true_eq] at e;omega)) fun e6 => ?_)
 simp only [decide_eq_false_iff_not] at e1 e2 e3 e4 e6
 have ok:Yf now sure k n b = true := by
  have d1:0 < n := by omega
  simp only [Yf,hd,Zg,Bool.true_and,Bool.and_eq_true,decide_eq_true_eq,d1,decide_true,Bool.true_or];exact ⟨⟨⟨⟨by omega,by omega⟩,by omega⟩,by simpa using e5⟩,⟨⟨by omega,by omega⟩,by omega⟩,trivial⟩
 rw [ok];have r0:∀ l:List Sector,List.replicate 0 (⟨0,[]⟩:Sector) ++ l = l := fun l => rfl;have eb:∀ n:Nat,n.beq n = true := fun n => by simp
 have s1:Qg now.length 24 = true := by simp [Qg];omega
 have s2:Qg sure.length 24 = true := by simp [Qg];omega
 have dk:decide (0 <= k /\ k < (now.length:Int)) = true := by simp;omega
 simp only [pNow,QaI,ok,cond_true,Bool.not_true,r0,Nat.zero_add,List.length_set,eb,s1,s2,dk,Bool.and_self];refine QC (fun e => ?_) fun e => ?_ <;> simp only [decide_eq_true_eq,decide_eq_false_iff_not] at e
 · have pn:Y8 now k.toNat n b = now.set k.toNat ⟨n,b⟩ := if_pos e;rw [pn]
 · have pn:Y8 now k.toNat n b = now := if_neg e;rw [pn]
noncomputable def us_5 := us_4.addSpec 148 QgG
theorem Qnx:Qh Tryz.prog s25 us_5 := Qnu.addEv Qa fun args d h => by
 unfold QgG at h
 split at h
 · unfold Qnv at h;have h1 := congrArg Prod.fst (Option.some.inj h);obtain rfl:_ = d := congrArg Prod.snd (Option.some.inj h);exact ⟨by simp [D.refs],40,QqZ _ _ _ _ _ _ _ h1⟩
 · cases h
structure Qbp where
 c:Bool
 l:List Int
 d:Bool
 m:List Int
 i:Nat
def Qam (c:Bool) (l:List Int) (d:Bool) (m:List Int) (i:Nat):Env RC := [(0,.sl (C := RC) .int c l),(1,.sl (C := RC) .int d m),(4,.bool false),(5,.int .i64 (i:Int))]
def JG (c:Bool) (l:List Int) (d:Bool) (m:List Int) (i:Nat):List (Obj RC) := []
noncomputable def QdV (c:Bool) (l:List Int) (d:Bool) (m:List Int) (i:Nat) := rndO s25 us_5 85 4 40 0 [0,1,4,5] [4] [] (Qam c l d m i) (JG c l d m i)
theorem QiA (c:Bool) (l:List Int) (d:Bool) (m:List Int) (i:Nat):QdV c l d m i = (let Z0:Int := (↑i:Int);bif lenOK l.length then bif decide (Z0 < (↑l.length:Int)) then bif decide ((0:Int) <= Z0 /\ Z0 < (↑l.length:Int)) then bif decide ((0:Int) <= Z0 /\ Z0 < (↑m.length:Int)) then bif List.getD l Z0.toNat (0:Int) != List.getD m Z0.toNat (0:Int) then some ((X.ret,[(4,D.bool false)]),[]) else some ((X.normal,[(0,D.sl RTy.int c l),(1,D.sl RTy.int d m),(4,D.bool false),(5,D.int .i64 (IntKind.wrap .i64 (Z0 + (1:Int))))]),[]) else none else none else some ((X.exit (0:Nat),[(4,D.bool false)]),[]) else none) := by kernel_rfl
def Yk (c:Bool) (l:List Int) (d:Bool) (m:List Int) (i:Nat):RT RC := .br (decide (l.drop i = m.drop i)) (.leaf (.exit 0) [(4,.bool false)] []) (.leaf .ret [(4,.bool false)] [])
def Yl (c:Bool) (l:List Int) (d:Bool) (m:List Int) (i:Nat):Prop := i <= l.length /\ l.length <= 9223372036854775807 /\ l.length = m.length
def Zn:QU RC Qbp where
 k := 0
 canon q := Qam q.c q.l q.d q.m q.i
 objs q := JG q.c q.l q.d q.m q.i
 fin q := Yk q.c q.l q.d q.m q.i
 Inv q := Yl q.c q.l q.d q.m q.i
 μ q := q.l.length - q.i
theorem Qb2 (c:Bool) (l:List Int) (d:Bool) (m:List Int) (i:Nat) (hI:Yl c l d m i):Leaf (QdV c l d m i) (LedR Zn ⟨c,l,d,m,i⟩) := by
 (rw [QiA];conv => zeta)
 unfold Yl at hI;obtain ⟨h1,h2,h3⟩ := hI;have hlk := Qk h2;rw [hlk];simp only [cond_true]
 by_cases hlt:i < l.length
 · have w_succ:IntKind.i64.wrap ((i:Int) + 1) = ((i + 1:Nat):Int) := by rw [Qb (by omega) (by omega)];simp
   have d_lt:decide ((i:Int) < l.length) = true := by simp;omega
   have d_in:decide (0 <= (i:Int) /\ (i:Int) < l.length) = true := by simp;omega
   have t_nat:((i:Int)).toNat = i := by simp
   simp only [w_succ,d_lt,d_in,t_nat,cond_true];have hlt':i < m.length := by omega
   have d_in':decide (0 <= (i:Int) /\ (i:Int) < m.length) = true := by simp;omega
   have hst := Qa3 l m i (0:Int) hlt h3;simp only [d_in',cond_true];generalize l.getD i (0:Int) = x at hst ⊢;generalize m.getD i (0:Int) = y at hst ⊢
   by_cases hxy:x = y
   · simp only [YU hxy,cond_false];exact Qw ⟨c,l,d,m,i + 1⟩ ⟨hlt,h2,h3⟩ (by simp only [Zn];omega) (by simp only [Zn,Yk,hst,hxy,decide_true,Bool.true_and]) rfl rfl
   · simp only [J0 hxy,cond_true];exact Q7 [] (by simp [Zn,Yk,hst,hxy,RT.val]) rfl
 · have hi:i = l.length := by omega
   have c1:decide ((i:Int) < l.length) = false := by simp;omega
   simp only [c1,cond_false];exact Qn [] (by simp only [Zn,Yk,QcV l m i (by omega) (by omega),RT.val,cond_true]) rfl
def Qan (env:Env RC) (os:List (Obj RC)):Option (Bool × Qbp) := match env,os with
 | [(0,.sl .int c l),(1,.sl .int d m),(4,.bool false),(5,.int .i64 x0)],[] => Qz (true) (decide (x0 = 0) && decide (l.length <= 9223372036854775807 /\ l.length = m.length),⟨c,l,d,m,0⟩)
 | _,_ => none
noncomputable def us_6 := us_5.addLoop 85 4 (sumR s25 [] [0,1,4,5] Zn Qan)
theorem Qny:Qh Tryz.prog s25 us_6 := by
 refine Qnx.addRoundsR Qa (by kernel_rfl) Zn 40 [0,1,4,5] [4] [] [0,1,4,5] Qan (fun q hI => ?_) ?_
 · obtain ⟨c,l,d,m,i⟩ := q;refine ⟨?_,?_,Qb2 c l d m i hI⟩
   · simp_all [Ql,Zn,Qam,JG,Yl,D.refs,Obj.refs,rEnc]
   · simp_all [Zn,Yk,JG,Yl,RT.refsOK,Ql,D.refs,Obj.refs,rEnc]
 · intro env os b q hd_ hb;unfold Qan at hd_
   split at hd_
   · obtain ⟨hs,hd_⟩ := Qi hd_;cases hd_;simp only [Bool.and_eq_true,decide_eq_true_eq] at hb;obtain ⟨⟨rfl,rfl⟩,hl⟩ := hb;exact ⟨⟨Nat.zero_le _,hl.1,hl.2⟩,rfl,rfl⟩
   · cases hd_
def QgH (c:Bool) (l:List Int) (d:Bool) (m:List Int):Option (Bool × D RC) := some (lenOK l.length && lenOK m.length,.bool (decide (l = m)))
def QdW:List (D RC) -> Option (Bool × D RC)
 | [.sl .int c l,.sl .int d m] => QgH c l d m
 | _ => none
noncomputable def QgI (c:Bool) (l:List Int) (d:Bool) (m:List Int) := evF s25 us_6 40 85 [.sl (C := RC) .int c l,.sl (C := RC) .int d m]
theorem Qnz (c:Bool) (l:List Int) (d:Bool) (m:List Int):QgI c l d m = (let Z0:Nat := List.length l;let Z1:Nat := List.length m;bif lenOK Z0 then bif lenOK Z1 then bif (↑Z0:Int) != (↑Z1:Int) then some (D.bool false) else bif decide (Z0 <= (9223372036854775807:Nat) /\ Z0 = Z1) then bif decide (List.drop (0:Nat) l = List.drop (0:Nat) m) then some (D.bool true) else some (D.bool false) else none else none else none) := by kernel_rfl
theorem QnA (c:Bool) (l:List Int) (d:Bool) (m:List Int) (h:(lenOK l.length && lenOK m.length) = true):QgI c l d m = some (.bool (decide (l = m))) := by
 (rw [Qnz];conv => zeta)
 simp only [Bool.and_eq_true] at h;have h1:l.length <= 9223372036854775807 := YK h.1;simp only [h.1,h.2,cond_true]
 by_cases hl:l.length = m.length
 · have e1:((l.length:Int) != (m.length:Int)) = false := by simp [hl]
   have e2:(l.length <= 9223372036854775807 /\ l.length = m.length) := ⟨h1,hl⟩;rw [e1,decide_eq_true e2];simp only [cond_true,cond_false,List.drop_zero];cases decide (l = m) <;> rfl
 · have e1:((l.length:Int) != (m.length:Int)) = true := by simp;omega
   have:¬ l = m := fun e => hl (by rw [e])
   simp [e1,this]
noncomputable def us_7 := us_6.addSpec 85 QdW
theorem QnB:Qh Tryz.prog s25 us_7 := Qny.addEv Qa fun args d h => by
 unfold QdW at h
 split at h
 · unfold QgH at h;have h1 := congrArg Prod.fst (Option.some.inj h);obtain rfl:_ = d := congrArg Prod.snd (Option.some.inj h);exact ⟨by simp [D.refs],40,QnA _ _ _ _ h1⟩
 · cases h
structure QdX where
 c:Bool
 l:List Int
 a:Bool
 now:List Sector
 b:Bool
 sure:List Sector
 i:Nat
def KF (c:Bool) (l:List Int) (a:Bool) (now:List Sector) (b:Bool) (sure:List Sector) (i:Nat):Env RC := [(1,.ptr 0 []),(2,.int .i64 0),(3,.int .i64 (i:Int))]
def Zz (c:Bool) (l:List Int) (a:Bool) (now:List Sector) (b:Bool) (sure:List Sector) (i:Nat):List (Obj RC) := [.var 37 (.acons (.sl (C := RC) .int c l) (.acons (.acons (.sl (C := RC) .sector a now) (.acons (.sl (C := RC) .sector b sure) .anil)) .anil))]
noncomputable def QgJ (c:Bool) (l:List Int) (a:Bool) (now:List Sector) (b:Bool) (sure:List Sector) (i:Nat) := rndO s25 us_7 190 4 40 1 [1,2,3] [2] [.slot 1 0] (KF c l a now b sure i) (Zz c l a now b sure i)
theorem QnC (c:Bool) (l:List Int) (a:Bool) (now:List Sector) (b:Bool) (sure:List Sector) (i:Nat):QgJ c l a now b sure i = (let Z0:Int := (↑i:Int);let Z1:Int := List.getD l Z0.toNat (0:Int);let Z2:List (Option (Obj RC)) := [some (Obj.var 37 (.acons (D.sl RTy.int c l) (.acons (D.acons (D.sl RTy.sector a now) (.acons (D.sl RTy.sector b sure) .anil)) .anil)))];let Z3:Nat × D RC := (2,D.int .i64 0);bif lenOK l.length then bif decide (Z0 < (↑l.length:Int)) then bif decide ((0:Int) <= Z0 /\ Z0 < (↑l.length:Int)) then bif decide ((-1152921504606846976:Int) <= Z1) then bif !decide (Z1 <= (1152921504606846976:Int)) then some ((X.ret,[(2,D.int .i64 2)]),Z2) else some ((X.normal,[(1,D.ptr 0 []),Z3,(3,D.int .i64 (IntKind.wrap .i64 (Z0 + (1:Int))))]),Z2) else some ((X.ret,[(2,D.int .i64 2)]),Z2) else none else some ((X.exit (0:Nat),[Z3]),Z2) else none) := by kernel_rfl
def YI (c:Bool) (l:List Int) (a:Bool) (now:List Sector) (b:Bool) (sure:List Sector) (i:Nat):RT RC := .br ((l.drop i).all QaJ) (.leaf (.exit 0) [(2,.int .i64 0)] (Zz c l a now b sure i)) (.leaf .ret [(2,.int .i64 2)] (Zz c l a now b sure i))
def YJ (c:Bool) (l:List Int) (a:Bool) (now:List Sector) (b:Bool) (sure:List Sector) (i:Nat):Prop := i <= l.length /\ l.length <= 1024
def Zo:QU RC QdX where
 k := 1
 canon q := KF q.c q.l q.a q.now q.b q.sure q.i
 objs q := Zz q.c q.l q.a q.now q.b q.sure q.i
 fin q := YI q.c q.l q.a q.now q.b q.sure q.i
 Inv q := YJ q.c q.l q.a q.now q.b q.sure q.i
 μ q := q.l.length - q.i
theorem QdY (c:Bool) (l:List Int) (a:Bool) (now:List Sector) (b:Bool) (sure:List Sector) (i:Nat) (hI:YJ c l a now b sure i):Leaf (QgJ c l a now b sure i) (LedR Zo ⟨c,l,a,now,b,sure,i⟩) := by
 (rw [QnC];conv => zeta)
 unfold YJ at hI;obtain ⟨h1,h2⟩ := hI;have hlk := Qk (n := l.length) (by omega)
 by_cases hlt:i < l.length
 · have w_succ:IntKind.i64.wrap ((i:Int) + 1) = ((i + 1:Nat):Int) := by rw [Qb (by omega) (by omega)];simp
   have d_lt:decide ((i:Int) < l.length) = true := by simp;omega
   have d_in:decide (0 <= (i:Int) /\ (i:Int) < l.length) = true := by simp;omega
   have t_nat:((i:Int)).toNat = i := by simp
   simp only [w_succ,d_lt,d_in,t_nat,cond_true];have hst := YX l QaJ i hlt (0:Int);generalize l.getD i (0:Int) = x at hst ⊢;simp only [hlk,cond_true]
   have hgo:QaJ x = true -> Leaf (some ((X.normal,KF c l a now b sure (i + 1)),(Zz c l a now b sure (i + 1)).map some)) (LedR Zo ⟨c,l,a,now,b,sure,i⟩) := fun e =>
    Qw ⟨c,l,a,now,b,sure,i + 1⟩ ⟨hlt,h2⟩ (by simp only [Zo];omega) (by simp [Zo,YI,hst,e];rfl) rfl rfl
   have hno:QaJ x = false -> Leaf (some ((X.ret,[(2,D.int .i64 2)]),(Zz c l a now b sure i).map some)) (LedR Zo ⟨c,l,a,now,b,sure,i⟩) := fun e => Q7 (Zz c l a now b sure i) (by simp [Zo,YI,hst,e,RT.val]) rfl
   have hm:QaJ x = (decide (-1152921504606846976 <= x) && decide (x <= 1152921504606846976)) := rfl;rw [hm] at hgo hno
   repeat' (refine Jm.2 ⟨fun hc_ => ?_,fun hc_ => ?_⟩)
   all_goals first | exact hno (by clear hgo hno hst hm;simp_all <;> omega) | exact hgo (by clear hgo hno hst hm;simp_all <;> omega)
 · have hi:i = l.length := by omega
   have c1:decide ((i:Int) < l.length) = false := by simp;omega
   rw [hlk,c1];exact Qn (Zz c l a now b sure i) (by simp [Zo,YI,hi,RT.val]) rfl
def Qb3 (env:Env RC) (os:List (Obj RC)):Option (Bool × QdX) := match env,os with
 | [(1,.ptr 0 []),(2,.int .i64 0),(3,.int .i64 x0)],[.var 37 (.acons (.sl .int c l) (.acons (.acons (.sl .sector a now) (.acons (.sl .sector b sure) .anil)) .anil))] => Qz (true) (decide (x0 = 0) && decide (l.length <= 1024),⟨c,l,a,now,b,sure,0⟩)
 | _,_ => none
noncomputable def us_8 := us_7.addLoop 190 4 (sumR s25 [.slot 1 0] [1,2,3] Zo Qb3)
theorem QnD:Qh Tryz.prog s25 us_8 := by
 refine QnB.addRoundsR Qa (by kernel_rfl) Zo 40 [1,2,3] [2] [.slot 1 0] [1,2,3] Qb3 (fun q hI => ?_) ?_
 · obtain ⟨c,l,a,now,b,sure,i⟩ := q;refine ⟨?_,?_,QdY c l a now b sure i hI⟩
   · simp_all [Ql,Zo,KF,Zz,YJ,D.refs,Obj.refs,rEnc]
   · simp_all [Zo,YI,Zz,YJ,RT.refsOK,Ql,D.refs,Obj.refs,rEnc]
 · intro env os b q hd_ hb;unfold Qb3 at hd_
   split at hd_
   · obtain ⟨hs,hd_⟩ := Qi hd_;cases hd_;simp only [Bool.and_eq_true,decide_eq_true_eq] at hb;obtain ⟨rfl,hl⟩ := hb;exact ⟨⟨Nat.zero_le _,hl⟩,rfl,rfl⟩
   · cases hd_
def QnE (c:Bool) (l:List Int) (a:Bool) (now:List Sector) (b:Bool) (sure:List Sector):Option (Bool × D RC) := some (lenOK l.length && (goodL now && goodL sure),.int .i64 (bif cellsOK l && diskOK now sure then 0 else 2))
def QgK:List (D RC) -> Option (Bool × D RC)
 | [.acons (.sl .int c l) (.acons (.acons (.sl .sector a now) (.acons (.sl .sector b sure) .anil)) .anil)] => QnE c l a now b sure
 | _ => none
noncomputable def QnF (c:Bool) (l:List Int) (a:Bool) (now:List Sector) (b:Bool) (sure:List Sector) := evF s25 us_8 40 190 [.acons (.sl (C := RC) .int c l) (.acons (.acons (.sl (C := RC) .sector a now) (.acons (.sl (C := RC) .sector b sure) .anil)) .anil)]
theorem Qq0 (c:Bool) (l:List Int) (a:Bool) (now:List Sector) (b:Bool) (sure:List Sector):QnF c l a now b sure = (let Z0:Nat := List.length l;let Z1:DO_ := some (D.int .i64 2);bif lenOK Z0 then bif decide ((1024:Int) < (↑Z0:Int)) then Z1 else bif decide (Z0 <= (1024:Nat)) then bif List.all (List.drop (0:Nat) l) QaJ then bif goodL now && goodL sure then some (D.int .i64 (bif diskOK now sure then (0:Int) else (2:Int))) else none else Z1 else none else none) := by kernel_rfl
theorem Qq1 (c:Bool) (l:List Int) (a:Bool) (now:List Sector) (b:Bool) (sure:List Sector) (h:(lenOK l.length && (goodL now && goodL sure)) = true):QnF c l a now b sure = some (.int .i64 (bif cellsOK l && diskOK now sure then 0 else 2)) := by
 (rw [Qq0];conv => zeta)
 rw [Bool.and_eq_true] at h;obtain ⟨h1,h2⟩ := h;simp only [h1,h2,cond_true,List.drop_zero,cellsOK]
 by_cases hl:l.length <= 1024
 · have e1:decide ((1024:Int) < l.length) = false := by simp;omega
   simp only [e1,decide_eq_true hl,cond_false,cond_true,Bool.true_and];cases l.all QaJ <;> rfl
 · have e1:decide ((1024:Int) < l.length) = true := by simp;omega
   simp only [e1,decide_eq_false hl,cond_true,Bool.false_and,cond_false]
noncomputable def us_9 := us_8.addSpec 190 QgK
theorem QnG:Qh Tryz.prog s25 us_9 := QnD.addEv Qa fun args d h => by
 unfold QgK at h
 split at h
 · unfold QnE at h;have h1 := congrArg Prod.fst (Option.some.inj h);obtain rfl:_ = d := congrArg Prod.snd (Option.some.inj h);exact ⟨by simp [D.refs],40,Qq1 _ _ _ _ _ _ h1⟩
 · cases h
def QnH :Option (Bool × D RC) := some (true,.acons (.sl (C := RC) .sector false QK) (.acons (.sl (C := RC) .sector false QK) .anil))
def QgL:List (D RC) -> Option (Bool × D RC)
 | [] => QnH 
 | _ => none
noncomputable def Qus  := evF s25 us_9 40 79 []
theorem Qq2  (h:(true) = true):Qus  = some (.acons (.sl (C := RC) .sector false QK) (.acons (.sl (C := RC) .sector false QK) .anil)) := by
 kernel_rfl
noncomputable def Qut := us_9.addSpec 79 QgL
theorem QiB:Qh Tryz.prog s25 Qut := QnG.addEv Qa fun args d h => by
 unfold QgL at h
 split at h
 · unfold QnH at h;have h1 := congrArg Prod.fst (Option.some.inj h);obtain rfl:_ = d := congrArg Prod.snd (Option.some.inj h);exact ⟨by simp [D.refs],40,Qq2  h1⟩
 · cases h
noncomputable def Qsp (c:Bool) (l:List Int) (now:List Sector) (sure:List Sector) (k:Int) (ad:Int) (bb:Int) (v:Int) (g:Int) (tx:List UInt8) (ca:Bool) (ar:List Int):Option (Bool × D RC) := some (cdec (Qiy l now sure ⟨k,ad,bb,v,g,tx,ar⟩) && (cellsOK l && (diskOK now sure && (goodL now && goodL sure))),.tup (.acons (.acons (.sl (C := RC) .int false (doC5 l ⟨k,ad,bb,v,g,tx,ar⟩)) (.acons (.acons (.sl (C := RC) .sector false (doN5 now ⟨k,ad,bb,v,g,tx,ar⟩)) (.acons (.sl (C := RC) .sector false (doS5 now sure ⟨k,ad,bb,v,g,tx,ar⟩)) .anil)) .anil)) (.acons (.int .i64 (doG5 l ⟨k,ad,bb,v,g,tx,ar⟩)) (.acons (.int .i64 0) .anil))))
noncomputable def QnI:List (D RC) -> Option (Bool × D RC)
 | [.acons (.sl .int c l) (.acons (.acons (.sl .sector false now) (.acons (.sl .sector false sure) .anil)) .anil),.acons (.int .i8 k) (.acons (.int .i64 ad) (.acons (.int .i64 bb) (.acons (.int .i64 v) (.acons (.int .i64 g) (.acons (.str tx) (.acons (.sl .int ca ar) .anil))))))] => Qsp c l now sure k ad bb v g tx ca ar
 | _ => none
noncomputable def Qao (c:Bool) (l:List Int) (now:List Sector) (sure:List Sector) (k:Int) (ad:Int) (bb:Int) (v:Int) (g:Int) (tx:List UInt8) (ca:Bool) (ar:List Int) := evF s25 Qut 80 86 [.acons (.sl (C := RC) .int c l) (.acons (.acons (.sl (C := RC) .sector false now) (.acons (.sl (C := RC) .sector false sure) .anil)) .anil),.acons (.int .i8 k) (.acons (.int .i64 ad) (.acons (.int .i64 bb) (.acons (.int .i64 v) (.acons (.int .i64 g) (.acons (.str tx) (.acons (.sl (C := RC) .int ca ar) .anil))))))]
theorem QiC {l:List Int} (h:cellsOK l = true) {i:Nat} (hi:i < l.length):-1152921504606846976 <= l.getD i 0 /\ l.getD i 0 <= 1152921504606846976 := by
 simp only [cellsOK,Bool.and_eq_true,List.all_eq_true] at h;have := h.2 l[i] (List.getElem_mem hi);simp only [QaJ,Bool.and_eq_true,decide_eq_true_eq] at this;rw [QtE hi];exact this
theorem Qq3 (c:Bool) (l:List Int) (now sure:List Sector) (ad g:Int) (ca:Bool):Qao c l now sure 0 ad 0 0 g [] ca [] = (let Z0:Nat := List.length l;let Z1:D RC := D.sl RTy.sector true [];let Z2:D RC := .anil;let Z3:D RC := D.int .i64 0;let Z4:DO_ := some (D.tup (D.acons (D.acons (D.sl RTy.int true []) (.acons (D.acons Z1 (D.acons Z1 Z2)) Z2)) (.acons Z3 (D.acons (D.int .i64 2) Z2))));let Z5:List Int := List.replicate (0:Nat) (0:Int) ++ l;bif lenOK Z0 && (goodL now && goodL sure) then bif (bif cellsOK l && diskOK now sure then (0:Int) else (2:Int)) != (0:Int) then Z4 else bif decide (g < (0:Int)) then Z4 else bif decide (ad < (0:Int)) then Z4 else bif lenOK Z0 then bif decide ((↑Z0:Int) <= ad) then Z4 else bif Qg ((0:Nat) + Z0) (8:Nat) then bif Nat.beq ((0:Nat) + Z0) Z5.length then bif decide ((0:Int) <= ad /\ ad < (↑Z5.length:Int)) then some (D.tup (D.acons (D.acons (D.sl RTy.int false Z5) (.acons (D.acons (D.sl RTy.sector false now) (.acons (D.sl RTy.sector false sure) Z2)) Z2)) (.acons (D.int .i64 (List.getD Z5 ad.toNat (0:Int))) (.acons Z3 Z2)))) else none else none else none else none else none) := by kernel_rfl
theorem Qq4 (c:Bool) (l:List Int) (now sure:List Sector) (ad v g:Int) (ca:Bool):Qao c l now sure 1 ad 0 v g [] ca [] = (let Z0:Nat := List.length l;let Z1:D RC := D.sl RTy.sector true [];let Z2:D RC := .anil;let Z3:D RC := D.int .i64 0;let Z4:DO_ := some (D.tup (D.acons (D.acons (D.sl RTy.int true []) (.acons (D.acons Z1 (D.acons Z1 Z2)) Z2)) (.acons Z3 (D.acons (D.int .i64 2) Z2))));let Z5:Nat := (0:Nat) + Z0;let Z6:List Int := List.replicate (0:Nat) (0:Int) ++ l;let Z7:Bool := Nat.beq Z5 Z6.length;let Z8:List Int := List.set Z6 ad.toNat v;bif lenOK Z0 && (goodL now && goodL sure) then bif (bif cellsOK l && diskOK now sure then (0:Int) else (2:Int)) != (0:Int) then Z4 else bif decide (g < (0:Int)) then Z4 else bif decide (ad < (0:Int)) then Z4 else bif lenOK Z0 then bif decide ((↑Z0:Int) <= ad) then Z4 else bif decide ((-1152921504606846976:Int) <= v) then bif !decide (v <= (1152921504606846976:Int)) then Z4 else bif Qg Z5 (8:Nat) then bif Z7 && decide ((0:Int) <= ad /\ ad < (↑Z6.length:Int)) then bif Z7 then bif Nat.beq Z5 Z8.length then some (D.tup (D.acons (D.acons (D.sl RTy.int false Z8) (.acons (D.acons (D.sl RTy.sector false now) (.acons (D.sl RTy.sector false sure) Z2)) Z2)) (.acons Z3 (D.acons Z3 Z2)))) else none else none else none else none else Z4 else none else none) := by kernel_rfl
theorem Qq5 (c:Bool) (l:List Int) (now sure:List Sector) (ad bb v g:Int) (ca:Bool):Qao c l now sure 2 ad bb v g [] ca [] = (let Z0:Nat := List.length l;let Z1:D RC := D.sl RTy.sector true [];let Z2:D RC := .anil;let Z3:D RC := D.int .i64 0;let Z4:DO_ := some (D.tup (D.acons (D.acons (D.sl RTy.int true []) (.acons (D.acons Z1 (D.acons Z1 Z2)) Z2)) (.acons Z3 (D.acons (D.int .i64 2) Z2))));let Z5:Int := (-1152921504606846976:Int);let Z6:Nat := (0:Nat) + Z0;let Z7:List Int := List.replicate (0:Nat) (0:Int) ++ l;let Z8:Bool := Nat.beq Z6 Z7.length;let Z9:Bool := Z8 && decide ((0:Int) <= ad /\ ad < (↑Z7.length:Int));let Z10:D RC := D.acons (D.acons (D.sl RTy.sector false now) (.acons (D.sl RTy.sector false sure) Z2)) Z2;let Z11:List Int := List.set Z7 ad.toNat v;bif lenOK Z0 && (goodL now && goodL sure) then bif (bif cellsOK l && diskOK now sure then (0:Int) else (2:Int)) != (0:Int) then Z4 else bif decide (g < (0:Int)) then Z4 else bif decide (ad < (0:Int)) then Z4 else bif lenOK Z0 then bif decide ((↑Z0:Int) <= ad) then Z4 else bif decide (Z5 <= bb) then bif !decide (bb <= (1152921504606846976:Int)) then Z4 else bif decide (Z5 <= v) then bif !decide (v <= (1152921504606846976:Int)) then Z4 else bif Qg Z6 (8:Nat) then bif Z9 then bif Z8 then bif List.getD Z7 ad.toNat (0:Int) != bb then bif Z8 then some (D.tup (D.acons (D.acons (D.sl RTy.int false Z7) Z10) (.acons Z3 (D.acons Z3 Z2)))) else none else bif Z9 then bif Z8 then bif Nat.beq Z6 Z11.length then some (D.tup (D.acons (D.acons (D.sl RTy.int false Z11) Z10) (.acons (D.int .i64 1) (.acons Z3 Z2)))) else none else none else none else none else none else none else Z4 else Z4 else none else none) := by kernel_rfl
theorem Qq6 (c:Bool) (l:List Int) (now sure:List Sector) (ad v g:Int) (ca:Bool):Qao c l now sure 3 ad 0 v g [] ca [] = (let Z0:Nat := List.length l;let Z1:D RC := D.sl RTy.sector true [];let Z2:D RC := .anil;let Z3:D RC := D.int .i64 0;let Z4:DO_ := some (D.tup (D.acons (D.acons (D.sl RTy.int true []) (.acons (D.acons Z1 (D.acons Z1 Z2)) Z2)) (.acons Z3 (D.acons (D.int .i64 2) Z2))));let Z5:Int := (-1152921504606846976:Int);let Z6:Nat := (0:Nat) + Z0;let Z7:List Int := List.replicate (0:Nat) (0:Int) ++ l;let Z8:Bool := Nat.beq Z6 Z7.length;let Z9:Bool := Z8 && decide ((0:Int) <= ad /\ ad < (↑Z7.length:Int));let Z10:Int := List.getD Z7 ad.toNat (0:Int);let Z11:Int := IntKind.wrap .i64 (Z10 + v);let Z12:Int := if (1152921504606846976:Int) < Z11 then (1152921504606846976:Int) else Z11;let Z13:List Int := List.set Z7 ad.toNat (if Z12 < Z5 then Z5 else Z12);bif lenOK Z0 && (goodL now && goodL sure) then bif (bif cellsOK l && diskOK now sure then (0:Int) else (2:Int)) != (0:Int) then Z4 else bif decide (g < (0:Int)) then Z4 else bif decide (ad < (0:Int)) then Z4 else bif lenOK Z0 then bif decide ((↑Z0:Int) <= ad) then Z4 else bif decide (Z5 <= v) then bif !decide (v <= (1152921504606846976:Int)) then Z4 else bif Qg Z6 (8:Nat) then bif Z9 then bif Z8 then bif Z9 then bif Z8 then bif Nat.beq Z6 Z13.length then some (D.tup (D.acons (D.acons (D.sl RTy.int false Z13) (.acons (D.acons (D.sl RTy.sector false now) (.acons (D.sl RTy.sector false sure) Z2)) Z2)) (.acons (D.int .i64 Z10) (.acons Z3 Z2)))) else none else none else none else none else none else none else Z4 else none else none) := by kernel_rfl
theorem Qq7 (c:Bool) (l:List Int) (now sure:List Sector) (ad bb g:Int) (tx:List UInt8) (ca:Bool):Qao c l now sure 4 ad bb 0 g tx ca [] = (let Z0:Bool := goodL now && goodL sure;let Z1:D RC := D.sl RTy.sector true [];let Z2:D RC := .anil;let Z3:D RC := D.int .i64 0;let Z4:DO_ := some (D.tup (D.acons (D.acons (D.sl RTy.int true []) (.acons (D.acons Z1 (D.acons Z1 Z2)) Z2)) (.acons Z3 (D.acons (D.int .i64 2) Z2))));let Z5:Bool := Z0 && lenOK tx.length;let Z6:Bool := Yf now sure ad bb tx;let Z7:Nat := (0:Nat) + List.length l;let Z8:List Int := List.replicate (0:Nat) (0:Int) ++ l;bif lenOK l.length && Z0 then bif (bif cellsOK l && diskOK now sure then (0:Int) else (2:Int)) != (0:Int) then Z4 else bif decide (g < (0:Int)) then Z4 else bif Z5 then bif (bif Z6 then (0:Int) else (2:Int)) == (0:Int) then bif Qg Z7 (8:Nat) then bif Z5 then bif Nat.beq Z7 Z8.length then some (D.tup (D.acons (D.acons (D.sl RTy.int false Z8) (.acons (D.acons (D.sl RTy.sector (!Z6) (pNow now sure ad bb tx)) (.acons (D.sl RTy.sector (!Z6) (QaI now sure ad bb tx)) Z2)) Z2)) (.acons Z3 (D.acons Z3 Z2)))) else none else none else none else Z4 else none else none) := by kernel_rfl
theorem Qq8 (c:Bool) (l:List Int) (now sure:List Sector) (g:Int) (ca:Bool):Qao c l now sure 5 0 0 0 g [] ca [] = (let Z0:Bool := goodL now && goodL sure;let Z1:D RC := D.sl RTy.sector true [];let Z2:D RC := .anil;let Z3:D RC := D.acons (D.acons Z1 (D.acons Z1 Z2)) Z2;let Z4:D RC := D.int .i64 0;let Z5:DO_ := some (D.tup (D.acons (D.acons (D.sl RTy.int true []) Z3) (.acons Z4 (D.acons (D.int .i64 2) Z2))));let Z6:Nat := (0:Nat) + List.length l;let Z7:List Int := List.replicate (0:Nat) (0:Int) ++ l;let Z8:Bool := Nat.beq Z6 Z7.length;let Z9:D RC := D.sl RTy.int false Z7;let Z10:D RC := D.acons Z4 (D.acons Z4 Z2);let Z11:Nat := (0:Nat) + List.length now;let Z12:List Sector := List.replicate (0:Nat) (Sector.mk (0:Int) []);let Z13:Nat := List.length (Z12 ++ now);bif lenOK l.length && Z0 then bif (bif cellsOK l && diskOK now sure then (0:Int) else (2:Int)) != (0:Int) then Z5 else bif decide (g < (0:Int)) then Z5 else bif Qg Z6 (8:Nat) then bif Z0 then bif (bif diskOK now sure then (0:Int) else (2:Int)) != (0:Int) then bif Z8 then some (D.tup (D.acons (D.acons Z9 Z3) Z10)) else none else bif Qg Z11 (24:Nat) then bif Qg ((0:Nat) + List.length sure) (24:Nat) then bif Nat.beq Z11 Z13 then bif Qg ((0:Nat) + Z13) (24:Nat) then bif Nat.beq Z11 Z13 then bif Nat.beq ((0:Nat) + Z13) (Z12 ++ (Z12 ++ now)).length then bif Z8 then some (D.tup (D.acons (D.acons Z9 (D.acons (D.acons (D.sl RTy.sector false (Z12 ++ now)) (.acons (D.sl RTy.sector false (Z12 ++ (Z12 ++ now))) Z2)) Z2)) Z10)) else none else none else none else none else none else none else none else none else none else none) := by kernel_rfl
theorem Quu (c:Bool) (l:List Int) (now:List Sector) (sure:List Sector) (k:Int) (ad:Int) (bb:Int) (v:Int) (g:Int) (tx:List UInt8) (ca:Bool) (ar:List Int) (h:(cdec (Qiy l now sure ⟨k,ad,bb,v,g,tx,ar⟩) && (cellsOK l && (diskOK now sure && (goodL now && goodL sure)))) = true):Qao c l now sure k ad bb v g tx ca ar = some (.tup (.acons (.acons (.sl (C := RC) .int false (doC5 l ⟨k,ad,bb,v,g,tx,ar⟩)) (.acons (.acons (.sl (C := RC) .sector false (doN5 now ⟨k,ad,bb,v,g,tx,ar⟩)) (.acons (.sl (C := RC) .sector false (doS5 now sure ⟨k,ad,bb,v,g,tx,ar⟩)) .anil)) .anil)) (.acons (.int .i64 (doG5 l ⟨k,ad,bb,v,g,tx,ar⟩)) (.acons (.int .i64 0) .anil)))) := by
 simp only [Bool.and_eq_true] at h;obtain ⟨ho,hc,hd,hg1,hg2⟩ := h;obtain ⟨e02,g0,ho9⟩ := QP.1 ho;simp only at e02 g0 ho9;subst e02
 have hlen:l.length <= 1024 := by
  simp only [cellsOK,Bool.and_eq_true,decide_eq_true_eq] at hc;exact hc.1
 obtain ⟨l1,l2⟩ := J5 hd;have e1:lenOK l.length = true := Qk (by omega)
 have n1:lenOK now.length = true := Qk (by omega)
 have n2:lenOK sure.length = true := Qk (by omega)
 have e7:Qg (0 + l.length) 8 = true := VR (by omega)
 have e8:Nat.beq (0 + l.length) l.length = true := J1 (by omega)
 have n3:Qg (0 + now.length) 24 = true := VR (by omega)
 have n4:Qg (0 + sure.length) 24 = true := VR (by omega)
 have n5:Nat.beq (0 + now.length) now.length = true := J1 (by omega)
 have n6:Nat.beq (0 + sure.length) sure.length = true := J1 (by omega)
 have f3:decide (g < 0) = false := decide_eq_false (by omega)
 rcases ho9 with ⟨rfl,hk,a0,a1,b0,b1,v0,v1⟩ | ⟨rfl,rfl,hp⟩ | ⟨rfl,rfl,rfl,rfl,rfl⟩
 · have e4:decide (ad < 0) = false := by simp;omega
   have e5:decide ((l.length:Int) <= ad) = false := by simp;omega
   have e6:decide (0 <= ad /\ ad < (l.length:Int)) = true := by simp;omega
   have e9:decide (-1152921504606846976 <= bb) = true := by simp;omega
   have f0:decide (bb <= 1152921504606846976) = true := by simp;omega
   have f1:decide (-1152921504606846976 <= v) = true := by simp;omega
   have f2:decide (v <= 1152921504606846976) = true := by simp;omega
   rcases hk with ⟨rfl,rfl,rfl⟩ | ⟨rfl,rfl⟩ | rfl | ⟨rfl,rfl⟩
   · (rw [Qq3];conv => zeta)
     simp only [List.replicate_zero,List.nil_append,List.length_set,e1,hg1,hg2,hc,hd,Bool.and_self,cond_true,cond_false,bne_self_eq_false,e4,e5,e6,e7,e8,e9,f0,f1,f2,f3,Bool.not_true,decide_true];rfl
   · (rw [Qq4];conv => zeta)
     simp only [List.replicate_zero,List.nil_append,List.length_set,e1,hg1,hg2,hc,hd,Bool.and_self,cond_true,cond_false,bne_self_eq_false,e4,e5,e6,e7,e8,e9,f0,f1,f2,f3,Bool.not_true,decide_true];rfl
   · (rw [Qq5];conv => zeta)
     have eC:doC5 l ⟨2,ad,bb,v,g,[],[]⟩ = doC4 l 2 ad bb v := rfl;have eG:doG5 l ⟨2,ad,bb,v,g,[],[]⟩ = doG4 l 2 ad bb := rfl;have eN:doN5 now ⟨2,ad,bb,v,g,[],[]⟩ = now := rfl;have eS:doS5 now sure ⟨2,ad,bb,v,g,[],[]⟩ = sure := rfl;rw [eC,eG,eN,eS];simp only [List.replicate_zero,List.nil_append,List.length_set,e1,hg1,hg2,hc,hd,Bool.and_self,cond_true,cond_false,bne_self_eq_false,e4,e5,e6,e7,e8,e9,f0,f1,f2,f3,Bool.not_true,decide_true]
     by_cases hb:l.getD ad.toNat 0 = bb
     · rw [YU hb];simp only [cond_false,doC4,doG4,hb,and_self,or_true,if_true];rfl
     · rw [J0 hb];simp only [cond_true,doC4,doG4,hb,and_false,or_false,if_false];rfl
   · (rw [Qq6];conv => zeta)
     simp only [List.replicate_zero,List.nil_append,List.length_set,e1,hg1,hg2,hc,hd,Bool.and_self,cond_true,cond_false,bne_self_eq_false,e4,e5,e6,e7,e8,e9,f0,f1,f2,f3,Bool.not_true,decide_true];have hn := QiC hc (i := ad.toNat) (by omega)
     have e:doC5 l ⟨3,ad,0,v,g,[],[]⟩ = l.set ad.toNat (addC (l.getD ad.toNat 0) v) := by simp [doC5,doC4]
     have e':doG5 l ⟨3,ad,0,v,g,[],[]⟩ = l.getD ad.toNat 0 := by simp [doG5,doG4]
     have eN:doN5 now ⟨3,ad,0,v,g,[],[]⟩ = now := rfl;have eS:doS5 now sure ⟨3,ad,0,v,g,[],[]⟩ = sure := rfl;rw [e,e',eN,eS];generalize l.getD ad.toNat 0 = n at *;have hw:IntKind.i64.wrap (n + v) = n + v := Qb (by omega) (by omega)
     have hA:addC n v = if (if 1152921504606846976 < n + v then 1152921504606846976 else n + v) < -1152921504606846976 then -1152921504606846976 else (if 1152921504606846976 < n + v then 1152921504606846976 else n + v) := by
      unfold addC
      repeat' split
      all_goals omega
     rw [hA,hw]
 · (rw [Qq7];conv => zeta)
   obtain ⟨_,k0,k1,k2,k3,k4⟩ := V9 hp
   have hb:tx.length <= 640 := by
    simp only [Zg,Bool.and_eq_true,decide_eq_true_eq] at k4;exact k4.1.2
   have lb:lenOK tx.length = true := Qk (by omega)
   have eC:doC5 l ⟨4,ad,bb,0,g,tx,[]⟩ = l := rfl;have eG:doG5 l ⟨4,ad,bb,0,g,tx,[]⟩ = 0 := rfl;have eN:doN5 now ⟨4,ad,bb,0,g,tx,[]⟩ = Y8 now ad.toNat bb tx := rfl;have eS:doS5 now sure ⟨4,ad,bb,0,g,tx,[]⟩ = sure := rfl;rw [eC,eG,eN,eS];simp only [List.replicate_zero,List.nil_append,e1,n1,n2,n3,n4,n5,n6,lb,hp,pNow,QaI,hg1,hg2,hc,hd,Bool.and_self,cond_true,cond_false,bne_self_eq_false,e7,e8,f3,Bool.not_true,decide_true]
   all_goals rfl
 · (rw [Qq8];conv => zeta)
   have eC:doC5 l ⟨5,0,0,0,g,[],[]⟩ = l := rfl;have eG:doG5 l ⟨5,0,0,0,g,[],[]⟩ = 0 := rfl;have eN:doN5 now ⟨5,0,0,0,g,[],[]⟩ = now := rfl;have eS:doS5 now sure ⟨5,0,0,0,g,[],[]⟩ = now := rfl;rw [eC,eG,eN,eS];simp only [List.replicate_zero,List.nil_append,e1,n1,n2,n3,n4,n5,n6,hg1,hg2,hc,hd,Bool.and_self,cond_true,cond_false,bne_self_eq_false,e7,e8,f3,Bool.not_true,decide_true]
   all_goals rfl
noncomputable def Quv := Qut.addSpec 86 QnI
theorem QiD:Qh Tryz.prog s25 Quv := QiB.addEv Qa fun args d h => by
 unfold QnI at h
 split at h
 · unfold Qsp at h;have h1 := congrArg Prod.fst (Option.some.inj h);obtain rfl:_ = d := congrArg Prod.snd (Option.some.inj h);exact ⟨by simp [D.refs],80,Quu _ _ _ _ _ _ _ _ _ _ _ _ h1⟩
 · cases h
open Go.Proofs
structure QnJ where
 c:Int
 now:List Sector
 sure:List Sector
 cs:List Int
 ts:List Task
 us:List Task
 busy:List Bool
def QnK (c:Int) (now:List Sector) (sure:List Sector) (cs:List Int) (ts:List Task) (us:List Task) (busy:List Bool):List (D RC) := [.ptr 0 [],.int .i64 c]
def Kl (c:Int) (now:List Sector) (sure:List Sector) (cs:List Int) (ts:List Task) (us:List Task) (busy:List Bool):List (Obj RC) := [.var 44 (.acons (.acons (.sl (C := RC) .int false cs) (.acons (.acons (.sl (C := RC) .sector false now) (.acons (.sl (C := RC) .sector false sure) .anil)) .anil)) (.acons (.arr (C := RC) .task 4 ts) (.acons (.arr (C := RC) .task 4 us) (.acons (.arr (C := RC) .bool 4 busy) .anil))))]
noncomputable def Qsq (c:Int) (now:List Sector) (sure:List Sector) (cs:List Int) (ts:List Task) (us:List Task) (busy:List Bool) := fnO s25 Quv 88 80 1 (QnK c now sure cs ts us busy) (Kl c now sure cs ts us busy)
theorem Quw (c:Int) (now:List Sector) (sure:List Sector) (cs:List Int) (ts:List Task) (us:List Task) (busy:List Bool):Qsq c now sure cs ts us busy = (let Z0:Bool := decide ((0:Int) <= c /\ c < (4:Int));let Z1:Nat := Int.toNat c;let Z2:Task := Task.mk (0:Int) [] [] false;let Z3:Task := List.getD ts Z1 Z2;let Z4:Task := List.getD us Z1 Z2;let Z5:GoM := goGo false (64:Nat) (Task.stack Z3) (Task.got Z3) false;let Z6:GoM := goGo true (64:Nat) (Task.stack Z4) (Task.got Z4) false;let Z7:D RC := D.bool false;let Z8:D RC := .anil;let Z9:D RC := D.acons (D.sl RTy.int false cs) (.acons (D.acons (D.sl RTy.sector false now) (.acons (D.sl RTy.sector false sure) Z8)) Z8);let Z10:D RC := D.arr RTy.task (4:Nat) ts;let Z11:D RC := D.arr RTy.task (4:Nat) us;let Z12:List (Option (Obj RC)) := [some (Obj.var 44 (.acons Z9 (D.acons Z10 (D.acons Z11 (D.acons (D.arr RTy.bool (4:Nat) busy) Z8)))))];let Z13:Option (D RC × List (Option (Obj RC))) := some (D.tup (D.acons (D.sl RTy.int true []) (.acons Z7 (D.acons Z7 Z8))),Z12);let Z14:Qf := GoM.a Z5;let Z15:Qf := GoM.a Z6;let Z16:Nat := List.length (GoM.st Z5);let Z17:Nat := List.length (GoM.st Z6);let Z18:D RC := D.sl RTy.int (GoM.gf Z5) (GoM.got Z5);let Z19:List (Option (Obj RC)) := [some (Obj.var 44 (.acons Z9 (D.acons Z10 (D.acons Z11 (D.acons (D.arr RTy.bool (4:Nat) (List.set busy Z1 false)) Z8)))))];let Z20:Option (D RC × List (Option (Obj RC))) := some (D.tup (D.acons Z18 (D.acons (D.bool true) (.acons Z7 Z8))),Z19);let Z21:Option (D RC × List (Option (Obj RC))) := bif GoM.is Z5 then some (D.tup (D.acons (D.sl RTy.int true []) (.acons Z7 (D.acons (D.bool true) Z8))),Z12) else bif Z0 then bif lenOK Z16 then bif (↑Z16:Int) == (0:Int) then bif lenOK Z17 then bif (↑Z17:Int) == (0:Int) then bif lenOK (GoM.got Z5).length && lenOK (GoM.got Z6).length then some (D.tup (D.acons Z18 (D.acons (D.bool true) (.acons (D.bool (decide (GoM.got Z5 = GoM.got Z6))) Z8))),Z19) else none else Z20 else none else Z20 else none else none;bif Z0 then bif cdec ((0:Int) <= Task.client Z3 /\ Task.client Z3 <= (3:Int) /\ Task.over Z3 = decide (Task.stack Z3 = []) /\ (Task.stack Z3 = [] -> false = false) /\ okGo false (64:Nat) (Task.stack Z3) (Task.got Z3)) then bif Z0 then bif cdec ((0:Int) <= Task.client Z4 /\ Task.client Z4 <= (3:Int) /\ Task.over Z4 = decide (Task.stack Z4 = []) /\ (Task.stack Z4 = [] -> false = false) /\ okGo true (64:Nat) (Task.stack Z4) (Task.got Z4)) then bif !GoM.is Z5 == GoM.is Z6 then Z13 else bif GoM.is Z5 then bif lenOK (Qf.args Z14).length && lenOK (Qf.args Z15).length then bif !decide (Qf.mk (Qf.kind Z14) (Qf.a Z14) (Qf.b Z14) (Qf.v Z14) (Qf.gen Z14) (Qf.text Z14) (Qf.args Z14) = Qf.mk (Qf.kind Z15) (Qf.a Z15) (Qf.b Z15) (Qf.v Z15) (Qf.gen Z15) (Qf.text Z15) (Qf.args Z15)) then Z13 else Z21 else none else Z21 else none else none else none else none) := by kernel_rfl
noncomputable def VN (c:Int) (now:List Sector) (sure:List Sector) (cs:List Int) (ts:List Task) (us:List Task) (busy:List Bool):RT RC := .leaf .ret [(0,.tup (.acons (.sl (C := RC) .int (bif (goT nHp false (tkC ts c)).is then true else (goT nHp false (tkC ts c)).gf) (bif (goT nHp false (tkC ts c)).is then [] else (goT nHp false (tkC ts c)).got)) (.acons (.bool (!(goT nHp false (tkC ts c)).is)) (.acons (.bool true) .anil))))] (Kl c now sure cs ts us (bif (goT nHp false (tkC ts c)).is then busy else busy.set c.toNat false))
def Qb4 (c:Int) (now:List Sector) (sure:List Sector) (cs:List Int) (ts:List Task) (us:List Task) (busy:List Bool):Prop := 0 <= c /\ c <= 3 /\ ts.length = 4 /\ us.length = 4 /\ QbZ nHp okHp c (tkC ts c) (tkC us c)
noncomputable def Qap:FunR RC QnJ where
 k := 1
 args q := QnK q.c q.now q.sure q.cs q.ts q.us q.busy
 objs q := Kl q.c q.now q.sure q.cs q.ts q.us q.busy
 fin q := VN q.c q.now q.sure q.cs q.ts q.us q.busy
 Inv q := Qb4 q.c q.now q.sure q.cs q.ts q.us q.busy
theorem Qux (c:Int) (now:List Sector) (sure:List Sector) (cs:List Int) (ts:List Task) (us:List Task) (busy:List Bool) (hI:Qb4 c now sure cs ts us busy):Leaf (Qsq c now sure cs ts us busy) (LedF Qap ⟨c,now,sure,cs,ts,us,busy⟩) := by
 (rw [Quw];conv => zeta)
 unfold Qb4 at hI;obtain ⟨c0,c3,lt,lu,hE⟩ := hI;have hc:decide ((0:Int) <= c /\ c < 4) = true := decide_eq_true ⟨c0,by omega⟩
 have ht:tkC ts c = ts.getD c.toNat ⟨0,[],[],false⟩ := rfl;have hu:tkC us c = us.getD c.toNat ⟨0,[],[],false⟩ := rfl
 have hfin:∀ t,tkC ts c = t -> VN c now sure cs ts us busy = .leaf .ret [(0,.tup (.acons (.sl (C := RC) .int (bif (goT nHp false t).is then true else (goT nHp false t).gf) (bif (goT nHp false t).is then [] else (goT nHp false t).got)) (.acons (.bool (!(goT nHp false t).is)) (.acons (.bool true) .anil))))] (Kl c now sure cs ts us (bif (goT nHp false t).is then busy else busy.set c.toNat false)) := fun t ht => by
  unfold VN;rw [ht]
 generalize ts.getD c.toNat ⟨0,[],[],false⟩ = t at ht ⊢;generalize us.getD c.toNat ⟨0,[],[],false⟩ = u at hu ⊢;have hfin := hfin t ht;rw [ht,hu] at hE;obtain ⟨ta,tb,is,eg,eh⟩ := hE;have k1:cdec (0 <= t.client /\ t.client <= 3 /\ t.over = decide (t.stack = []) /\ (t.stack = [] -> True) /\ okGo false 64 t.stack t.got) = true := QD ⟨by rw [ta.ct];exact c0,by rw [ta.ct];exact c3,by rw [ta.ot];exact (decide_eq_false ta.ne).symm,fun _ => trivial,ta.a1⟩
 have k2:cdec (0 <= u.client /\ u.client <= 3 /\ u.over = decide (u.stack = []) /\ (u.stack = [] -> True) /\ okGo true 64 u.stack u.got) = true := QD ⟨by rw [tb.ct];exact c0,by rw [tb.ct];exact c3,by rw [tb.ot];exact (decide_eq_false tb.ne).symm,fun _ => trivial,tb.a1⟩
 have gA:goGo false 64 t.stack t.got false = goT nHp false t := rfl;have gB:goGo true 64 u.stack u.got false = goT nHp true u := rfl;have aeta:∀ a:Qf,Qf.mk a.kind a.a a.b a.v a.gen a.text a.args = a := fun _ => rfl;simp only [hc,k1,k2,gA,gB,aeta,cond_true];clear k1 k2 gA gB ta tb;generalize goT nHp false t = E at *;generalize goT nHp true u = F at *;cases hi:E.is with
 | true =>
  rw [hi] at is hfin;obtain ⟨g1,g2⟩ := eg hi;have l1:lenOK E.a.args.length = true := Qk (by omega)
  have q0:(!(true == true)) = false := rfl;rw [<- g1,<- is];simp only [q0,l1,decide_true,Bool.and_self,Bool.not_true,cond_true,cond_false];refine QeB (S := Qap) (s := ⟨c,now,sure,cs,ts,us,busy⟩) (Kl c now sure cs ts us busy) ?_ rfl;show (VN c now sure cs ts us busy).val = _;rw [hfin];rfl
 | false =>
  rw [hi] at is hfin;obtain ⟨g1,g2,g3,g4⟩ := eh hi;have l1:lenOK E.got.length = true := Qk (by omega)
  have l2:lenOK ([]:List Qe).length = true := rfl;have l3:(((([]:List Qe).length:Nat):Int) == 0) = true := rfl;have q0:(!(false == false)) = false := rfl;rw [<- is,g1,g2,<- g3];simp only [q0,l1,l2,l3,decide_true,Bool.and_self,Bool.not_false,cond_true,cond_false];refine QeB (S := Qap) (s := ⟨c,now,sure,cs,ts,us,busy⟩) (Kl c now sure cs ts us (busy.set c.toNat false)) ?_ rfl;show (VN c now sure cs ts us busy).val = _;rw [hfin];rfl
noncomputable def QnL (env:Env RC) (os:List (Obj RC)):Option (Bool × QnJ) := match env,os with
 | [(0,.ptr 0 []),(1,.int .i64 c)],[.var 44 (.acons (.acons (.sl .int false cs) (.acons (.acons (.sl .sector false now) (.acons (.sl .sector false sure) .anil)) .anil)) (.acons (.arr .task 4 ts) (.acons (.arr .task 4 us) (.acons (.arr .bool 4 busy) .anil))))] => Qz (true) (cdec (0 <= c /\ c <= 3 /\ ts.length = 4 /\ us.length = 4 /\ QbZ nHp okHp c (tkC ts c) (tkC us c)),⟨c,now,sure,cs,ts,us,busy⟩)
 | _,_ => none
noncomputable def ut_1 := Quv.addObj 88 (sumF s25 [.slot 0 0] 2 Qap QnL)
theorem QnM:Qh Tryz.prog s25 ut_1 := by
 refine QiD.addFun Qa Qap 80 2 [.slot 0 0] QnL (fun q hI => ?_) ?_
 · obtain ⟨c,now,sure,cs,ts,us,busy⟩ := q;refine ⟨?_,?_,rfl,Qux c now sure cs ts us busy hI⟩
   · simp [Ql,Qap,QnK,Kl,eargs,D.refs,Obj.refs]
   · simp [Qap,VN,Kl,RT.refsOK,Ql,D.refs,Obj.refs]
 · intro env os b q hd_ hb;unfold QnL at hd_
   split at hd_
   · obtain ⟨hs,hd_⟩ := Qi hd_;cases hd_
     try simp only [Bool.and_eq_true,decide_eq_true_eq] at hb
     exact ⟨QP.1 hb,rfl,rfl⟩
   · cases hd_
structure QgM where
 c:Int
 now:List Sector
 sure:List Sector
 cs:List Int
 ts:List Task
 us:List Task
 busy:List Bool
def QeN (c:Int) (now:List Sector) (sure:List Sector) (cs:List Int) (ts:List Task) (us:List Task) (busy:List Bool):List (D RC) := [.ptr 0 [],.int .i64 c]
def Jb (c:Int) (now:List Sector) (sure:List Sector) (cs:List Int) (ts:List Task) (us:List Task) (busy:List Bool):List (Obj RC) := [.var 44 (.acons (.acons (.sl (C := RC) .int false cs) (.acons (.acons (.sl (C := RC) .sector false now) (.acons (.sl (C := RC) .sector false sure) .anil)) .anil)) (.acons (.arr (C := RC) .task 4 ts) (.acons (.arr (C := RC) .task 4 us) (.acons (.arr (C := RC) .bool 4 busy) .anil))))]
noncomputable def QnN (c:Int) (now:List Sector) (sure:List Sector) (cs:List Int) (ts:List Task) (us:List Task) (busy:List Bool) := fnO s25 ut_1 35 80 1 (QeN c now sure cs ts us busy) (Jb c now sure cs ts us busy)
theorem Qq9 (c:Int) (now:List Sector) (sure:List Sector) (cs:List Int) (ts:List Task) (us:List Task) (busy:List Bool):QnN c now sure cs ts us busy = (let Z0:Bool := decide ((0:Int) <= c /\ c < (4:Int));let Z1:Nat := Int.toNat c;let Z2:Task := Task.mk (0:Int) [] [] false;let Z3:Task := List.getD ts Z1 Z2;let Z4:Int := Task.client Z3;let Z5:Task := List.getD us Z1 Z2;let Z6:Int := Task.client Z5;let Z7:GoM := goGo false (64:Nat) (Task.stack Z3) (Task.got Z3) false;let Z8:GoM := goGo true (64:Nat) (Task.stack Z5) (Task.got Z5) false;let Z9:D RC := D.sl RTy.int true [];let Z10:D RC := .anil;let Z11:D RC := D.acons (D.bool false) Z10;let Z12:D RC := D.acons (D.sl RTy.int false cs) (.acons (D.acons (D.sl RTy.sector false now) (.acons (D.sl RTy.sector false sure) Z10)) Z10);let Z13:D RC := D.arr RTy.task (4:Nat) ts;let Z14:D RC := D.arr RTy.task (4:Nat) us;let Z15:Option (D RC × List (Option (Obj RC))) := some (D.tup (D.acons Z9 (D.acons (D.bool false) Z11)),[some (Obj.var 44 (.acons Z12 (D.acons Z13 (D.acons Z14 (D.acons (D.arr RTy.bool (4:Nat) busy) Z10)))))]);let Z16:Qf := GoM.a Z7;let Z17:Qf := GoM.a Z8;let Z18:Qf := Qf.mk (Qf.kind Z16) (Qf.a Z16) (Qf.b Z16) (Qf.v Z16) (Qf.gen Z16) (Qf.text Z16) (Qf.args Z16);let Z19:Nat := List.length (GoM.st Z7);let Z20:Nat := List.length (GoM.st Z8);let Z21:Nat := List.length (GoM.got Z7);let Z22:Nat := List.length (GoM.got Z8);let Z23:List (Option (Obj RC)) := [some (Obj.var 44 (.acons Z12 (D.acons Z13 (D.acons Z14 (D.acons (D.arr RTy.bool (4:Nat) (List.set busy Z1 false)) Z10)))))];let Z24:Option (D RC × List (Option (Obj RC))) := some (D.tup (D.acons Z9 (D.acons (D.bool true) Z11)),Z23);let Z25:List Task := List.set ts Z1 (Task.mk Z4 (GoM.st Z7) [doG5 cs Z18] (decide (GoM.st Z7 = [])));let Z26:List Task := List.set us Z1 (Task.mk Z6 (GoM.st Z8) [doG5 cs Z18] (decide (GoM.st Z8 = [])));let Z27:GoM := goT nHp false (tkC Z25 c);let Z28:Bool := GoM.is Z27;let Z29:Option (D RC × List (Option (Obj RC))) := bif !GoM.is Z7 then bif Z0 then bif lenOK Z19 then bif (↑Z19:Int) == (0:Int) then bif lenOK Z20 then bif (↑Z20:Int) == (0:Int) then bif lenOK Z21 && lenOK Z22 then some (D.tup (D.acons Z9 (D.acons (D.bool true) (.acons (D.bool (decide (GoM.got Z7 = GoM.got Z8))) Z10))),Z23) else none else Z24 else none else Z24 else none else none else bif cdec (Qiy cs now sure Z18) && (cellsOK cs && (diskOK now sure && (goodL now && goodL sure))) then bif decide ((0:Int) <= Z4 /\ Z4 <= (3:Int) /\ Z21 <= (96:Nat) /\ (1:Nat) <= Z19 /\ Z19 <= (6:Nat)) && !decide (GoM.st Z7 = []) then bif Z0 then bif decide ((0:Int) <= Z6 /\ Z6 <= (3:Int) /\ Z22 <= (96:Nat) /\ (1:Nat) <= Z20 /\ Z20 <= (6:Nat)) && !decide (GoM.st Z8 = []) then bif Z0 then bif cdec ((0:Int) <= c /\ c <= (3:Int) /\ List.length Z25 = (4:Nat) /\ List.length Z26 = (4:Nat) /\ QbZ nHp okHp c (tkC Z25 c) (tkC Z26 c)) then some (D.tup (D.acons (D.sl RTy.int (bif Z28 then true else GoM.gf Z27) (bif Z28 then [] else GoM.got Z27)) (.acons (D.bool !Z28) (.acons (D.bool true) Z10))),[some (Obj.var 44 (.acons (D.acons (D.sl RTy.int false (doC5 cs Z18)) (.acons (D.acons (D.sl RTy.sector false (doN5 now Z18)) (.acons (D.sl RTy.sector false (doS5 now sure Z18)) Z10)) Z10)) (.acons (D.arr RTy.task (4:Nat) Z25) (.acons (D.arr RTy.task (4:Nat) Z26) (.acons (D.arr RTy.bool (4:Nat) (bif Z28 then busy else List.set busy Z1 false)) Z10)))))]) else none else none else none else none else none else none;bif Z0 then bif cdec ((0:Int) <= Z4 /\ Z4 <= (3:Int) /\ Task.over Z3 = decide (Task.stack Z3 = []) /\ (Task.stack Z3 = [] -> false = false) /\ okGo false (64:Nat) (Task.stack Z3) (Task.got Z3)) then bif Z0 then bif cdec ((0:Int) <= Z6 /\ Z6 <= (3:Int) /\ Task.over Z5 = decide (Task.stack Z5 = []) /\ (Task.stack Z5 = [] -> false = false) /\ okGo true (64:Nat) (Task.stack Z5) (Task.got Z5)) then bif !GoM.is Z7 == GoM.is Z8 then Z15 else bif GoM.is Z7 then bif lenOK (Qf.args Z16).length && lenOK (Qf.args Z17).length then bif !decide (Z18 = Qf.mk (Qf.kind Z17) (Qf.a Z17) (Qf.b Z17) (Qf.v Z17) (Qf.gen Z17) (Qf.text Z17) (Qf.args Z17)) then Z15 else Z29 else none else Z29 else none else none else none else none) := by kernel_rfl
noncomputable def Vx (c:Int) (now:List Sector) (sure:List Sector) (cs:List Int) (ts:List Task) (us:List Task) (busy:List Bool):RT RC := .leaf .ret [(0,.tup (.acons (.sl (C := RC) .int (bif (goT nHp false (gmT nHp false (gdX nHp cs (tkC ts c)) (tkC ts c))).is then true else (goT nHp false (gmT nHp false (gdX nHp cs (tkC ts c)) (tkC ts c))).gf) (bif (goT nHp false (gmT nHp false (gdX nHp cs (tkC ts c)) (tkC ts c))).is then [] else (goT nHp false (gmT nHp false (gdX nHp cs (tkC ts c)) (tkC ts c))).got)) (.acons (.bool (!(goT nHp false (gmT nHp false (gdX nHp cs (tkC ts c)) (tkC ts c))).is)) (.acons (.bool true) .anil))))] (Jb c (Qiz nHp now (tkC ts c)) (Qbo nHp now sure (tkC ts c)) (gdCs nHp cs (tkC ts c)) (ts.set c.toNat (gmT nHp false (gdX nHp cs (tkC ts c)) (tkC ts c))) (us.set c.toNat (gmT nHp true (gdX nHp cs (tkC ts c)) (tkC us c))) (bif (goT nHp false (gmT nHp false (gdX nHp cs (tkC ts c)) (tkC ts c))).is then busy else busy.set c.toNat false))
def Qaq (c:Int) (now:List Sector) (sure:List Sector) (cs:List Int) (ts:List Task) (us:List Task) (busy:List Bool):Prop := 0 <= c /\ c <= 3 /\ ts.length = 4 /\ us.length = 4 /\ Qal nHp okHp c cs (tkC ts c) (tkC us c) now sure
noncomputable def J8:FunR RC QgM where
 k := 1
 args q := QeN q.c q.now q.sure q.cs q.ts q.us q.busy
 objs q := Jb q.c q.now q.sure q.cs q.ts q.us q.busy
 fin q := Vx q.c q.now q.sure q.cs q.ts q.us q.busy
 Inv q := Qaq q.c q.now q.sure q.cs q.ts q.us q.busy
theorem Qra (c:Int) (now:List Sector) (sure:List Sector) (cs:List Int) (ts:List Task) (us:List Task) (busy:List Bool) (hI:Qaq c now sure cs ts us busy):Leaf (QnN c now sure cs ts us busy) (LedF J8 ⟨c,now,sure,cs,ts,us,busy⟩) := by
 (rw [Qq9];conv => zeta)
 unfold Qaq at hI;obtain ⟨c0,c3,lt,lu,hS⟩ := hI;have hc:decide ((0:Int) <= c /\ c < 4) = true := decide_eq_true ⟨c0,by omega⟩
 have hset:∀ T' d:Task,(ts.set c.toNat T').getD c.toNat d = T' := fun T' d => by
  rw [List.getD_eq_getElem?_getD,List.getElem?_set_self (by omega)];rfl
 have hset':∀ T' d:Task,(us.set c.toNat T').getD c.toNat d = T' := fun T' d => by
  rw [List.getD_eq_getElem?_getD,List.getElem?_set_self (by omega)];rfl
 have hk:∀ T':Task,tkC (ts.set c.toNat T') c = T' := fun T' => hset T' _;have hk':∀ T':Task,tkC (us.set c.toNat T') c = T' := fun T' => hset' T' _;have lts:∀ T':Task,(ts.set c.toNat T').length = 4 := fun T' => by rw [List.length_set];exact lt
 have lus:∀ T':Task,(us.set c.toNat T').length = 4 := fun T' => by rw [List.length_set];exact lu
 have ht:tkC ts c = ts.getD c.toNat ⟨0,[],[],false⟩ := rfl;have hu:tkC us c = us.getD c.toNat ⟨0,[],[],false⟩ := rfl
 have hfin:∀ t u,tkC ts c = t -> tkC us c = u -> Vx c now sure cs ts us busy = .leaf .ret [(0,.tup (.acons (.sl (C := RC) .int (bif (goT nHp false (gmT nHp false (gdX nHp cs t) t)).is then true else (goT nHp false (gmT nHp false (gdX nHp cs t) t)).gf) (bif (goT nHp false (gmT nHp false (gdX nHp cs t) t)).is then [] else (goT nHp false (gmT nHp false (gdX nHp cs t) t)).got)) (.acons (.bool (!(goT nHp false (gmT nHp false (gdX nHp cs t) t)).is)) (.acons (.bool true) .anil))))] (Jb c (Qiz nHp now t) (Qbo nHp now sure t) (gdCs nHp cs t) (ts.set c.toNat (gmT nHp false (gdX nHp cs t) t)) (us.set c.toNat (gmT nHp true (gdX nHp cs t) u)) (bif (goT nHp false (gmT nHp false (gdX nHp cs t) t)).is then busy else busy.set c.toNat false)) := fun t u ht hu => by
  unfold Vx;rw [ht,hu]
 simp only [hset,hset',hk,hk',lts,lus];generalize ts.getD c.toNat ⟨0,[],[],false⟩ = t at ht ⊢;generalize us.getD c.toNat ⟨0,[],[],false⟩ = u at hu ⊢;have hfin := hfin t u ht hu;rw [ht,hu] at hS;obtain ⟨⟨ta,tb,is,eg,eh⟩,isA,la,lb,hd,hcs,d1,d2,d3,e2⟩ := hS;have k1:cdec (0 <= t.client /\ t.client <= 3 /\ t.over = decide (t.stack = []) /\ (t.stack = [] -> True) /\ okGo false 64 t.stack t.got) = true := QD ⟨by rw [ta.ct];exact c0,by rw [ta.ct];exact c3,by rw [ta.ot];exact (decide_eq_false ta.ne).symm,fun _ => trivial,ta.a1⟩
 have k2:cdec (0 <= u.client /\ u.client <= 3 /\ u.over = decide (u.stack = []) /\ (u.stack = [] -> True) /\ okGo true 64 u.stack u.got) = true := QD ⟨by rw [tb.ct];exact c0,by rw [tb.ct];exact c3,by rw [tb.ot];exact (decide_eq_false tb.ne).symm,fun _ => trivial,tb.a1⟩
 have gA:goGo false 64 t.stack t.got false = goT nHp false t := rfl;have gB:goGo true 64 u.stack u.got false = goT nHp true u := rfl;have aeta:∀ a:Qf,Qf.mk a.kind a.a a.b a.v a.gen a.text a.args = a := fun _ => rfl;have isB:(goT nHp true u).is = true := is.symm.trans isA;obtain ⟨g1,g2⟩ := eg isA;have nA:(goT nHp false t).st ≠ [] := QdT isA;have nB:(goT nHp true u).st ≠ [] := QdT isB;have p1:1 <= (goT nHp false t).st.length := List.length_pos_iff.2 nA;have p2:1 <= (goT nHp true u).st.length := List.length_pos_iff.2 nB;have o1:cdec (Qiy cs now sure (goT nHp false t).a) = true := QD hd;have q1:decide (0 <= t.client /\ t.client <= 3 /\ (goT nHp false t).got.length <= 96 /\ 1 <= (goT nHp false t).st.length /\ (goT nHp false t).st.length <= 6) = true := decide_eq_true ⟨by rw [ta.ct];exact c0,by rw [ta.ct];exact c3,la.2,p1,la.1⟩
 have q2:decide (0 <= u.client /\ u.client <= 3 /\ (goT nHp true u).got.length <= 96 /\ 1 <= (goT nHp true u).st.length /\ (goT nHp true u).st.length <= 6) = true := decide_eq_true ⟨by rw [tb.ct];exact c0,by rw [tb.ct];exact c3,lb.2,p2,lb.1⟩
 have q3:decide ((goT nHp false t).st = []) = false := decide_eq_false nA;have q4:decide ((goT nHp true u).st = []) = false := decide_eq_false nB;have l1:lenOK (goT nHp false t).a.args.length = true := Qk (by omega)
 have q0:(!(true == true)) = false := rfl
 have e2':cdec (0 <= c /\ c <= 3 /\ True /\ True /\ QbZ nHp okHp c ⟨t.client,(goT nHp false t).st,[gdX nHp cs t],false⟩ ⟨u.client,(goT nHp true u).st,[gdX nHp cs t],false⟩) = true := QD ⟨c0,c3,trivial,trivial,by
  have e2 := e2;unfold gmT at e2;rw [q3,q4] at e2;exact e2⟩
 have hX:doG5 cs (goT nHp false t).a = gdX nHp cs t := rfl;simp only [hc,k1,k2,gA,gB,aeta,cond_true];simp only [<- g1,isA,isB,o1,q1,q2,q3,q4,l1,q0,hcs,d1,d2,d3,hX,decide_true,Bool.and_self,Bool.not_true,Bool.not_false,cond_true,cond_false];simp only [e2',cond_true];have m1:gmT nHp false (gdX nHp cs t) t = ⟨t.client,(goT nHp false t).st,[gdX nHp cs t],false⟩ := by unfold gmT;rw [q3]
 have m2:gmT nHp true (gdX nHp cs t) u = ⟨u.client,(goT nHp true u).st,[gdX nHp cs t],false⟩ := by unfold gmT;rw [q4]
 rw [m1,m2] at hfin;refine QeB (S := J8) (s := ⟨c,now,sure,cs,ts,us,busy⟩) (Jb c (Qiz nHp now t) (Qbo nHp now sure t) (gdCs nHp cs t) (ts.set c.toNat ⟨t.client,(goT nHp false t).st,[gdX nHp cs t],false⟩) (us.set c.toNat ⟨u.client,(goT nHp true u).st,[gdX nHp cs t],false⟩) (bif (goT nHp false ⟨t.client,(goT nHp false t).st,[gdX nHp cs t],false⟩).is then busy else busy.set c.toNat false)) ?_ rfl;show (Vx c now sure cs ts us busy).val = _;rw [hfin];rfl
noncomputable def QeO (env:Env RC) (os:List (Obj RC)):Option (Bool × QgM) := match env,os with
 | [(0,.ptr 0 []),(1,.int .i64 c)],[.var 44 (.acons (.acons (.sl .int false cs) (.acons (.acons (.sl .sector false now) (.acons (.sl .sector false sure) .anil)) .anil)) (.acons (.arr .task 4 ts) (.acons (.arr .task 4 us) (.acons (.arr .bool 4 busy) .anil))))] => Qz (true) (cdec (0 <= c /\ c <= 3 /\ ts.length = 4 /\ us.length = 4 /\ Qal nHp okHp c cs (tkC ts c) (tkC us c) now sure),⟨c,now,sure,cs,ts,us,busy⟩)
 | _,_ => none
noncomputable def ut_2 := ut_1.addObj 35 (sumF s25 [.slot 0 0] 2 J8 QeO)
theorem QnO:Qh Tryz.prog s25 ut_2 := by
 refine QnM.addFun Qa J8 80 2 [.slot 0 0] QeO (fun q hI => ?_) ?_
 · obtain ⟨c,now,sure,cs,ts,us,busy⟩ := q;refine ⟨?_,?_,rfl,Qra c now sure cs ts us busy hI⟩
   · simp [Ql,J8,QeN,Jb,eargs,D.refs,Obj.refs]
   · simp [J8,Vx,Jb,RT.refsOK,Ql,D.refs,Obj.refs]
 · intro env os b q hd_ hb;unfold QeO at hd_
   split at hd_
   · obtain ⟨hs,hd_⟩ := Qi hd_;cases hd_
     try simp only [Bool.and_eq_true,decide_eq_true_eq] at hb
     exact ⟨QP.1 hb,rfl,rfl⟩
   · cases hd_
def TyS (n a v:Int):Prop := 0 <= v /\ (a <= 47 -> v <= n) /\ (48 <= a -> a <= 50 -> v <= 1048575) /\ (51 <= a -> v <= bigW)
def AtS (n:Int) (A:Qf):Prop := A.gen = 0 /\ A.text = [] /\ A.args = [] /\ 45 <= A.a /\ A.a <= 98 /\ (A.kind = 0 /\ A.b = 0 /\ A.v = 0 \/ A.kind = 2 /\ 0 <= A.b /\ A.b <= bigW /\ TyS (n + 1) A.a A.v)
def RsS (n:Int) (A:Qf) (x:Int):Prop := A.kind = 0 /\ TyS n A.a x \/ A.kind = 2 /\ (x = 0 \/ x = 1)
theorem TyS.big {n a v:Int} (h:TyS n a v) (h1:45 <= a) (h2:n <= 1000000):0 <= v /\ v <= bigW := by
 obtain ⟨a1,a2,a3,a4⟩ := h;unfold bigW at *;refine ⟨a1,?_⟩
 by_cases q:a <= 47
 · have := a2 q;omega
 · by_cases q2:a <= 50
   · have := a3 (by omega) q2;omega
   · exact a4 (by omega)
theorem RsS.big {n:Int} {A:Qf} {x:Int} (h:RsS n A x) (h1:45 <= A.a) (h2:n <= 1000000):0 <= x /\ x <= bigW := by
 rcases h with ⟨_,h⟩ | ⟨_,h⟩
 · exact h.big h1 h2
 · unfold bigW;omega
def bnd (r:List Int):Prop := r.length = 96 /\ ∀ v ∈ r,v < 9223372036854775808
theorem bnd.set {r:List Int} (h:bnd r) (i:Nat) {x:Int} (hx:x <= bigW):bnd (r.set i x) := by
 refine ⟨by rw [List.length_set];exact h.1,fun v hv => ?_⟩
 rcases List.mem_or_eq_of_mem_set hv with hv | rfl
 · exact h.2 v hv
 · unfold bigW at hx;omega
def K76 (n k:Int) (r got:List Int):Prop := k = 0 /\ got = [] \/ ∃ x,got = [x] /\ 1 <= k /\ k <= 8 /\ 0 <= x /\ x <= bigW /\ (k = 1 -> x <= n) /\ (k = 5 -> x <= 1048575) /\ (2 <= k -> 0 <= r.getD 4 0 /\ r.getD 4 0 <= n) /\ (3 <= k -> 0 <= r.getD 5 0 /\ r.getD 5 0 <= bigW)
def R76 (n k:Int) (r got:List Int):Prop := bnd r /\ (0 <= r.getD 2 0 /\ r.getD 2 0 <= 23) /\ K76 n k r got
theorem R76.mk {n k x:Int} {r:List Int} (hb:bnd r) (hq:0 <= r.getD 2 0 /\ r.getD 2 0 <= 23) (k1:1 <= k) (k8:k <= 8) (hx:0 <= x /\ x <= bigW) (c1:k = 1 -> x <= n) (c5:k = 5 -> x <= 1048575)
 (c2:2 <= k -> 0 <= r.getD 4 0 /\ r.getD 4 0 <= n) (c3:3 <= k -> 0 <= r.getD 5 0 /\ r.getD 5 0 <= bigW):R76 n k r [x] := ⟨hb,hq,.inr ⟨x,rfl,k1,k8,hx.1,hx.2,c1,c5,c2,c3⟩⟩
theorem R76.ok {n k:Int} {r got:List Int} (h:R76 n k r got) (hn:n <= 1000000) (own:Bool):Qwy own ⟨76,k,r⟩ got := by
 obtain ⟨⟨h1,h2⟩,h3,h4⟩ := h;refine ⟨h1,h2,.inl ⟨rfl,h3.1,h3.2,?_⟩⟩;rcases h4 with h | ⟨x,e,a1,a2,a3,a4,a5,a6,a7,a8⟩
 · exact .inl h
 · exact .inr ⟨x,e,a1,a2,a3,a4,fun q => by have := a5 q;omega,fun q => by have q:2 <= k := q;have := a7 q;exact ⟨this.1,by show r.getD 4 0 <= 1000000;omega⟩,a8⟩
theorem R76.mono {n n' k:Int} {r got:List Int} (h:R76 n k r got) (hn:n <= n'):R76 n' k r got := by
 obtain ⟨h1,h3,h4⟩ := h;refine ⟨h1,h3,?_⟩;rcases h4 with h | ⟨x,e,a1,a2,a3,a4,a5,a6,a7,a8⟩
 · exact .inl h
 · exact .inr ⟨x,e,a1,a2,a3,a4,fun q => by have := a5 q;omega,a6,fun q => by have := a7 q;omega,a8⟩
theorem J9 {f q m:Int} (h0:0 <= q) (h1:q < m):lRow f q m = f + q := by rw [lRow,if_pos ⟨h0,h1⟩]
theorem VO {q o:Int} (h0:0 <= q) (h1:q <= 2) (h2:0 <= o):51 <= lStream q o /\ lStream q o <= 98 := by
 rw [lStream,if_pos ⟨h0,h1,h2⟩];have := Int.emod_nonneg o (show (16:Int) ≠ 0 by decide)
 have := Int.emod_lt_of_pos o (show (0:Int) < 16 by decide)
 omega
theorem QeP (w:Int):0 <= (readO w).place /\ (readO w).place <= 1048575 := by
 unfold readO;cases h:Q9 w with
 | none => exact ⟨Int.le_refl _,by decide⟩
 | some l =>
  have := (QhR h).1;unfold ZJ at this;rw [decide_eq_true_eq] at this;simp only [Option.getD_some];omega
def GoS (n:Int) (R:Int -> List Int -> List Int -> Prop) (p:Int) (N:NA):Prop :=
 (N.a.kind = 7 /\ N = naEn p N.f.at' N.f.r N.a.args N.fl) \/ (AtS n N.a /\ N.fl = true /\ N.f.prog = p /\ ∀ x,RsS n N.a x -> R N.f.at' N.f.r [x])
theorem app_step {n k:Int} {r got:List Int} (h:R76 n k r got) (hn0:0 <= n) (hn:n <= 1000000):GoS n (R76 n) 76 (nApp k r (got.headD 0)) /\ ((nApp k r (got.headD 0)).a.kind = 7 -> (nApp k r (got.headD 0)).a.args = []) := by
 obtain ⟨hb,hq,hK⟩ := h;have hs0:0 <= sQ r := by unfold sQ;omega
 have hs2:sQ r <= 2 := by unfold sQ;omega
 have cntA:lRow 45 (sQ r) 3 = 45 + sQ r := J9 hs0 (by omega)
 have cutA:lRow 48 (sQ r) 3 = 48 + sQ r := J9 hs0 (by omega)
 -- the actions
 have cnt:GoS n (R76 n) 76 (aCnt r) := by
  refine .inr ⟨⟨rfl,rfl,rfl,?_,?_,.inl ⟨rfl,rfl,rfl⟩⟩,rfl,rfl,fun x hx => ?_⟩
  · show 45 <= lRow 45 (sQ r) 3;omega
  · show lRow 45 (sQ r) 3 <= 98;omega
  · have hx1 := hx.big (by show 45 <= lRow 45 (sQ r) 3;omega) hn
    refine (R76.mk hb hq (by decide) (by decide) hx1 (fun _ => ?_) (fun q => by cases q) (fun q => absurd q (by decide)) (fun q => absurd q (by decide)):R76 n 1 r [x])
    rcases hx with ⟨_,hx⟩ | ⟨q,_⟩
    · exact hx.2.1 (by show lRow 45 (sQ r) 3 <= 47;omega)
    · cases q
 have put:∀ (h4:0 <= r.getD 4 0 /\ r.getD 4 0 <= n) (h5:0 <= r.getD 5 0 /\ r.getD 5 0 <= bigW),GoS n (R76 n) 76 (aPut r) := fun h4 h5 => by
  have hl := VO hs0 hs2 h4.1;have hw := Qaj ⟨r.getD 4 0,r.getD 0 0,r.getD 1 0,r.getD 2 0 % 8,r.getD 3 0⟩;refine .inr ⟨⟨rfl,rfl,rfl,?_,?_,.inr ⟨rfl,h5.1,h5.2,hw.1,fun q => ?_,fun _ q => ?_,fun _ => hw.2⟩⟩,rfl,rfl,fun x hx => ?_⟩
  · show 45 <= lStream (sQ r) (r.getD 4 0);omega
  · show lStream (sQ r) (r.getD 4 0) <= 98;omega
  · have q:lStream (sQ r) (r.getD 4 0) <= 47 := q;omega
  · have q:lStream (sQ r) (r.getD 4 0) <= 50 := q;omega
  · have hx1 := hx.big (by show 45 <= lStream (sQ r) (r.getD 4 0);omega) hn
    exact (R76.mk hb hq (by decide) (by decide) hx1 (fun q => by cases q) (fun q => by cases q) (fun _ => h4) (fun _ => h5):R76 n 6 r [x])
 have cut:∀ (h4:0 <= r.getD 4 0 /\ r.getD 4 0 <= n) (h5:0 <= r.getD 5 0 /\ r.getD 5 0 <= bigW),GoS n (R76 n) 76 (aCut r) := fun h4 h5 => by
  refine .inr ⟨⟨rfl,rfl,rfl,?_,?_,.inl ⟨rfl,rfl,rfl⟩⟩,rfl,rfl,fun x hx => ?_⟩
  · show 45 <= lRow 48 (sQ r) 3;omega
  · show lRow 48 (sQ r) 3 <= 98;omega
  · have hx1 := hx.big (by show 45 <= lRow 48 (sQ r) 3;omega) hn
    refine (R76.mk hb hq (by decide) (by decide) hx1 (fun q => by cases q) (fun _ => ?_) (fun _ => h4) (fun _ => h5):R76 n 5 r [x])
    rcases hx with ⟨_,hx⟩ | ⟨q,_⟩
    · exact hx.2.2.1 (by show 48 <= lRow 48 (sQ r) 3;omega) (by show lRow 48 (sQ r) 3 <= 50;omega)
    · cases q
 have on:∀ (m:Int) (hm:m = 3 \/ m = 7) (h4:0 <= r.getD 4 0 /\ r.getD 4 0 <= n) (h5:0 <= r.getD 5 0 /\ r.getD 5 0 <= bigW),GoS n (R76 n) 76 (aOn m r) := fun m hm h4 h5 => by
  refine .inr ⟨⟨rfl,rfl,rfl,?_,?_,.inr ⟨rfl,h4.1,by show r.getD 4 0 <= bigW;unfold bigW;omega,?_,fun _ => ?_,fun q => ?_,fun q => ?_⟩⟩,rfl,rfl,fun x hx => ?_⟩
  · show 45 <= lRow 45 (sQ r) 3;omega
  · show lRow 45 (sQ r) 3 <= 98;omega
  · show 0 <= r.getD 4 0 + 1;omega
  · show r.getD 4 0 + 1 <= n + 1;omega
  · have q:48 <= lRow 45 (sQ r) 3 := q;omega
  · have q:51 <= lRow 45 (sQ r) 3 := q;omega
  · have hx1 := hx.big (by show 45 <= lRow 45 (sQ r) 3;omega) hn
    exact (R76.mk hb hq (by show 1 <= m;omega) (by show m <= 8;omega) hx1 (fun q => by have q:m = 1 := q;omega) (fun q => by have q:m = 5 := q;omega) (fun _ => h4) (fun _ => h5):R76 n m r [x])
 have en:∀ k',GoS n (R76 n) 76 (naEn 76 k' r [] true) := fun k' => .inl ⟨rfl,rfl⟩;have kk:∀ N:NA,N.a.kind ≠ 7 -> (N.a.kind = 7 -> N.a.args = []) := fun N h1 h2 => absurd h2 h1;rcases hK with ⟨rfl,rfl⟩ | ⟨x,rfl,k1,k8,x0,x1,y1,y5,y2,y3⟩
 · exact ⟨cnt,fun q => by cases q⟩
 simp only [List.headD_cons];have ks:k = 1 \/ k = 2 \/ k = 3 \/ k = 4 \/ k = 5 \/ k = 6 \/ k = 7 \/ k = 8 := by omega
 rcases ks with rfl | rfl | rfl | rfl | rfl | rfl | rfl | rfl
 · have e:nApp 1 r x = naLd 76 2 (r.set 4 x) (lStream (sQ r) x) 0 := rfl;have hl := VO hs0 hs2 x0;rw [e];refine ⟨.inr ⟨⟨rfl,rfl,rfl,?_,?_,.inl ⟨rfl,rfl,rfl⟩⟩,rfl,rfl,fun y hy => ?_⟩,fun q => by cases q⟩
   · show 45 <= lStream (sQ r) x;omega
   · show lStream (sQ r) x <= 98;omega
   · have hy1 := hy.big (by show 45 <= lStream (sQ r) x;omega) hn
     refine (R76.mk (hb.set 4 x1) ?_ (by decide) (by decide) hy1 (fun q => by cases q) (fun q => by cases q) (fun _ => ?_) (fun q => absurd q (by decide)):R76 n 2 (r.set 4 x) [y])
     · show 0 <= (r.set 4 x).getD 2 0 /\ (r.set 4 x).getD 2 0 <= 23;rw [getD_set_ne' (by decide)];exact hq
     · show 0 <= (r.set 4 x).getD 4 0 /\ (r.set 4 x).getD 4 0 <= n;rw [Qd (by rw [hb.1];decide)];exact ⟨x0,y1 rfl⟩
 · have h4 := y2 (by decide)
   have e:nApp 2 r x = if (Q9 x).isSome = true /\ (readO x).offset = r.getD 4 0 then aOn 3 (r.set 5 x) else if r.getD 4 0 = 0 then aPut (r.set 5 x) else naLd 76 4 (r.set 5 x) (lStream (sQ r) (r.getD 4 0 - 1)) 0 := rfl
   have g2:(r.set 5 x).getD 2 0 = r.getD 2 0 := getD_set_ne' (by decide)
   have g4:(r.set 5 x).getD 4 0 = r.getD 4 0 := getD_set_ne' (by decide)
   have g5:(r.set 5 x).getD 5 0 = x := Qd (by rw [hb.1];decide)
   have gs:sQ (r.set 5 x) = sQ r := by unfold sQ;rw [g2]
   have hb5 := hb.set 5 x1;rw [e]
   split
   · -- COUNT is raised
     refine ⟨.inr ⟨⟨rfl,rfl,rfl,?_,?_,.inr ⟨rfl,?_,?_,?_,fun _ => ?_,fun q => ?_,fun q => ?_⟩⟩,rfl,rfl,fun y hy => ?_⟩,fun q => by cases q⟩
     · show 45 <= lRow 45 (sQ (r.set 5 x)) 3;rw [gs];omega
     · show lRow 45 (sQ (r.set 5 x)) 3 <= 98;rw [gs];omega
     · show 0 <= (r.set 5 x).getD 4 0;rw [g4];exact h4.1
     · show (r.set 5 x).getD 4 0 <= bigW;rw [g4];unfold bigW;omega
     · show 0 <= (r.set 5 x).getD 4 0 + 1;rw [g4];omega
     · show (r.set 5 x).getD 4 0 + 1 <= n + 1;rw [g4];omega
     · have q:48 <= lRow 45 (sQ (r.set 5 x)) 3 := q;rw [gs] at q;omega
     · have q:51 <= lRow 45 (sQ (r.set 5 x)) 3 := q;rw [gs] at q;omega
     · have hy1 := hy.big (by show 45 <= lRow 45 (sQ (r.set 5 x)) 3;rw [gs];omega) hn
       refine (R76.mk hb5 ?_ (by decide) (by decide) hy1 (fun q => by cases q) (fun q => by cases q) (fun _ => ?_) (fun _ => ?_):R76 n 3 (r.set 5 x) [y])
       · show 0 <= (r.set 5 x).getD 2 0 /\ (r.set 5 x).getD 2 0 <= 23;rw [g2];exact hq
       · show 0 <= (r.set 5 x).getD 4 0 /\ (r.set 5 x).getD 4 0 <= n;rw [g4];exact h4
       · show 0 <= (r.set 5 x).getD 5 0 /\ (r.set 5 x).getD 5 0 <= bigW;rw [g5];exact ⟨x0,x1⟩
   · split
     · -- put
       have hl := VO hs0 hs2 h4.1;have hw := Qaj ⟨(r.set 5 x).getD 4 0,(r.set 5 x).getD 0 0,(r.set 5 x).getD 1 0,(r.set 5 x).getD 2 0 % 8,(r.set 5 x).getD 3 0⟩;refine ⟨.inr ⟨⟨rfl,rfl,rfl,?_,?_,.inr ⟨rfl,?_,?_,hw.1,fun q => ?_,fun _ q => ?_,fun _ => hw.2⟩⟩,rfl,rfl,fun y hy => ?_⟩,fun q => by cases q⟩
       · show 45 <= lStream (sQ (r.set 5 x)) ((r.set 5 x).getD 4 0);rw [gs,g4];omega
       · show lStream (sQ (r.set 5 x)) ((r.set 5 x).getD 4 0) <= 98;rw [gs,g4];omega
       · show 0 <= (r.set 5 x).getD 5 0;rw [g5];exact x0
       · show (r.set 5 x).getD 5 0 <= bigW;rw [g5];exact x1
       · have q:lStream (sQ (r.set 5 x)) ((r.set 5 x).getD 4 0) <= 47 := q;rw [gs,g4] at q;omega
       · have q:lStream (sQ (r.set 5 x)) ((r.set 5 x).getD 4 0) <= 50 := q;rw [gs,g4] at q;omega
       · have hy1 := hy.big (by show 45 <= lStream (sQ (r.set 5 x)) ((r.set 5 x).getD 4 0);rw [gs,g4];omega) hn
         refine (R76.mk hb5 ?_ (by decide) (by decide) hy1 (fun q => by cases q) (fun q => by cases q) (fun _ => ?_) (fun _ => ?_):R76 n 6 (r.set 5 x) [y])
         · show 0 <= (r.set 5 x).getD 2 0 /\ (r.set 5 x).getD 2 0 <= 23;rw [g2];exact hq
         · show 0 <= (r.set 5 x).getD 4 0 /\ (r.set 5 x).getD 4 0 <= n;rw [g4];exact h4
         · show 0 <= (r.set 5 x).getD 5 0 /\ (r.set 5 x).getD 5 0 <= bigW;rw [g5];exact ⟨x0,x1⟩
     · rename_i hz;have hl := VO hs0 hs2 (show 0 <= r.getD 4 0 - 1 by omega)
       refine ⟨.inr ⟨⟨rfl,rfl,rfl,?_,?_,.inl ⟨rfl,rfl,rfl⟩⟩,rfl,rfl,fun y hy => ?_⟩,fun q => by cases q⟩
       · show 45 <= lStream (sQ r) (r.getD 4 0 - 1);omega
       · show lStream (sQ r) (r.getD 4 0 - 1) <= 98;omega
       · have hy1 := hy.big (by show 45 <= lStream (sQ r) (r.getD 4 0 - 1);omega) hn
         refine (R76.mk hb5 ?_ (by decide) (by decide) hy1 (fun q => by cases q) (fun q => by cases q) (fun _ => ?_) (fun _ => ?_):R76 n 4 (r.set 5 x) [y])
         · show 0 <= (r.set 5 x).getD 2 0 /\ (r.set 5 x).getD 2 0 <= 23;rw [g2];exact hq
         · show 0 <= (r.set 5 x).getD 4 0 /\ (r.set 5 x).getD 4 0 <= n;rw [g4];exact h4
         · show 0 <= (r.set 5 x).getD 5 0 /\ (r.set 5 x).getD 5 0 <= bigW;rw [g5];exact ⟨x0,x1⟩
 · exact ⟨cnt,fun q => by cases q⟩
 · have h4 := y2 (by decide)
   have h5 := y3 (by decide)
   have e:nApp 4 r x = if r.getD 0 0 < (readO x).place \/ (readO x).place = r.getD 0 0 /\ r.getD 1 0 <= (readO x).j then naEn 76 4 r [] true
    else if (Q9 x).isSome = false \/ (readO x).offset ≠ r.getD 4 0 - 1 then aCnt r else if r.getD 5 0 = 0 then aPut r else aCut r := rfl
   rw [e]
   split
   · exact ⟨en 4,fun _ => rfl⟩
   · split
     · exact ⟨cnt,fun q => by cases q⟩
     · split
       · exact ⟨put h4 h5,fun q => by cases q⟩
       · exact ⟨cut h4 h5,fun q => by cases q⟩
 · have h4 := y2 (by decide)
   have h5 := y3 (by decide)
   have e:nApp 5 r x = if x < (readO (r.getD 5 0)).place then naCs 76 8 r (lRow 48 (sQ r) 3) x (readO (r.getD 5 0)).place 0 else aPut r := rfl
   rw [e]
   split
   · have hp := QeP (r.getD 5 0);refine ⟨.inr ⟨⟨rfl,rfl,rfl,?_,?_,.inr ⟨rfl,x0,x1,hp.1,fun q => ?_,fun _ _ => hp.2,fun q => ?_⟩⟩,rfl,rfl,fun y hy => ?_⟩,fun q => by cases q⟩
     · show 45 <= lRow 48 (sQ r) 3;omega
     · show lRow 48 (sQ r) 3 <= 98;omega
     · have q:lRow 48 (sQ r) 3 <= 47 := q;omega
     · have q:51 <= lRow 48 (sQ r) 3 := q;omega
     · have hy1 := hy.big (by show 45 <= lRow 48 (sQ r) 3;omega) hn
       exact (R76.mk hb hq (by decide) (by decide) hy1 (fun q => by cases q) (fun q => by cases q) (fun _ => h4) (fun _ => h5):R76 n 8 r [y])
   · exact ⟨put h4 h5,fun q => by cases q⟩
 · have h4 := y2 (by decide)
   have h5 := y3 (by decide)
   have e:nApp 6 r x = if x = 0 then aCnt r else aOn 7 r := rfl
   rw [e]
   split
   · exact ⟨cnt,fun q => by cases q⟩
   · exact ⟨on 7 (.inr rfl) h4 h5,fun q => by cases q⟩
 · exact ⟨en 7,fun _ => rfl⟩
 · have h4 := y2 (by decide)
   have h5 := y3 (by decide)
   exact ⟨cut h4 h5,fun q => by cases q⟩
def wrH:Qc := ⟨0,0⟩
structure HD where
 start:Int
 ws:List Qc
 base:Int
def hd0:HD := ⟨0,[],0⟩
def HD.w (d:HD) (j:Nat):Int := (d.ws.getD j wrH).key * 256 + (d.ws.getD j wrH).value
def HD.nd (d:HD) (j:Nat):Int := 256 + d.base + j
structure OkD (d:HD):Prop where
 st:0 <= d.start /\ d.start <= 1048575
 ws:Qx d.ws = true
 nb:0 <= d.base /\ d.base + d.ws.length <= 60
def OkDs (ds:List HD):Prop := ds.length <= 16 /\ ∀ s,s < ds.length -> OkD (ds.getD s hd0)
def hD (ds:List HD) (h:Int):HD := ds.getD (h - 256).toNat hd0
def OkH (ds:List HD) (h:Int):Prop := 256 <= h /\ h < 256 + ds.length
theorem QeQ {l:List Qc} (h:Qx l = true) {i:Nat} (hi:i < l.length):(0 <= (l.getD i wrH).key /\ (l.getD i wrH).key <= 23) /\ 0 <= (l.getD i wrH).value /\ (l.getD i wrH).value <= 255 := by
 unfold Qx at h;rw [Bool.and_eq_true] at h;have := List.all_eq_true.1 (Qa1 h.2) _ (List.getElem_mem hi);have e:l.getD i wrH = l[i] := by simp [hi]
 rw [e];unfold ZL at this;simp only [Bool.and_eq_true,QB] at this;exact this
theorem OkD.len {d:HD} (h:OkD d):d.ws.length <= 4 := by
 have := h.ws;unfold Qx at this;rw [Bool.and_eq_true,decide_eq_true_eq] at this;exact this.1
theorem OkD.wr {d:HD} (h:OkD d) {j:Nat} (hj:j < d.ws.length):0 <= d.w j /\ d.w j <= 6143 /\ d.w j / 256 = (d.ws.getD j wrH).key /\ d.w j % 256 = (d.ws.getD j wrH).value := by
 have := QeQ h.ws hj;unfold HD.w;omega
theorem OkDs.at {ds:List HD} (h:OkDs ds) {x:Int} (hx:OkH ds x):OkD (hD ds x) := h.2 _ (by unfold OkH at hx;omega)
def TyD (d:HD) (f v:Int):Prop := (f = 2 -> v = d.start) /\ (f = 3 -> v = d.ws.length) /\ (4 <= f -> f < 4 + d.ws.length -> v = d.w (f - 4).toNat) /\ (8 <= f -> f < 8 + d.ws.length -> v = d.nd (f - 8).toNat)
structure TyH (ds:List HD) (n a v:Int):Prop where
 t0:a = 0 -> 0 <= v /\ v <= 1048575
 t1:a = 1 -> 1 <= v /\ v <= 1048576
 t2:2 <= a -> a <= 12 -> 0 <= v /\ v <= bigW
 t3:13 <= a -> a <= 20 -> (0 <= v /\ v <= bigW) /\ (v = 0 \/ OkH ds (bare v))
 t4:21 <= a -> a <= 44 -> 0 <= v /\ v <= bigW
 t5:45 <= a -> a <= 98 -> TyS n a v
 t6:∀ s f:Int,0 <= s -> s < ds.length -> 0 <= f -> f < 12 -> a = 99 + s * 12 + f -> TyD (ds.getD s.toNat hd0) f v
 t7:∀ s:Int,0 <= s -> s < 16 -> a = 99 + s * 12 + 1 -> 0 <= v /\ v <= 2
def AtH (ds:List HD) (n:Int) (A:Qf):Prop := A.args = [] /\ 0 <= A.gen /\ A.gen <= bigW /\
 ((A.kind = 0 /\ A.text = [] /\ A.b = 0 /\ A.v = 0 /\ 0 <= A.a /\ A.a <= 770) \/
  (A.kind = 2 /\ A.text = [] /\ 0 <= A.a /\ A.a <= 770 /\ -1 <= A.b /\ A.b <= bigW /\ 0 <= A.v /\ A.v <= bigW /\ TyH ds (n + 1) A.a A.v) \/
  (A.kind = 4 /\ A.gen = 0 /\ A.v = 0 /\ 0 <= A.a /\ A.a < 33 /\ 1 <= A.b /\ A.b <= 1048575 /\ A.text ≠ [] /\ A.text.length <= 640) \/
  (A.kind = 5 /\ A.gen = 0 /\ A.text = [] /\ A.a = 0 /\ A.b = 0 /\ A.v = 0))
def RsH (ds:List HD) (n:Int) (A:Qf) (x:Int):Prop := A.kind = 0 /\ TyH ds n A.a x \/ A.kind = 2 /\ (x = 0 \/ x = 1) \/ (A.kind = 4 \/ A.kind = 5) /\ x = 0
theorem TyH.low {ds:List HD} {n a v:Int} (h:a <= 98 \/ 291 <= a) (hs:ds.length <= 16) (h0:a = 0 -> 0 <= v /\ v <= 1048575) (h1:a = 1 -> 1 <= v /\ v <= 1048576) (h2:2 <= a -> a <= 12 -> 0 <= v /\ v <= bigW)
 (h3:13 <= a -> a <= 20 -> (0 <= v /\ v <= bigW) /\ (v = 0 \/ OkH ds (bare v))) (h4:21 <= a -> a <= 44 -> 0 <= v /\ v <= bigW) (h5:45 <= a -> a <= 98 -> TyS n a v):TyH ds n a v :=
 ⟨h0,h1,h2,h3,h4,h5,fun s f s0 s1 f0 f1 e => by omega,fun s s0 s1 e => by omega⟩
theorem Qrb {ds:List HD} {n v:Int} (hs:ds.length <= 16) (h:0 <= v /\ v <= 1048575):TyH ds n 0 v := TyH.low (.inl (by decide)) hs (fun _ => h) (fun q => absurd q (by decide)) (fun q => absurd q (by decide)) (fun q => absurd q (by decide)) (fun q => absurd q (by decide)) (fun q => absurd q (by decide))
theorem QnP {ds:List HD} {n v:Int} (hs:ds.length <= 16) (h:1 <= v /\ v <= 1048576):TyH ds n 1 v := TyH.low (.inl (by decide)) hs (fun q => absurd q (by decide)) (fun _ => h) (fun q => absurd q (by decide)) (fun q => absurd q (by decide)) (fun q => absurd q (by decide)) (fun q => absurd q (by decide))
theorem Quy {ds:List HD} {n a v:Int} (hs:ds.length <= 16) (ha:13 <= a /\ a <= 20) (h:(0 <= v /\ v <= bigW) /\ (v = 0 \/ OkH ds (bare v))):TyH ds n a v :=
 TyH.low (.inl (by omega)) hs (fun q => by omega) (fun q => by omega) (fun _ q => by omega) (fun _ _ => h) (fun q => by omega) (fun q => by omega)
theorem Quz {ds:List HD} {n a v:Int} (hs:ds.length <= 16) (ha:21 <= a /\ a <= 44) (h:0 <= v /\ v <= bigW):TyH ds n a v :=
 TyH.low (.inl (by omega)) hs (fun q => by omega) (fun q => by omega) (fun _ q => by omega) (fun _ q => by omega) (fun _ _ => h) (fun q => by omega)
theorem QuA {ds:List HD} {n a v:Int} (hs:ds.length <= 16) (ha:45 <= a /\ a <= 98) (h:TyS n a v):TyH ds n a v :=
 TyH.low (.inl (by omega)) hs (fun q => by omega) (fun q => by omega) (fun _ q => by omega) (fun _ q => by omega) (fun _ q => by omega) (fun _ _ => h)
theorem QeR {ds:List HD} {n a v:Int} (hs:ds.length <= 16) (ha:291 <= a):TyH ds n a v :=
 TyH.low (.inr ha) hs (fun q => by omega) (fun q => by omega) (fun _ q => by omega) (fun _ q => by omega) (fun _ q => by omega) (fun _ q => by omega)
theorem QvV {ds:List HD} {n s v:Int} (hs:ds.length <= 16) (s0:0 <= s) (s1:s < 16) (h:0 <= v /\ v <= 2):TyH ds n (99 + s * 12 + 1) v :=
 ⟨fun q => by omega,fun q => by omega,fun _ q => by omega,fun _ q => by omega,fun _ q => by omega,fun _ q => by omega,fun s' f s0' s1' f0 f1 e => by
  have:f = 1 := by omega
  subst this;exact ⟨fun q => by omega,fun q => by omega,fun q => by omega,fun q => by omega⟩,fun _ _ _ _ => h⟩
theorem ZT {ds:List HD} (hs:ds.length <= 16) {h f:Int} (hh:OkH ds h) (f0:0 <= f) (f1:f < 12):hDesc h f = 99 + (h - 256) * 12 + f := by
 unfold OkH at hh;have e:inWord h = h := Zm (by omega)
 unfold hDesc lField;rw [e,show h % 256 = h - 256 by omega,if_pos (by omega)]
theorem QgN {v:Int} (h0:0 <= v) (h1:v < 60):sCell (256 + v) 1 = 291 + v * 3 + 1 := by
 unfold sCell lField;rw [if_neg (by omega),show (256 + v) % 256 = v by omega,if_pos (by omega)]
theorem QiE {p h:Int} (hp:0 <= p /\ p <= 1048575) (hh:256 <= h /\ h <= 262143):bare (wordN p h) = h /\ 0 <= wordN p h /\ wordN p h <= bigW := by
 have hw:OkWord p h := ⟨hp.1,hp.2,.inl hh⟩;unfold wordN bare bigW;rw [if_pos hw,Zm (by omega)]
 omega
theorem QnQ (p h:Int):0 <= wordN p h /\ wordN p h <= bigW := by
 have := Qpt p h;unfold bigW;omega
theorem QuB {w:Int}:0 <= bare w /\ bare w <= bigW := by
 unfold bare bigW;have := Qdi w;omega
theorem atLd {ds:List HD} {n p m c g:Int} {r:List Int} (hc:0 <= c /\ c <= 770) (hg:0 <= g /\ g <= bigW):AtH ds n (naLd p m r c g).a := ⟨rfl,hg.1,hg.2,.inl ⟨rfl,rfl,rfl,rfl,hc.1,hc.2⟩⟩
theorem atCs {ds:List HD} {n p m c b v g:Int} {r:List Int} (hc:0 <= c /\ c <= 770) (hb:-1 <= b /\ b <= bigW) (hv:0 <= v /\ v <= bigW) (hg:0 <= g /\ g <= bigW) (ty:TyH ds (n + 1) c v):AtH ds n (naCs p m r c b v g).a :=
 ⟨rfl,hg.1,hg.2,.inr (.inl ⟨rfl,rfl,hc.1,hc.2,hb.1,hb.2,hv.1,hv.2,ty⟩)⟩
theorem g00:(0:Int) <= 0 /\ (0:Int) <= bigW := by decide
def K68 (ds:List HD) (k:Int) (r got:List Int):Prop := k = 0 /\ got = [] \/ ∃ x,got = [x] /\ 1 <= k /\ k <= 7 /\ 0 <= x /\ x <= bigW /\ (k = 1 -> 1 <= x /\ x <= 1048576) /\ (k = 2 -> x <= 1048575) /\
 (2 <= k -> 1 <= r.getD 2 0 /\ r.getD 2 0 <= 1048576) /\ (3 <= k -> r.getD 2 0 <= 1048575)
def R68 (ds:List HD) (k:Int) (r got:List Int):Prop := bnd r /\ (2 <= r.getD 0 0 /\ r.getD 0 0 <= 8) /\ OkH ds (r.getD 1 0) /\ K68 ds k r got
def EndI (l:List Int):Prop := (∃ t,l = [0,t] /\ 1 <= t /\ t <= 1048575) \/ ∃ e,l = [e]
theorem R68.ok {ds:List HD} (hs:ds.length <= 16) {k:Int} {r got:List Int} (h:R68 ds k r got) (own:Bool):okHp own ⟨68,k,r⟩ got := by
 obtain ⟨⟨h1,h2⟩,h3,h4,h5⟩ := h;unfold OkH at h4;refine ⟨h1,h2,.inl ⟨rfl,?_⟩⟩;rcases h5 with h | ⟨x,e,a1,a2,a3,a4,a5,a6,a7,a8⟩
 · exact .inl h
 · exact .inr ⟨x,e,a1,a2,a3,a4,fun q => by have := a6 q;omega,fun q => by have := a7 q;show 0 <= r.getD 2 0 /\ r.getD 2 0 <= 1048576;omega,h3.1,h3.2,h4.1,by show r.getD 1 0 <= 300;omega⟩
theorem RsH.big {ds:List HD} {n:Int} {A:Qf} {x:Int} (h:RsH ds n A x) (ha:A.kind = 2):0 <= x /\ x <= bigW := by
 rcases h with ⟨q,_⟩ | ⟨_,q⟩ | ⟨q,_⟩
 · omega
 · unfold bigW;omega
 · omega
theorem RsH.ty {ds:List HD} {n:Int} {A:Qf} {x:Int} (h:RsH ds n A x) (ha:A.kind = 0):TyH ds n A.a x := by
 rcases h with ⟨_,q⟩ | ⟨q,_⟩ | ⟨q,_⟩
 · exact q
 · omega
 · omega
theorem ins_step {ds:List HD} {n k:Int} {r got:List Int} (h:R68 ds k r got) (hs:ds.length <= 16) :
 ((nIns k r (got.headD 0)).a.kind = 7 /\ nIns k r (got.headD 0) = naEn 68 (nIns k r (got.headD 0)).f.at' (nIns k r (got.headD 0)).f.r (nIns k r (got.headD 0)).a.args true /\ EndI (nIns k r (got.headD 0)).a.args) \/
 (AtH ds n (nIns k r (got.headD 0)).a /\ (nIns k r (got.headD 0)).f.prog = 68 /\ ∀ x,RsH ds n (nIns k r (got.headD 0)).a x -> R68 ds (nIns k r (got.headD 0)).f.at' (nIns k r (got.headD 0)).f.r [x]) := by
 obtain ⟨hb,hw,hd,hK⟩ := h;have hl := hb.1;have hd' := hd;unfold OkH at hd';have big1:(1048576:Int) <= bigW := by decide
 have tl:AtH ds n (naLd 68 1 r 1 0).a /\ (naLd 68 1 r 1 0).f.prog = 68 /\ ∀ x,RsH ds n (naLd 68 1 r 1 0).a x -> R68 ds 1 r [x] := by
  refine ⟨atLd (by decide) g00,rfl,fun x hx => ?_⟩
  have := (hx.ty rfl).t1 rfl;exact ⟨hb,hw,hd,.inr ⟨x,rfl,by decide,by decide,by omega,by omega,fun _ => this,fun q => absurd q (by decide),fun q => absurd q (by decide),fun q => absurd q (by decide)⟩⟩
 have on:∀ m:Int,m = 5 \/ m = 7 -> ∀ r':List Int,bnd r' -> r'.getD 0 0 = r.getD 0 0 -> r'.getD 1 0 = r.getD 1 0 -> r'.getD 2 0 = r.getD 2 0 -> 1 <= r.getD 2 0 -> r.getD 2 0 <= 1048575 ->
  AtH ds n (naCs 68 m r' 1 (r.getD 2 0) (r.getD 2 0 + 1) 0).a /\ (naCs 68 m r' 1 (r.getD 2 0) (r.getD 2 0 + 1) 0).f.prog = 68 /\ ∀ x,RsH ds n (naCs 68 m r' 1 (r.getD 2 0) (r.getD 2 0 + 1) 0).a x -> R68 ds m r' [x] := fun m hm r' b' e0 e1 e2 g1 g2 => by
  refine ⟨atCs (by decide) (by omega) (by omega) g00 (QnP hs (by omega)),rfl,fun x hx => ?_⟩
  · have hx := hx.big rfl;exact ⟨b',by rw [e0];exact hw,by rw [e1];exact hd,.inr ⟨x,rfl,by omega,by omega,hx.1,hx.2,fun q => by omega,fun q => by omega,fun _ => by rw [e2];omega,fun _ => by rw [e2];omega⟩⟩
 rcases hK with ⟨rfl,rfl⟩ | ⟨x,rfl,k1,k7,x0,x1,y1,y2,y3,y4⟩
 · exact .inr tl
 simp only [List.headD_cons];have ks:k = 1 \/ k = 2 \/ k = 3 \/ k = 4 \/ k = 5 \/ k = 6 \/ k = 7 := by omega
 rcases ks with rfl | rfl | rfl | rfl | rfl | rfl | rfl
 · have e:nIns 1 r x = naLd 68 2 (r.set 2 x) 0 0 := rfl;have y := y1 rfl;rw [e];refine .inr ⟨atLd (by decide) g00,rfl,fun z hz => ?_⟩
   have hz := (hz.ty rfl).t0 rfl;refine (⟨hb.set 2 x1,?_,?_,.inr ⟨z,rfl,by decide,by decide,hz.1,by omega,fun q => absurd q (by decide),fun _ => hz.2,fun _ => ?_,fun q => absurd q (by decide)⟩⟩:R68 ds 2 (r.set 2 x) [z])
   · rw [getD_set_ne' (by decide)];exact hw
   · rw [getD_set_ne' (by decide)];exact hd
   · rw [Qd (by omega)];exact y
 · have e:nIns 2 r x = if x + r.getD 0 0 < r.getD 2 0 then naEn 68 2 r [170] true else if 1048575 < r.getD 2 0 then naEn 68 2 r [172] true else naLd 68 3 r 4 0 := rfl
   have y := y3 (by decide)
   rw [e]
   split
   · exact .inl ⟨rfl,rfl,.inr ⟨170,rfl⟩⟩
   · split
     · exact .inl ⟨rfl,rfl,.inr ⟨172,rfl⟩⟩
     · refine .inr ⟨atLd (by decide) g00,rfl,fun z hz => ?_⟩
       have hz := (hz.ty rfl).t2 (by show (2:Int) <= 4;decide) (by show (4:Int) <= 12;decide)
       exact (⟨hb,hw,hd,.inr ⟨z,rfl,by decide,by decide,hz.1,hz.2,fun q => absurd q (by decide),fun q => absurd q (by decide),fun _ => y,fun _ => by omega⟩⟩:R68 ds 3 r [z])
 · have e:nIns 3 r x = if x < r.getD 2 0 - 32 then naEn 68 3 r [171] true else naLd 68 4 r (lRing (r.getD 2 0) (r.getD 0 0)) 0 := rfl
   have y := y3 (by decide)
   have y' := y4 (by decide)
   rw [e]
   split
   · exact .inl ⟨rfl,rfl,.inr ⟨171,rfl⟩⟩
   · have hr := JA (p := r.getD 2 0) (by omega) hw
     refine .inr ⟨atLd (by omega) g00,rfl,fun z hz => ?_⟩
     · have hz := ((hz.ty rfl).t3 (by show 13 <= lRing (r.getD 2 0) (r.getD 0 0);omega) (by show lRing (r.getD 2 0) (r.getD 0 0) <= 20;omega)).1
       exact (⟨hb,hw,hd,.inr ⟨z,rfl,by decide,by decide,hz.1,hz.2,fun q => absurd q (by decide),fun q => absurd q (by decide),fun _ => y,fun _ => y'⟩⟩:R68 ds 4 r [z])
 · have e:nIns 4 r x = if plc x = r.getD 2 0 then naCs 68 5 (r.set 3 x) 1 (r.getD 2 0) (r.getD 2 0 + 1) 0 else if r.getD 2 0 < plc x then naLd 68 1 (r.set 3 x) 1 0
    else naCs 68 6 (r.set 3 x) (lRing (r.getD 2 0) (r.getD 0 0)) x (wordN (r.getD 2 0) (r.getD 1 0)) 0 := rfl
   have y := y3 (by decide)
   have y' := y4 (by decide)
   have b3 := hb.set 3 x1;have g0:(r.set 3 x).getD 0 0 = r.getD 0 0 := getD_set_ne' (by decide)
   have g1:(r.set 3 x).getD 1 0 = r.getD 1 0 := getD_set_ne' (by decide)
   have g2:(r.set 3 x).getD 2 0 = r.getD 2 0 := getD_set_ne' (by decide)
   rw [e]
   split
   · exact .inr (on 5 (.inl rfl) _ b3 g0 g1 g2 (by omega) y')
   · split
     · refine .inr ⟨atLd (by decide) g00,rfl,fun z hz => ?_⟩
       have hz := (hz.ty rfl).t1 rfl;exact (⟨b3,by rw [g0];exact hw,by rw [g1];exact hd,.inr ⟨z,rfl,by decide,by decide,by omega,by omega,fun _ => hz,fun q => absurd q (by decide),fun q => absurd q (by decide),fun q => absurd q (by decide)⟩⟩:R68 ds 1 (r.set 3 x) [z])
     · have hr := JA (p := r.getD 2 0) (by omega) hw
       have hwN := QiE (p := r.getD 2 0) (h := r.getD 1 0) (by omega) (by omega)
       refine .inr ⟨atCs (by omega) ⟨by omega,x1⟩ hwN.2 g00 (Quy hs (by omega) ?_),rfl,fun z hz => ?_⟩
       · refine ⟨hwN.2,.inr ?_⟩;show OkH ds (bare (wordN (r.getD 2 0) (r.getD 1 0)));rw [hwN.1];exact hd
       · have hz := hz.big rfl;exact (⟨b3,by rw [g0];exact hw,by rw [g1];exact hd,.inr ⟨z,rfl,by decide,by decide,hz.1,hz.2,fun q => absurd q (by decide),fun q => absurd q (by decide),fun _ => by rw [g2];exact y,fun _ => by rw [g2];exact y'⟩⟩:R68 ds 6 (r.set 3 x) [z])
 · exact .inr tl
 · have e:nIns 6 r x = if x = 0 then naLd 68 1 r 1 0 else naCs 68 7 r 1 (r.getD 2 0) (r.getD 2 0 + 1) 0 := rfl
   have y := y3 (by decide)
   have y' := y4 (by decide)
   rw [e]
   split
   · exact .inr tl
   · exact .inr (on 7 (.inr rfl) r hb rfl rfl rfl (by omega) y')
 · have y := y3 (by decide)
   have y' := y4 (by decide)
   exact .inl ⟨rfl,rfl,.inl ⟨r.getD 2 0,rfl,y.1,y'⟩⟩
def K73 (k:Int) (r got:List Int):Prop := k = 0 /\ got = [] \/ ∃ x,got = [x] /\ 1 <= k /\ k <= 3 /\ 0 <= x /\ x <= bigW /\ (k = 2 -> 0 <= r.getD 3 0 /\ r.getD 3 0 <= bigW)
def R73 (k:Int) (r got:List Int):Prop := bnd r /\ (0 <= r.getD 2 0 /\ r.getD 2 0 <= 23) /\ (256 <= r.getD 1 0 /\ r.getD 1 0 < 316) /\ K73 k r got
theorem R73.ok {k:Int} {r got:List Int} (h:R73 k r got) (own:Bool):okHp own ⟨73,k,r⟩ got := by
 obtain ⟨⟨h1,h2⟩,h3,h4,h5⟩ := h;refine ⟨h1,h2,.inr (.inl ⟨rfl,h3.1,h3.2,?_⟩)⟩;rcases h5 with h | ⟨x,e,a1,a2,a3,a4,a5⟩
 · exact .inl h
 · exact .inr ⟨x,e,a1,a2,a3,a4,h4.1,by show r.getD 1 0 <= 400;omega⟩
theorem inr_step {ds:List HD} {n k:Int} {r got:List Int} (h:R73 k r got) (hs:ds.length <= 16) :
 ((nInr false k r (got.headD 0)).a = ⟨7,0,0,0,0,[],[]⟩ /\ (nInr true k r (got.headD 0)).a = ⟨7,0,0,0,0,[],[]⟩ /\ k ≠ 0) \/
 (nInr true k r (got.headD 0) = nInr false k r (got.headD 0) /\ AtH ds n (nInr false k r (got.headD 0)).a /\ (nInr false k r (got.headD 0)).f.prog = 73 /\ ∀ x,RsH ds n (nInr false k r (got.headD 0)).a x -> R73 (nInr false k r (got.headD 0)).f.at' (nInr false k r (got.headD 0)).f.r [x]) := by
 obtain ⟨hb,hk,hn,hK⟩ := h;have hl := hb.1;have hrow:lRow 21 (r.getD 2 0) 24 = 21 + r.getD 2 0 := J9 hk.1 (by omega)
 rcases hK with ⟨rfl,rfl⟩ | ⟨x,rfl,k1,k3,x0,x1,y⟩
 · have e:∀ own,nInr own 0 r (([]:List Int).headD 0) = naLd 73 1 r (lRow 21 (r.getD 2 0) 24) 0 := fun own => by
    show (if lRow 21 (r.getD 2 0) 24 < 0 then _ else _) = _
    rw [if_neg (by omega)]
   rw [e,e];refine .inr ⟨rfl,atLd (by omega) g00,rfl,fun z hz => ?_⟩
   · have hz := (hz.ty rfl).t4 (by show 21 <= lRow 21 (r.getD 2 0) 24;omega) (by show lRow 21 (r.getD 2 0) 24 <= 44;omega)
     exact (⟨hb,hk,hn,.inr ⟨z,rfl,by decide,by decide,hz.1,hz.2,fun q => absurd q (by decide)⟩⟩:R73 1 r [z])
 simp only [List.headD_cons];have ks:k = 1 \/ k = 2 \/ k = 3 := by omega
 rcases ks with rfl | rfl | rfl
 · have e:∀ own,nInr own 1 r x = if sCell (r.getD 1 0) 1 < 0 \/ r.getD 0 0 <= plc (max x 0) then naEn 73 (bif own then 99 else 1) (r.set 3 (max x 0)) [] true
    else naCs 73 2 (r.set 3 (max x 0)) (sCell (r.getD 1 0) 1) (-1) (max x 0) (r.getD 1 0) := fun own => rfl
   have hc:sCell (r.getD 1 0) 1 = 291 + (r.getD 1 0 - 256) * 3 + 1 := by
    have := QgN (v := r.getD 1 0 - 256) (by omega) (by omega)
    rwa [show 256 + (r.getD 1 0 - 256) = r.getD 1 0 by omega] at this
   have mx:max x 0 = x := by omega
   rw [e,e,mx]
   split
   · exact .inl ⟨rfl,rfl,by decide⟩
   · refine .inr ⟨rfl,atCs (by omega) (by decide) ⟨x0,x1⟩ ⟨by omega,by unfold bigW;omega⟩ (QeR hs (by omega)),rfl,fun z hz => ?_⟩
     · have hz := hz.big rfl;refine (⟨hb.set 3 x1,?_,?_,.inr ⟨z,rfl,by decide,by decide,hz.1,hz.2,fun _ => ?_⟩⟩:R73 2 (r.set 3 x) [z])
       · rw [getD_set_ne' (by decide)];exact hk
       · rw [getD_set_ne' (by decide)];exact hn
       · rw [Qd (by omega)];exact ⟨x0,x1⟩
 · have e:∀ own,nInr own 2 r x = naCs 73 3 r (lRow 21 (r.getD 2 0) 24) (r.getD 3 0) (wordN (r.getD 0 0) (r.getD 1 0)) 0 := fun own => rfl;have y := y rfl;have hw := QnQ (r.getD 0 0) (r.getD 1 0);rw [e,e];refine .inr ⟨rfl,atCs (by omega) ⟨by omega,y.2⟩ hw g00 (Quz hs (by omega) hw),rfl,fun z hz => ?_⟩
   · have hz := hz.big rfl;exact (⟨hb,hk,hn,.inr ⟨z,rfl,by decide,by decide,hz.1,hz.2,fun q => absurd q (by decide)⟩⟩:R73 3 r [z])
 · exact .inl ⟨rfl,rfl,by decide⟩
def Kn (d:HD) (m:Nat) (r:List Int):Prop := ∀ j,j < m -> r.getD (8 + j) 0 = d.w j /\ r.getD (12 + j) 0 = d.nd j
theorem Kn.same {d:HD} {m:Nat} {r r':List Int} (h:Kn d m r) (e:∀ i,8 <= i -> r'.getD i 0 = r.getD i 0):Kn d m r' := fun j hj => by
 rw [e _ (by omega),e _ (by omega)];exact h j hj
def G100 (ds:List HD) (k:Int) (r got:List Int):Prop := k = 0 /\ got = [] \/ (k = 13 \/ k = 14) /\ got = [] \/ ∃ x,got = [x] /\ 1 <= k /\ k <= 15 /\ k ≠ 13 /\ k ≠ 14 /\ 0 <= x /\ x <= bigW /\
 (k = 1 -> x <= 1048575) /\ (k = 2 -> x = 0 \/ OkH ds (bare x)) /\ (k = 3 -> x = (hD ds (r.getD 3 0)).start) /\ (k = 4 -> x = (hD ds (r.getD 3 0)).ws.length) /\
 (k = 5 -> x = (hD ds (r.getD 3 0)).w (r.getD 6 0).toNat) /\ (k = 6 -> x = (hD ds (r.getD 3 0)).nd (r.getD 6 0).toNat)
structure R100 (ds:List HD) (k:Int) (r q got:List Int):Prop where
 b1:bnd r
 up:0 <= r.getD 0 0 /\ r.getD 0 0 <= 1048575
 wd:2 <= r.getD 1 0 /\ r.getD 1 0 <= 8
 eq:if k = 11 \/ k = 12 then (∃ j,q = r.set 6 j /\ j <= bigW) /\ r.getD 6 0 = 0 else q = r
 fr:2 <= k -> k <= 14 -> 0 <= r.getD 2 0 /\ r.getD 2 0 < r.getD 0 0
 hd:3 <= k -> k <= 14 -> OkH ds (r.getD 3 0)
 sr:4 <= k -> k <= 14 -> r.getD 4 0 = (hD ds (r.getD 3 0)).start
 mn:5 <= k -> k <= 14 -> r.getD 5 0 = (hD ds (r.getD 3 0)).ws.length
 j5:k = 5 \/ k = 6 \/ k = 8 \/ k = 13 \/ k = 14 -> 0 <= r.getD 6 0 /\ r.getD 6 0 < r.getD 5 0
 j9:7 <= k -> k <= 10 -> 0 <= r.getD 6 0 /\ r.getD 6 0 <= 4
 k5:k = 5 \/ k = 6 -> Kn (hD ds (r.getD 3 0)) (r.getD 6 0).toNat r
 k6:k = 6 -> r.getD (8 + (r.getD 6 0).toNat) 0 = (hD ds (r.getD 3 0)).w (r.getD 6 0).toNat
 k7:7 <= k -> k <= 14 -> Kn (hD ds (r.getD 3 0)) (hD ds (r.getD 3 0)).ws.length r
 gt:G100 ds k r got
inductive Go1 (ds:List HD) (n:Int) (N M:NA):Prop
 | fin (h1:N.a = ⟨7,0,0,0,0,[],[]⟩) (h2:M.a = ⟨7,0,0,0,0,[],[]⟩)
 | act (h1:M.a = N.a) (h2:N.f.prog = 100) (h3:M.f.prog = 100) (h4:M.f.at' = N.f.at') (h5:AtH ds n N.a) (h6:∀ x,RsH ds n N.a x -> R100 ds N.f.at' N.f.r M.f.r [x])
 | ins (r l:List Int) (h1:N = naCl 100 13 r 73 l) (h2:M = naCl 100 13 r 73 l) (h3:R100 ds 13 r r []) (h4:R73 0 (Za l) []) (h5:l.length <= 96)
 | app (r l:List Int) (h1:N = naCl 100 14 r 76 l) (h2:M = naCl 100 14 r 76 l) (h3:R100 ds 14 r r []) (h4:R76 n 0 (Za l) []) (h5:l.length <= 96)
theorem Qb5 {ds:List HD} {n h f v:Int} (t:TyH ds n (hDesc h f) v) (hs:ds.length <= 16) (hh:OkH ds h) (f0:0 <= f) (f1:f < 12):TyD (hD ds h) f v := by
 have e := ZT hs hh f0 f1;unfold OkH at hh;exact t.t6 (h - 256) f (by omega) (by omega) f0 f1 e
theorem JH {r:List Int} {m:Nat} (h:r.getD 5 0 = (m:Int)) (hm:m <= 4):hMany r = m := by unfold hMany;omega
theorem Qrc {ds:List HD} {r:List Int} {o:Int} (d:HD) (hd:OkD d) (h2:0 <= r.getD 2 0 /\ r.getD 2 0 < 1048575) (h5:r.getD 5 0 = (d.ws.length:Int)) (hk:Kn d d.ws.length r):mayB (hRec r o) = true := by
 have hl := hd.len;have hm := JH h5 hl
 have hws:(List.range (hMany r)).map (fun j => (⟨hKey r j,hVal r j⟩:Qc)) = d.ws := by
  rw [hm];apply List.ext_getElem
  · simp
  · intro j h1 h2;simp only [List.length_map,List.length_range] at h1;have hw := hd.wr h1;have := (hk j h1).1;simp only [List.getElem_map,List.getElem_range];have e:d.ws.getD j wrH = d.ws[j] := by simp [h1]
    unfold hKey hVal;rw [this,hw.2.2.1,hw.2.2.2,e]
 unfold mayB hRec;have p:Qp (r.getD 2 0 + 1) 1 1048575 = true := QB.2 (by omega)
 by_cases e:o = 1
 · simp only [e,if_true,hws,p,hd.ws,decide_true,Bool.true_or,Bool.and_self]
 · have e2:Qx [] = true := rfl;simp only [e,if_false,p,e2,decide_false,Bool.false_or,Bool.and_self,List.isEmpty_nil]
theorem QnR {r:Rec} (h:mayB r = true):entL r ≠ [] /\ (entL r).length <= 640 := by
 have h1 := Qa8 h;have e:(entL r).length = (ZG r).length + 12 := by simp only [entL,h,cond_true,Qhx]
 refine ⟨fun q => ?_,by omega⟩
 rw [q] at e;simp at e
theorem QeS {ds:List HD} {n:Int} {r:List Int} (hs:ds.length <= 16) (h1:bnd r) (h2:0 <= r.getD 0 0 /\ r.getD 0 0 <= 1048575) (h3:2 <= r.getD 1 0 /\ r.getD 1 0 <= 8):Go1 ds n (hBeg r) (hBeg r) := by
 refine .act rfl rfl rfl rfl (atLd (by decide) g00) fun x hx => ?_
 have hx := (hx.ty rfl).t0 rfl;have big1:(1048576:Int) <= bigW := by decide
 refine (⟨h1,h2,h3,rfl,fun q => absurd q (by decide),fun q => absurd q (by decide),fun q => absurd q (by decide),fun q => absurd q (by decide),fun q => absurd q (by decide),fun q => absurd q (by decide),fun q => absurd q (by decide),fun q => absurd q (by decide),fun q => absurd q (by decide),
  .inr (.inr ⟨x,rfl,by decide,by decide,by decide,by decide,hx.1,by omega,fun _ => hx.2,fun q => absurd q (by decide),fun q => absurd q (by decide),fun q => absurd q (by decide),fun q => absurd q (by decide),fun q => absurd q (by decide)⟩)⟩:R100 ds 1 r r [x])
structure A100 (ds:List HD) (r:List Int):Prop where
 b1:bnd r
 up:0 <= r.getD 0 0 /\ r.getD 0 0 <= 1048575
 wd:2 <= r.getD 1 0 /\ r.getD 1 0 <= 8
 fr:0 <= r.getD 2 0 /\ r.getD 2 0 < r.getD 0 0
 hd:OkH ds (r.getD 3 0)
structure M100 (ds:List HD) (r:List Int):Prop extends A100 ds r where
 sr:r.getD 4 0 = (hD ds (r.getD 3 0)).start
 mn:r.getD 5 0 = (hD ds (r.getD 3 0)).ws.length
 j6:0 <= r.getD 6 0 /\ r.getD 6 0 <= (hD ds (r.getD 3 0)).ws.length
structure W100 (ds:List HD) (r:List Int):Prop extends M100 ds r where
 kn:Kn (hD ds (r.getD 3 0)) (hD ds (r.getD 3 0)).ws.length r
theorem QnS {ds:List HD} {n:Int} {r:List Int} (hds:OkDs ds) (h:M100 ds r) (hk:Kn (hD ds (r.getD 3 0)) (r.getD 6 0).toNat r):Go1 ds n (hWrs r) (hWrs r) := by
 obtain ⟨⟨h1,h2,h3,h4,h5⟩,h6,h7,h8⟩ := h;have hD' := hds.at h5;have hl := hD'.len;have hm := JH h7 hl;have hs := hds.1;have h5' := h5;unfold OkH at h5';have gb:0 <= r.getD 3 0 /\ r.getD 3 0 <= bigW := by unfold bigW;omega
 unfold hWrs;rw [hm]
 split
 · rename_i hj;have hc := ZT (f := 4 + r.getD 6 0) hs h5 (by omega) (by omega)
   refine .act rfl rfl rfl rfl (atLd (by omega) gb) fun x hx => ?_
   have ht := Qb5 (hx.ty rfl) hs h5 (by omega) (by omega)
   have e4:(4 + r.getD 6 0 - 4).toNat = (r.getD 6 0).toNat := by omega
   have hv := ht.2.2.1 (by omega) (by omega)
   rw [e4] at hv;have hw := hD'.wr hj
   exact (⟨h1,h2,h3,rfl,fun _ _ => h4,fun _ _ => h5,fun _ _ => h6,fun _ _ => h7,fun _ => by omega,fun q => absurd q (by decide),fun _ => hk,fun q => absurd q (by decide),fun q => absurd q (by decide),
    .inr (.inr ⟨x,rfl,by decide,by decide,by decide,by decide,by omega,by unfold bigW;omega,fun q => absurd q (by decide),fun q => absurd q (by decide),fun q => absurd q (by decide),fun q => absurd q (by decide),fun _ => hv,fun q => absurd q (by decide)⟩)⟩:R100 ds 5 r r [x])
 · rename_i hj;have hc := ZT (f := 1) hs h5 (by omega) (by omega)
   refine .act rfl rfl rfl rfl (atLd (by omega) gb) fun x hx => ?_
   have ht := (hx.ty rfl).t7 (r.getD 3 0 - 256) (by omega) (by omega) hc
   have e6:(r.getD 6 0).toNat = (hD ds (r.getD 3 0)).ws.length := by omega
   rw [e6] at hk
   exact (⟨h1,h2,h3,rfl,fun _ _ => h4,fun _ _ => h5,fun _ _ => h6,fun _ _ => h7,fun q => absurd q (by decide),fun _ _ => by omega,fun q => absurd q (by decide),fun q => absurd q (by decide),fun _ _ => hk,
    .inr (.inr ⟨x,rfl,by decide,by decide,by decide,by decide,by omega,by unfold bigW;omega,fun q => absurd q (by decide),fun q => absurd q (by decide),fun q => absurd q (by decide),fun q => absurd q (by decide),fun q => absurd q (by decide),fun q => absurd q (by decide)⟩)⟩:R100 ds 7 r r [x])
theorem W100.mk9 {ds:List HD} (hds:OkDs ds) {k:Int} {r:List Int} (h:W100 ds r) (hk:k = 8 \/ k = 9 \/ k = 10 \/ k = 15) (h8:k = 8 -> r.getD 6 0 < r.getD 5 0) {x:Int} (x0:0 <= x /\ x <= bigW):R100 ds k r r [x] := by
 have hl := (hds.at h.hd).len;have h6 := h.j6
 refine ⟨h.b1,h.up,h.wd,by rw [if_neg (by omega)],fun _ _ => h.fr,fun _ _ => h.hd,fun _ _ => h.sr,fun _ _ => h.mn,fun q => ⟨h6.1,h8 (by omega)⟩,fun _ _ => by omega,fun q => by omega,fun q => by omega,fun _ _ => h.kn,
  .inr (.inr ⟨x,rfl,by omega,by omega,by omega,by omega,x0.1,x0.2,fun q => by omega,fun q => by omega,fun q => by omega,fun q => by omega,fun q => by omega,fun q => by omega⟩)⟩
theorem W100.set {ds:List HD} {r:List Int} (h:W100 ds r) {i:Nat} (hi:i = 7) {x:Int} (hx:x <= bigW):W100 ds (r.set i x) := by
 subst hi;have e:∀ j,j ≠ 7 -> (r.set 7 x).getD j 0 = r.getD j 0 := fun j hj => getD_set_ne' (fun q => hj q.symm);obtain ⟨⟨⟨h1,h2,h3,h4,h5⟩,h6,h7,h8⟩,h9⟩ := h;refine ⟨⟨⟨h1.set 7 hx,?_,?_,?_,?_⟩,?_,?_,?_⟩,?_⟩
 · rw [e 0 (by decide)];exact h2
 · rw [e 1 (by decide)];exact h3
 · rw [e 2 (by decide),e 0 (by decide)];exact h4
 · rw [e 3 (by decide)];exact h5
 · rw [e 3 (by decide),e 4 (by decide)];exact h6
 · rw [e 3 (by decide),e 5 (by decide)];exact h7
 · rw [e 3 (by decide),e 6 (by decide)];exact h8
 · rw [e 3 (by decide)];exact h9.same fun i hi => e i (by omega)
theorem W100.set6 {ds:List HD} {r:List Int} (h:W100 ds r) {x:Int} (h0:0 <= x) (hx:x <= (hD ds (r.getD 3 0)).ws.length) (hl:(hD ds (r.getD 3 0)).ws.length <= 4):W100 ds (r.set 6 x) := by
 have e:∀ j,j ≠ 6 -> (r.set 6 x).getD j 0 = r.getD j 0 := fun j hj => getD_set_ne' (fun q => hj q.symm);obtain ⟨⟨⟨h1,h2,h3,h4,h5⟩,h6,h7,h8⟩,h9⟩ := h;have l1 := h1.1;refine ⟨⟨⟨h1.set 6 (by unfold bigW;omega),?_,?_,?_,?_⟩,?_,?_,?_⟩,?_⟩
 · rw [e 0 (by decide)];exact h2
 · rw [e 1 (by decide)];exact h3
 · rw [e 2 (by decide),e 0 (by decide)];exact h4
 · rw [e 3 (by decide)];exact h5
 · rw [e 3 (by decide),e 4 (by decide)];exact h6
 · rw [e 3 (by decide),e 5 (by decide)];exact h7
 · rw [e 3 (by decide),Qd (by omega)];exact ⟨h0,hx⟩
 · rw [e 3 (by decide)];exact h9.same fun i hi => e i (by omega)
theorem QnT {ds:List HD} {n:Int} {r:List Int} (hds:OkDs ds) (h:W100 ds r) {o:Int} (ho:o = 1 \/ o = 2):Go1 ds n (hDec r o) (hDec r o) := by
 have h5 := h.hd;have hs := hds.1;have hc := ZT (f := 1) hs h5 (by omega) (by omega)
 have h5' := h5;unfold OkH at h5';refine .act rfl rfl rfl rfl (atCs (by omega) (by decide) (by unfold bigW;omega) (by unfold bigW;omega) ?_) fun x hx => ?_
 · rw [hc];exact QvV hs (by omega) (by omega) (by omega)
 · have hx := hx.big rfl;exact (W100.mk9 hds (h.set rfl (by unfold bigW;omega)) (.inr (.inl rfl)) (fun q => absurd q (by decide)) hx:R100 ds 9 (r.set 7 o) (r.set 7 o) [x])
theorem QnU {ds:List HD} {n:Int} {r:List Int} (hds:OkDs ds) (h:W100 ds r):Go1 ds n (hHds r) (hHds r) := by
 have hD' := hds.at h.hd;have hl := hD'.len;have hm := JH h.mn hl;have h6 := h.j6;have h7 := h.mn;unfold hHds;rw [hm]
 split
 · rename_i hj;have hw := hD'.wr hj
   have hk:hKey r (r.getD 6 0).toNat = ((hD ds (r.getD 3 0)).ws.getD (r.getD 6 0).toNat wrH).key := by
    unfold hKey;rw [(h.kn _ hj).1,hw.2.2.1]
   have hw2 := QeQ hD'.ws hj;have hrow:lRow 21 (hKey r (r.getD 6 0).toNat) 24 = 21 + hKey r (r.getD 6 0).toNat := J9 (by omega) (by omega)
   refine .act rfl rfl rfl rfl (atLd (by omega) g00) fun x hx => ?_
   have hx := (hx.ty rfl).t4 (by show 21 <= lRow 21 (hKey r (r.getD 6 0).toNat) 24;omega) (by show lRow 21 (hKey r (r.getD 6 0).toNat) 24 <= 44;omega)
   exact (W100.mk9 hds h (.inl rfl) (fun _ => by omega) hx:R100 ds 8 r r [x])
 · exact QnT hds h (.inl rfl)
theorem QnV {ds:List HD} {n:Int} {r q:List Int} (hds:OkDs ds) (h:W100 ds r) (h0:r.getD 6 0 = 0) {j:Int} (hq:q = r.set 6 j) (hj:j <= bigW) {o:Int} (ho:0 <= o /\ o <= bigW):Go1 ds n (hPut r o) (hPut q o) := by
 have hD' := hds.at h.hd;have e:∀ i,i ≠ 6 -> q.getD i 0 = r.getD i 0 := fun i hi => by rw [hq];exact getD_set_ne' (fun c => hi c.symm)
 have hR:hRec q o = hRec r o := by
  unfold hRec hMany;rw [e 2 (by decide),e 5 (by decide)]
  have:∀ j,hKey q j = hKey r j /\ hVal q j = hVal r j := fun j => by unfold hKey hVal;rw [e _ (by omega)];exact ⟨rfl,rfl⟩
  simp only [fun j => (this j).1,fun j => (this j).2]
 have hmay:mayB (hRec r o) = true := Qrc (ds := ds) _ hD' (by have := h.fr;have := h.up;omega) h.mn h.kn
 obtain ⟨t1,t2⟩ := QnR hmay;have hfr := h.fr;have hup := h.up;have hsec:secI (r.getD 2 0 + 1) = (r.getD 2 0 + 1) % 32 := if_neg (by omega)
 refine .act ?_ rfl rfl rfl ⟨rfl,Int.le_refl _,by show (0:Int) <= bigW;decide,.inr (.inr (.inl ⟨rfl,rfl,rfl,?_,?_,?_,?_,t1,t2⟩))⟩ fun x hx => ?_
 · show (⟨4,(bif mayB (hRec q o) then secI (q.getD 2 0 + 1) else 0),q.getD 2 0 + 1,0,0,entL (hRec q o),[]⟩:Qf) = ⟨4,(bif mayB (hRec r o) then secI (r.getD 2 0 + 1) else 0),r.getD 2 0 + 1,0,0,entL (hRec r o),[]⟩;rw [hR,e 2 (by decide)]
 · show 0 <= (bif mayB (hRec r o) then secI (r.getD 2 0 + 1) else 0);rw [hmay,cond_true];omega
 · show (bif mayB (hRec r o) then secI (r.getD 2 0 + 1) else 0) < 33;rw [hmay,cond_true];omega
 · show 1 <= r.getD 2 0 + 1;omega
 · show r.getD 2 0 + 1 <= 1048575;omega
 · have hW := h.set (i := 7) rfl ho.2;rcases hx with ⟨c,_⟩ | ⟨c,_⟩ | ⟨_,rfl⟩
   · exact absurd c (by show ((4:Int) ≠ 0);decide)
   · exact absurd c (by show ((4:Int) ≠ 2);decide)
   · refine (⟨hW.b1,hW.up,hW.wd,?_,fun _ _ => hW.fr,fun _ _ => hW.hd,fun _ _ => hW.sr,fun _ _ => hW.mn,fun c => absurd c (by decide),fun _ c => absurd c (by decide),fun c => absurd c (by decide),fun c => absurd c (by decide),fun _ _ => hW.kn,
      .inr (.inr ⟨0,rfl,by decide,by decide,by decide,by decide,by decide,by decide,fun c => absurd c (by decide),fun c => absurd c (by decide),fun c => absurd c (by decide),fun c => absurd c (by decide),fun c => absurd c (by decide),fun c => absurd c (by decide)⟩)⟩:R100 ds 11 (r.set 7 o) (q.set 7 o) [0])
     rw [if_pos (.inl rfl)];refine ⟨⟨j,?_,hj⟩,?_⟩
     · rw [hq,List.set_comm _ _ (by decide)]
     · rw [getD_set_ne' (by decide)];exact h0
theorem QnW {ds:List HD} {n:Int} {r:List Int} (hds:OkDs ds) (h:W100 ds r):Go1 ds n (hApp r) (hApp r) := by
 have hD' := hds.at h.hd;have hl := hD'.len;have hm := JH h.mn hl;have h6 := h.j6;have h7 := h.mn;have hfr := h.fr;have hup := h.up;have big1:(1048576:Int) <= bigW := by decide
 unfold hApp;rw [hm]
 split
 · rename_i hj;have hj := hj.2;have hw := hD'.wr hj;have hw2 := QeQ hD'.ws hj;have hnb := hD'.nb
   have hk:hKey r (r.getD 6 0).toNat = ((hD ds (r.getD 3 0)).ws.getD (r.getD 6 0).toNat wrH).key := by
    unfold hKey;rw [(h.kn _ hj).1,hw.2.2.1]
   have hn:r.getD (12 + (r.getD 6 0).toNat) 0 = 256 + (hD ds (r.getD 3 0)).base + ((r.getD 6 0).toNat:Nat) := (h.kn _ hj).2;refine .ins r _ rfl rfl ⟨h.b1,h.up,h.wd,rfl,fun _ _ => h.fr,fun _ _ => h.hd,fun _ _ => h.sr,fun _ _ => h.mn,fun _ => by omega,fun _ c => absurd c (by decide),fun c => absurd c (by decide),fun c => absurd c (by decide),fun _ _ => h.kn,.inr (.inl ⟨.inl rfl,rfl⟩)⟩ ?_ (by simp)
   generalize r.getD (12 + (r.getD 6 0).toNat) 0 = nd at *
   generalize hKey r (r.getD 6 0).toNat = ky at *
   generalize ((hD ds (r.getD 3 0)).ws.getD (r.getD 6 0).toNat wrH) = w at *
   refine ⟨⟨by simp [Za],fun v hv => ?_⟩,?_,?_,.inl ⟨rfl,rfl⟩⟩
   · unfold Za at hv;rcases List.mem_append.1 hv with hv | hv
     · simp only [List.mem_cons,List.mem_nil_iff,or_false] at hv;rcases hv with rfl | rfl | rfl <;> omega
     · rw [List.eq_of_mem_replicate hv];decide
   · show 0 <= ky /\ ky <= 23;omega
   · show 256 <= nd /\ nd < 316;omega
 · refine .act rfl rfl rfl rfl (atCs (by decide) (by omega) (by omega) g00 (Qrb hds.1 (by omega))) fun x hx => ?_
   have hx := hx.big rfl;exact (W100.mk9 hds h (.inr (.inr (.inr rfl))) (fun q => absurd q (by decide)) hx:R100 ds 15 r r [x])
theorem QgO {ds:List HD} {n k:Int} {r q got:List Int} (h:R100 ds k r q got) (hds:OkDs ds):Go1 ds n (nHlp false k r (got.headD 0)) (nHlp true k q (got.headD 0)) := by
 have hs := hds.1;obtain ⟨b1,up,wd,eq,fr,hd,sr,mn,j5,j9,k5,k6,k7,gt⟩ := h;have big1:(1048576:Int) <= bigW := by decide
 have l1 := b1.1;rcases gt with ⟨rfl,rfl⟩ | ⟨hk,rfl⟩ | ⟨x,rfl,a1,a15,a13,a14,x0,x1,y1,y2,y3,y4,y5,y6⟩
 · rw [if_neg (by decide)] at eq
   subst eq;exact QeS hs b1 up wd
 · have hW:W100 ds r := ⟨⟨⟨b1,up,wd,fr (by omega) (by omega),hd (by omega) (by omega)⟩,sr (by omega) (by omega),mn (by omega) (by omega),by have := j5 (by omega);have := mn (by omega) (by omega);omega⟩,k7 (by omega) (by omega)⟩
   rw [if_neg (by omega)] at eq
   subst eq;have hD' := hds.at hW.hd;have hl := hD'.len;have hj := j5 (by omega)
   have hm := hW.mn;have hlt:(q.getD 6 0).toNat < (hD ds (q.getD 3 0)).ws.length := by omega
   rcases hk with rfl | rfl
   · have e:∀ own,nHlp own 13 q (([]:List Int).headD 0) = naCl 100 14 q 76 [q.getD 2 0 + 1,q.getD 6 0,hKey q (q.getD 6 0).toNat,hVal q (q.getD 6 0).toNat] := fun own => rfl;rw [e,e];have hw := hD'.wr hlt;have hw2 := QeQ hD'.ws hlt
     have hk:hKey q (q.getD 6 0).toNat = ((hD ds (q.getD 3 0)).ws.getD (q.getD 6 0).toNat wrH).key := by
      unfold hKey;rw [(hW.kn _ hlt).1,hw.2.2.1]
     have hv:hVal q (q.getD 6 0).toNat = ((hD ds (q.getD 3 0)).ws.getD (q.getD 6 0).toNat wrH).value := by
      unfold hVal;rw [(hW.kn _ hlt).1,hw.2.2.2]
     have hfr := hW.fr;have hup := hW.up;refine .app q _ rfl rfl ⟨b1,up,wd,rfl,fun _ _ => hW.fr,fun _ _ => hW.hd,fun _ _ => hW.sr,fun _ _ => hW.mn,fun _ => hj,fun _ c => absurd c (by decide),fun c => absurd c (by decide),fun c => absurd c (by decide),fun _ _ => hW.kn,.inr (.inl ⟨.inr rfl,rfl⟩)⟩ ?_ (by simp)
     generalize hKey q (q.getD 6 0).toNat = ky at *
     generalize hVal q (q.getD 6 0).toNat = vl at *
     generalize ((hD ds (q.getD 3 0)).ws.getD (q.getD 6 0).toNat wrH) = w at *
     refine ⟨⟨by simp [Za],fun v hv => ?_⟩,?_,.inl ⟨rfl,rfl⟩⟩
     · unfold Za at hv;rcases List.mem_append.1 hv with hv | hv
       · simp only [List.mem_cons,List.mem_nil_iff,or_false] at hv;rcases hv with rfl | rfl | rfl | rfl <;> omega
       · rw [List.eq_of_mem_replicate hv];decide
     · show 0 <= ky /\ ky <= 23;omega
   · have e:∀ own,nHlp own 14 q (([]:List Int).headD 0) = hApp (q.set 6 (q.getD 6 0 + 1)) := fun own => rfl;rw [e,e];exact QnW hds (hW.set6 (by omega) (by omega) hl)
 simp only [List.headD_cons];have ks:k = 1 \/ k = 2 \/ k = 3 \/ k = 4 \/ k = 5 \/ k = 6 \/ k = 7 \/ k = 8 \/ k = 9 \/ k = 10 \/ k = 11 \/ k = 12 \/ k = 15 := by omega
 rcases ks with rfl | rfl | rfl | rfl | rfl | rfl | rfl | rfl | rfl | rfl | rfl | rfl | rfl
 · rw [if_neg (by decide)] at eq
   subst eq;have e:∀ own,nHlp own 1 q x = if q.getD 0 0 <= x then naEn 100 1 (q.set 2 x) [] true else naLd 100 2 (q.set 2 x) (lRing (x + 1) (q.getD 1 0)) 0 := fun own => rfl
   rw [e,e]
   split
   · exact .fin rfl rfl
   · have hr := JA (p := x + 1) (by omega) wd
     refine .act rfl rfl rfl rfl (atLd (by omega) g00) fun z hz => ?_
     have hz := (hz.ty rfl).t3 (by show 13 <= lRing (x + 1) (q.getD 1 0);omega) (by show lRing (x + 1) (q.getD 1 0) <= 20;omega)
     refine (⟨b1.set 2 x1,?_,?_,rfl,fun _ _ => ?_,fun c => absurd c (by decide),fun c => absurd c (by decide),fun c => absurd c (by decide),fun c => absurd c (by decide),fun c => absurd c (by decide),fun c => absurd c (by decide),fun c => absurd c (by decide),fun c => absurd c (by decide),
      .inr (.inr ⟨z,rfl,by decide,by decide,by decide,by decide,hz.1.1,hz.1.2,fun c => absurd c (by decide),fun _ => hz.2,fun c => absurd c (by decide),fun c => absurd c (by decide),fun c => absurd c (by decide),fun c => absurd c (by decide)⟩)⟩:R100 ds 2 (q.set 2 x) (q.set 2 x) [z])
     · rw [getD_set_ne' (by decide)];exact up
     · rw [getD_set_ne' (by decide)];exact wd
     · rw [Qd (by omega),getD_set_ne' (by decide)];omega
 · rw [if_neg (by decide)] at eq
   subst eq;have e:∀ own,nHlp own 2 q x = if plc x = q.getD 2 0 + 1 then hOf 3 (q.set 3 (bare x)) 2 else hBeg q := fun own => rfl
   rw [e,e];have hf := fr (by decide) (by decide)
   split
   · rename_i hp
     have hx:OkH ds (bare x) := by
      rcases y2 rfl with rfl | h
      · exfalso;have:plc 0 = 0 := rfl;omega
      · exact h
     have hb := QuB (w := x);have g3:(q.set 3 (bare x)).getD 3 0 = bare x := Qd (by omega)
     have hc := ZT (f := 2) hs hx (by omega) (by omega)
     have hx' := hx;unfold OkH at hx';refine .act rfl rfl rfl rfl (atLd (by rw [g3];omega) (by rw [g3];exact hb)) fun z hz => ?_
     have ht := hz.ty rfl;replace ht:TyH ds n (hDesc ((q.set 3 (bare x)).getD 3 0) 2) z := ht;rw [g3] at ht;have hv := (Qb5 ht hs hx (by omega) (by omega)).1 rfl
     have hD' := hds.at hx;have hst := hD'.st
     refine (⟨b1.set 3 hb.2,?_,?_,rfl,fun _ _ => ?_,fun _ _ => ?_,fun c => absurd c (by decide),fun c => absurd c (by decide),fun c => absurd c (by decide),fun c => absurd c (by decide),fun c => absurd c (by decide),fun c => absurd c (by decide),fun c => absurd c (by decide),
      .inr (.inr ⟨z,rfl,by decide,by decide,by decide,by decide,by omega,by omega,fun c => absurd c (by decide),fun c => absurd c (by decide),fun _ => ?_,fun c => absurd c (by decide),fun c => absurd c (by decide),fun c => absurd c (by decide)⟩)⟩:R100 ds 3 (q.set 3 (bare x)) (q.set 3 (bare x)) [z])
     · rw [getD_set_ne' (by decide)];exact up
     · rw [getD_set_ne' (by decide)];exact wd
     · rw [getD_set_ne' (by decide),getD_set_ne' (by decide)];exact hf
     · rw [g3];exact hx
     · rw [g3];exact hv
   · exact QeS hs b1 up wd
 · rw [if_neg (by decide)] at eq
   subst eq;have e:∀ own,nHlp own 3 q x = hOf 4 (q.set 4 x) 3 := fun own => rfl;rw [e,e];have hf := fr (by decide) (by decide)
   have hx := hd (by decide) (by decide)
   have hv := y3 rfl;have g3:(q.set 4 x).getD 3 0 = q.getD 3 0 := getD_set_ne' (by decide)
   have hc := ZT (f := 3) hs hx (by omega) (by omega)
   have hx' := hx;unfold OkH at hx';refine .act rfl rfl rfl rfl (atLd (by rw [g3];omega) (by rw [g3];omega)) fun z hz => ?_
   have ht := hz.ty rfl;replace ht:TyH ds n (hDesc ((q.set 4 x).getD 3 0) 3) z := ht;rw [g3] at ht;have hz := (Qb5 ht hs hx (by omega) (by omega)).2.1 rfl
   have hl := (hds.at hx).len
   refine (⟨b1.set 4 x1,?_,?_,rfl,fun _ _ => ?_,fun _ _ => ?_,fun _ _ => ?_,fun c => absurd c (by decide),fun c => absurd c (by decide),fun c => absurd c (by decide),fun c => absurd c (by decide),fun c => absurd c (by decide),fun c => absurd c (by decide),
    .inr (.inr ⟨z,rfl,by decide,by decide,by decide,by decide,by omega,by omega,fun c => absurd c (by decide),fun c => absurd c (by decide),fun c => absurd c (by decide),fun _ => ?_,fun c => absurd c (by decide),fun c => absurd c (by decide)⟩)⟩:R100 ds 4 (q.set 4 x) (q.set 4 x) [z])
   · rw [getD_set_ne' (by decide)];exact up
   · rw [getD_set_ne' (by decide)];exact wd
   · rw [getD_set_ne' (by decide),getD_set_ne' (by decide)];exact hf
   · rw [g3];exact hx
   · rw [g3,Qd (by omega)];exact hv
   · rw [g3];exact hz
 · rw [if_neg (by decide)] at eq
   subst eq;have e:∀ own,nHlp own 4 q x = hWrs ((q.set 5 x).set 6 0) := fun own => rfl;rw [e,e];have E:∀ j,j ≠ 5 -> j ≠ 6 -> ((q.set 5 x).set 6 0).getD j 0 = q.getD j 0 := fun j c1 c2 => by rw [getD_set_ne' (fun c => c2 c.symm),getD_set_ne' (fun c => c1 c.symm)]
   have g6:((q.set 5 x).set 6 0).getD 6 0 = 0 := Qd (by rw [List.length_set];omega)
   refine QnS hds ⟨⟨(b1.set 5 x1).set 6 (by decide),?_,?_,?_,?_⟩,?_,?_,?_⟩ fun j hj => ?_
   · rw [E 0 (by decide) (by decide)];exact up
   · rw [E 1 (by decide) (by decide)];exact wd
   · rw [E 2 (by decide) (by decide),E 0 (by decide) (by decide)];exact fr (by decide) (by decide)
   · rw [E 3 (by decide) (by decide)];exact hd (by decide) (by decide)
   · rw [E 3 (by decide) (by decide),E 4 (by decide) (by decide)];exact sr (by decide) (by decide)
   · rw [E 3 (by decide) (by decide),getD_set_ne' (by decide),Qd (by omega)];exact y4 rfl
   · rw [g6];omega
   · rw [g6] at hj;simp at hj
 · rw [if_neg (by decide)] at eq
   subst eq;have e:∀ own,nHlp own 5 q x = hOf 6 (q.set (8 + (q.getD 6 0).toNat) x) (8 + q.getD 6 0) := fun own => rfl;rw [e,e];have hx := hd (by decide) (by decide)
   have hm := mn (by decide) (by decide)
   have hl := (hds.at hx).len;have hj := j5 (.inl rfl);have hnb := (hds.at hx).nb;have E:∀ j,j ≠ 8 + (q.getD 6 0).toNat -> (q.set (8 + (q.getD 6 0).toNat) x).getD j 0 = q.getD j 0 := fun j c => getD_set_ne' (fun d => c d.symm);have g3 := E 3 (by omega)
   have hc := ZT (f := 8 + q.getD 6 0) hs hx (by omega) (by omega)
   have hx' := hx;unfold OkH at hx';refine .act rfl rfl rfl rfl (atLd (by rw [g3];omega) (by rw [g3];omega)) fun z hz => ?_
   have ht := hz.ty rfl;replace ht:TyH ds n (hDesc ((q.set (8 + (q.getD 6 0).toNat) x).getD 3 0) (8 + q.getD 6 0)) z := ht;rw [g3] at ht;have hz := (Qb5 ht hs hx (by omega) (by omega)).2.2.2 (by omega) (by omega)
   rw [show (8 + q.getD 6 0 - 8).toNat = (q.getD 6 0).toNat by omega] at hz
   have hz2:z = 256 + (hD ds (q.getD 3 0)).base + ((q.getD 6 0).toNat:Nat) := hz;have g6 := E 6 (by omega)
   refine (⟨b1.set _ x1,?_,?_,rfl,fun _ _ => ?_,fun _ _ => ?_,fun _ _ => ?_,fun _ _ => ?_,fun _ => ?_,fun c => absurd c (by decide),fun _ => ?_,fun _ => ?_,fun c => absurd c (by decide),
    .inr (.inr ⟨z,rfl,by decide,by decide,by decide,by decide,by omega,by omega,fun c => absurd c (by decide),fun c => absurd c (by decide),fun c => absurd c (by decide),fun c => absurd c (by decide),fun c => absurd c (by decide),fun _ => ?_⟩)⟩:R100 ds 6 (q.set (8 + (q.getD 6 0).toNat) x) (q.set (8 + (q.getD 6 0).toNat) x) [z])
   · rw [E 0 (by omega)];exact up
   · rw [E 1 (by omega)];exact wd
   · rw [E 2 (by omega),E 0 (by omega)];exact fr (by decide) (by decide)
   · rw [g3];exact hx
   · rw [g3,E 4 (by omega)];exact sr (by decide) (by decide)
   · rw [g3,E 5 (by omega)];exact hm
   · rw [g6,E 5 (by omega)];exact hj
   · rw [g3,g6];exact fun j hj' => by rw [E _ (by omega),E _ (by omega)];exact k5 (.inl rfl) j hj'
   · rw [g3,g6,Qd (by omega)];exact y5 rfl
   · rw [g3,g6];exact hz
 · rw [if_neg (by decide)] at eq
   subst eq;have e:∀ own,nHlp own 6 q x = hWrs ((q.set (12 + (q.getD 6 0).toNat) x).set 6 (q.getD 6 0 + 1)) := fun own => rfl;rw [e,e];have hx := hd (by decide) (by decide)
   have hm := mn (by decide) (by decide)
   have hl := (hds.at hx).len;have hj := j5 (.inr (.inl rfl));have hkn := k5 (.inr rfl);have hk6 := k6 rfl;have hxx := y6 rfl;have E:∀ j,j ≠ 12 + (q.getD 6 0).toNat -> j ≠ 6 -> ((q.set (12 + (q.getD 6 0).toNat) x).set 6 (q.getD 6 0 + 1)).getD j 0 = q.getD j 0 := fun j c1 c2 => by rw [getD_set_ne' (fun c => c2 c.symm),getD_set_ne' (fun c => c1 c.symm)]
   have g6:((q.set (12 + (q.getD 6 0).toNat) x).set 6 (q.getD 6 0 + 1)).getD 6 0 = q.getD 6 0 + 1 := Qd (by rw [List.length_set];omega)
   have g3 := E 3 (by omega) (by decide)
   refine QnS hds ⟨⟨(b1.set _ x1).set 6 (by unfold bigW;omega),?_,?_,?_,?_⟩,?_,?_,?_⟩ ?_
   · rw [E 0 (by omega) (by decide)];exact up
   · rw [E 1 (by omega) (by decide)];exact wd
   · rw [E 2 (by omega) (by decide),E 0 (by omega) (by decide)];exact fr (by decide) (by decide)
   · rw [g3];exact hx
   · rw [g3,E 4 (by omega) (by decide)];exact sr (by decide) (by decide)
   · rw [g3,E 5 (by omega) (by decide)];exact hm
   · rw [g3,g6];omega
   · rw [g3,g6];intro j hj';rw [E (8 + j) (by omega) (by omega)]
     by_cases c:j = (q.getD 6 0).toNat
     · subst c;refine ⟨hk6,?_⟩;rw [getD_set_ne' (by omega),Qd (by omega)]
       exact hxx
     · rw [E (12 + j) (by omega) (by omega)]
       exact hkn j (by omega)
 · rw [if_neg (by decide)] at eq
   subst eq;have e:∀ own,nHlp own 7 q x = if x = 0 then hHds (q.set 6 0) else hPut (q.set 6 0) x := fun own => rfl
   rw [e,e];have hx := hd (by decide) (by decide)
   have hm := mn (by decide) (by decide)
   have hl := (hds.at hx).len;have h9 := j9 (by decide) (by decide)
   have hW0:W100 ds (q.set 6 0) := by
    have E:∀ j,j ≠ 6 -> (q.set 6 0).getD j 0 = q.getD j 0 := fun j c => getD_set_ne' (fun d => c d.symm);refine ⟨⟨⟨b1.set 6 (by decide),?_,?_,?_,?_⟩,?_,?_,?_⟩,?_⟩
    · rw [E 0 (by omega)];exact up
    · rw [E 1 (by omega)];exact wd
    · rw [E 2 (by omega),E 0 (by omega)];exact fr (by decide) (by decide)
    · rw [E 3 (by omega)];exact hx
    · rw [E 3 (by omega),E 4 (by omega)];exact sr (by decide) (by decide)
    · rw [E 3 (by omega),E 5 (by omega)];exact hm
    · rw [E 3 (by omega),Qd (by omega)];omega
    · rw [E 3 (by omega)];exact (k7 (by decide) (by decide)).same fun i hi => E i (by omega)
   split
   · exact QnU hds hW0
   · exact QnV hds hW0 (Qd (by omega)) (j := 0) (by rw [List.set_set]) (by decide) ⟨x0,x1⟩
 · rw [if_neg (by decide)] at eq
   subst eq;have e:∀ own,nHlp own 8 q x = if q.getD 4 0 < plc x then hDec q 2 else hHds (q.set 6 (q.getD 6 0 + 1)) := fun own => rfl
   rw [e,e];have hj := j5 (by omega)
   have hm := mn (by decide) (by decide)
   have hW:W100 ds q := ⟨⟨⟨b1,up,wd,fr (by decide) (by decide),hd (by decide) (by decide)⟩,sr (by decide) (by decide),hm,by omega⟩,k7 (by decide) (by decide)⟩
   split
   · exact QnT hds hW (.inr rfl)
   · exact QnU hds (hW.set6 (by omega) (by omega) (hds.at hW.hd).len)
 · rw [if_neg (by decide)] at eq
   subst eq;have e:∀ own,nHlp own 9 q x = hOf 10 q 1 := fun own => rfl;rw [e,e];have hx := hd (by decide) (by decide)
   have hm := mn (by decide) (by decide)
   have hc := ZT (f := 1) hs hx (by omega) (by omega)
   have hx' := hx;unfold OkH at hx';refine .act rfl rfl rfl rfl (atLd (by omega) (by omega)) fun z hz => ?_
   have hz := (hz.ty rfl).t7 (q.getD 3 0 - 256) (by omega) (by omega) hc
   refine (⟨b1,up,wd,rfl,fun _ _ => fr (by decide) (by decide),fun _ _ => hx,fun _ _ => sr (by decide) (by decide),fun _ _ => hm,fun c => absurd c (by decide),fun _ _ => j9 (by decide) (by decide),fun c => absurd c (by decide),fun c => absurd c (by decide),fun _ _ => k7 (by decide) (by decide),
    .inr (.inr ⟨z,rfl,by decide,by decide,by decide,by decide,by omega,by omega,fun c => absurd c (by decide),fun c => absurd c (by decide),fun c => absurd c (by decide),fun c => absurd c (by decide),fun c => absurd c (by decide),fun c => absurd c (by decide)⟩)⟩:R100 ds 10 q q [z])
 · rw [if_neg (by decide)] at eq
   subst eq;have e1:nHlp false 10 q x = hPut (q.set 6 0) x := rfl;have e2:nHlp true 10 q x = hPut q x := rfl;rw [e1,e2];have hx := hd (by decide) (by decide)
   have hm := mn (by decide) (by decide)
   have h9 := j9 (by decide) (by decide)
   have hl := (hds.at hx).len
   have hW0:W100 ds (q.set 6 0) := by
    have E:∀ j,j ≠ 6 -> (q.set 6 0).getD j 0 = q.getD j 0 := fun j c => getD_set_ne' (fun d => c d.symm);refine ⟨⟨⟨b1.set 6 (by decide),?_,?_,?_,?_⟩,?_,?_,?_⟩,?_⟩
    · rw [E 0 (by omega)];exact up
    · rw [E 1 (by omega)];exact wd
    · rw [E 2 (by omega),E 0 (by omega)];exact fr (by decide) (by decide)
    · rw [E 3 (by omega)];exact hx
    · rw [E 3 (by omega),E 4 (by omega)];exact sr (by decide) (by decide)
    · rw [E 3 (by omega),E 5 (by omega)];exact hm
    · rw [E 3 (by omega),Qd (by omega)];omega
    · rw [E 3 (by omega)];exact (k7 (by decide) (by decide)).same fun i hi => E i (by omega)
   refine QnV hds hW0 (Qd (by omega)) (j := q.getD 6 0) ?_ (by omega) ⟨x0,x1⟩
   rw [List.set_set];apply List.ext_getElem
   · rw [List.length_set]
   · intro i i1 i2;rw [List.getElem_set]
     split
     · rename_i c;subst c;simp [i1]
     · rfl
 · rw [if_pos (.inl rfl)] at eq;obtain ⟨⟨j,rfl,hj⟩,h60⟩ := eq;have e:∀ own r,nHlp own 11 r x = naSy 100 12 r := fun own r => rfl;rw [e,e];refine .act rfl rfl rfl rfl ⟨rfl,Int.le_refl _,by show (0:Int) <= bigW;decide,.inr (.inr (.inr ⟨rfl,rfl,rfl,rfl,rfl,rfl⟩))⟩ fun z hz => ?_
   rcases hz with ⟨c,_⟩ | ⟨c,_⟩ | ⟨_,rfl⟩
   · exact absurd c (by show ((5:Int) ≠ 0);decide)
   · exact absurd c (by show ((5:Int) ≠ 2);decide)
   · refine (⟨b1,up,wd,?_,fun _ _ => fr (by decide) (by decide),fun _ _ => hd (by decide) (by decide),fun _ _ => sr (by decide) (by decide),fun _ _ => mn (by decide) (by decide),fun c => absurd c (by decide),fun _ c => absurd c (by decide),fun c => absurd c (by decide),fun c => absurd c (by decide),fun _ _ => k7 (by decide) (by decide),
      .inr (.inr ⟨0,rfl,by decide,by decide,by decide,by decide,by decide,by decide,fun c => absurd c (by decide),fun c => absurd c (by decide),fun c => absurd c (by decide),fun c => absurd c (by decide),fun c => absurd c (by decide),fun c => absurd c (by decide)⟩)⟩:R100 ds 12 r (r.set 6 j) [0])
     rw [if_pos (.inr rfl)];exact ⟨⟨j,rfl,hj⟩,h60⟩
 · rw [if_pos (.inr rfl)] at eq;obtain ⟨⟨j,rfl,hj⟩,h60⟩ := eq;have e1:nHlp false 12 r x = hApp r := rfl;have e2:nHlp true 12 (r.set 6 j) x = hApp ((r.set 6 j).set 6 0) := rfl
   have e3:(r.set 6 j).set 6 0 = r := by
    rw [List.set_set];apply List.ext_getElem
    · rw [List.length_set]
    · intro i i1 i2;rw [List.getElem_set]
      split
      · rename_i c;subst c;rw [<- h60];simp [i2]
      · rfl
   rw [e1,e2,e3];exact QnW hds ⟨⟨⟨b1,up,wd,fr (by decide) (by decide),hd (by decide) (by decide)⟩,sr (by decide) (by decide),mn (by decide) (by decide),by omega⟩,k7 (by decide) (by decide)⟩
 · rw [if_neg (by decide)] at eq
   subst eq;have e:∀ own,nHlp own 15 q x = hBeg q := fun own => rfl;rw [e,e];exact QeS hs b1 up wd
inductive HRel (ds:List HD) (n:Int):List Qe -> List Qe -> List Int -> Prop
 | ins {k:Int} {r got:List Int} (h:R68 ds k r got):HRel ds n [⟨68,k,r⟩] [⟨68,k,r⟩] got
 | hlp {k:Int} {r q got:List Int} (h:R100 ds k r q got):HRel ds n [⟨100,k,r⟩] [⟨100,k,q⟩] got
 | inr {k:Int} {r s got:List Int} (h:R100 ds 13 r r []) (h2:R73 k s got):HRel ds n [⟨100,13,r⟩,⟨73,k,s⟩] [⟨100,13,r⟩,⟨73,k,s⟩] got
 | app {k:Int} {r s got:List Int} (h:R100 ds 14 r r []) (h2:R76 n k s got):HRel ds n [⟨100,14,r⟩,⟨76,k,s⟩] [⟨100,14,r⟩,⟨76,k,s⟩] got
structure GoH (ds:List HD) (n:Int) (m:Nat) (st st':List Qe) (got:List Int) (e e':Bool):Prop where
 a1:OkN (nHp false) (okHp false) m st got
 a2:OkN (nHp true) (okHp true) m st' got
 is:(goN (nHp true) m st' got e').is = (goN (nHp false) m st got e).is
 ac:(goN (nHp false) m st got e).is = true -> (goN (nHp true) m st' got e').a = (goN (nHp false) m st got e).a /\ AtH ds n (goN (nHp false) m st got e).a /\
  ((goN (nHp false) m st got e).st.length <= 6 /\ (goN (nHp false) m st got e).got.length <= 96) /\ ((goN (nHp true) m st' got e').st.length <= 6 /\ (goN (nHp true) m st' got e').got.length <= 96) /\
  ∀ x,RsH ds n (goN (nHp false) m st got e).a x -> HRel ds n (goN (nHp false) m st got e).st (goN (nHp true) m st' got e').st [x]
 en:(goN (nHp false) m st got e).is = false -> (goN (nHp false) m st got e).st = [] /\ (goN (nHp true) m st' got e').st = [] /\ (goN (nHp true) m st' got e').got = (goN (nHp false) m st got e).got /\
  ((goN (nHp false) m st got e).got = [] \/ EndI (goN (nHp false) m st got e).got)
theorem QE (f g:Qe):topF [f,g] = g := rfl
theorem Qq (f:Qe):topF [f] = f := rfl
theorem QeT {nx:Qe -> List Int -> NA} {m:Nat} {st:List Qe} {got:List Int} {e:Bool} (h0:st ≠ []) (h:(nx (topF st) got).a.kind < 6):goN nx (m + 1) st got e = ⟨st.dropLast ++ [(nx (topF st) got).f],got,e,(nx (topF st) got).a,(nx (topF st) got).fl,true⟩ := by
 rw [goN,if_neg h0,if_pos h];unfold tkSt;rw [if_pos h]
theorem KG {nx:Qe -> List Int -> NA} {m:Nat} {st:List Qe} {got:List Int} {e:Bool} (h0:st ≠ []) (h:(nx (topF st) got).a.kind = 6):goN nx (m + 1) st got e = goN nx m (st.dropLast ++ [(nx (topF st) got).f,calF (nx (topF st) got).a]) [] true := by
 rw [goN,if_neg h0,if_neg (by omega)]
 unfold tkSt Vb tkFl;rw [if_neg (by omega),if_pos h,if_neg (by omega),if_pos h,if_neg (by omega),decide_eq_true h]
theorem Jc {nx:Qe -> List Int -> NA} {m:Nat} {st:List Qe} {got:List Int} {e:Bool} (h0:st ≠ []) (h:(nx (topF st) got).a.kind = 7):goN nx (m + 1) st got e = goN nx m st.dropLast (nx (topF st) got).a.args false := by
 rw [goN,if_neg h0,if_neg (by omega)]
 unfold tkSt Vb tkFl;rw [if_neg (by omega),if_neg (by omega),if_neg (by omega),if_neg (by omega),if_neg (by omega),decide_eq_false (by omega)]
theorem QnX {nx:Qe -> List Int -> NA} {ok:Qe -> List Int -> Prop} {m:Nat} {st:List Qe} {got:List Int} (h0:st ≠ []) (hl:st.length <= 6) (h1:got.length <= 96) (h2:ok (topF st) got) (h3:mayN (nx (topF st) got).a = true) (h4:0 <= (nx (topF st) got).a.kind /\ (nx (topF st) got).a.kind < 6):OkN nx ok (m + 1) st got :=
 .inr ⟨h0,hl,h1,h2,h3,h4.1,by omega,.inl h4.2⟩
theorem QgP {nx:Qe -> List Int -> NA} {ok:Qe -> List Int -> Prop} {m:Nat} {st:List Qe} {got:List Int} (h0:st ≠ []) (hl:st.length < 6) (h1:got.length <= 96) (h2:ok (topF st) got) (h3:mayN (nx (topF st) got).a = true) (h4:(nx (topF st) got).a.kind = 6) (h5:OkN nx ok m (st.dropLast ++ [(nx (topF st) got).f,calF (nx (topF st) got).a]) []):OkN nx ok (m + 1) st got :=
 .inr ⟨h0,by omega,h1,h2,h3,by omega,by omega,.inr ⟨fun _ => hl,by
  unfold tkSt Vb;rw [if_neg (by omega),if_pos h4,if_neg (by omega),if_pos h4]
  exact h5⟩⟩
theorem Qb6 {nx:Qe -> List Int -> NA} {ok:Qe -> List Int -> Prop} {m:Nat} {st:List Qe} {got:List Int} (h0:st ≠ []) (hl:st.length <= 6) (h1:got.length <= 96) (h2:ok (topF st) got) (h3:mayN (nx (topF st) got).a = true) (h4:(nx (topF st) got).a.kind = 7) (h5:OkN nx ok m st.dropLast (nx (topF st) got).a.args):OkN nx ok (m + 1) st got :=
 .inr ⟨h0,hl,h1,h2,h3,by omega,by omega,.inr ⟨fun q => by omega,by
  unfold tkSt Vb;rw [if_neg (by omega),if_neg (by omega),if_neg (by omega),if_neg (by omega)]
  exact h5⟩⟩
theorem AtH.may {ds:List HD} {n:Int} {A:Qf} (h:AtH ds n A):mayN A = true /\ 0 <= A.kind /\ A.kind < 6 := by
 obtain ⟨h1,h2,h3,h6⟩ := h;unfold bigW at *;rcases h6 with ⟨k,t,b,v,a0,a1⟩ | ⟨k,t,a0,a1,b0,b1,v0,v1,_⟩ | ⟨k,g,v,a0,a1,b0,b1,t0,t1⟩ | ⟨k,g,t,a,b,v⟩
 · refine ⟨decide_eq_true ?_,by omega,by omega⟩
   rw [h1,k,t,b,v];exact MayA.k0.2 ⟨⟨by decide,by decide,by decide,by decide,by omega,by omega,by decide,by decide,by omega,by omega⟩,rfl,rfl,rfl,rfl⟩
 · refine ⟨decide_eq_true ?_,by omega,by omega⟩
   rw [h1,k,t];exact MayA.k2.2 ⟨⟨by omega,by omega,by omega,by omega,by omega,by omega,by decide,by decide,by omega,by omega⟩,rfl,rfl⟩
 · refine ⟨decide_eq_true ?_,by omega,by omega⟩
   rw [h1,k,g,v];exact MayA.k4.2 ⟨⟨by omega,by omega,by decide,by decide,by decide,by decide,by decide,t1,by omega,by omega⟩,rfl,rfl,rfl⟩
 · refine ⟨decide_eq_true ?_,by omega,by omega⟩
   rw [h1,k,g,t,a,b,v];exact MayA.k5.2 ⟨⟨by decide,by decide,by decide,by decide,by decide,by decide,by decide,by decide,by decide,by decide⟩,rfl,rfl,rfl,rfl,rfl,rfl⟩
theorem Qb7 {ds:List HD} {n:Int} {m:Nat} {st st':List Qe} {got:List Int} {e e':Bool} (h0:st ≠ []) (h0':st' ≠ []) (hl:st.length <= 6) (hl':st'.length <= 6) (hg:got.length <= 96) (ok1:okHp false (topF st) got) (ok2:okHp true (topF st') got)
 (ha:(nHp true (topF st') got).a = (nHp false (topF st) got).a) (hA:AtH ds n (nHp false (topF st) got).a)
 (hr:∀ x,RsH ds n (nHp false (topF st) got).a x -> HRel ds n (st.dropLast ++ [(nHp false (topF st) got).f]) (st'.dropLast ++ [(nHp true (topF st') got).f]) [x]):GoH ds n (m + 1) st st' got e e' := by
 obtain ⟨hm,k0,k6⟩ := hA.may;have e1 := QeT (m := m) (e := e) h0 k6;have e2 := QeT (nx := nHp true) (st := st') (got := got) (m := m) (e := e') h0' (by rw [ha];exact k6)
 have l1:1 <= st.length := List.length_pos_iff.2 h0;have l2:1 <= st'.length := List.length_pos_iff.2 h0';refine ⟨QnX h0 hl hg ok1 hm ⟨k0,k6⟩,QnX h0' hl' hg ok2 (by rw [ha];exact hm) (by rw [ha];exact ⟨k0,k6⟩),by rw [e1,e2],fun _ => ?_,fun q => by rw [e1] at q;cases q⟩
 rw [e1,e2];refine ⟨ha,hA,⟨?_,hg⟩,⟨?_,hg⟩,hr⟩
 · simp only [List.length_append,List.length_dropLast,List.length_cons,List.length_nil];omega
 · simp only [List.length_append,List.length_dropLast,List.length_cons,List.length_nil];omega
theorem mayE {l:List Int} (h:l.length <= 96):mayN ⟨7,0,0,0,0,[],l⟩ = true := decide_eq_true (by
 show MayA 7 0 0 0 0 ([]:List UInt8).length l.length;unfold MayA;simp;omega)
theorem mayC {p:Int} {l:List Int} (hp:0 <= p /\ p <= 127) (h:l.length <= 96):mayN ⟨6,p,0,0,0,[],l⟩ = true := decide_eq_true (by
 show MayA 6 p 0 0 0 ([]:List UInt8).length l.length;unfold MayA;simp;omega)
theorem QeU {nx:Qe -> List Int -> NA} {m:Nat} {got:List Int} {e:Bool}:goN nx (m + 1) [] got e = ⟨[],got,e,act0,true,false⟩ := by rw [goN,if_pos rfl]
theorem QnY {ds:List HD} {n:Int} {m:Nat} {f f':Qe} {got:List Int} {e e':Bool} {l:List Int} (hg:got.length <= 96) (ok1:okHp false f got) (ok2:okHp true f' got)
 (h1:(nHp false f got).a = ⟨7,0,0,0,0,[],l⟩) (h2:(nHp true f' got).a = ⟨7,0,0,0,0,[],l⟩) (hl:l = [] \/ EndI l):GoH ds n (m + 2) [f] [f'] got e e' := by
 have ll:l.length <= 96 := by
  rcases hl with rfl | ⟨t,rfl,_⟩ | ⟨x,rfl⟩ <;> simp
 have e1 := Jc (nx := nHp false) (st := [f]) (got := got) (m := m + 1) (e := e) (by simp) (by rw [Qq,h1])
 have e2 := Jc (nx := nHp true) (st := [f']) (got := got) (m := m + 1) (e := e') (by simp) (by rw [Qq,h2])
 rw [Qq,h1,show [f].dropLast = [] from rfl,QeU] at e1;rw [Qq,h2,show [f'].dropLast = [] from rfl,QeU] at e2;refine ⟨Qb6 (by simp) (by simp) hg ok1 (by rw [Qq,h1];exact mayE ll) (by rw [Qq,h1]) (.inl rfl),Qb6 (by simp) (by simp) hg ok2 (by rw [Qq,h2];exact mayE ll) (by rw [Qq,h2]) (.inl rfl),by rw [e1,e2],fun q => (by rw [e1] at q;cases q),fun _ => ?_⟩
 rw [e1,e2];exact ⟨rfl,rfl,rfl,hl⟩
theorem QgQ {ds:List HD} {n:Int} {m:Nat} {f f':Qe} {got:List Int} {e e':Bool} {g:Qe} {p:Int} {l:List Int} (hg:got.length <= 96) (ok1:okHp false f got) (ok2:okHp true f' got)
 (h1:nHp false f got = naCl 100 g.at' g.r p l) (h2:nHp true f' got = naCl 100 g.at' g.r p l) (hgp:g.prog = 100) (hp:0 <= p /\ p <= 127) (hl:l.length <= 96) (h:∀ e e',GoH ds n m [g,⟨p,0,Za l⟩] [g,⟨p,0,Za l⟩] [] e e'):GoH ds n (m + 1) [f] [f'] got e e' := by
 have hG:(⟨100,g.at',g.r⟩:Qe) = g := by rw [<- hgp]
 have e1 := KG (nx := nHp false) (st := [f]) (got := got) (m := m) (e := e) (by simp) (by rw [Qq,h1];rfl)
 have e2 := KG (nx := nHp true) (st := [f']) (got := got) (m := m) (e := e') (by simp) (by rw [Qq,h2];rfl)
 rw [Qq,h1] at e1;rw [Qq,h2] at e2;have t1:[f].dropLast ++ [(naCl 100 g.at' g.r p l).f,calF (naCl 100 g.at' g.r p l).a] = [g,⟨p,0,Za l⟩] := by show [(⟨100,g.at',g.r⟩:Qe),_] = _;rw [hG];rfl
 have t2:[f'].dropLast ++ [(naCl 100 g.at' g.r p l).f,calF (naCl 100 g.at' g.r p l).a] = [g,⟨p,0,Za l⟩] := t1;rw [t1] at e1;rw [t2] at e2;obtain ⟨a1,a2,is,ac,en⟩ := h true true;refine ⟨QgP (by simp) (by simp) hg ok1 (by rw [Qq,h1];exact mayC hp hl) (by rw [Qq,h1];rfl) (by rw [Qq,h1,t1];exact a1),QgP (by simp) (by simp) hg ok2 (by rw [Qq,h2];exact mayC hp hl) (by rw [Qq,h2];rfl) (by rw [Qq,h2,t2];exact a2),by rw [e1,e2];exact is,?_,?_⟩
 · rw [e1,e2];exact ac
 · rw [e1,e2];intro q;exact en q
theorem QnZ {ds:List HD} {n:Int} {m:Nat} {f f' g g':Qe} {got:List Int} {e e':Bool} (hg:got.length <= 96) (ok1:okHp false g got) (ok2:okHp true g' got)
 (h1:(nHp false g got).a = ⟨7,0,0,0,0,[],[]⟩) (h2:(nHp true g' got).a = ⟨7,0,0,0,0,[],[]⟩) (h:∀ e e',GoH ds n m [f] [f'] [] e e'):GoH ds n (m + 1) [f,g] [f',g'] got e e' := by
 have e1 := Jc (nx := nHp false) (st := [f,g]) (got := got) (m := m) (e := e) (by simp) (by rw [QE,h1])
 have e2 := Jc (nx := nHp true) (st := [f',g']) (got := got) (m := m) (e := e') (by simp) (by rw [QE,h2])
 rw [QE,h1,show [f,g].dropLast = [f] from rfl] at e1;rw [QE,h2,show [f',g'].dropLast = [f'] from rfl] at e2;obtain ⟨a1,a2,is,ac,en⟩ := h false false;refine ⟨Qb6 (by simp) (by simp) hg ok1 (by rw [QE,h1];exact mayE (by simp)) (by rw [QE,h1]) (by rw [QE,h1];exact a1),Qb6 (by simp) (by simp) hg ok2 (by rw [QE,h2];exact mayE (by simp)) (by rw [QE,h2]) (by rw [QE,h2];exact a2),by rw [e1,e2];exact is,?_,?_⟩
 · rw [e1,e2];exact ac
 · rw [e1,e2];intro q;exact en q
theorem QeV {n:Int} {A:Qf} (h:AtS n A) {ds:List HD} (hs:ds.length <= 16) (h0:0 <= n) (hn:n <= 900000):AtH ds n A /\ ∀ x,RsH ds n A x -> RsS n A x := by
 obtain ⟨h1,h2,h3,h4,h5,h6⟩ := h;rcases h6 with ⟨k,b,v⟩ | ⟨k,b0,b1,hv⟩
 · exact ⟨⟨h3,by rw [h1];decide,by rw [h1];decide,.inl ⟨k,h2,b,v,by omega,by omega⟩⟩,fun x hx => .inl ⟨k,(hx.ty k).t5 h4 h5⟩⟩
 · have hb := hv.big h4 (by omega)
   refine ⟨⟨h3,by rw [h1];decide,by rw [h1];decide,.inr (.inl ⟨k,h2,by omega,by omega,by omega,b1,hb.1,hb.2,QuA hs ⟨h4,h5⟩ hv⟩)⟩,fun x hx => .inr ⟨k,?_⟩⟩
   rcases hx with ⟨c,_⟩ | ⟨_,c⟩ | ⟨c,_⟩
   · omega
   · exact c
   · omega
theorem Qb8 {n k:Int} {r got:List Int} (h:R76 n k r got) (hn:n <= 1000000) (own:Bool):okHp own ⟨76,k,r⟩ got := by
 obtain ⟨h1,h2,h3⟩ := h.ok hn own;rcases h3 with ⟨_,h3⟩ | ⟨c,_⟩
 · exact ⟨h1,h2,.inr (.inr (.inl ⟨rfl,h3⟩))⟩
 · exact absurd c (by show ((76:Int) ≠ 77);decide)
theorem R100.ok {ds:List HD} (hds:OkDs ds) {k:Int} {r q got:List Int} (h:R100 ds k r q got):okHp false ⟨100,k,r⟩ got /\ okHp true ⟨100,k,q⟩ got := by
 obtain ⟨b1,up,wd,eq,fr,hd,sr,mn,j5,j9,k5,k6,k7,gt⟩ := h;have hl:3 <= k -> k <= 14 -> (hD ds (r.getD 3 0)).ws.length <= 4 := fun c1 c2 => (hds.at (hd c1 c2)).len;have hh:3 <= k -> k <= 14 -> 256 <= r.getD 3 0 /\ r.getD 3 0 <= 300 := fun c1 c2 => by have := hd c1 c2;have := hds.1;unfold OkH at *;omega
 have hw:7 <= k -> k <= 14 -> okWs (hMany r) r := fun c1 c2 j hj => by
  rw [JH (mn (by omega) c2) (hl (by omega) c2)] at hj
  rw [(k7 c1 c2 j hj).1];have := (hds.at (hd (by omega) c2)).wr hj
  omega
 have main:∀ own,(k = 12 -> own = false -> r.getD 6 0 = 0) -> Quo own k r got := fun own h12 => by
  refine ⟨wd.1,wd.2,?_⟩;rcases gt with ⟨rfl,rfl⟩ | ⟨hk,rfl⟩ | ⟨x,rfl,a1,a15,a13,a14,x0,x1,y1,y2,y3,y4,y5,y6⟩
  · exact .inl ⟨rfl,rfl⟩
  · refine .inr (.inl ⟨hk,rfl,?_⟩);have f1 := fr (by omega) (by omega)
    have f2 := mn (by omega) (by omega)
    have f3 := hl (by omega) (by omega)
    have f4 := j5 (by omega)
    exact ⟨f1.1,by omega,by omega,by omega,f4.1,f4.2,hw (by omega) (by omega)⟩
  · refine .inr (.inr ⟨x,rfl,a1,a15,a13,a14,x0,x1,y1,fun c1 c2 => ?_,fun c1 c2 => ?_,fun c => ?_,fun c1 c2 => ?_,fun c => ?_,h12,fun c1 c2 => hw c1 c2⟩)
    · have := fr c1 c2;omega
    · have := hh c1 c2;unfold bigW;omega
    · have := y4 c;have := hl (by omega) (by omega);omega
    · have := mn c1 c2;have := hl (by omega) (by omega);omega
    · exact j5 (by omega)
 refine ⟨⟨b1.1,b1.2,.inr (.inr (.inr ⟨rfl,main false fun c _ => ?_⟩))⟩,?_⟩
 · rw [if_pos (.inr c)] at eq;exact eq.2
 · by_cases c:k = 11 \/ k = 12
   · rw [if_pos c] at eq;obtain ⟨⟨j,rfl,hj⟩,_⟩ := eq;have b2 := b1.set 6 hj;refine ⟨b2.1,b2.2,.inr (.inr (.inr ⟨rfl,?_⟩))⟩;have E:∀ i,i ≠ 6 -> (r.set 6 j).getD i 0 = r.getD i 0 := fun i d => getD_set_ne' (fun d' => d d'.symm);have hM:hMany (r.set 6 j) = hMany r := by unfold hMany;rw [E 5 (by decide)]
     have hm := main true (fun _ d => by cases d)
     unfold Quo at hm ⊢;simp only;rw [E 1 (by decide),E 2 (by decide),E 3 (by decide),E 5 (by decide),hM]
     have hW:okWs (hMany r) r -> okWs (hMany r) (r.set 6 j) := fun d i hi => by rw [E _ (by omega)];exact d i hi
     obtain ⟨m1,m2,m3 | m3 | m3⟩ := hm
     · exact ⟨m1,m2,.inl m3⟩
     · omega
     · obtain ⟨x,e,d1,d2,d3,d4,d5,d6,d7,d8,d9,d10,d11,d12,d13,d14⟩ := m3;exact ⟨m1,m2,.inr (.inr ⟨x,e,d1,d2,d3,d4,d5,d6,d7,d8,d9,d10,d11,fun q => by omega,fun _ q => by (cases q),fun q1 q2 => hW (d14 q1 q2)⟩)⟩
   · rw [if_neg c] at eq;subst eq;exact ⟨b1.1,b1.2,.inr (.inr (.inr ⟨rfl,main true fun _ d => by cases d⟩))⟩
theorem R68.got {ds:List HD} {k:Int} {r got:List Int} (h:R68 ds k r got):got.length <= 96 := by
 rcases h.2.2.2 with ⟨_,rfl⟩ | ⟨x,rfl,_⟩ <;> simp
theorem R100.got {ds:List HD} {k:Int} {r q got:List Int} (h:R100 ds k r q got):got.length <= 96 := by
 rcases h.gt with ⟨_,rfl⟩ | ⟨_,rfl⟩ | ⟨x,rfl,_⟩ <;> simp
theorem R73.got {k:Int} {r got:List Int} (h:R73 k r got):got.length <= 96 := by
 rcases h.2.2.2 with ⟨_,rfl⟩ | ⟨x,rfl,_⟩ <;> simp
theorem R76.got {n k:Int} {r got:List Int} (h:R76 n k r got):got.length <= 96 := by
 rcases h.2.2 with ⟨_,rfl⟩ | ⟨x,rfl,_⟩ <;> simp
theorem Qn0 {ds:List HD} {n:Int} (hds:OkDs ds) {k:Int} {r s got:List Int} (h:R100 ds 13 r r []) (h2:R73 k s got) (hk:¬ (nInr false k s (got.headD 0)).a = ⟨7,0,0,0,0,[],[]⟩) (m:Nat) (e e':Bool):GoH ds n (m + 1) [⟨100,13,r⟩,⟨73,k,s⟩] [⟨100,13,r⟩,⟨73,k,s⟩] got e e' := by
 rcases inr_step (n := n) h2 hds.1 with ⟨c,_⟩ | ⟨q1,q2,q3,q4⟩
 · exact absurd c hk
 · have e1:∀ own,nHp own ⟨73,k,s⟩ got = nInr own k s (got.headD 0) := fun own => rfl;refine Qb7 (by simp) (by simp) (by simp) (by simp) h2.got (h2.ok false) (h2.ok true) (by rw [QE,e1,e1,q1]) (by rw [QE,e1];exact q2) fun x hx => ?_
   rw [QE,e1] at hx;rw [QE,e1,e1,q1];have hF:(nInr false k s (got.headD 0)).f = ⟨73,(nInr false k s (got.headD 0)).f.at',(nInr false k s (got.headD 0)).f.r⟩ := by rw [<- q3]
   show HRel ds n [⟨100,13,r⟩,(nInr false k s (got.headD 0)).f] [⟨100,13,r⟩,(nInr false k s (got.headD 0)).f] [x];rw [hF];exact .inr h (q4 x hx)
theorem Qn1 {ds:List HD} {n:Int} (h0:0 <= n) (hn:n <= 900000) (hds:OkDs ds) {k:Int} {r s got:List Int} (h:R100 ds 14 r r []) (h2:R76 n k s got) (hk:(nApp k s (got.headD 0)).a.kind ≠ 7) (m:Nat) (e e':Bool):GoH ds n (m + 1) [⟨100,14,r⟩,⟨76,k,s⟩] [⟨100,14,r⟩,⟨76,k,s⟩] got e e' := by
 rcases (app_step h2 h0 (by omega)).1 with ⟨c,_⟩ | ⟨q2,_,q3,q4⟩
 · exact absurd c hk
 · have e1:∀ own,nHp own ⟨76,k,s⟩ got = nApp k s (got.headD 0) := fun own => rfl;obtain ⟨qa,qb⟩ := QeV q2 hds.1 h0 hn;refine Qb7 (by simp) (by simp) (by simp) (by simp) h2.got (Qb8 h2 (by omega) false) (Qb8 h2 (by omega) true) (by rw [QE,e1,e1]) (by rw [QE,e1];exact qa) fun x hx => ?_
   rw [QE,e1] at hx;rw [QE,e1,e1];have hF:(nApp k s (got.headD 0)).f = ⟨76,(nApp k s (got.headD 0)).f.at',(nApp k s (got.headD 0)).f.r⟩ := by rw [<- q3]
   show HRel ds n [⟨100,14,r⟩,(nApp k s (got.headD 0)).f] [⟨100,14,r⟩,(nApp k s (got.headD 0)).f] [x];rw [hF];exact .app h (q4 x (qb x hx))
theorem QeW {ds:List HD} {n:Int} (h0:0 <= n) (hn:n <= 900000) (hds:OkDs ds) {k:Int} {r q got:List Int} (h:R100 ds k r q got) (m:Nat) (e e':Bool):GoH ds n (m + 2) [⟨100,k,r⟩] [⟨100,k,q⟩] got e e' := by
 obtain ⟨ok1,ok2⟩ := h.ok hds;have e1:∀ own r,nHp own ⟨100,k,r⟩ got = nHlp own k r (got.headD 0) := fun own r => rfl;have hs := QgO (n := n) h hds;rw [<- e1,<- e1] at hs;generalize hN:nHp false ⟨100,k,r⟩ got = N at hs;generalize hM:nHp true ⟨100,k,q⟩ got = M at hs;cases hs with
 | fin h1 h2 => exact QnY h.got ok1 ok2 (by rw [hN];exact h1) (by rw [hM];exact h2) (.inl rfl)
 | act h1 h2 h3 h4 h5 h6 =>
  refine Qb7 (m := m + 1) (by simp) (by simp) (by simp) (by simp) h.got ok1 ok2 (by rw [Qq,Qq,hN,hM];exact h1) (by rw [Qq,hN];exact h5) fun x hx => ?_
  rw [Qq,hN] at hx;rw [Qq,Qq,hN,hM];have hF:N.f = ⟨100,N.f.at',N.f.r⟩ := by rw [<- h2]
  have hG:M.f = ⟨100,N.f.at',M.f.r⟩ := by rw [<- h3,<- h4]
  show HRel ds n [N.f] [M.f] [x];rw [hG,hF];exact .hlp (h6 x hx)
 | ins r' l h1 h2 h3 h4 h5 =>
  refine QgQ (g := ⟨100,13,r'⟩) (m := m + 1) h.got ok1 ok2 (by rw [hN];exact h1) (by rw [hM];exact h2) rfl (by decide) h5 fun e e' => Qn0 hds h3 h4 ?_ m e e'
  show ¬ (nInr false 0 (Za l) (([]:List Int).headD 0)).a = _;rcases inr_step (n := n) h4 hds.1 with ⟨_,_,c⟩ | ⟨_,c,_⟩
  · exact absurd rfl c
  · intro d;have := c.may;rw [d] at this;have := this.2.2;simp at this
 | app r' l h1 h2 h3 h4 h5 =>
  refine QgQ (g := ⟨100,14,r'⟩) (m := m + 1) h.got ok1 ok2 (by rw [hN];exact h1) (by rw [hM];exact h2) rfl (by decide) h5 fun e e' => Qn1 h0 hn hds h3 h4 ?_ m e e'
  show ((0:Int) ≠ 7)
  decide
theorem HRel.go {ds:List HD} {n:Int} (h0:0 <= n) (hn:n <= 900000) (hds:OkDs ds) {st st':List Qe} {got:List Int} (h:HRel ds n st st' got) (m:Nat) (e e':Bool):GoH ds n (m + 3) st st' got e e' := by
 cases h with
 | @ins k r got h =>
  have e1:∀ own,nHp own ⟨68,k,r⟩ got = nIns k r (got.headD 0) := fun own => rfl;rcases ins_step (n := n) h hds.1 with ⟨q1,q2,q3⟩ | ⟨q1,q2,q3⟩
  · have ha:(nIns k r (got.headD 0)).a = ⟨7,0,0,0,0,[],(nIns k r (got.headD 0)).a.args⟩ := congrArg NA.a q2;exact QnY (m := m + 1) h.got (h.ok hds.1 false) (h.ok hds.1 true) (by rw [e1];exact ha) (by rw [e1];exact ha) (.inr q3)
  · refine Qb7 (m := m + 2) (by simp) (by simp) (by simp) (by simp) h.got (h.ok hds.1 false) (h.ok hds.1 true) (by rw [Qq,e1,e1]) (by rw [Qq,e1];exact q1) fun x hx => ?_
    rw [Qq,e1] at hx;rw [Qq,e1,e1];have hF:(nIns k r (got.headD 0)).f = ⟨68,(nIns k r (got.headD 0)).f.at',(nIns k r (got.headD 0)).f.r⟩ := by rw [<- q2]
    show HRel ds n [(nIns k r (got.headD 0)).f] [(nIns k r (got.headD 0)).f] [x];rw [hF];exact .ins (q3 x hx)
 | hlp h => exact QeW h0 hn hds h (m + 1) e e'
 | @inr k r s got h h2 =>
  have e1:∀ own,nHp own ⟨73,k,s⟩ got = nInr own k s (got.headD 0) := fun own => rfl
  by_cases hk:(nInr false k s (got.headD 0)).a = ⟨7,0,0,0,0,[],[]⟩
  · rcases inr_step (n := n) h2 hds.1 with ⟨c1,c2,_⟩ | ⟨_,c,_⟩
    · exact QnZ (m := m + 2) h2.got (h2.ok false) (h2.ok true) (by rw [e1];exact c1) (by rw [e1];exact c2) fun e e' => QeW h0 hn hds h m e e'
    · have := c.may;rw [hk] at this;have := this.2.2;simp at this
  · exact Qn0 hds h h2 hk (m + 2) e e'
 | @app k r s got h h2 =>
  have e1:∀ own,nHp own ⟨76,k,s⟩ got = nApp k s (got.headD 0) := fun own => rfl
  by_cases hk:(nApp k s (got.headD 0)).a.kind = 7
  · obtain ⟨hs,he⟩ := app_step h2 h0 (by omega)
    have ha := he hk;rcases hs with ⟨_,c⟩ | ⟨c,_⟩
    · have hb:(nApp k s (got.headD 0)).a = ⟨7,0,0,0,0,[],[]⟩ := by rw [c];show (⟨7,0,0,0,0,[],(nApp k s (got.headD 0)).a.args⟩:Qf) = _;rw [ha]
      exact QnZ (m := m + 2) h2.got (Qb8 h2 (by omega) false) (Qb8 h2 (by omega) true) (by rw [e1];exact hb) (by rw [e1];exact hb) fun e e' => QeW h0 hn hds h m e e'
    · have := (QeV c hds.1 h0 hn).1.may;omega
  · exact Qn1 h0 hn hds h h2 hk (m + 2) e e'
theorem Qrd {n n' a v:Int} (h:TyS n a v) (hn:n <= n'):TyS n' a v := ⟨h.1,fun q => by have := h.2.1 q;omega,h.2.2.1,h.2.2.2⟩
theorem TyH.mono {ds:List HD} {n n' a v:Int} (h:TyH ds n a v) (hn:n <= n'):TyH ds n' a v := ⟨h.t0,h.t1,h.t2,h.t3,h.t4,fun q1 q2 => Qrd (h.t5 q1 q2) hn,h.t6,h.t7⟩
structure SH (ds:List HD) (n:Int) (cs:List Int):Prop where
 len:cs.length = 771
 ok:cellsOK cs = true
 ty:∀ a:Int,0 <= a -> a <= 770 -> TyH ds n a (cs.getD a.toNat 0)
theorem SH.mono {ds:List HD} {n n':Int} {cs:List Int} (h:SH ds n cs) (hn:n <= n'):SH ds n' cs := ⟨h.len,h.ok,fun a h1 h2 => (h.ty a h1 h2).mono hn⟩
def DOK (now sure:List Sector):Prop := diskOK now sure = true
theorem DOK.good {now sure:List Sector} (h:DOK now sure):goodL now = true /\ goodL sure = true := Qex h
theorem Zp {cs:List Int} (h:cellsOK cs = true) {i:Nat} {v:Int} (hv:-1152921504606846976 <= v /\ v <= 1152921504606846976):cellsOK (cs.set i v) = true := by
 simp only [cellsOK,Bool.and_eq_true,decide_eq_true_eq,List.length_set,List.all_eq_true] at h ⊢;refine ⟨h.1,fun x hx => ?_⟩;rcases List.mem_or_eq_of_mem_set hx with hx | rfl
 · exact h.2 x hx
 · simp only [QaJ,Bool.and_eq_true,decide_eq_true_eq];exact hv
theorem AtH.does {ds:List HD} {n:Int} {A:Qf} {cs:List Int} {now sure:List Sector} (h:AtH ds n A) (hc:SH ds n cs) (hd:DOK now sure) :
 Qiy cs now sure A /\ SH ds (n + 1) (doC5 cs A) /\ RsH ds n A (doG5 cs A) /\ DOK (doN5 now A) (doS5 now sure A) := by
 obtain ⟨h1,h2,h3,h6⟩ := h;have hl := hc.len;rcases h6 with ⟨k,t,b,v,a0,a1⟩ | ⟨k,t,a0,a1,b0,b1,v0,v1,ty⟩ | ⟨k,g,v,a0,a1,b0,b1,t0,t1⟩ | ⟨k,g,t,a,b,v⟩
 · have e1:doC5 cs A = cs := by
    unfold doC5;rw [if_pos (by omega),k];unfold doC4;rw [if_neg (by omega),if_neg (by omega)]
   have e2:doG5 cs A = cs.getD A.a.toNat 0 := by
    unfold doG5;rw [if_pos (by omega),k];unfold doG4;rw [if_pos (.inl rfl)]
   have e3:doN5 now A = now := if_neg (by omega)
   have e4:doS5 now sure A = sure := if_neg (by omega)
   rw [e1,e2,e3,e4];exact ⟨⟨h1,h2,.inl ⟨t,by rw [k,b,v];exact ⟨.inl ⟨rfl,rfl,rfl⟩,a0,by omega,by decide,by decide,by decide,by decide⟩⟩⟩,hc.mono (by omega),.inl ⟨k,hc.ty _ a0 a1⟩,hd⟩
 · have e1:doC5 cs A = if cs.getD A.a.toNat 0 = A.b then cs.set A.a.toNat A.v else cs := by
    unfold doC5;rw [if_pos (by omega),k];unfold doC4
    by_cases q:cs.getD A.a.toNat 0 = A.b
    · rw [if_pos (.inr ⟨rfl,q⟩),if_pos q]
    · rw [if_neg (by intro c;rcases c with c | c;omega;exact q c.2),if_neg (by omega),if_neg q]
   have e2:doG5 cs A = if cs.getD A.a.toNat 0 = A.b then 1 else 0 := by
    unfold doG5;rw [if_pos (by omega),k];unfold doG4
    rw [if_neg (by omega)]
    by_cases q:cs.getD A.a.toNat 0 = A.b
    · rw [if_pos ⟨rfl,q⟩,if_pos q]
    · rw [if_neg (fun c => q c.2),if_neg q]
   have e3:doN5 now A = now := if_neg (by omega)
   have e4:doS5 now sure A = sure := if_neg (by omega)
   rw [e1,e2,e3,e4];unfold bigW at b1 v1;refine ⟨⟨h1,h2,.inl ⟨t,by rw [k];exact ⟨.inr (.inr (.inl rfl)),a0,by omega,by omega,by omega,by omega,by omega⟩⟩⟩,?_,.inr (.inl ⟨k,by split <;> simp⟩),hd⟩
   split
   · refine ⟨by rw [List.length_set];exact hl,Zp hc.ok (by omega),fun a q1 q2 => ?_⟩
     by_cases e:a = A.a
     · rw [e,Qd (by omega)];exact ty
     · rw [getD_set_ne' (by omega)]
       exact (hc.ty a q1 q2).mono (by omega)
   · exact hc.mono (by omega)
 · have hm:Zg ⟨A.b,A.text⟩ = true := by
    simp only [Zg,Bool.and_eq_true,decide_eq_true_eq,Bool.or_eq_true];exact ⟨⟨⟨by omega,by omega⟩,by omega⟩,.inl (by omega)⟩
   have hp:Yf now sure A.a A.b A.text = true := by
    have hd':diskOK now sure = true := hd;simp only [Yf,hd',hm,Bool.true_and,Bool.and_eq_true,decide_eq_true_eq,Bool.not_eq_true',beq_eq_false_iff_ne];exact ⟨⟨⟨⟨a0,a1⟩,b0⟩,t0⟩,trivial⟩
   have e1:doC5 cs A = cs := if_neg (by omega)
   have e2:doG5 cs A = 0 := if_neg (by omega)
   have e3:doN5 now A = Y8 now A.a.toNat A.b A.text := if_pos k;have e4:doS5 now sure A = sure := if_neg (by omega)
   rw [e1,e2,e3,e4];refine ⟨⟨h1,h2,.inr (.inl ⟨k,v,hp⟩)⟩,hc.mono (by omega),.inr (.inr ⟨.inl k,rfl⟩),?_⟩
   have := QhM hp;simp only [pNow,QaI,hp,cond_true] at this;exact this
 · have e1:doC5 cs A = cs := if_neg (by omega)
   have e2:doG5 cs A = 0 := if_neg (by omega)
   have e3:doN5 now A = now := if_neg (by omega)
   have e4:doS5 now sure A = now := if_pos k;rw [e1,e2,e3,e4];exact ⟨⟨h1,h2,.inr (.inr ⟨k,t,a,b,v⟩)⟩,hc.mono (by omega),.inr (.inr ⟨.inr k,rfl⟩),Qey (Yr hd).1⟩
def HCl (ds:List HD) (n c:Int) (t u:Task):Prop := ∃ st st' got,t = ⟨c,st,got,false⟩ /\ u = ⟨c,st',got,false⟩ /\ HRel ds n st st' got /\ (goN (nHp false) 64 st got false).is = true
structure HEnd (ds:List HD) (n c:Int) (t u:Task):Prop where
 ok:QbZ nHp okHp c t u
 is:(goT nHp false t).is = true -> HCl ds n c t u
 en:(goT nHp false t).is = false -> (goT nHp false t).got = [] \/ EndI (goT nHp false t).got
theorem HRel.ne {ds:List HD} {n:Int} {st st':List Qe} {got:List Int} (h:HRel ds n st st' got):st ≠ [] /\ st' ≠ [] := by
 cases h <;> exact ⟨by simp,by simp⟩
theorem HRel.end {ds:List HD} {n:Int} (h0:0 <= n) (hn:n <= 900000) (hds:OkDs ds) {c:Int} {st st':List Qe} {got:List Int} (h:HRel ds n st st' got):HEnd ds n c ⟨c,st,got,false⟩ ⟨c,st',got,false⟩ := by
 obtain ⟨a1,a2,is,ac,en⟩ := h.go h0 hn hds 61 false false;obtain ⟨n1,n2⟩ := h.ne;refine ⟨⟨⟨n1,a1,rfl,rfl⟩,⟨n2,a2,rfl,rfl⟩,is.symm,fun q => ?_,fun q => ?_⟩,fun q => ⟨st,st',got,rfl,rfl,h,q⟩,fun q => (en q).2.2.2⟩
 · have := ac q
   exact ⟨this.1.symm,by
    have h5:(goN (nHp false) 64 st got false).a.args = [] := this.2.1.1;show (goN (nHp false) 64 st got false).a.args.length <= 96;rw [h5];simp⟩
 · obtain ⟨z1,z2,z3,z4⟩ := en q;refine ⟨z1,z2,z3.symm,?_⟩;show (goN (nHp false) 64 st got false).got.length <= 96;rcases z4 with z | ⟨t,z,_⟩ | ⟨x,z⟩ <;> rw [z] <;> simp
theorem HCl.step {ds:List HD} {n c:Int} {t u:Task} {cs:List Int} {now sure:List Sector} (h:HCl ds n c t u) (hc:SH ds n cs) (hd:DOK now sure) (h0:0 <= n) (hn:n <= 800000) (hds:OkDs ds) :
 Qal nHp okHp c cs t u now sure /\ SH ds (n + 1) (gdCs nHp cs t) /\ DOK (Qiz nHp now t) (Qbo nHp now sure t) /\ HEnd ds n c (gmT nHp false (gdX nHp cs t) t) (gmT nHp true (gdX nHp cs t) u) := by
 obtain ⟨st,st',got,rfl,rfl,hR,hk⟩ := h;have hE := hR.end (c := c) h0 (by omega) hds
 obtain ⟨a1,a2,is,ac,en⟩ := hR.go h0 (by omega) hds 61 false false
 obtain ⟨q1,qA,q2,q3,q4⟩ := ac hk;obtain ⟨d1,d2,d3,d4⟩ := qA.does hc hd;have n1:(goT nHp false ⟨c,st,got,false⟩).st ≠ [] := QdT hk;have n2:(goT nHp true ⟨c,st',got,false⟩).st ≠ [] := QdT (is.trans hk)
 have hT1:gmT nHp false (gdX nHp cs ⟨c,st,got,false⟩) ⟨c,st,got,false⟩ = ⟨c,(goT nHp false ⟨c,st,got,false⟩).st,[gdX nHp cs ⟨c,st,got,false⟩],false⟩ := by
  unfold gmT;rw [decide_eq_false n1]
 have hT2:gmT nHp true (gdX nHp cs ⟨c,st,got,false⟩) ⟨c,st',got,false⟩ = ⟨c,(goT nHp true ⟨c,st',got,false⟩).st,[gdX nHp cs ⟨c,st,got,false⟩],false⟩ := by
  unfold gmT;rw [decide_eq_false n2]
 have hE2 := HRel.end (c := c) h0 (by omega) hds (q4 _ d3)
 have hE3:HEnd ds n c (gmT nHp false (gdX nHp cs ⟨c,st,got,false⟩) ⟨c,st,got,false⟩) (gmT nHp true (gdX nHp cs ⟨c,st,got,false⟩) ⟨c,st',got,false⟩) := by
  rw [hT1,hT2];exact hE2
 exact ⟨⟨hE.ok,hk,q2,q3,d1,hc.ok,hd,hd.good.1,hd.good.2,hE3.ok⟩,d2,d4,hE3⟩
def Ext (ds ds':List HD):Prop := ds.length <= ds'.length /\ ∀ s,s < ds.length -> ds'.getD s hd0 = ds.getD s hd0
theorem Ext.refl (ds:List HD):Ext ds ds := ⟨Nat.le_refl _,fun _ _ => rfl⟩
theorem Ext.snoc (ds:List HD) (d:HD):Ext ds (ds ++ [d]) := ⟨by simp,fun s hs => by rw [List.getD_eq_getElem?_getD,List.getElem?_append_left hs,List.getD_eq_getElem?_getD]⟩
theorem Ext.h {ds ds':List HD} (h:Ext ds ds') {x:Int} (hx:OkH ds x):OkH ds' x /\ hD ds' x = hD ds x := by
 unfold OkH at *
 have := h.1;exact ⟨by omega,h.2 _ (by omega)⟩
theorem R68.ext {ds ds':List HD} (e:Ext ds ds') {k:Int} {r got:List Int} (h:R68 ds k r got):R68 ds' k r got := ⟨h.1,h.2.1,(e.h h.2.2.1).1,h.2.2.2⟩
theorem R100.ext {ds ds':List HD} (e:Ext ds ds') {k:Int} {r q got:List Int} (h:R100 ds k r q got):R100 ds' k r q got := by
 obtain ⟨b1,up,wd,eq,fr,hd,sr,mn,j5,j9,k5,k6,k7,gt⟩ := h;have hD':3 <= k -> k <= 14 -> hD ds' (r.getD 3 0) = hD ds (r.getD 3 0) := fun c1 c2 => (e.h (hd c1 c2)).2;refine ⟨b1,up,wd,eq,fr,fun c1 c2 => (e.h (hd c1 c2)).1,fun c1 c2 => by rw [hD' (by omega) c2];exact sr c1 c2,fun c1 c2 => by rw [hD' (by omega) c2];exact mn c1 c2,j5,j9,fun c => by rw [hD' (by omega) (by omega)];exact k5 c,fun c => by rw [hD' (by omega) (by omega)];exact k6 c,fun c1 c2 => by rw [hD' (by omega) c2];exact k7 c1 c2,?_⟩
 rcases gt with c | c | ⟨x,rfl,a1,a15,a13,a14,x0,x1,y1,y2,y3,y4,y5,y6⟩
 · exact .inl c
 · exact .inr (.inl c)
 · refine .inr (.inr ⟨x,rfl,a1,a15,a13,a14,x0,x1,y1,fun c => ?_,fun c => by rw [hD' (by omega) (by omega)];exact y3 c,fun c => by rw [hD' (by omega) (by omega)];exact y4 c,fun c => by rw [hD' (by omega) (by omega)];exact y5 c,fun c => by rw [hD' (by omega) (by omega)];exact y6 c⟩)
   rcases y2 c with d | d
   · exact .inl d
   · exact .inr (e.h d).1
theorem HRel.ext {ds ds':List HD} {n n':Int} (e:Ext ds ds') (hn:n <= n') {st st':List Qe} {got:List Int} (h:HRel ds n st st' got):HRel ds' n' st st' got := by
 cases h with
 | ins h => exact .ins (h.ext e)
 | hlp h => exact .hlp (h.ext e)
 | inr h h2 => exact .inr (h.ext e) h2
 | app h h2 => exact .app (h.ext e) (h2.mono hn)
theorem HCl.ext {ds ds':List HD} {n n' c:Int} (e:Ext ds ds') (hn:n <= n') {t u:Task} (h:HCl ds n c t u):HCl ds' n' c t u := by
 obtain ⟨st,st',got,h1,h2,h3,h4⟩ := h;exact ⟨st,st',got,h1,h2,h3.ext e hn,h4⟩
structure HS where
 cs:List Int
 now:List Sector
 sure:List Sector
 ts:List Task
 us:List Task
 busy:List Bool
 n:Int
 v:Int
 has:List Int
 place:List Int
 mp:List (Int × Try)
 tr:List Try
 last:Int
def Qar (s:HS) (c:Int):Bool := s.busy.getD c.toNat false
def mkHt (c p:Int) (l:List Int):Task := ⟨c,[⟨p,0,Za l⟩],[],false⟩
def Km (s:HS) (c p:Int) (l:List Int):HS := { s with ts := s.ts.set c.toNat (mkHt c p l),us := s.us.set c.toNat (mkHt c p l),busy := s.busy.set c.toNat true }
def packW (y:Qc):Int := y.key * 256 + y.value
def put1 (n:Int) (j:Nat) (v:Int) (y:Qc) (cs:List Int):List Int :=
 (((cs.set (lField 99 n (4 + j) 16 12).toNat (packW y)).set (lField 99 n (8 + j) 16 12).toNat (256 + v)).set (lField 291 v 0 160 3).toNat 3).set (lField 291 v 2 160 3).toNat (packW y)
def comW (n:Int):Nat -> Int -> List Qc -> List Int -> List Int
 | _,_,[],cs => cs
 | j,v,y :: l,cs => comW n (j + 1) (v + 1) l (put1 n j v y cs)
def comS (cs:List Int) (n v start:Int) (ws:List Qc):List Int :=
 ((cs.set (lField 99 n 0 16 12).toNat 3).set (lField 99 n 2 16 12).toNat start).set (lField 99 n 3 16 12).toNat (ws.length:Int)
def comC (cs:List Int) (n v start:Int) (ws:List Qc):List Int := comW n 0 v ws (comS cs n v start ws)
def comB (s:HS) (ws:List Qc):Bool := decide (s.n < 16) && decide (s.v + ws.length <= 60) && Qx ws
def Ym (s:HS) (back:Int):Int := max 0 (s.cs.getD 0 0 - max 0 (min back 20))
section
variable (eq:Int -> Int -> Bool)
def Y4 (w:Int) (s:HS) (c back:Int) (ws:List Qc):HS :=
 Km { s with cs := comC s.cs s.n s.v (Ym s back) ws,n := s.n + 1,v := s.v + ws.length,has := s.has.set c.toNat (256 + s.n),place := s.place.set c.toNat 0,mp := mput eq (256 + s.n) ⟨0,Ym s back,ws⟩ s.mp } c 68 [w,256 + s.n]
def QaK (mp:List (Int × Try)) (h:Int):Try := (mget eq h mp).getD ⟨0,0,[]⟩
def Zq (cs:List Int) (w:Int) (mp:List (Int × Try)):Nat -> Int -> List Try -> Int × List Try
 | 0,last,tr => (last,tr)
 | m + 1,last,tr => if plc (cs.getD (lRing (last + 1) w).toNat 0) = last + 1 then
  Zq cs w mp m (last + 1) (tr ++ [⟨last + 1,(QaK eq mp (bare (cs.getD (lRing (last + 1) w).toNat 0))).start,(QaK eq mp (bare (cs.getD (lRing (last + 1) w).toNat 0))).writes⟩])
  else (last,tr)
def VV (w:Int) (s:HS):HS := { s with last := (Zq eq s.cs w s.mp w.toNat s.last s.tr).1,tr := (Zq eq s.cs w s.mp w.toNat s.last s.tr).2 }
def endH (s:HS) (c:Int):GoM := goT nHp false (gmT nHp false (gdX nHp s.cs (tkC s.ts c)) (tkC s.ts c))
def Vy (s:HS) (c:Int):HS :=
 { s with cs := gdCs nHp s.cs (tkC s.ts c),now := Qiz nHp s.now (tkC s.ts c),sure := Qbo nHp s.now s.sure (tkC s.ts c),ts := s.ts.set c.toNat (gmT nHp false (gdX nHp s.cs (tkC s.ts c)) (tkC s.ts c)),us := s.us.set c.toNat (gmT nHp true (gdX nHp s.cs (tkC s.ts c)) (tkC s.us c)),busy := (bif (endH s c).is then s.busy else s.busy.set c.toNat false) }
def wonB (s:HS) (c:Int):Bool := !(endH s c).is && (decide (s.place.getD c.toNat 0 = 0) && (decide ((endH s c).got.length = 2) && decide ((endH s c).got.getD 0 0 = 0)))
def wonH (w:Int) (s:HS) (c t:Int):HS := Km { s with place := s.place.set c.toNat t } c 100 [t,w]
def Zr (w:Int) (s:HS) (x dd back:Int) (ws:List Qc):HS :=
 if Qar s (x % 4) = true then (if wonB s (x % 4) = true then wonH w (VV eq w (Vy s (x % 4))) (x % 4) ((endH s (x % 4)).got.getD 1 0) else VV eq w (Vy s (x % 4)))
 else if dd = 0 /\ comB s ws = true then Y4 eq w s (x % 4) back ws else s
end
structure HI (w:Int) (ds:List HD) (k:Int) (s:HS):Prop where
 w:2 <= w /\ w <= 8
 od:OkDs ds
 nn:s.n = ds.length
 vv:0 <= s.v /\ s.v <= 60
 sc:SH ds k s.cs
 dk:DOK s.now s.sure
 lt:s.ts.length = 4
 lu:s.us.length = 4
 lb:s.busy.length = 4
 lh:s.has.length = 4
 lp:s.place.length = 4
 la:0 <= s.last /\ s.last <= 8 * k
 tl:(s.tr.length:Int) <= 8 * k
 tw:∀ t ∈ s.tr,t.writes.length <= 4
 mw:∀ p ∈ s.mp,p.2.writes.length <= 4
 cl:∀ c:Int,0 <= c -> c <= 3 -> Qar s c = true -> HCl ds k c (tkC s.ts c) (tkC s.us c)
theorem HI.mono {w:Int} {ds:List HD} {k k':Int} {s:HS} (h:HI w ds k s) (hk:k <= k'):HI w ds k' s :=
 ⟨h.w,h.od,h.nn,h.vv,h.sc.mono hk,h.dk,h.lt,h.lu,h.lb,h.lh,h.lp,by have := h.la;omega,by have := h.tl;omega,h.tw,h.mw,fun c c0 c3 hb => (h.cl c c0 c3 hb).ext (.refl _) hk⟩
theorem tkS {l:List Task} (hl:l.length = 4) {c c':Int} (c0:0 <= c) (c3:c <= 3) (d0:0 <= c') (T:Task):tkC (l.set c.toNat T) c' = if c = c' then T else tkC l c' := by
 unfold tkC;rw [List.getD_eq_getElem?_getD,List.getElem?_set]
 by_cases e:c = c'
 · subst e;rw [if_pos rfl,if_pos (by omega),if_pos rfl];rfl
 · rw [if_neg (by omega),if_neg e,List.getD_eq_getElem?_getD]
theorem bS {l:List Bool} (hl:l.length = 4) {c c':Int} (c0:0 <= c) (c3:c <= 3) (d0:0 <= c') (b:Bool):(l.set c.toNat b).getD c'.toNat false = if c = c' then b else l.getD c'.toNat false := by
 rw [List.getD_eq_getElem?_getD,List.getElem?_set]
 by_cases e:c = c'
 · subst e;rw [if_pos rfl,if_pos (by omega),if_pos rfl];rfl
 · rw [if_neg (by omega),if_neg e,List.getD_eq_getElem?_getD]
theorem HI.begin {w:Int} {ds:List HD} {k:Int} {s:HS} (h:HI w ds k s) {c:Int} (c0:0 <= c) (c3:c <= 3) {p:Int} {l:List Int} (hc:HCl ds k c (mkHt c p l) (mkHt c p l)):HI w ds k (Km s c p l) := by
 refine ⟨h.w,h.od,h.nn,h.vv,h.sc,h.dk,by simp [Km,h.lt],by simp [Km,h.lu],by simp [Km,h.lb],h.lh,h.lp,h.la,h.tl,h.tw,h.mw,fun c' d0 d3 hb => ?_⟩
 show HCl ds k c' (tkC (s.ts.set c.toNat (mkHt c p l)) c') (tkC (s.us.set c.toNat (mkHt c p l)) c');rw [tkS h.lt c0 c3 d0,tkS h.lu c0 c3 d0]
 by_cases e:c = c'
 · subst e;rw [if_pos rfl,if_pos rfl];exact hc
 · rw [if_neg e,if_neg e];refine h.cl c' d0 d3 ?_;have hb:(s.busy.set c.toNat true).getD c'.toNat false = true := hb;rw [bS h.lb c0 c3 d0,if_neg e] at hb;exact hb
theorem Qas (l:List Int) (i:Nat) (h:i < l.length):(Za l).getD i 0 = l.getD i 0 := by
 unfold Za;rw [List.getD_eq_getElem?_getD,List.getElem?_append_left h,List.getD_eq_getElem?_getD]
theorem QgR {l:List Int} (h1:l.length <= 96) (h2:∀ v ∈ l,v < 9223372036854775808):bnd (Za l) := by
 refine ⟨by simp [Za];omega,fun v hv => ?_⟩
 unfold Za at hv;rcases List.mem_append.1 hv with hv | hv
 · exact h2 v hv
 · rw [List.eq_of_mem_replicate hv];decide
theorem mk68 {ds:List HD} {k c w h:Int} (hw:2 <= w /\ w <= 8) (hs:ds.length <= 16) (hh:OkH ds h):HCl ds k c (mkHt c 68 [w,h]) (mkHt c 68 [w,h]) := by
 have hh' := hh;unfold OkH at hh';refine ⟨_,_,_,rfl,rfl,.ins ⟨QgR (by simp) (fun x hx => ?_),?_,?_,.inl ⟨rfl,rfl⟩⟩,rfl⟩
 · simp only [List.mem_cons,List.mem_nil_iff,or_false] at hx;rcases hx with rfl | rfl <;> omega
 · rw [Qas _ 0 (by simp)];exact hw
 · rw [Qas _ 1 (by simp)];exact hh
theorem QwE {ds:List HD} {k c w t:Int} (hw:2 <= w /\ w <= 8) (ht:1 <= t /\ t <= 1048575):HCl ds k c (mkHt c 100 [t,w]) (mkHt c 100 [t,w]) := by
 refine ⟨_,_,_,rfl,rfl,.hlp ⟨QgR (by simp) (fun x hx => ?_),?_,?_,rfl,fun q => absurd q (by decide),fun q => absurd q (by decide),fun q => absurd q (by decide),fun q => absurd q (by decide),fun q => absurd q (by decide),fun q => absurd q (by decide),fun q => absurd q (by decide),fun q => absurd q (by decide),fun q => absurd q (by decide),.inl ⟨rfl,rfl⟩⟩,rfl⟩
 · simp only [List.mem_cons,List.mem_nil_iff,or_false] at hx;rcases hx with rfl | rfl <;> omega
 · rw [Qas _ 0 (by simp)];show 0 <= t /\ t <= 1048575;omega
 · rw [Qas _ 1 (by simp)];exact hw
theorem HI.step {w:Int} {ds:List HD} {k:Int} {s:HS} (h:HI w ds k s) (h0:0 <= k) (hk:k <= 800000) {c:Int} (c0:0 <= c) (c3:c <= 3) (hb:Qar s c = true) :
 Qal nHp okHp c s.cs (tkC s.ts c) (tkC s.us c) s.now s.sure /\ HI w ds (k + 1) (Vy s c) /\ ((endH s c).is = false -> (endH s c).got = [] \/ EndI (endH s c).got) := by
 obtain ⟨q1,q2,q3,q4⟩ := (h.cl c c0 c3 hb).step h.sc h.dk h0 hk h.od;refine ⟨q1,⟨h.w,h.od,h.nn,h.vv,q2,q3,by simp [Vy,h.lt],by simp [Vy,h.lu],?_,h.lh,h.lp,by have := h.la;show 0 <= s.last /\ s.last <= 8 * (k + 1);omega,by have := h.tl;show (s.tr.length:Int) <= 8 * (k + 1);omega,h.tw,h.mw,fun c' d0 d3 hb' => ?_⟩,q4.en⟩
 · show (bif (endH s c).is then s.busy else s.busy.set c.toNat false).length = 4;cases (endH s c).is <;> simp [h.lb]
 · have hb':(bif (endH s c).is then s.busy else s.busy.set c.toNat false).getD c'.toNat false = true := hb';show HCl ds (k + 1) c' (tkC (s.ts.set c.toNat _) c') (tkC (s.us.set c.toNat _) c');rw [tkS h.lt c0 c3 d0,tkS h.lu c0 c3 d0]
   by_cases e:c = c'
   · subst e;rw [if_pos rfl,if_pos rfl]
     have hi:(endH s c).is = true := by
      cases hi:(endH s c).is
      · rw [hi] at hb';simp only [cond_false] at hb';rw [bS h.lb c0 c3 c0,if_pos rfl] at hb';cases hb'
      · rfl
     exact (q4.is hi).ext (.refl _) (by omega)
   · rw [if_neg e,if_neg e];refine (h.cl c' d0 d3 ?_).ext (.refl _) (by omega)
     cases hi:(endH s c).is
     · rw [hi] at hb';simp only [cond_false] at hb';rw [bS h.lb c0 c3 d0,if_neg e] at hb';exact hb'
     · rw [hi] at hb';exact hb'
theorem QgS {eq:Int -> Int -> Bool} {x:Int}:∀ {l:List (Int × Try)} {t:Try},mget eq x l = some t -> ∃ p ∈ l,p.2 = t
 | [],t,h => by cases h
 | (a,b) :: l,t,h => by
  unfold mget at h;cases e:eq x a
  · rw [e] at h;obtain ⟨p,h1,h2⟩ := QgS (l := l) h;exact ⟨p,List.mem_cons_of_mem _ h1,h2⟩
  · rw [e] at h;simp only [cond_true,Option.some.injEq] at h;exact ⟨(a,b),List.mem_cons_self,h⟩
theorem mput_mem {eq:Int -> Int -> Bool} {x:Int} {t:Try}:∀ {l:List (Int × Try)} {p:Int × Try},p ∈ mput eq x t l -> p = (x,t) \/ p ∈ l
 | [],p,h => by
  unfold mput at h;rw [List.mem_singleton] at h;exact .inl h
 | (a,b) :: l,p,h => by
  unfold mput at h;cases e:eq x a
  · rw [e] at h;simp only [cond_false] at h;rcases List.mem_cons.1 h with h | h
    · exact .inr (by rw [h];exact List.mem_cons_self)
    · rcases mput_mem h with h | h
      · exact .inl h
      · exact .inr (List.mem_cons_of_mem _ h)
  · rw [e] at h;simp only [cond_true] at h;rcases List.mem_cons.1 h with h | h
    · exact .inl h
    · exact .inr (List.mem_cons_of_mem _ h)
theorem Qn2 {eq:Int -> Int -> Bool} {mp:List (Int × Try)} (h:∀ p ∈ mp,p.2.writes.length <= 4) (x:Int):(QaK eq mp x).writes.length <= 4 := by
 unfold QaK;cases e:mget eq x mp with
 | none => simp
 | some t =>
  obtain ⟨p,h1,h2⟩ := QgS e;simp only [Option.getD_some];rw [<- h2];exact h p h1
theorem QgT {eq:Int -> Int -> Bool} {cs:List Int} {w:Int} {mp:List (Int × Try)} (h:∀ p ∈ mp,p.2.writes.length <= 4):∀ (m:Nat) {last:Int} {tr:List Try},(∀ t ∈ tr,t.writes.length <= 4) -> (last <= (Zq eq cs w mp m last tr).1 /\ (Zq eq cs w mp m last tr).1 <= last + m) /\ (Zq eq cs w mp m last tr).2.length <= tr.length + m /\ ∀ t ∈ (Zq eq cs w mp m last tr).2,t.writes.length <= 4
 | 0,last,tr,ht => ⟨⟨Int.le_refl _,by show last <= last + 0;omega⟩,Nat.le_refl _,ht⟩
 | m + 1,last,tr,ht => by
  unfold Zq
  split
  · have ht':∀ t ∈ tr ++ [(⟨last + 1,(QaK eq mp (bare (cs.getD (lRing (last + 1) w).toNat 0))).start,(QaK eq mp (bare (cs.getD (lRing (last + 1) w).toNat 0))).writes⟩:Try)],t.writes.length <= 4 := fun t q => by
     rcases List.mem_append.1 q with q | q
     · exact ht t q
     · rw [List.mem_singleton] at q;subst q;exact Qn2 h _
    obtain ⟨⟨q1,q2⟩,q3,q4⟩ := QgT (eq := eq) (cs := cs) (w := w) h m (last := last + 1) ht';refine ⟨⟨by omega,by omega⟩,?_,q4⟩
    simp only [List.length_append,List.length_cons,List.length_nil] at q3;omega
  · exact ⟨⟨Int.le_refl _,by show last <= last + ((m + 1:Nat):Int);omega⟩,by show tr.length <= tr.length + (m + 1);omega,ht⟩
theorem HI.looks {eq:Int -> Int -> Bool} {w:Int} {ds:List HD} {k:Int} {s:HS} (h:HI w ds k s) {k':Int} (hk:k + 1 <= k'):HI w ds k' (VV eq w s) := by
 obtain ⟨⟨q1,q2⟩,q3,q4⟩ := QgT (eq := eq) (cs := s.cs) (w := w) h.mw w.toNat (last := s.last) h.tw;have hw := h.w;have hl := h.la;have ht := h.tl;refine ⟨h.w,h.od,h.nn,h.vv,h.sc.mono (by omega),h.dk,h.lt,h.lu,h.lb,h.lh,h.lp,?_,?_,q4,h.mw,fun c c0 c3 hb => (h.cl c c0 c3 hb).ext (.refl _) (by omega)⟩
 · show 0 <= (Zq eq s.cs w s.mp w.toNat s.last s.tr).1 /\ (Zq eq s.cs w s.mp w.toNat s.last s.tr).1 <= 8 * k';omega
 · show ((Zq eq s.cs w s.mp w.toNat s.last s.tr).2.length:Int) <= 8 * k';omega
theorem Qb9 {n f:Int} (h0:0 <= n) (h1:n < 16) (f0:0 <= f) (f1:f < 12):lField 99 n f 16 12 = 99 + n * 12 + f := if_pos ⟨h0,h1,f0,f1⟩
theorem Qre {v f:Int} (h0:0 <= v) (h1:v < 160) (f0:0 <= f) (f1:f < 3):lField 291 v f 160 3 = 291 + v * 3 + f := if_pos ⟨h0,h1,f0,f1⟩
theorem QaL {l:List Int} {i k:Nat} {x:Int} (hi:i < l.length):(l.set i x).getD k 0 = if k = i then x else l.getD k 0 := by
 by_cases h:k = i
 · subst h;rw [if_pos rfl,Qd hi]
 · rw [if_neg h,getD_set_ne' (fun q => h q.symm)]
theorem Qca {n:Int} {j:Nat} {v:Int} {y:Qc} {cs:List Int}:(put1 n j v y cs).length = cs.length := by unfold put1;simp only [List.length_set]
theorem Qrf {n:Int} {j:Nat} {v:Int} {y:Qc} {cs:List Int} (hl:cs.length = 771) (n0:0 <= n) (n1:n < 16) (hj:j < 4) (v0:0 <= v) (v1:v < 60) {a:Nat} (ha:a < 291) :
 (put1 n j v y cs).getD a 0 = if a = 99 + n.toNat * 12 + 4 + j then packW y else if a = 99 + n.toNat * 12 + 8 + j then 256 + v else cs.getD a 0 := by
 unfold put1;rw [Qb9 n0 n1 (by omega) (by omega),Qb9 n0 n1 (by omega) (by omega),Qre v0 (by omega) (by omega) (by omega),Qre v0 (by omega) (by omega) (by omega)]
 rw [QaL (by simp only [List.length_set];omega),if_neg (by omega),QaL (by simp only [List.length_set];omega),if_neg (by omega),QaL (by simp only [List.length_set];omega),QaL (by omega)]
 by_cases e1:a = 99 + n.toNat * 12 + 4 + j
 · rw [if_neg (by omega),if_pos (by omega),if_pos e1]
 · by_cases e2:a = 99 + n.toNat * 12 + 8 + j
   · rw [if_pos (by omega),if_neg e1,if_pos e2]
   · rw [if_neg (by omega),if_neg (by omega),if_neg e1,if_neg e2]
theorem Qat {y:Qc} (h:(0 <= y.key /\ y.key <= 23) /\ 0 <= y.value /\ y.value <= 255):0 <= packW y /\ packW y <= 6143 := by unfold packW;omega
theorem QuC {n:Int} {j:Nat} {v:Int} {y:Qc} {cs:List Int} (h:cellsOK cs = true) (hy:0 <= packW y /\ packW y <= 6143) (v0:0 <= v) (v1:v < 60):cellsOK (put1 n j v y cs) = true :=
 Zp (Zp (Zp (Zp h (by omega)) (by omega)) (by decide)) (by omega)
theorem QeX {n:Int} (n0:0 <= n) (n1:n < 16):∀ (l:List Qc) {j:Nat} {v:Int} {cs:List Int},cs.length = 771 -> cellsOK cs = true -> j + l.length <= 4 -> 0 <= v -> v + l.length <= 60 -> (∀ y ∈ l,0 <= packW y /\ packW y <= 6143) ->
 (comW n j v l cs).length = 771 /\ cellsOK (comW n j v l cs) = true /\
 (∀ a:Nat,a < 291 -> (∀ i,i < l.length -> a ≠ 99 + n.toNat * 12 + 4 + (j + i) /\ a ≠ 99 + n.toNat * 12 + 8 + (j + i)) -> (comW n j v l cs).getD a 0 = cs.getD a 0) /\
 (∀ i,i < l.length -> (comW n j v l cs).getD (99 + n.toNat * 12 + 4 + (j + i)) 0 = packW (l.getD i wrH) /\ (comW n j v l cs).getD (99 + n.toNat * 12 + 8 + (j + i)) 0 = 256 + v + i)
 | [],j,v,cs,hl,hc,hj,v0,v1,hy => ⟨hl,hc,fun a _ _ => rfl,fun i hi => by simp at hi⟩
 | y :: l,j,v,cs,hl,hc,hj,v0,v1,hy => by
  simp only [List.length_cons] at hj v1;have hy1 := hy y List.mem_cons_self;obtain ⟨q1,q2,q3,q4⟩ := QeX n0 n1 l (j := j + 1) (v := v + 1) (cs := put1 n j v y cs) (by rw [Qca];exact hl) (QuC hc hy1 v0 (by omega)) (by omega) (by omega) (by omega) (fun y' h' => hy y' (List.mem_cons_of_mem _ h'))
  have hg:∀ a:Nat,a < 291 -> (put1 n j v y cs).getD a 0 = if a = 99 + n.toNat * 12 + 4 + j then packW y else if a = 99 + n.toNat * 12 + 8 + j then 256 + v else cs.getD a 0 := fun a ha => Qrf hl n0 n1 (by omega) v0 (by omega) ha
  unfold comW;refine ⟨q1,q2,fun a ha hne => ?_,fun i hi => ?_⟩
  · rw [q3 a ha (fun i hi => by have := hne (i + 1) (by simp only [List.length_cons];omega);omega),hg a ha]
    have := hne 0 (by simp)
    rw [if_neg (by omega),if_neg (by omega)]
  · simp only [List.length_cons] at hi;cases i with
    | zero =>
     rw [q3 _ (by omega) (fun i hi => by omega),q3 _ (by omega) (fun i hi => by omega),hg _ (by omega),hg _ (by omega),if_pos (by omega),if_neg (by omega),if_pos (by omega)]
     exact ⟨rfl,by omega⟩
    | succ i =>
     obtain ⟨z1,z2⟩ := q4 i (by omega)
     rw [show j + (i + 1) = j + 1 + i by omega,z1,z2]
     exact ⟨rfl,by omega⟩
theorem QgU {cs:List Int} (hl:cs.length = 771) {n v start:Int} {ws:List Qc} (n0:0 <= n) (n1:n < 16) (a:Nat) :
 (comS cs n v start ws).getD a 0 = if a = 99 + n.toNat * 12 + 3 then (ws.length:Int) else if a = 99 + n.toNat * 12 + 2 then start else if a = 99 + n.toNat * 12 then 3 else cs.getD a 0 := by
 unfold comS;rw [Qb9 n0 n1 (by omega) (by omega),Qb9 n0 n1 (by omega) (by omega),Qb9 n0 n1 (by omega) (by omega)]
 rw [QaL (by simp only [List.length_set];omega),QaL (by simp only [List.length_set];omega),QaL (by omega)]
 by_cases e1:a = 99 + n.toNat * 12 + 3
 · rw [if_pos (by omega),if_pos e1]
 · rw [if_neg (by omega),if_neg e1]
   by_cases e2:a = 99 + n.toNat * 12 + 2
   · rw [if_pos (by omega),if_pos e2]
   · rw [if_neg (by omega),if_neg e2]
     by_cases e3:a = 99 + n.toNat * 12
     · rw [if_pos (by omega),if_pos e3]
     · rw [if_neg (by omega),if_neg e3]
theorem QgV {s:HS} {ws:List Qc} (h:comB s ws = true):s.n < 16 /\ s.v + ws.length <= 60 /\ Qx ws = true := by
 unfold comB at h;simp only [Bool.and_eq_true,decide_eq_true_eq] at h;exact ⟨h.1.1,h.1.2,h.2⟩
theorem Y5 {ws:List Qc} (h:Qx ws = true):ws.length <= 4 := by
 unfold Qx at h;rw [Bool.and_eq_true,decide_eq_true_eq] at h;exact h.1
theorem Vz {w:Int} {ds:List HD} {k:Int} {s:HS} (h:HI w ds k s) (back:Int):0 <= Ym s back /\ Ym s back <= 1048575 := by
 have := (h.sc.ty 0 (by decide) (by decide)).t0 rfl
 have e:(0:Int).toNat = 0 := rfl;rw [e] at this;unfold Ym;omega
theorem QuD {ds:List HD} {k:Int} {cs:List Int} (h:SH ds k cs) {v start:Int} {ws:List Qc} (hn:(ds.length:Int) < 16) (v0:0 <= v) (v1:v + ws.length <= 60) (hw:Qx ws = true) (hs:0 <= start /\ start <= 1048575) :
 SH (ds ++ [⟨start,ws,v⟩]) k (comC cs (ds.length:Int) v start ws) := by
 have hl := h.len;have hw4 := Y5 hw
 have hmem:∀ y ∈ ws,0 <= packW y /\ packW y <= 6143 := fun y hy => by
  obtain ⟨i,hi,rfl⟩ := List.mem_iff_getElem.1 hy;have := QeQ hw hi;have e:ws.getD i wrH = ws[i] := by simp [hi]
  rw [e] at this;exact Qat this
 have n0:(0:Int) <= (ds.length:Int) := by omega
 have nN:((ds.length:Int)).toNat = ds.length := by simp
 have cl:(comS cs (ds.length:Int) v start ws).length = 771 := by unfold comS;simp only [List.length_set];exact hl
 have cc:cellsOK (comS cs (ds.length:Int) v start ws) = true := by
  unfold comS;exact Zp (Zp (Zp h.ok (by decide)) (by omega)) (by omega)
 obtain ⟨q1,q2,q3,q4⟩ := QeX n0 hn ws (j := 0) (v := v) cl cc (by omega) v0 v1 hmem
 have g0 := QgU (v := v) (start := start) (ws := ws) hl n0 hn;rw [nN] at q3 q4 g0;simp only [Nat.zero_add] at q3 q4;refine ⟨q1,q2,fun a a0 a1 => ?_⟩;show TyH _ k a ((comW (ds.length:Int) 0 v ws (comS cs (ds.length:Int) v start ws)).getD a.toNat 0);have hls:(ds ++ [(⟨start,ws,v⟩:HD)]).length = ds.length + 1 := by simp
 have hgl:∀ s,s < ds.length -> (ds ++ [(⟨start,ws,v⟩:HD)]).getD s hd0 = ds.getD s hd0 := fun s hs => (Ext.snoc ds ⟨start,ws,v⟩).2 s hs
 have hgn:(ds ++ [(⟨start,ws,v⟩:HD)]).getD ds.length hd0 = ⟨start,ws,v⟩ := by
  rw [List.getD_eq_getElem?_getD,List.getElem?_append_right (Nat.le_refl _)];simp
 by_cases b0:a <= 98
 · rw [q3 _ (by omega) (fun i hi => by omega),g0,if_neg (by omega),if_neg (by omega),if_neg (by omega)]
   have ht := h.ty a a0 a1;refine TyH.low (.inl b0) (by omega) ht.t0 ht.t1 ht.t2 (fun c1 c2 => ?_) ht.t4 ht.t5
   obtain ⟨z1,z2⟩ := ht.t3 c1 c2;refine ⟨z1,?_⟩;rcases z2 with z2 | z2
   · exact .inl z2
   · exact .inr (by unfold OkH at *;omega)
 by_cases b1:291 <= a
 · exact QeR (by omega) b1
 have ht := h.ty a a0 a1
 have hin:∀ s f:Int,0 <= s -> 0 <= f -> f < 12 -> a = 99 + s * 12 + f -> s ≠ (ds.length:Int) -> (comW (ds.length:Int) 0 v ws (comS cs (ds.length:Int) v start ws)).getD a.toNat 0 = cs.getD a.toNat 0 := fun s f s0 f0 f1 e hne => by
  rw [q3 _ (by omega) (fun i hi => by omega),g0,if_neg (by omega),if_neg (by omega),if_neg (by omega)]
 refine ⟨fun q => by omega,fun q => by omega,fun _ q => by omega,fun _ q => by omega,fun _ q => by omega,fun _ q => by omega,fun s f s0 s1 f0 f1 e => ?_,fun s s0 s1 e => ?_⟩
 · by_cases hne:s = (ds.length:Int)
   · subst hne;rw [nN,hgn];have ea:a.toNat = 99 + ds.length * 12 + f.toNat := by omega
     rw [ea];refine ⟨fun e2 => ?_,fun e3 => ?_,fun c1 c2 => ?_,fun c1 c2 => ?_⟩
     · rw [q3 _ (by omega) (fun i hi => by omega),g0,if_neg (by omega),if_pos (by omega)]
     · rw [q3 _ (by omega) (fun i hi => by omega),g0,if_pos (by omega)]
     · have c2':f < 4 + (ws.length:Int) := c2;have := (q4 (f - 4).toNat (by omega)).1
       rw [show 99 + ds.length * 12 + 4 + (f - 4).toNat = 99 + ds.length * 12 + f.toNat by omega] at this
       rw [this];rfl
     · have c2':f < 8 + (ws.length:Int) := c2;have := (q4 (f - 8).toNat (by omega)).2
       rw [show 99 + ds.length * 12 + 8 + (f - 8).toNat = 99 + ds.length * 12 + f.toNat by omega] at this
       rw [this];rfl
   · rw [hin s f s0 f0 f1 e hne,hgl _ (by omega)]
     exact ht.t6 s f s0 (by omega) f0 f1 e
 · by_cases hne:s = (ds.length:Int)
   · rw [q3 _ (by omega) (fun i hi => by omega),g0,if_neg (by omega),if_neg (by omega),if_neg (by omega)]
     exact ht.t7 s s0 s1 e
   · rw [hin s 1 s0 (by omega) (by omega) e hne]
     exact ht.t7 s s0 s1 e
theorem HI.commit {eq:Int -> Int -> Bool} {w:Int} {ds:List HD} {k:Int} {s:HS} (h:HI w ds k s) {c:Int} (c0:0 <= c) (c3:c <= 3) (back:Int) {ws:List Qc} (hb:comB s ws = true) :
 HI w (ds ++ [⟨Ym s back,ws,s.v⟩]) k (Y4 eq w s c back ws) := by
 obtain ⟨b1,b2,b3⟩ := QgV hb;have hst := Vz h back;have hw4 := Y5 b3;have hn := h.nn;have hvv := h.vv;have hls:(ds ++ [(⟨Ym s back,ws,s.v⟩:HD)]).length = ds.length + 1 := by simp
 have hE := Ext.snoc ds ⟨Ym s back,ws,s.v⟩;have hsc := QuD h.sc (v := s.v) (start := Ym s back) (ws := ws) (by omega) h.vv.1 b2 b3 hst
 have hod:OkDs (ds ++ [(⟨Ym s back,ws,s.v⟩:HD)]) := by
  refine ⟨by omega,fun i hi => ?_⟩
  by_cases e:i < ds.length
  · rw [hE.2 i e];exact h.od.2 i e
  · have:i = ds.length := by omega
    subst this;rw [List.getD_eq_getElem?_getD,List.getElem?_append_right (Nat.le_refl _)];simp only [Nat.sub_self,List.getElem?_cons_zero,Option.getD_some];exact ⟨hst,b3,⟨hvv.1,b2⟩⟩
 rw [<- hn] at hsc;unfold Y4
 refine HI.begin (s := { s with cs := comC s.cs s.n s.v (Ym s back) ws,n := s.n + 1,v := s.v + ws.length,has := s.has.set c.toNat (256 + s.n),place := s.place.set c.toNat 0,mp := mput eq (256 + s.n) ⟨0,Ym s back,ws⟩ s.mp })
  ⟨h.w,hod,by show s.n + 1 = ((ds ++ [_]).length:Int);rw [hls];omega,by show 0 <= s.v + (ws.length:Int) /\ s.v + (ws.length:Int) <= 60;omega,hsc,h.dk,h.lt,h.lu,h.lb,by simp [h.lh],by simp [h.lp],h.la,h.tl,h.tw,fun p hp => ?_,fun c' d0 d3 hb' => (h.cl c' d0 d3 hb').ext hE (Int.le_refl _)⟩ c0 c3 ?_
 · rcases mput_mem hp with e | hp
   · rw [e];exact hw4
   · exact h.mw p hp
 · exact mk68 h.w (by omega) (by unfold OkH;omega)
theorem HI.pick {eq:Int -> Int -> Bool} {w:Int} {ds:List HD} {k:Int} {s:HS} (h:HI w ds k s) (h0:0 <= k) (hk:k <= 800000) (x dd back:Int) (ws:List Qc):∃ ds',HI w ds' (k + 2) (Zr eq w s x dd back ws) := by
 have c0 := Int.emod_nonneg x (show (4:Int) ≠ 0 by decide)
 have c3 := Int.emod_lt_of_pos x (show (0:Int) < 4 by decide)
 unfold Zr
 by_cases hb:Qar s (x % 4) = true
 · rw [if_pos hb];obtain ⟨_,q1,q2⟩ := h.step h0 hk c0 (by omega) hb
   have q3 := q1.looks (eq := eq) (k' := k + 2) (by omega)
   refine ⟨ds,?_⟩
   split
   · rename_i hw;unfold wonB at hw;simp only [Bool.and_eq_true,decide_eq_true_eq,Bool.not_eq_true'] at hw;obtain ⟨w1,w2,w3,w4⟩ := hw
     have ht:1 <= (endH s (x % 4)).got.getD 1 0 /\ (endH s (x % 4)).got.getD 1 0 <= 1048575 := by
      rcases q2 w1 with e | ⟨t,e,t1,t2⟩ | ⟨e',e⟩
      · rw [e] at w3;cases w3
      · rw [e];exact ⟨t1,t2⟩
      · rw [e] at w3;cases w3
     generalize (endH s (x % 4)).got.getD 1 0 = t at ht ⊢;unfold wonH
     exact HI.begin (s := { VV eq w (Vy s (x % 4)) with place := (VV eq w (Vy s (x % 4))).place.set (x % 4).toNat t })
      ⟨q3.w,q3.od,q3.nn,q3.vv,q3.sc,q3.dk,q3.lt,q3.lu,q3.lb,q3.lh,by simp [q3.lp],q3.la,q3.tl,q3.tw,q3.mw,q3.cl⟩ c0 (by omega) (QwE q3.w ht)
   · exact q3
 · rw [if_neg hb]
   split
   · rename_i hc;exact ⟨_,(h.commit c0 (by omega) back hc.2).mono (by omega)⟩
   · exact ⟨ds,h.mono (by omega)⟩
theorem Qrg:((List.range 291).all fun k => QL.getD k 0 == (if k = 1 then 1 else 0)) = true := by kernel_rfl
theorem Qau {a:Nat} (h:a < 291) (h1:a ≠ 1):QL.getD a 0 = 0 := by
 have := List.all_eq_true.1 Qrg a (List.mem_range.2 h);rw [if_neg h1] at this;exact eq_of_beq this
theorem QvW:QL.getD 1 0 = 1 := rfl
theorem QuE:SH [] 0 QL := by
 refine ⟨by kernel_rfl,by kernel_rfl,fun a a0 a1 => ?_⟩
 by_cases b1:291 <= a
 · exact QeR (by simp) b1
 by_cases e1:a = 1
 · subst e1;rw [show (1:Int).toNat = 1 from rfl,QvW];exact QnP (by simp) (by decide)
 rw [Qau (by omega) (by omega)]
 have hb:(0:Int) <= bigW := by decide
 refine ⟨fun _ => by decide,fun q => absurd q e1,fun _ _ => ⟨Int.le_refl _,hb⟩,fun _ _ => ⟨⟨Int.le_refl _,hb⟩,.inl rfl⟩,fun _ _ => ⟨Int.le_refl _,hb⟩,fun _ _ => ⟨Int.le_refl _,fun _ => by decide,fun _ _ => by decide,fun _ => hb⟩,fun s f s0 s1 => by simp at s1;omega,fun s s0 s1 e => by decide⟩
theorem QuF {w:Int} (hw:2 <= w /\ w <= 8):HI w [] 0 ⟨QL,QK,QK,List.replicate 4 ⟨0,[],[],false⟩,List.replicate 4 ⟨0,[],[],false⟩,List.replicate 4 false,0,0,List.replicate 4 0,List.replicate 4 0,[],[],0⟩ := by
 refine ⟨hw,⟨by simp,fun s hs => by simp at hs⟩,rfl,by decide,QuE,by show diskOK QK QK = true;kernel_rfl,rfl,rfl,rfl,rfl,rfl,by decide,by decide,fun t ht => (by cases ht),fun p hp => (by cases hp),fun c c0 c3 hb => ?_⟩
 obtain rfl | rfl | rfl | rfl:c = 0 \/ c = 1 \/ c = 2 \/ c = 3 := by omega
 all_goals cases hb
structure OkStd (cs:List Int) (w f i:Int) (l:List Int):Prop where
 len:cs.length = 771
 wd:2 <= w /\ w <= 8
 f:0 <= f /\ f <= 1048575
 ii:1 <= i /\ i <= w + 1
 l:l.length + (w + 1 - i).toNat <= 8
structure OkLk (w:Int) (cs:List Int) (mp:List (Int × Try)) (tr:List Try) (last i:Int):Prop where
 len:cs.length = 771
 wd:2 <= w /\ w <= 8
 ii:0 <= i /\ i <= w
 la:0 <= last /\ last + (w - i) <= 100000000
 tl:(tr.length:Int) + (w - i) <= 100000000
 mw:∀ p ∈ mp,p.2.writes.length <= 4
structure OkCm (cs:List Int) (n v:Int) (ws:List Qc) (j:Nat):Prop where
 len:cs.length = 771
 nn:0 <= n /\ n < 16
 vv:0 <= v /\ v + (ws.length - j:Nat) <= 60
 wl:Qx ws = true
 jj:j <= ws.length
structure QwF (cs:List Int) (w:Int):Prop where
 len:cs.length = 771
 w:2 <= w /\ w <= 8
 f:0 <= cs.getD 0 0 /\ cs.getD 0 0 <= 1048575
theorem HI.dec {w:Int} {ds:List HD} {k:Int} {s:HS} (h:HI w ds k s):QwF s.cs w := ⟨h.sc.len,h.w,(h.sc.ty 0 (by decide) (by decide)).t0 rfl⟩
open Go.Proofs
noncomputable def keq:Int -> Int -> Bool := Jh s25 .int
open Go.Proofs
structure Qn3 where
 w:Int
 now:List Sector
 sure:List Sector
 cs:List Int
 ts:List Task
 us:List Task
 busy:List Bool
 n:Int
 v:Int
 has:List Int
 place:List Int
 mp:List (Int × Try)
 tr:List Try
 last:Int
 i:Int
noncomputable def Qn4 (w:Int) (now:List Sector) (sure:List Sector) (cs:List Int) (ts:List Task) (us:List Task) (busy:List Bool) (n:Int) (v:Int) (has:List Int) (place:List Int) (mp:List (Int × Try)) (tr:List Try) (last:Int) (i:Int):Env RC := [(0,.ptr 0 []),(2,.sl (C := RC) .int false (cs)),(3,.int .i64 i)]
def VA (w:Int) (now:List Sector) (sure:List Sector) (cs:List Int) (ts:List Task) (us:List Task) (busy:List Bool) (n:Int) (v:Int) (has:List Int) (place:List Int) (mp:List (Int × Try)) (tr:List Try) (last:Int) (i:Int):List (Obj RC) := [.var 50 (.acons (.ptr 1 []) (.acons (.int .i64 w) (.acons (.int .i64 n) (.acons (.int .i64 v) (.acons (.arr (C := RC) .int 4 has) (.acons (.arr (C := RC) .int 4 place) (.acons (.mp 2) (.acons (.vs 3 (tr.length)) (.acons (.int .i64 last) .anil))))))))),.var 44 (.acons (.acons (.sl (C := RC) .int false cs) (.acons (.acons (.sl (C := RC) .sector false now) (.acons (.sl (C := RC) .sector false sure) .anil)) .anil)) (.acons (.arr (C := RC) .task 4 ts) (.acons (.arr (C := RC) .task 4 us) (.acons (.arr (C := RC) .bool 4 busy) .anil)))),.map .int .tryd mp,.vec .tryd true tr]
noncomputable def Qsr (w:Int) (now:List Sector) (sure:List Sector) (cs:List Int) (ts:List Task) (us:List Task) (busy:List Bool) (n:Int) (v:Int) (has:List Int) (place:List Int) (mp:List (Int × Try)) (tr:List Try) (last:Int) (i:Int) := rndO s25 ut_2 36 2 100 4 [0,2,3] [] [.slot 0 0,.path 0 [0],.path 0 [6],.path 0 [7]] (Qn4 w now sure cs ts us busy n v has place mp tr last i) (VA w now sure cs ts us busy n v has place mp tr last i)
theorem QuG (w:Int) (now:List Sector) (sure:List Sector) (cs:List Int) (ts:List Task) (us:List Task) (busy:List Bool) (n:Int) (v:Int) (has:List Int) (place:List Int) (mp:List (Int × Try)) (tr:List Try) (last:Int) (i:Int):Qsr w now sure cs ts us busy n v has place mp tr last i = (let Z0:Int := IntKind.wrap .i64 (last + (1:Int));let Z1:Int := lRing Z0 w;let Z2:Int := List.getD cs Z1.toNat (0:Int);let Z3:D RC := D.arr RTy.int (4:Nat) has;let Z4:D RC := D.arr RTy.int (4:Nat) place;let Z5:Nat := List.length tr;let Z6:D RC := .anil;let Z7:D RC := D.sl RTy.int false cs;let Z8:Option (Obj RC) := some (Obj.var 44 (.acons (D.acons Z7 (D.acons (D.acons (D.sl RTy.sector false now) (.acons (D.sl RTy.sector false sure) Z6)) Z6)) (.acons (D.arr RTy.task (4:Nat) ts) (.acons (D.arr RTy.task (4:Nat) us) (.acons (D.arr RTy.bool (4:Nat) busy) Z6)))));let Z9:Option (Obj RC) := some (Obj.map RTy.int RTy.tryd mp);let Z10:List (Option (Obj RC)) := [some (Obj.var 50 (.acons (D.ptr 1 []) (.acons (D.int .i64 w) (.acons (D.int .i64 n) (.acons (D.int .i64 v) (.acons Z3 (D.acons Z4 (D.acons (D.mp (2:Nat)) (.acons (D.vs 3 Z5) (.acons (D.int .i64 last) Z6)))))))))),Z8,Z9,some (Obj.vec RTy.tryd true tr)];let Z11:Try := Option.getD (mget (Jh s25 RTy.int) (bare Z2) mp) (Try.mk (0:Int) (0:Int) []);let Z12:List Try := [Try.mk Z0 (Try.start Z11) (Try.writes Z11)];bif decide (i < w) then bif decide ((0:Int) <= Z1 /\ Z1 < (↑cs.length:Int)) then bif plc Z2 != Z0 then some ((X.ret,[]),Z10) else bif Nat.beq Z5 Z5 && Qg (Z5 + List.length Z12) (40:Nat) then some ((X.normal,[(0,D.ptr 0 []),(2,Z7),(3,D.int .i64 (IntKind.wrap .i64 (i + (1:Int))))]),[some (Obj.var 50 (.acons (D.ptr 1 []) (.acons (D.int .i64 w) (.acons (D.int .i64 n) (.acons (D.int .i64 v) (.acons Z3 (D.acons Z4 (D.acons (D.mp (2:Nat)) (.acons (D.vs 3 (Z5 + List.length Z12)) (.acons (D.int .i64 Z0) Z6)))))))))),Z8,Z9,some (Obj.vec RTy.tryd true (tr ++ Z12))]) else none else none else some ((X.exit (0:Nat),[]),Z10)) := by kernel_rfl
noncomputable def ZU (w:Int) (now:List Sector) (sure:List Sector) (cs:List Int) (ts:List Task) (us:List Task) (busy:List Bool) (n:Int) (v:Int) (has:List Int) (place:List Int) (mp:List (Int × Try)) (tr:List Try) (last:Int) (i:Int):RT RC := .br (decide ((Zq keq cs w mp (w - i).toNat last tr).1 = last + (w - i))) (.leaf (.exit 0) [] (VA w now sure cs ts us busy n v has place mp (Zq keq cs w mp (w - i).toNat last tr).2 (Zq keq cs w mp (w - i).toNat last tr).1 i)) (.leaf .ret [] (VA w now sure cs ts us busy n v has place mp (Zq keq cs w mp (w - i).toNat last tr).2 (Zq keq cs w mp (w - i).toNat last tr).1 i))
def JI (w:Int) (now:List Sector) (sure:List Sector) (cs:List Int) (ts:List Task) (us:List Task) (busy:List Bool) (n:Int) (v:Int) (has:List Int) (place:List Int) (mp:List (Int × Try)) (tr:List Try) (last:Int) (i:Int):Prop := OkLk w cs mp tr last i
noncomputable def JJ:QU RC Qn3 where
 k := 4
 canon q := Qn4 q.w q.now q.sure q.cs q.ts q.us q.busy q.n q.v q.has q.place q.mp q.tr q.last q.i
 objs q := VA q.w q.now q.sure q.cs q.ts q.us q.busy q.n q.v q.has q.place q.mp q.tr q.last q.i
 fin q := ZU q.w q.now q.sure q.cs q.ts q.us q.busy q.n q.v q.has q.place q.mp q.tr q.last q.i
 Inv q := JI q.w q.now q.sure q.cs q.ts q.us q.busy q.n q.v q.has q.place q.mp q.tr q.last q.i
 μ q := (q.w - q.i).toNat
theorem QiF (w:Int) (now:List Sector) (sure:List Sector) (cs:List Int) (ts:List Task) (us:List Task) (busy:List Bool) (n:Int) (v:Int) (has:List Int) (place:List Int) (mp:List (Int × Try)) (tr:List Try) (last:Int) (i:Int) (hI:JI w now sure cs ts us busy n v has place mp tr last i):Leaf (Qsr w now sure cs ts us busy n v has place mp tr last i) (LedR JJ ⟨w,now,sure,cs,ts,us,busy,n,v,has,place,mp,tr,last,i⟩) := by
 (rw [QuG];conv => zeta)
 unfold JI at hI;obtain ⟨hl,hw,hi,hla,htl,hmw⟩ := hI;have w1:IntKind.i64.wrap (last + 1) = last + 1 := Qb (by omega) (by omega)
 have w2:IntKind.i64.wrap (i + 1) = i + 1 := Qb (by omega) (by omega)
 have eT:∀ h,Option.getD (mget (Jh s25 .int) h mp) (⟨0,0,[]⟩:Try) = QaK keq mp h := fun _ => rfl;have hfin:∀ R,Zq keq cs w mp (w - i).toNat last tr = R -> ZU w now sure cs ts us busy n v has place mp tr last i = .br (decide (R.1 = last + (w - i))) (.leaf (.exit 0) [] (VA w now sure cs ts us busy n v has place mp R.2 R.1 i)) (.leaf .ret [] (VA w now sure cs ts us busy n v has place mp R.2 R.1 i)) := fun R hR => by unfold ZU;rw [hR]
 by_cases hp:i < w
 · obtain ⟨m,hm⟩:∃ m,(w - i).toNat = m + 1 := ⟨(w - i - 1).toNat,by omega⟩
   have hm2:(w - (i + 1)).toNat = m := by omega
   have hr := JA (p := last + 1) (by omega) hw
   have d1:decide (0 <= lRing (last + 1) w /\ lRing (last + 1) w < (cs.length:Int)) = true := decide_eq_true ⟨by omega,by omega⟩
   have hD:Zq keq cs w mp (m + 1) last tr = if plc (cs.getD (lRing (last + 1) w).toNat 0) = last + 1 then
    Zq keq cs w mp m (last + 1) (tr ++ [⟨last + 1,(QaK keq mp (bare (cs.getD (lRing (last + 1) w).toNat 0))).start,(QaK keq mp (bare (cs.getD (lRing (last + 1) w).toNat 0))).writes⟩]) else (last,tr) := rfl
   rw [hm] at hfin;simp only [w1,w2,eT,decide_eq_true hp,d1,J1 rfl,cond_true];generalize cs.getD (lRing (last + 1) w).toNat 0 = y at hD ⊢;generalize QaK keq mp (bare y) = T at hD ⊢;have sz:Qg (tr.length + [(⟨last + 1,T.start,T.writes⟩:Try)].length) 40 = true := VR (by simp only [List.length_cons,List.length_nil];omega)
   by_cases hq:plc y = last + 1
   · rw [YU hq,cond_false,sz];have hfin := hfin _ (hD.trans (if_pos hq));refine Qw (S := JJ) (s := ⟨w,now,sure,cs,ts,us,busy,n,v,has,place,mp,tr,last,i⟩) ⟨w,now,sure,cs,ts,us,busy,n,v,has,place,mp,tr ++ [⟨last + 1,T.start,T.writes⟩],last + 1,i + 1⟩ ⟨hl,hw,by show 0 <= i + 1 /\ i + 1 <= w;omega,by show 0 <= last + 1 /\ last + 1 + (w - (i + 1)) <= 100000000;omega,by show ((tr ++ [_]).length:Int) + (w - (i + 1)) <= 100000000;simp only [List.length_append,List.length_cons,List.length_nil];omega,hmw⟩ (by show (w - (i + 1)).toNat < (w - i).toNat;omega) ?_ rfl ?_
     · show (ZU w now sure cs ts us busy n v has place mp (tr ++ [⟨last + 1,T.start,T.writes⟩]) (last + 1) (i + 1)).val = (ZU w now sure cs ts us busy n v has place mp tr last i).val;rw [hfin];unfold ZU;rw [hm2,show last + 1 + (w - (i + 1)) = last + (w - i) by omega]
       rfl
     · simp only [JJ,VA,List.map_cons,List.map_nil,List.length_append]
   · rw [J0 hq,cond_true];have hfin := hfin _ (hD.trans (if_neg hq));refine Q7 (S := JJ) (s := ⟨w,now,sure,cs,ts,us,busy,n,v,has,place,mp,tr,last,i⟩) (VA w now sure cs ts us busy n v has place mp tr last i) ?_ rfl;show (ZU w now sure cs ts us busy n v has place mp tr last i).val = _;rw [hfin,decide_eq_false (by show ¬ last = last + (w - i);omega)]
     rfl
 · have hm:(w - i).toNat = 0 := by omega
   rw [hm] at hfin;simp only [decide_eq_false hp,cond_false];refine Qn (S := JJ) (s := ⟨w,now,sure,cs,ts,us,busy,n,v,has,place,mp,tr,last,i⟩) (VA w now sure cs ts us busy n v has place mp tr last i) ?_ rfl;show (ZU w now sure cs ts us busy n v has place mp tr last i).val = _;rw [hfin (last,tr) rfl,decide_eq_true (by show last = last + (w - i);omega)]
   rfl
noncomputable def Qn5 (env:Env RC) (os:List (Obj RC)):Option (Bool × Qn3) := match env,os with
 | [(0,.ptr 0 []),(2,.sl .int false x0),(3,.int .i64 i)],[.var 50 (.acons (.ptr 1 []) (.acons (.int .i64 w) (.acons (.int .i64 n) (.acons (.int .i64 v) (.acons (.arr .int 4 has) (.acons (.arr .int 4 place) (.acons (.mp 2) (.acons (.vs 3 x1) (.acons (.int .i64 last) .anil))))))))),.var 44 (.acons (.acons (.sl .int false cs) (.acons (.acons (.sl .sector false now) (.acons (.sl .sector false sure) .anil)) .anil)) (.acons (.arr .task 4 ts) (.acons (.arr .task 4 us) (.acons (.arr .bool 4 busy) .anil)))),.map .int .tryd mp,.vec .tryd true tr] => Qz (true) (cdec (x0 = cs) && decide (x1 = tr.length) && cdec (OkLk w cs mp tr last i),⟨w,now,sure,cs,ts,us,busy,n,v,has,place,mp,tr,last,i⟩)
 | _,_ => none
noncomputable def uv_1 := ut_2.addLoop 36 2 (sumR s25 [.slot 0 0,.path 0 [0],.path 0 [6],.path 0 [7]] [0,2,3] JJ Qn5)
theorem Qn6:Qh Tryz.prog s25 uv_1 := by
 refine QnO.addRoundsR Qa (by kernel_rfl) JJ 100 [0,2,3] [] [.slot 0 0,.path 0 [0],.path 0 [6],.path 0 [7]] [0,2,3] Qn5 (fun q hI => ?_) ?_
 · obtain ⟨w,now,sure,cs,ts,us,busy,n,v,has,place,mp,tr,last,i⟩ := q;refine ⟨?_,?_,QiF w now sure cs ts us busy n v has place mp tr last i hI⟩
   · simp_all [Ql,JJ,Qn4,VA,JI,D.refs,Obj.refs,rEnc]
   · simp_all [JJ,ZU,VA,JI,RT.refsOK,Ql,D.refs,Obj.refs,rEnc]
 · intro env os b q hd_ hb;unfold Qn5 at hd_
   split at hd_
   · obtain ⟨hs,hd_⟩ := Qi hd_;cases hd_;simp only [Bool.and_eq_true,decide_eq_true_eq] at hb;obtain ⟨⟨e0,e1⟩,e2⟩ := hb;have e0 := QP.1 e0;subst e0;subst e1;exact ⟨QP.1 e2,rfl,rfl⟩
   · cases hd_
structure QgW where
 w:Int
 now:List Sector
 sure:List Sector
 cs:List Int
 ts:List Task
 us:List Task
 busy:List Bool
 n:Int
 v:Int
 has:List Int
 place:List Int
 mp:List (Int × Try)
 tr:List Try
 last:Int
def QeY (w:Int) (now:List Sector) (sure:List Sector) (cs:List Int) (ts:List Task) (us:List Task) (busy:List Bool) (n:Int) (v:Int) (has:List Int) (place:List Int) (mp:List (Int × Try)) (tr:List Try) (last:Int):List (D RC) := [.ptr 0 []]
def Jd (w:Int) (now:List Sector) (sure:List Sector) (cs:List Int) (ts:List Task) (us:List Task) (busy:List Bool) (n:Int) (v:Int) (has:List Int) (place:List Int) (mp:List (Int × Try)) (tr:List Try) (last:Int):List (Obj RC) := [.var 50 (.acons (.ptr 1 []) (.acons (.int .i64 w) (.acons (.int .i64 n) (.acons (.int .i64 v) (.acons (.arr (C := RC) .int 4 has) (.acons (.arr (C := RC) .int 4 place) (.acons (.mp 2) (.acons (.vs 3 (tr.length)) (.acons (.int .i64 last) .anil))))))))),.var 44 (.acons (.acons (.sl (C := RC) .int false cs) (.acons (.acons (.sl (C := RC) .sector false now) (.acons (.sl (C := RC) .sector false sure) .anil)) .anil)) (.acons (.arr (C := RC) .task 4 ts) (.acons (.arr (C := RC) .task 4 us) (.acons (.arr (C := RC) .bool 4 busy) .anil)))),.map .int .tryd mp,.vec .tryd true tr]
noncomputable def Qn7 (w:Int) (now:List Sector) (sure:List Sector) (cs:List Int) (ts:List Task) (us:List Task) (busy:List Bool) (n:Int) (v:Int) (has:List Int) (place:List Int) (mp:List (Int × Try)) (tr:List Try) (last:Int) := fnO s25 uv_1 36 100 4 (QeY w now sure cs ts us busy n v has place mp tr last) (Jd w now sure cs ts us busy n v has place mp tr last)
theorem Qrh (w:Int) (now:List Sector) (sure:List Sector) (cs:List Int) (ts:List Task) (us:List Task) (busy:List Bool) (n:Int) (v:Int) (has:List Int) (place:List Int) (mp:List (Int × Try)) (tr:List Try) (last:Int):Qn7 w now sure cs ts us busy n v has place mp tr last = (let Z0:Int × List Try := Zq keq cs w mp (w - (0:Int)).toNat last tr;let Z1:D RC := .anil;let Z2:Option (D RC × List (Option (Obj RC))) := some (D.tup Z1,[some (Obj.var 50 (.acons (D.ptr 1 []) (.acons (D.int .i64 w) (.acons (D.int .i64 n) (.acons (D.int .i64 v) (.acons (D.arr RTy.int (4:Nat) has) (.acons (D.arr RTy.int (4:Nat) place) (.acons (D.mp (2:Nat)) (.acons (D.vs 3 Z0.2.length) (.acons (D.int .i64 Z0.1) Z1)))))))))),some (Obj.var 44 (.acons (D.acons (D.sl RTy.int false cs) (.acons (D.acons (D.sl RTy.sector false now) (.acons (D.sl RTy.sector false sure) Z1)) Z1)) (.acons (D.arr RTy.task (4:Nat) ts) (.acons (D.arr RTy.task (4:Nat) us) (.acons (D.arr RTy.bool (4:Nat) busy) Z1))))),some (Obj.map RTy.int RTy.tryd mp),some (Obj.vec RTy.tryd true Z0.2)]);bif cdec (cs = cs) && decide (List.length tr = List.length tr) && cdec (OkLk w cs mp tr last (0:Int)) then bif decide (Prod.fst Z0 = last + (w - (0:Int))) then Z2 else Z2 else none) := by kernel_rfl
noncomputable def QdZ (w:Int) (now:List Sector) (sure:List Sector) (cs:List Int) (ts:List Task) (us:List Task) (busy:List Bool) (n:Int) (v:Int) (has:List Int) (place:List Int) (mp:List (Int × Try)) (tr:List Try) (last:Int):RT RC := .leaf .ret [(0,.tup .anil)] (Jd w now sure cs ts us busy n v has place mp (Zq keq cs w mp w.toNat last tr).2 (Zq keq cs w mp w.toNat last tr).1)
def Qav (w:Int) (now:List Sector) (sure:List Sector) (cs:List Int) (ts:List Task) (us:List Task) (busy:List Bool) (n:Int) (v:Int) (has:List Int) (place:List Int) (mp:List (Int × Try)) (tr:List Try) (last:Int):Prop := OkLk w cs mp tr last 0
noncomputable def Je:FunR RC QgW where
 k := 4
 args q := QeY q.w q.now q.sure q.cs q.ts q.us q.busy q.n q.v q.has q.place q.mp q.tr q.last
 objs q := Jd q.w q.now q.sure q.cs q.ts q.us q.busy q.n q.v q.has q.place q.mp q.tr q.last
 fin q := QdZ q.w q.now q.sure q.cs q.ts q.us q.busy q.n q.v q.has q.place q.mp q.tr q.last
 Inv q := Qav q.w q.now q.sure q.cs q.ts q.us q.busy q.n q.v q.has q.place q.mp q.tr q.last
theorem Qri (w:Int) (now:List Sector) (sure:List Sector) (cs:List Int) (ts:List Task) (us:List Task) (busy:List Bool) (n:Int) (v:Int) (has:List Int) (place:List Int) (mp:List (Int × Try)) (tr:List Try) (last:Int) (hI:Qav w now sure cs ts us busy n v has place mp tr last):Leaf (Qn7 w now sure cs ts us busy n v has place mp tr last) (LedF Je ⟨w,now,sure,cs,ts,us,busy,n,v,has,place,mp,tr,last⟩) := by
 (rw [Qrh];conv => zeta)
 unfold Qav at hI;have k0:cdec True = true := QD trivial;have k1:cdec (OkLk w cs mp tr last 0) = true := QD hI;simp only [k0,k1,Int.sub_zero,decide_true,Bool.and_self,cond_true];cases decide ((Zq keq cs w mp w.toNat last tr).1 = last + w)
 · exact QeB (S := Je) (s := ⟨w,now,sure,cs,ts,us,busy,n,v,has,place,mp,tr,last⟩) (Jd w now sure cs ts us busy n v has place mp (Zq keq cs w mp w.toNat last tr).2 (Zq keq cs w mp w.toNat last tr).1) rfl rfl
 · exact QeB (S := Je) (s := ⟨w,now,sure,cs,ts,us,busy,n,v,has,place,mp,tr,last⟩) (Jd w now sure cs ts us busy n v has place mp (Zq keq cs w mp w.toNat last tr).2 (Zq keq cs w mp w.toNat last tr).1) rfl rfl
noncomputable def QeZ (env:Env RC) (os:List (Obj RC)):Option (Bool × QgW) := match env,os with
 | [(0,.ptr 0 [])],[.var 50 (.acons (.ptr 1 []) (.acons (.int .i64 w) (.acons (.int .i64 n) (.acons (.int .i64 v) (.acons (.arr .int 4 has) (.acons (.arr .int 4 place) (.acons (.mp 2) (.acons (.vs 3 x0) (.acons (.int .i64 last) .anil))))))))),.var 44 (.acons (.acons (.sl .int false cs) (.acons (.acons (.sl .sector false now) (.acons (.sl .sector false sure) .anil)) .anil)) (.acons (.arr .task 4 ts) (.acons (.arr .task 4 us) (.acons (.arr .bool 4 busy) .anil)))),.map .int .tryd mp,.vec .tryd true tr] => Qz (true) (decide (x0 = tr.length) && cdec (OkLk w cs mp tr last 0),⟨w,now,sure,cs,ts,us,busy,n,v,has,place,mp,tr,last⟩)
 | _,_ => none
noncomputable def uv_2 := uv_1.addObj 36 (sumF s25 [.slot 0 0,.path 0 [0],.path 0 [6],.path 0 [7]] 1 Je QeZ)
theorem Qn8:Qh Tryz.prog s25 uv_2 := by
 refine Qn6.addFun Qa Je 100 1 [.slot 0 0,.path 0 [0],.path 0 [6],.path 0 [7]] QeZ (fun q hI => ?_) ?_
 · obtain ⟨w,now,sure,cs,ts,us,busy,n,v,has,place,mp,tr,last⟩ := q;refine ⟨?_,?_,rfl,Qri w now sure cs ts us busy n v has place mp tr last hI⟩
   · simp [Ql,Je,QeY,Jd,eargs,D.refs,Obj.refs]
   · simp [Je,QdZ,Jd,RT.refsOK,Ql,D.refs,Obj.refs]
 · intro env os b q hd_ hb;unfold QeZ at hd_
   split at hd_
   · obtain ⟨hs,hd_⟩ := Qi hd_;cases hd_
     try simp only [Bool.and_eq_true,decide_eq_true_eq] at hb
     obtain ⟨e0,e1⟩ := hb;subst e0;exact ⟨QP.1 e1,rfl,rfl⟩
   · cases hd_
end Go.Ev
