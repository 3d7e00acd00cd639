/-
  A part of the proof of a statement of this seat: the model is run over values by content, proved sound; what the functions come to. No condition beyond the given statements. (text 4)
-/
import Derived.Test.YtnopcebdncdbgaaGreatP2
namespace Go.Ev
open Go.Proofs
set_option maxRecDepth 100000
set_option linter.unusedVariables false
set_option linter.unusedSimpArgs false
structure Ki where
 cp : Bool
 bs : List UInt8
 c : Bool
 l : List Qd
 i : Nat
def Jc (cp : Bool) (bs : List UInt8) (c : Bool) (l : List Qd) (i : Nat) : Env RC := [(4,.ptr 0 []),(28,.sl (C := RC) .write c l),(29,.int .i64 (l.length)),(30,.int .i64 (i : Int))]
def Zt (cp : Bool) (bs : List UInt8) (c : Bool) (l : List Qd) (i : Nat) : List (Obj RC) := [.var 155 (.acons (.sl (C := RC) .u8 cp bs) .anil)]
noncomputable def K9 (cp : Bool) (bs : List UInt8) (c : Bool) (l : List Qd) (i : Nat) := rndO s25 ub_1 50 11 40 1 [4,28,29,30] [] [.slot 4 0] (Jc cp bs c l i) (Zt cp bs c l i)
theorem QcS (cp : Bool) (bs : List UInt8) (c : Bool) (l : List Qd) (i : Nat) : K9 cp bs c l i = (let Z0 : Int := (↑i : Int);let Z1 : Int := (↑l.length : Int);let Z2 : Qd := List.getD l Z0.toNat (Qd.mk (0 : Int) (0 : Int));let Z3 : List UInt8 := putL bs (Qd.key Z2) (1 : Nat);bif decide (Z0 < Z1) then bif decide ((0 : Int) <= Z0 /\ Z0 < Z1) then bif decide (List.length bs <= (1000000000 : Nat)) then bif decide (List.length Z3 <= (1000000000 : Nat)) then some ((X.normal,[(4,D.ptr 0 []),(28,D.sl RTy.write c l),(29,D.int .i64 Z1),(30,D.int .i64 (IntKind.wrap .i64 (Z0 + (1 : Int))))]),[some (Obj.var 155 (.acons (D.sl RTy.u8 (!QL (Qd.value Z2) (1 : Nat)) (putL Z3 (Qd.value Z2) (1 : Nat))) .anil))]) else none else none else none else some ((X.exit (0 : Nat),[]),[some (Obj.var 155 (.acons (D.sl RTy.u8 cp bs) .anil))])) := by kernel_rfl
def ZR (cp : Bool) (bs : List UInt8) (c : Bool) (l : List Qd) (i : Nat) : RT RC := .leaf (.exit 0) [] [.var 155 (.acons (.sl (C := RC) .u8 (cp && (l.drop i).isEmpty) (bs ++ (l.drop i).flatMap Yr)) .anil)]
def Zl (cp : Bool) (bs : List UInt8) (c : Bool) (l : List Qd) (i : Nat) : Prop := i <= l.length /\ l.length <= 1000000 /\ bs.length <= 1000000 + 2 * i /\ l.all fitW = true
def Q8 : QT RC Ki where
 k := 1
 canon q := Jc q.cp q.bs q.c q.l q.i
 objs q := Zt q.cp q.bs q.c q.l q.i
 fin q := ZR q.cp q.bs q.c q.l q.i
 Inv q := Zl q.cp q.bs q.c q.l q.i
 μ q := q.l.length - q.i
theorem Qaa (cp : Bool) (bs : List UInt8) (c : Bool) (l : List Qd) (i : Nat) (hI : Zl cp bs c l i) : Leaf (K9 cp bs c l i) (LedR Q8 ⟨cp,bs,c,l,i⟩) := by
 (rw [QcS];conv => zeta)
 unfold Zl at hI;obtain ⟨h1,h2,h3,h4⟩ := hI
 by_cases hlt : i < l.length
 · have w_succ : IntKind.i64.wrap ((i : Int) + 1) = ((i + 1 : Nat) : Int) := by rw [Qc (by omega) (by omega)];simp
   have d_lt : decide ((i : Int) < l.length) = true := by simp;omega
   have d_in : decide (0 <= (i : Int) /\ (i : Int) < l.length) = true := by simp;omega
   have t_nat : ((i : Int)).toNat = i := by simp
   simp only [w_succ,d_lt,d_in,t_nat,cond_true];have hf := Qo8 h4 hlt (⟨0,0⟩ : Qd);have hd : (l.drop i).flatMap Yr = _ := YF l i Yr hlt (⟨0,0⟩ : Qd);have he : (l.drop i).isEmpty = false := by simp;omega
   generalize l.getD i (⟨0,0⟩ : Qd) = x at hf hd ⊢;simp only [fitW,Bool.and_eq_true] at hf;simp only [Zd (QbG hf.1),Zd (QbG hf.2),QbG hf.1,QbG hf.2];have n1 : decide (bs.length <= 1000000000) = true := decide_eq_true (by omega)
   have n2 : decide ((bs ++ leB x.key 1).length <= 1000000000) = true := decide_eq_true (by simp [QG];omega)
   simp only [Int.toNat_one,Zd (QbG hf.1),Zd (QbG hf.2),QbG hf.1,QbG hf.2,n1,n2,cond_true,Bool.not_true];refine QB ⟨false,bs ++ leB x.key 1 ++ leB x.value 1,c,l,i + 1⟩ ⟨hlt,h2,by simp [QG];omega,h4⟩ (by simp only [Q8];omega) ?_ rfl rfl
   simp only [Q8,ZR,hd,he,Yr,leB,RT.val];simp
 · have hi : i = l.length := by omega
   have c1 : decide ((i : Int) < l.length) = false := by simp;omega
   rw [c1];exact Qn (Zt cp bs c l i) (by simp [Q8,ZR,Zt,hi,RT.val]) rfl
def Jd (env : Env RC) (os : List (Obj RC)) : Option (Bool × Ki) := match env,os with
 | [(4,.ptr 0 []),(28,.sl .write c l),(29,.int .i64 x0),(30,.int .i64 x1)],[.var 155 (.acons (.sl .u8 cp bs) .anil)] => QA (true) (decide (x0 = l.length) && decide (x1 = 0) && decide (l.length <= 1000000 /\ bs.length <= 1000000) && l.all fitW,⟨cp,bs,c,l,0⟩)
 | _,_ => none
noncomputable def uc_1 := ub_1.addLoop 50 11 (sumR s25 [.slot 4 0] [4,28,29,30] Q8 Jd)
theorem QjR : Qi Tryz.prog s25 uc_1 := by
 refine QjQ.addRoundsR Qb (by kernel_rfl) Q8 40 [4,28,29,30] [] [.slot 4 0] [4,28,29,30] Jd (fun q hI => ?_) ?_
 · obtain ⟨cp,bs,c,l,i⟩ := q;refine ⟨?_,?_,Qaa cp bs c l i hI⟩
   · simp_all [Qm,Q8,Jc,Zt,Zl,D.refs,Obj.refs,rEnc]
   · simp_all [Q8,ZR,Zt,Zl,RT.refsOK,Qm,D.refs,Obj.refs,rEnc]
 · intro env os b q hd_ hb;unfold Jd at hd_
   split at hd_
   · obtain ⟨hs,hd_⟩ := Qj hd_;cases hd_;simp only [Bool.and_eq_true,decide_eq_true_eq] at hb;obtain ⟨⟨⟨rfl,rfl⟩,hl⟩,ha⟩ := hb;exact ⟨⟨Nat.zero_le _,hl.1,Nat.le_trans hl.2 (Nat.le_add_right _ _),ha⟩,rfl,rfl⟩
   · cases hd_
def QjS (p : Int) (y : Bool) (c : Bool) (l : List Qd) : Option (Bool × D RC) := some (lenOK l.length,.tup (.acons (.sl (C := RC) .u8 (!mayB ⟨p,y,l⟩) (bif mayB ⟨p,y,l⟩ then ZF ⟨p,y,l⟩ else [])) (.acons (.int .i64 (bif mayB ⟨p,y,l⟩ then 0 else 2)) .anil)))
def Qfv : List (D RC) -> Option (Bool × D RC)
 | [.acons (.int .i64 p) (.acons (.bool y) (.acons (.sl .write c l) .anil))] => QjS p y c l
 | _ => none
noncomputable def QjT (p : Int) (y : Bool) (c : Bool) (l : List Qd) := evF s25 uc_1 40 50 [.acons (.int .i64 p) (.acons (.bool y) (.acons (.sl (C := RC) .write c l) .anil))]
theorem Qpb (p : Int) (y : Bool) (c : Bool) (l : List Qd) : QjT p y c l = (let Z0 : Nat := List.length l;let Z1 : List UInt8 := putL (putL [] p (3 : Nat)) (bif y then (1 : Int) else (0 : Int)) (1 : Nat);let Z2 : Int := (↑Z0 : Int);bif lenOK Z0 then bif !mayB (Rec.mk p y l) then some (D.tup (D.acons (D.sl RTy.u8 true []) (.acons (D.int .i64 2) .anil))) else bif decide (List.length (putL [] p (3 : Nat)) <= (1000000000 : Nat)) then bif lenOK Z0 then bif decide (List.length Z1 <= (1000000000 : Nat)) then bif lenOK Z0 then bif decide (Z2 = Z2) && true && decide (Z0 <= (1000000 : Nat) /\ List.length (putL Z1 Z2 (1 : Nat)) <= (1000000 : Nat)) && List.all l fitW then some (D.tup (D.acons (D.sl RTy.u8 (!QL Z2 (1 : Nat) && List.isEmpty (List.drop (0 : Nat) l)) (putL Z1 Z2 (1 : Nat) ++ List.flatMap Yr (List.drop (0 : Nat) l))) (.acons (D.int .i64 0) .anil))) else none else none else none else none else none else none) := by kernel_rfl
theorem Qpc (p : Int) (y : Bool) (c : Bool) (l : List Qd) (h : (lenOK l.length) = true) : QjT p y c l = some (.tup (.acons (.sl (C := RC) .u8 (!mayB ⟨p,y,l⟩) (bif mayB ⟨p,y,l⟩ then ZF ⟨p,y,l⟩ else [])) (.acons (.int .i64 (bif mayB ⟨p,y,l⟩ then 0 else 2)) .anil))) := by
 (rw [Qpb];conv => zeta)
 rw [h];cases hm : mayB ⟨p,y,l⟩
 · rfl
 · obtain ⟨hp,hl,hw⟩ := Jx hm;have f3 := Qvt (n := p) (by rw [QD];omega)
   have f1 : QL (l.length : Int) 1 = true := QbG (by rw [QD];omega)
   have fy1 : QL 1 1 = true := rfl;have fy0 : QL 0 1 = true := rfl;have g1 : decide (([] : List UInt8).length <= 1000000000) = true := rfl;have g2 : ∀ b : List UInt8,b.length <= 1000 -> decide (b.length <= 1000000000) = true := fun b hb => decide_eq_true (by omega)
   have g3 : ∀ b : List UInt8,b.length <= 1000 -> (decide (l.length <= 1000000 /\ b.length <= 1000000)) = true := fun b hb => by simp;omega
   cases y <;> simp only [Int.toNat_one,show Int.toNat 3 = 3 from rfl,Zd f3,Zd f1,Zd fy1,Zd fy0,f3,f1,fy1,fy0,g1,cond_true,cond_false,Bool.not_true,Bool.not_false]
   · rw [g2 _ (by simp [QG]),g2 _ (by simp [QG]),g3 _ (by simp [QG]),hw]
     simp [ZF]
   · rw [g2 _ (by simp [QG]),g2 _ (by simp [QG]),g3 _ (by simp [QG]),hw]
     simp [ZF]
noncomputable def uc_2 := uc_1.addSpec 50 Qfv
theorem QjU : Qi Tryz.prog s25 uc_2 := QjR.addEv Qb fun args d h => by
 unfold Qfv at h
 split at h
 · unfold QjS at h;have h1 := congrArg Prod.fst (Option.some.inj h);obtain rfl : _ = d := congrArg Prod.snd (Option.some.inj h);exact ⟨by simp [D.refs],40,Qpc _ _ _ _ h1⟩
 · cases h
theorem QaX {α : Type} [DecidableEq α] (l m : List α) (i : Nat) (d : α) (hlt : i < l.length) (hlen : l.length = m.length) :
 decide (l.drop i = m.drop i) = (decide (l.getD i d = m.getD i d) && decide (l.drop (i + 1) = m.drop (i + 1))) := by
 have e1 := List.drop_eq_getElem_cons hlt;have e2 := List.drop_eq_getElem_cons (show i < m.length by omega)
 have h1 : l.getD i d = l[i] := by simp [hlt]
 have h2 : m.getD i d = m[i]'(by omega) := by simp [show i < m.length by omega]
 rw [h1,h2,e1,e2,Bool.eq_iff_iff];simp only [List.cons.injEq,decide_eq_true_eq,Bool.and_eq_true]
theorem QcT {α : Type} [DecidableEq α] (l m : List α) (i : Nat) (h1 : l.length <= i) (h2 : m.length <= i) : decide (l.drop i = m.drop i) = true := by
 simp [List.drop_eq_nil_of_le h1,List.drop_eq_nil_of_le h2]
theorem putD {n : Int} (h0 : 0 <= n) (h1 : n <= 9223372036854775807) : IntKind.i64.wrap (n.tdiv 256) = n.fdiv 256 /\ 0 <= n.fdiv 256 /\ n.fdiv 256 <= 9223372036854775807 := by
 obtain ⟨a,b⟩ := Qen h0;rw [Int.tdiv_eq_ediv_of_nonneg h0,b];exact ⟨Qc (by omega) (by omega),by omega,by omega⟩
theorem putB {n : Int} (h0 : 0 <= n) : UInt8.ofNat (IntKind.u8.wrap (n.tmod 256)).toNat = Q0 n := by
 rw [Q0,QbF,QbF,Int.tmod_eq_emod_of_nonneg h0,Int.emod_emod_of_dvd _ (by decide)]
theorem leB1 (n : Int) : leB n 1 = [Q0 n] := rfl
open Go.Proofs
structure QcU where
 n : Int
 w : Int
 i : Nat
def QbJ (n : Int) (w : Int) (i : Nat) : Env RC := [(0,.int .i64 n),(1,.int .i64 w),(5,.int .i64 (i : Int))]
def KB (n : Int) (w : Int) (i : Nat) : List (Obj RC) := []
noncomputable def Qfw (n : Int) (w : Int) (i : Nat) := rndO s25 uc_2 159 4 40 0 [0,1,5] [0] [] (QbJ n w i) (KB n w i)
theorem QjV (n : Int) (w : Int) (i : Nat) : Qfw n w i = (bif decide ((↑i : Int) < w) then some ((X.normal,[(0,D.int .i64 (IntKind.wrap .i64 (Int.tdiv n (256 : Int)))),(1,D.int .i64 w),(5,D.int .i64 (IntKind.wrap .i64 ((↑i : Int) + (1 : Int))))]),[]) else some ((X.exit (0 : Nat),[(0,D.int .i64 n)]),[])) := by kernel_rfl
def VP (n : Int) (w : Int) (i : Nat) : RT RC := .leaf (.exit 0) [(0,.int .i64 (n / 256 ^ (w.toNat - i)))] []
def Zu (n : Int) (w : Int) (i : Nat) : Prop := 0 <= n /\ n <= 9223372036854775807 /\ (i : Int) <= w /\ w <= 6
def Zw : QT RC QcU where
 k := 0
 canon q := QbJ q.n q.w q.i
 objs q := KB q.n q.w q.i
 fin q := VP q.n q.w q.i
 Inv q := Zu q.n q.w q.i
 μ q := q.w.toNat - q.i
theorem QcV (n : Int) (w : Int) (i : Nat) (hI : Zu n w i) : Leaf (Qfw n w i) (LedR Zw ⟨n,w,i⟩) := by
 rw [QjV];unfold Zu at hI;obtain ⟨h1,h2,h3,h4⟩ := hI
 by_cases hlt : (i : Int) < w
 · have w_succ : IntKind.i64.wrap ((i : Int) + 1) = ((i + 1 : Nat) : Int) := by rw [Qc (by omega) (by omega)];simp
   have hd : IntKind.i64.wrap (n.tdiv 256) = n / 256 := by rw [Int.tdiv_eq_ediv_of_nonneg h1];exact Qc (by omega) (by omega)
   simp only [hlt,decide_true,cond_true,w_succ,hd];refine QB ⟨n / 256,w,i + 1⟩ (by simp only [Zw,Zu];omega) (by simp only [Zw];omega) ?_ rfl rfl
   simp only [Zw,VP];have : w.toNat - i = (w.toNat - (i + 1)) + 1 := by omega
   rw [this,Int.pow_succ',Int.ediv_ediv_of_nonneg (by omega)]
 · have hi : w.toNat - i = 0 := by omega
   simp only [hlt,decide_false,cond_false];exact Qn [] (by simp [Zw,VP,hi,RT.val]) rfl
def QbK (env : Env RC) (os : List (Obj RC)) : Option (Bool × QcU) := match env,os with
 | [(0,.int .i64 n),(1,.int .i64 w),(5,.int .i64 x0)],[] => QA (true) (decide (x0 = 0) && decide (0 <= n /\ n <= 9223372036854775807 /\ 0 <= w /\ w <= 6),⟨n,w,0⟩)
 | _,_ => none
noncomputable def ud_1 := uc_2.addLoop 159 4 (sumR s25 [] [0,1,5] Zw QbK)
theorem QjW : Qi Tryz.prog s25 ud_1 := by
 refine QjU.addRoundsR Qb (by kernel_rfl) Zw 40 [0,1,5] [0] [] [0,1,5] QbK (fun q hI => ?_) ?_
 · obtain ⟨n,w,i⟩ := q;refine ⟨?_,?_,QcV n w i hI⟩
   · simp_all [Qm,Zw,QbJ,KB,Zu,D.refs,Obj.refs,rEnc]
   · simp_all [Zw,VP,KB,Zu,RT.refsOK,Qm,D.refs,Obj.refs,rEnc]
 · intro env os b q hd_ hb;unfold QbK at hd_
   split at hd_
   · obtain ⟨hs,hd_⟩ := Qj hd_;cases hd_;simp only [Bool.and_eq_true,decide_eq_true_eq] at hb;obtain ⟨rfl,hq⟩ := hb;exact ⟨by simp only [Zw,Zu];omega,rfl,rfl⟩
   · cases hd_
def Qfx (n : Int) (w : Int) : Option (Bool × D RC) := some (decide (n <= 9223372036854775807 /\ 1 <= w /\ w <= 6) && QL n w.toNat,.bool true)
def QcW : List (D RC) -> Option (Bool × D RC)
 | [.int .i64 n,.int .i64 w] => Qfx n w
 | _ => none
noncomputable def Qfy (n : Int) (w : Int) := evF s25 ud_1 40 159 [.int .i64 n,.int .i64 w]
theorem QjX (n : Int) (w : Int) : Qfy n w = (let Z0 : DO_ := some (D.bool false);bif decide (w < (1 : Int)) then Z0 else bif decide ((6 : Int) < w) then Z0 else bif decide (n < (0 : Int)) then Z0 else bif decide ((0 : Int) <= n /\ n <= (9223372036854775807 : Int) /\ (0 : Int) <= w /\ w <= (6 : Int)) then some (D.bool (n / (256 : Int) ^ (Int.toNat w - 0) == (0 : Int))) else none) := by kernel_rfl
theorem QjY (n : Int) (w : Int) (h : (decide (n <= 9223372036854775807 /\ 1 <= w /\ w <= 6) && QL n w.toNat) = true) : Qfy n w = some (.bool true) := by
 (rw [QjX];conv => zeta)
 simp only [Bool.and_eq_true,decide_eq_true_eq] at h;obtain ⟨⟨hn,hw1,hw6⟩,hf⟩ := h;have h0 : 0 <= n := (Zk.1 hf).1;have w1 : ¬ w < 1 := by omega
 have w6 : ¬ 6 < w := by omega
 have n0 : ¬ n < 0 := by omega
 have hc : (0 <= n /\ n <= 9223372036854775807 /\ 0 <= w /\ w <= 6) := by omega
 have hp : (0 : Int) < 256 ^ w.toNat := Int.pow_pos (by decide)
 have hz : n / 256 ^ w.toNat = 0 := (Int.ediv_eq_zero_iff_of_pos' h0 hp).2 (Zk.1 hf).2;rw [decide_eq_false w1,decide_eq_false w6,decide_eq_false n0,decide_eq_true hc];simp only [cond_false,cond_true,Nat.sub_zero,hz];rfl
noncomputable def ud_2 := ud_1.addSpec 159 QcW
theorem QjZ : Qi Tryz.prog s25 ud_2 := QjW.addEv Qb fun args d h => by
 unfold QcW at h
 split at h
 · unfold Qfx at h;have h1 := congrArg Prod.fst (Option.some.inj h);obtain rfl : _ = d := congrArg Prod.snd (Option.some.inj h);exact ⟨by simp [D.refs],40,QjY _ _ h1⟩
 · cases h
structure Qfz where
 c : Bool
 b : List UInt8
 a : Int
 i : Int
 m : Nat
def Qer (c : Bool) (b : List UInt8) (a : Int) (i : Int) (m : Nat) : Env RC := [(0,.sl (C := RC) .u8 c b),(1,.int .i64 a),(9,.int .i64 i),(8,.int .i64 (m : Int))]
def QbL (c : Bool) (b : List UInt8) (a : Int) (i : Int) (m : Nat) : List (Obj RC) := []
noncomputable def Qj0 (c : Bool) (b : List UInt8) (a : Int) (i : Int) (m : Nat) := rndO s25 ud_2 97 7 40 0 [0,1,9,8] [8] [] (Qer c b a i m) (QbL c b a i m)
theorem Qpd (c : Bool) (b : List UInt8) (a : Int) (i : Int) (m : Nat) : Qj0 c b a i m = (let Z0 : Int := IntKind.wrap .i64 (a + i);bif decide ((0 : Int) <= i) then bif decide ((0 : Int) <= Z0 /\ Z0 < (↑b.length : Int)) then some ((X.normal,[(0,D.sl RTy.u8 c b),(1,D.int .i64 a),(9,D.int .i64 (IntKind.wrap .i64 (i - (1 : Int)))),(8,D.int .i64 (IntKind.wrap .i64 (IntKind.wrap .i64 ((256 : Int) * (↑m : Int)) + IntKind.wrap .i64 (↑(UInt8.toNat (List.getD b Z0.toNat (UInt8.ofBitVec (BitVec.ofNat (8 : Nat) (nat_lit 0))))) : Int))))]),[]) else none else some ((X.exit (0 : Nat),[(8,D.int .i64 (↑m : Int))]),[])) := by kernel_rfl
def Jy (c : Bool) (b : List UInt8) (a : Int) (i : Int) (m : Nat) : RT RC := .leaf (.exit 0) [(8,.int .i64 ((m * 256 ^ (i + 1).toNat + Jw ((b.drop a.toNat).take (i + 1).toNat) : Nat) : Int))] []
def YG (c : Bool) (b : List UInt8) (a : Int) (i : Int) (m : Nat) : Prop := -1 <= i /\ i <= 5 /\ 0 <= a /\ a + i + 1 <= b.length /\ b.length <= 1000000000000 /\ m < 256 ^ (5 - i).toNat
def Vp : QT RC Qfz where
 k := 0
 canon q := Qer q.c q.b q.a q.i q.m
 objs q := QbL q.c q.b q.a q.i q.m
 fin q := Jy q.c q.b q.a q.i q.m
 Inv q := YG q.c q.b q.a q.i q.m
 μ q := (q.i + 1).toNat
theorem Qes (c : Bool) (b : List UInt8) (a : Int) (i : Int) (m : Nat) (hI : YG c b a i m) : Leaf (Qj0 c b a i m) (LedR Vp ⟨c,b,a,i,m⟩) := by
 (rw [Qpd];conv => zeta)
 unfold YG at hI;obtain ⟨h1,h2,h3,h4,h5,h6⟩ := hI
 by_cases hlt : 0 <= i
 · have w1 : IntKind.i64.wrap (a + i) = a + i := Qc (by omega) (by omega)
   have w2 : IntKind.i64.wrap (i - 1) = i - 1 := Qc (by omega) (by omega)
   have d1 : decide (0 <= a + i /\ a + i < b.length) = true := by simp;omega
   have hm : m < 256 ^ 5 := Nat.lt_of_lt_of_le h6 (Nat.pow_le_pow_right (by omega) (by omega))
   have hx := (b.getD (a + i).toNat ⟨0#8⟩).toNat_lt;have w3 : IntKind.i64.wrap (256 * (m : Int)) = ((256 * m : Nat) : Int) := by rw [Qc (by omega) (by omega)];simp
   have w4 : IntKind.i64.wrap (((256 * m : Nat) : Int) + ((b.getD (a + i).toNat ⟨0#8⟩).toNat : Int)) = ((256 * m + (b.getD (a + i).toNat ⟨0#8⟩).toNat : Nat) : Int) := by
    rw [Qc (by omega) (by omega)];simp
   simp only [hlt,decide_true,cond_true,w1,w2,d1,w3,Qvs,w4];have hk : (5 - (i - 1)).toNat = (5 - i).toNat + 1 := by omega
   have hI' : YG c b a (i - 1) (256 * m + (b.getD (a + i).toNat ⟨0#8⟩).toNat) := ⟨by omega,by omega,h3,by omega,h5,by rw [hk,Nat.pow_succ];omega⟩
   refine QB ⟨c,b,a,i - 1,256 * m + (b.getD (a + i).toNat ⟨0#8⟩).toNat⟩ hI' (by simp only [Vp];omega) ?_ rfl rfl
   · simp only [Vp,Jy];obtain ⟨k,rfl⟩ : ∃ k : Nat,i = k := ⟨i.toNat,by omega⟩
     obtain ⟨p,rfl⟩ : ∃ p : Nat,a = p := ⟨a.toNat,by omega⟩
     have e1 : ((k : Int) - 1 + 1).toNat = k := by omega
     have e2 : ((k : Int) + 1).toNat = k + 1 := by omega
     have e3 : ((p : Int) + (k : Int)).toNat = p + k := by omega
     have e4 : ((p : Int)).toNat = p := by omega
     rw [e1,e2,e3,e4];have hl : ((b.drop p).take k).length = k := by simp;omega
     have hg : (b.drop p)[k]? = some (b.getD (p + k) ⟨0#8⟩) := by
      simp [List.getElem?_drop,show p + k < b.length by omega]
     rw [List.take_add_one,Kh,hl,hg];simp only [Option.toList_some,Jw]
     have : (256 * m + (b.getD (p + k) ⟨0#8⟩).toNat) * 256 ^ k + Jw ((b.drop p).take k) = m * 256 ^ (k + 1) + (Jw ((b.drop p).take k) + 256 ^ k * ((b.getD (p + k) ⟨0#8⟩).toNat + 256 * 0)) := by
      rw [Nat.pow_succ,Nat.add_mul,Nat.mul_comm 256 m,Nat.mul_assoc,Nat.mul_comm 256 (256 ^ k),Nat.mul_comm (b.getD (p + k) ⟨0#8⟩).toNat];simp;omega
     rw [this]
 · have e0 : (i + 1).toNat = 0 := by omega
   simp only [hlt,decide_false,cond_false];exact Qn [] (by simp [Vp,Jy,e0,RT.val,Jw]) rfl
def Qet (env : Env RC) (os : List (Obj RC)) : Option (Bool × Qfz) := match env,os with
 | [(0,.sl .u8 c b),(1,.int .i64 a),(9,.int .i64 i),(8,.int .i64 x0)],[] => QA (true) (decide (x0 = 0) && decide (-1 <= i /\ i <= 5 /\ 0 <= a /\ a + i + 1 <= b.length /\ b.length <= 1000000000000),⟨c,b,a,i,0⟩)
 | _,_ => none
noncomputable def ud_3 := ud_2.addLoop 97 7 (sumR s25 [] [0,1,9,8] Vp Qet)
theorem Qj1 : Qi Tryz.prog s25 ud_3 := by
 refine QjZ.addRoundsR Qb (by kernel_rfl) Vp 40 [0,1,9,8] [8] [] [0,1,9,8] Qet (fun q hI => ?_) ?_
 · obtain ⟨c,b,a,i,m⟩ := q;refine ⟨?_,?_,Qes c b a i m hI⟩
   · simp_all [Qm,Vp,Qer,QbL,YG,D.refs,Obj.refs,rEnc]
   · simp_all [Vp,Jy,QbL,YG,RT.refsOK,Qm,D.refs,Obj.refs,rEnc]
 · intro env os b q hd_ hb;unfold Qet at hd_
   split at hd_
   · obtain ⟨hs,hd_⟩ := Qj hd_;cases hd_;simp only [Bool.and_eq_true,decide_eq_true_eq] at hb;obtain ⟨rfl,h⟩ := hb;exact ⟨⟨h.1,h.2.1,h.2.2.1,h.2.2.2.1,h.2.2.2.2,Nat.pow_pos (by omega)⟩,rfl,rfl⟩
   · cases hd_
def Qj2 (c : Bool) (b : List UInt8) (a : Int) (w : Int) : Option (Bool × D RC) := some (decide (b.length <= 1000000000000),.tup (.acons (.int .i64 (getP b a w).1) (.acons (.int .i64 (getP b a w).2) .anil)))
def QfA : List (D RC) -> Option (Bool × D RC)
 | [.sl .u8 c b,.int .i64 a,.int .i64 w] => Qj2 c b a w
 | _ => none
noncomputable def Qj3 (c : Bool) (b : List UInt8) (a : Int) (w : Int) := evF s25 ud_3 40 97 [.sl (C := RC) .u8 c b,.int .i64 a,.int .i64 w]
theorem Qpe (c : Bool) (b : List UInt8) (a : Int) (w : Int) : Qj3 c b a w = (let Z0 : D RC := D.int .i64 0;let Z1 : DO_ := some (D.tup (D.acons Z0 (D.acons (D.int .i64 2) .anil)));let Z2 : DO_ := some (D.tup (D.acons Z0 (D.acons (D.int .i64 50) .anil)));let Z3 : Nat := List.length b;let Z4 : Int := (↑Z3 : Int);let Z5 : Int := IntKind.wrap .i64 (w - (1 : Int));let Z6 : Nat := Int.toNat (Z5 + (1 : Int));bif decide (w < (1 : Int)) then Z1 else bif decide ((6 : Int) < w) then Z1 else bif decide (a < (0 : Int)) then Z2 else bif lenOK Z3 then bif decide (Z4 < a) then Z2 else bif lenOK Z3 then bif decide (IntKind.wrap .i64 (Z4 - a) < w) then Z2 else bif decide ((-1 : Int) <= Z5 /\ Z5 <= (5 : Int) /\ (0 : Int) <= a /\ a + Z5 + (1 : Int) <= Z4 /\ Z3 <= (1000000000000 : Nat)) then some (D.tup (D.acons (D.int .i64 (↑((0 : Nat) * (256 : Nat) ^ Z6 + Jw (List.take Z6 (List.drop a.toNat b))) : Int)) (.acons Z0 .anil))) else none else none else none) := by kernel_rfl
theorem Qpf (c : Bool) (b : List UInt8) (a : Int) (w : Int) (h : (decide (b.length <= 1000000000000)) = true) : Qj3 c b a w = some (.tup (.acons (.int .i64 (getP b a w).1) (.acons (.int .i64 (getP b a w).2) .anil))) := by
 (rw [Qpe];conv => zeta)
 have hl := of_decide_eq_true h;have hl' : lenOK b.length = true := Qk (by omega)
 simp only [hl']
 by_cases hw : 1 <= w /\ w <= 6
 · have w1 : decide (w < 1) = false := by simp;omega
   have w2 : decide (6 < w) = false := by simp;omega
   have w3 : (decide (1 <= w) && decide (w <= 6)) = true := by simp;omega
   have w4 : IntKind.i64.wrap (w - 1) = w - 1 := Qc (by omega) (by omega)
   simp only [w1,w2,cond_false,cond_true,getP,w3,w4]
   by_cases ha : 0 <= a /\ a + w <= b.length
   · have a1 : decide (a < 0) = false := by simp;omega
     have a2 : decide ((b.length : Int) < a) = false := by simp;omega
     have e1 : IntKind.i64.wrap ((b.length : Int) - a) = b.length - a := Qc (by omega) (by omega)
     have a3 : decide ((b.length : Int) - a < w) = false := by simp;omega
     have a5 : (decide (0 <= a) && decide (a + w <= (b.length : Int))) = true := by simp;omega
     have a6 : decide (-1 <= w - 1 /\ w - 1 <= 5 /\ 0 <= a /\ a + (w - 1) + 1 <= (b.length : Int) /\ b.length <= 1000000000000) = true := by simp;omega
     have e2 : (w - 1 + 1).toNat = w.toNat := by omega
     simp [a1,a2,e1,a3,a5,a6,e2]
   · have a5 : (decide (0 <= a) && decide (a + w <= (b.length : Int))) = false := by simp;omega
     simp only [a5,cond_false]
     by_cases a1 : a < 0
     · simp [a1]
     · by_cases a2 : (b.length : Int) < a
       · simp [a1,a2]
       · have e1 : IntKind.i64.wrap ((b.length : Int) - a) = b.length - a := Qc (by omega) (by omega)
         have a3 : decide ((b.length : Int) - a < w) = true := by simp;omega
         simp [a1,a2,e1,a3]
 · have w3 : (decide (1 <= w) && decide (w <= 6)) = false := by simp;omega
   simp only [getP,w3]
   by_cases w1 : w < 1
   · simp [w1]
   · have w2 : 6 < w := by omega
     simp [w1,w2]
noncomputable def ud_4 := ud_3.addSpec 97 QfA
theorem Qj4 : Qi Tryz.prog s25 ud_4 := Qj1.addEv Qb fun args d h => by
 unfold QfA at h
 split at h
 · unfold Qj2 at h;have h1 := congrArg Prod.fst (Option.some.inj h);obtain rfl : _ = d := congrArg Prod.snd (Option.some.inj h);exact ⟨by simp [D.refs],40,Qpf _ _ _ _ h1⟩
 · cases h
open Go.Proofs
structure Qab where
 c : Bool
 l : List Qd
 i : Nat
def VQ (c : Bool) (l : List Qd) (i : Nat) : Env RC := [(0,.sl (C := RC) .write c l),(2,.bool false),(3,.int .i64 (i : Int))]
def VR (c : Bool) (l : List Qd) (i : Nat) : List (Obj RC) := []
noncomputable def QaY (c : Bool) (l : List Qd) (i : Nat) := rndO s25 ud_4 80 4 40 0 [0,2,3] [2] [] (VQ c l i) (VR c l i)
theorem Qeu (c : Bool) (l : List Qd) (i : Nat) : QaY c l i = (let Z0 : Int := (↑i : Int);let Z1 : Int := (↑l.length : Int);let Z2 : Bool := decide ((0 : Int) <= Z0 /\ Z0 < Z1);let Z3 : Qd := Qd.mk (0 : Int) (0 : Int);let Z4 : Qd := List.getD l Z0.toNat Z3;let Z5 : Int := Qd.key Z4;let Z6 : RO_ := some ((X.ret,[(2,D.bool false)]),[]);let Z7 : Int := IntKind.wrap .i64 (Z0 - (1 : Int));let Z8 : RO_ := some ((X.normal,[(0,D.sl RTy.write c l),(2,D.bool false),(3,D.int .i64 (IntKind.wrap .i64 (Z0 + (1 : Int))))]),[]);bif lenOK l.length then bif decide (Z0 < Z1) then bif Z2 then bif decide (Z5 < (0 : Int)) then Z6 else bif Z2 then bif decide ((24 : Int) <= Z5) then Z6 else bif Z2 then bif decide (Qd.value Z4 < (0 : Int)) then Z6 else bif Z2 then bif decide ((255 : Int) < Qd.value Z4) then Z6 else bif decide ((0 : Int) < Z0) then bif Z2 then bif decide ((0 : Int) <= Z7 /\ Z7 < Z1) then bif decide (Z5 <= Qd.key (List.getD l Z7.toNat Z3)) then Z6 else Z8 else none else none else Z8 else none else none else none else none else some ((X.exit (0 : Nat),[(2,D.bool false)]),[]) else none) := by kernel_rfl
def ZG (c : Bool) (l : List Qd) (i : Nat) : RT RC := .br (ZE ZL YE l i) (.leaf (.exit 0) [(2,.bool false)] []) (.leaf .ret [(2,.bool false)] [])
def ZH (c : Bool) (l : List Qd) (i : Nat) : Prop := i <= l.length /\ l.length <= 9223372036854775807
def QU : QT RC Qab where
 k := 0
 canon q := VQ q.c q.l q.i
 objs q := VR q.c q.l q.i
 fin q := ZG q.c q.l q.i
 Inv q := ZH q.c q.l q.i
 μ q := q.l.length - q.i
theorem QaC (c : Bool) (l : List Qd) (i : Nat) (hI : ZH c l i) : Leaf (QaY c l i) (LedR QU ⟨c,l,i⟩) := by
 (rw [Qeu];conv => zeta)
 unfold ZH at hI;obtain ⟨h1,h2⟩ := hI;have hlk := Qk h2
 by_cases hlt : i < l.length
 · have w_succ : IntKind.i64.wrap ((i : Int) + 1) = ((i + 1 : Nat) : Int) := by rw [Qc (by omega) (by omega)];simp
   have d_lt : decide ((i : Int) < l.length) = true := by simp;omega
   have d_in : decide (0 <= (i : Int) /\ (i : Int) < l.length) = true := by simp;omega
   have t_nat : ((i : Int)).toNat = i := by simp
   have w_pred : IntKind.i64.wrap ((i : Int) - 1) = (i : Int) - 1 := Qc (by omega) (by omega)
   have t_natp : ((i : Int) - 1).toNat = i - 1 := by omega
   simp only [w_succ,d_lt,d_in,t_nat,w_pred,t_natp,cond_true];simp only [hlk,cond_true];have hst := K8 ZL YE l i (⟨0,0⟩ : Qd) hlt;generalize l.getD i (⟨0,0⟩ : Qd) = x at hst ⊢;generalize l.getD (i - 1) (⟨0,0⟩ : Qd) = y at hst ⊢
   have hgo : ZL x = true -> (i = 0 \/ YE y x = true) -> Leaf (some ((X.normal,VQ c l (i + 1)),[])) (LedR QU ⟨c,l,i⟩) := fun a b =>
    QB ⟨c,l,i + 1⟩ ⟨hlt,h2⟩ (by simp only [QU];omega) (by simp only [QU,ZG,hst,a];rcases b with b | b <;> simp [b]) rfl rfl
   have hno : ¬ (ZL x = true /\ (i = 0 \/ YE y x = true)) -> Leaf (some ((X.ret,[(2,D.bool false)]),[])) (LedR QU ⟨c,l,i⟩) := fun he => QZ [] (by
    have : ZE ZL YE l i = false := by rw [hst];simp only [Bool.and_eq_false_iff];by_cases a : ZL x = true <;> by_cases b : i = 0 <;> simp_all
    simp [QU,ZG,this,RT.val]) rfl
   simp only [ZL,YE,Qq,Bool.and_eq_true,decide_eq_true_eq] at hgo hno
   by_cases hi : i = 0
   · have d0 : decide (0 < (i : Int)) = false := by simp;omega
     simp only [d0,cond_false]
     repeat' (first | (refine Js.2 ⟨fun hc_ => ?_,fun hc_ => ?_⟩ <;> simp only [decide_eq_true_eq,decide_eq_false_iff_not,beq_iff_eq,beq_eq_false_iff_ne,bne_iff_ne,ne_eq,Bool.not_eq_true,Bool.not_eq_false,bne_eq_false_iff_eq,decide_eq_decide,Bool.true_eq_false,Bool.false_eq_true] at hc_))
     all_goals first | (exfalso;omega) | exact hno (by omega) | (apply hgo <;> omega)
   · have d_pos : decide (0 < (i : Int)) = true := by simp;omega
     have d_inp : decide (0 <= (i : Int) - 1 /\ (i : Int) - 1 < l.length) = true := by simp;omega
     simp only [d_pos,d_inp,cond_true]
     repeat' (first | (refine Js.2 ⟨fun hc_ => ?_,fun hc_ => ?_⟩ <;> simp only [decide_eq_true_eq,decide_eq_false_iff_not,beq_iff_eq,beq_eq_false_iff_ne,bne_iff_ne,ne_eq,Bool.not_eq_true,Bool.not_eq_false,bne_eq_false_iff_eq,decide_eq_decide,Bool.true_eq_false,Bool.false_eq_true] at hc_))
     all_goals first | (exfalso;omega) | exact hno (by omega) | (apply hgo <;> omega)
 · have hi : i = l.length := by omega
   have c1 : decide ((i : Int) < l.length) = false := by simp;omega
   simp only [hlk,c1,cond_true,cond_false];exact Qn [] (by simp [QU,ZG,hi,ZE,Qel,RT.val]) rfl
def J5 (env : Env RC) (os : List (Obj RC)) : Option (Bool × Qab) := match env,os with
 | [(0,.sl .write c l),(2,.bool false),(3,.int .i64 x0)],[] => QA (true) (decide (x0 = 0) && decide (l.length <= 9223372036854775807),⟨c,l,0⟩)
 | _,_ => none
noncomputable def ue_1 := ud_4.addLoop 80 4 (sumR s25 [] [0,2,3] QU J5)
theorem Qj5 : Qi Tryz.prog s25 ue_1 := by
 refine Qj4.addRoundsR Qb (by kernel_rfl) QU 40 [0,2,3] [2] [] [0,2,3] J5 (fun q hI => ?_) ?_
 · obtain ⟨c,l,i⟩ := q;refine ⟨?_,?_,QaC c l i hI⟩
   · simp_all [Qm,QU,VQ,VR,ZH,D.refs,Obj.refs,rEnc]
   · simp_all [QU,ZG,VR,ZH,RT.refsOK,Qm,D.refs,Obj.refs,rEnc]
 · intro env os b q hd_ hb;unfold J5 at hd_
   split at hd_
   · obtain ⟨hs,hd_⟩ := Qj hd_;cases hd_;simp only [Bool.and_eq_true,decide_eq_true_eq] at hb;obtain ⟨rfl,hl⟩ := hb;exact ⟨⟨Nat.zero_le _,hl⟩,rfl,rfl⟩
   · cases hd_
def Qac (c : Bool) (l : List Qd) : Option (Bool × D RC) := some (lenOK l.length,.bool (Qy l))
def Kj : List (D RC) -> Option (Bool × D RC)
 | [.sl .write c l] => Qac c l
 | _ => none
noncomputable def Qad (c : Bool) (l : List Qd) := evF s25 ue_1 40 80 [.sl (C := RC) .write c l]
theorem QcX (c : Bool) (l : List Qd) : Qad c l = (let Z0 : Nat := List.length l;bif lenOK Z0 then bif decide ((4 : Int) < (↑Z0 : Int)) then some (D.bool false) else bif decide (Z0 <= (9223372036854775807 : Nat)) then bif ZE ZL YE l (0 : Nat) then some (D.bool true) else some (D.bool false) else none else none) := by kernel_rfl
theorem QcY (c : Bool) (l : List Qd) (h : (lenOK l.length) = true) : Qad c l = some (.bool (Qy l)) := by
 (rw [QcX];conv => zeta)
 have h2 : l.length <= 9223372036854775807 := YO h;rw [Qy,h]
 by_cases h4 : l.length <= 4
 · have : ¬ (4 : Int) < l.length := by omega
   simp [h4,h2,this];cases ZE ZL YE l 0 <;> rfl
 · have : (4 : Int) < l.length := by omega
   simp [h4,this]
noncomputable def ue_2 := ue_1.addSpec 80 Kj
theorem Qj6 : Qi Tryz.prog s25 ue_2 := Qj5.addEv Qb fun args d h => by
 unfold Kj at h
 split at h
 · unfold Qac at h;have h1 := congrArg Prod.fst (Option.some.inj h);obtain rfl : _ = d := congrArg Prod.snd (Option.some.inj h);exact ⟨by simp [D.refs],40,QcY _ _ h1⟩
 · cases h
def QrR (p : Int) (y : Bool) (c : Bool) (l : List Qd) : Option (Bool × D RC) := some (lenOK l.length,.bool (mayB ⟨p,y,l⟩))
def Qj7 : List (D RC) -> Option (Bool × D RC)
 | [.acons (.int .i64 p) (.acons (.bool y) (.acons (.sl .write c l) .anil))] => QrR p y c l
 | _ => none
noncomputable def QrS (p : Int) (y : Bool) (c : Bool) (l : List Qd) := evF s25 ue_2 40 98 [.acons (.int .i64 p) (.acons (.bool y) (.acons (.sl (C := RC) .write c l) .anil))]
theorem Qtt (p : Int) (y : Bool) (c : Bool) (l : List Qd) : QrS p y c l = (let Z0 : Bool := lenOK l.length;let Z1 : DO_ := some (D.bool false);bif decide ((1 : Int) <= p) then bif decide (p <= (1048575 : Int)) then bif Z0 then bif Qy l then bif y then some (D.bool true) else bif Z0 then some (D.bool ((↑l.length : Int) == (0 : Int))) else none else Z1 else none else Z1 else Z1) := by kernel_rfl
theorem Qtu (p : Int) (y : Bool) (c : Bool) (l : List Qd) (h : (lenOK l.length) = true) : QrS p y c l = some (.bool (mayB ⟨p,y,l⟩)) := by
 (rw [Qtt];conv => zeta)
 have h3 : (((l.length : Nat) : Int) = 0) ↔ l.length = 0 := by omega
 simp only [mayB,h,Qq];cases decide (1 <= p) <;> cases decide (p <= 1048575) <;> cases Qy l <;> cases y <;> simp [h3]
 cases l <;> simp
 omega
noncomputable def ue_3 := ue_2.addSpec 98 Qj7
theorem Qj8 : Qi Tryz.prog s25 ue_3 := Qj6.addEv Qb fun args d h => by
 unfold Qj7 at h
 split at h
 · unfold QrR at h;have h1 := congrArg Prod.fst (Option.some.inj h);obtain rfl : _ = d := congrArg Prod.snd (Option.some.inj h);exact ⟨by simp [D.refs],40,Qtu _ _ _ _ h1⟩
 · cases h
open Go.Proofs
structure Qj9 where
 n : Int
 w : Int
 out : List UInt8
 i : Nat
def QfB (n : Int) (w : Int) (out : List UInt8) (i : Nat) : Env RC := [(1,.int .i64 n),(2,.int .i64 w),(8,.vs 0 (out.length)),(9,.int .i64 (i : Int))]
def Qae (n : Int) (w : Int) (out : List UInt8) (i : Nat) : List (Obj RC) := [.vec (C := RC) .u8 true out]
noncomputable def QrT (n : Int) (w : Int) (out : List UInt8) (i : Nat) := rndO s25 ue_3 110 6 40 1 [1,2,8,9] [8] [.slot 8 0] (QfB n w out i) (Qae n w out i)
theorem Qtv (n : Int) (w : Int) (out : List UInt8) (i : Nat) : QrT n w out i = (let Z0 : Nat := List.length out;let Z1 : List UInt8 := [UInt8.ofNat (IntKind.wrap IntKind.u8 (Int.tmod n (256 : Int))).toNat];bif decide ((↑i : Int) < w) then bif Nat.beq Z0 Z0 && Qh (Z0 + List.length Z1) (1 : Nat) then some ((X.normal,[(1,D.int .i64 (IntKind.wrap .i64 (Int.tdiv n (256 : Int)))),(2,D.int .i64 w),(8,D.vs 0 (Z0 + List.length Z1)),(9,D.int .i64 (IntKind.wrap .i64 ((↑i : Int) + (1 : Int))))]),[some (Obj.vec RTy.u8 true (out ++ Z1))]) else none else some ((X.exit (0 : Nat),[(8,D.vs 0 Z0)]),[some (Obj.vec RTy.u8 true out)])) := by kernel_rfl
def KC (n : Int) (w : Int) (out : List UInt8) (i : Nat) : RT RC := .leaf (.exit 0) [(8,.vs 0 (out ++ leB n (w.toNat - i)).length)] [.vec (C := RC) .u8 true (out ++ leB n (w.toNat - i))]
def Jz (n : Int) (w : Int) (out : List UInt8) (i : Nat) : Prop := 0 <= n /\ n <= 9223372036854775807 /\ (i : Int) <= w /\ w <= 6 /\ out.length <= 1000000 + i
def V1 : QT RC Qj9 where
 k := 1
 canon q := QfB q.n q.w q.out q.i
 objs q := Qae q.n q.w q.out q.i
 fin q := KC q.n q.w q.out q.i
 Inv q := Jz q.n q.w q.out q.i
 μ q := q.w.toNat - q.i
theorem Qho (n : Int) (w : Int) (out : List UInt8) (i : Nat) (hI : Jz n w out i) : Leaf (QrT n w out i) (LedR V1 ⟨n,w,out,i⟩) := by
 (rw [Qtv];conv => zeta)
 unfold Jz at hI;obtain ⟨h1,h2,h3,h4,h5⟩ := hI
 by_cases hlt : (i : Int) < w
 · have w_succ : IntKind.i64.wrap ((i : Int) + 1) = ((i + 1 : Nat) : Int) := by rw [Qc (by omega) (by omega)];simp
   obtain ⟨d1,d2,d3⟩ := putD h1 h2;have e1 : Qh (out.length + 1) 1 = true := Vd (by omega)
   have eb : ∀ n : Nat,n.beq n = true := fun n => by simp
   simp only [hlt,decide_true,cond_true,w_succ,d1,putB h1,List.length_cons,List.length_nil,Nat.zero_add,e1,eb,Bool.and_self];refine QB ⟨n.fdiv 256,w,out ++ [Q0 n],i + 1⟩ (by refine ⟨d2,d3,hlt,h4,?_⟩;simp;omega) (by simp only [V1];omega) ?_ (by simp [V1,QfB]) (by simp [V1,Qae])
   have : w.toNat - i = (w.toNat - (i + 1)) + 1 := by omega
   simp only [V1,KC,this,leB,List.append_assoc,List.cons_append,List.nil_append]
 · have hi : w.toNat - i = 0 := by omega
   simp only [hlt,decide_false,cond_false];exact Qn (Qae n w out i) (by simp only [V1,KC,Qae,hi,leB,RT.val,List.append_nil]) rfl
def Qka (env : Env RC) (os : List (Obj RC)) : Option (Bool × Qj9) := match env,os with
 | [(1,.int .i64 n),(2,.int .i64 w),(8,.vs 0 x0),(9,.int .i64 x1)],[.vec .u8 true out] => QA (true) (decide (x0 = out.length) && decide (x1 = 0) && decide (0 <= n /\ n <= 9223372036854775807 /\ 0 <= w /\ w <= 6 /\ out.length <= 1000000),⟨n,w,out,0⟩)
 | _,_ => none
noncomputable def uf_1 := ue_3.addLoop 110 6 (sumR s25 [.slot 8 0] [1,2,8,9] V1 Qka)
theorem Qkb : Qi Tryz.prog s25 uf_1 := by
 refine Qj8.addRoundsR Qb (by kernel_rfl) V1 40 [1,2,8,9] [8] [.slot 8 0] [1,2,8,9] Qka (fun q hI => ?_) ?_
 · obtain ⟨n,w,out,i⟩ := q;refine ⟨?_,?_,Qho n w out i hI⟩
   · simp_all [Qm,V1,QfB,Qae,Jz,D.refs,Obj.refs,rEnc]
   · simp_all [V1,KC,Qae,Jz,RT.refsOK,Qm,D.refs,Obj.refs,rEnc]
 · intro env os b q hd_ hb;unfold Qka at hd_
   split at hd_
   · obtain ⟨hs,hd_⟩ := Qj hd_;cases hd_;simp only [Bool.and_eq_true,decide_eq_true_eq] at hb;obtain ⟨⟨rfl,rfl⟩,hl⟩ := hb;exact ⟨by refine ⟨hl.1,hl.2.1,by simpa using hl.2.2.1,hl.2.2.2.1,by simpa using hl.2.2.2.2⟩,rfl,rfl⟩
   · cases hd_
structure QaZ where
 p : Int
 y : Bool
 c : Bool
 l : List Qd
 bs : List UInt8
 i : Nat
def JA (p : Int) (y : Bool) (c : Bool) (l : List Qd) (bs : List UInt8) (i : Nat) : Env RC := [(1,.ptr 0 []),(4,.vs 1 (bs.length)),(7,.int .i64 (i : Int))]
def Ye (p : Int) (y : Bool) (c : Bool) (l : List Qd) (bs : List UInt8) (i : Nat) : List (Obj RC) := [.var 56 (.acons (.int .i64 p) (.acons (.bool y) (.acons (.sl (C := RC) .write c l) .anil))),.vec (C := RC) .u8 true bs]
noncomputable def QcZ (p : Int) (y : Bool) (c : Bool) (l : List Qd) (bs : List UInt8) (i : Nat) := rndO s25 uf_1 53 9 40 2 [1,4,7] [4] [.slot 1 0,.slot 4 0] (JA p y c l bs i) (Ye p y c l bs i)
theorem Qhp (p : Int) (y : Bool) (c : Bool) (l : List Qd) (bs : List UInt8) (i : Nat) : QcZ p y c l bs i = (let Z0 : Int := (↑i : Int);let Z1 : Bool := decide ((0 : Int) <= Z0 /\ Z0 < (↑l.length : Int));let Z2 : Nat := List.length bs;let Z3 : Qd := List.getD l Z0.toNat (Qd.mk (0 : Int) (0 : Int));let Z4 : List UInt8 := [UInt8.ofNat (IntKind.wrap IntKind.u8 (Qd.key Z3)).toNat,UInt8.ofNat (IntKind.wrap IntKind.u8 (Qd.value Z3)).toNat];let Z5 : Option (Obj RC) := some (Obj.var 56 (.acons (D.int .i64 p) (.acons (D.bool y) (.acons (D.sl RTy.write c l) .anil))));bif lenOK l.length then bif decide (Z0 < (↑l.length : Int)) then bif Z1 then bif Z1 then bif Nat.beq Z2 Z2 && Qh (Z2 + List.length Z4) (1 : Nat) then some ((X.normal,[(1,D.ptr 0 []),(4,D.vs 1 (Z2 + List.length Z4)),(7,D.int .i64 (IntKind.wrap .i64 (Z0 + (1 : Int))))]),[Z5,some (Obj.vec RTy.u8 true (bs ++ Z4))]) else none else none else none else some ((X.exit (0 : Nat),[(4,D.vs 1 Z2)]),[Z5,some (Obj.vec RTy.u8 true bs)]) else none) := by kernel_rfl
def YY (p : Int) (y : Bool) (c : Bool) (l : List Qd) (bs : List UInt8) (i : Nat) : RT RC := .leaf (.exit 0) [(4,.vs 1 (bs ++ (l.drop i).flatMap Yr).length)] [.var 56 (.acons (.int .i64 p) (.acons (.bool y) (.acons (.sl (C := RC) .write c l) .anil))),.vec (C := RC) .u8 true (bs ++ (l.drop i).flatMap Yr)]
def Yf (p : Int) (y : Bool) (c : Bool) (l : List Qd) (bs : List UInt8) (i : Nat) : Prop := i <= l.length /\ l.length <= 1000000 /\ bs.length <= 1000000 + 2 * i
def Ze : QT RC QaZ where
 k := 2
 canon q := JA q.p q.y q.c q.l q.bs q.i
 objs q := Ye q.p q.y q.c q.l q.bs q.i
 fin q := YY q.p q.y q.c q.l q.bs q.i
 Inv q := Yf q.p q.y q.c q.l q.bs q.i
 μ q := q.l.length - q.i
theorem QbM (p : Int) (y : Bool) (c : Bool) (l : List Qd) (bs : List UInt8) (i : Nat) (hI : Yf p y c l bs i) : Leaf (QcZ p y c l bs i) (LedR Ze ⟨p,y,c,l,bs,i⟩) := by
 (rw [Qhp];conv => zeta)
 unfold Yf at hI;obtain ⟨h1,h2,h3⟩ := hI;have hlk := Qk (show l.length <= 9223372036854775807 by omega)
 by_cases hlt : i < l.length
 · have w_succ : IntKind.i64.wrap ((i : Int) + 1) = ((i + 1 : Nat) : Int) := by rw [Qc (by omega) (by omega)];simp
   have d_lt : decide ((i : Int) < l.length) = true := by simp;omega
   have d_in : decide (0 <= (i : Int) /\ (i : Int) < l.length) = true := by simp;omega
   have t_nat : ((i : Int)).toNat = i := by simp
   simp only [w_succ,d_lt,d_in,t_nat,cond_true];have hd : (l.drop i).flatMap Yr = _ := YF l i Yr hlt (⟨0,0⟩ : Qd);generalize l.getD i (⟨0,0⟩ : Qd) = x at hd ⊢;have e1 : Qh (bs.length + 2) 1 = true := Vd (by omega)
   have e2 : bs.length.beq bs.length = true := by simp
   simp only [hlk,cond_true,List.length_cons,List.length_nil,Nat.zero_add,Nat.reduceAdd,e1,e2,Bool.and_self];refine QB ⟨p,y,c,l,bs ++ [Q0 x.key,Q0 x.value],i + 1⟩ (by refine ⟨hlt,h2,?_⟩;simp;omega) (by simp only [Ze];omega) ?_ (by simp [Ze,JA,Q0]) (by simp [Ze,Ye,Q0])
   simp only [Ze,YY,hd,Yr,List.append_assoc]
 · have hi : i = l.length := by omega
   have c1 : decide ((i : Int) < l.length) = false := by simp;omega
   simp only [hlk,cond_true,c1,cond_false];have hd0 : l.drop i = [] := List.drop_eq_nil_of_le (by omega)
   exact Qn (Ye p y c l bs i) (by simp only [Ze,YY,Ye,hd0,RT.val,List.flatMap_nil,List.append_nil]) rfl
def Qaf (env : Env RC) (os : List (Obj RC)) : Option (Bool × QaZ) := match env,os with
 | [(1,.ptr 0 []),(4,.vs 1 x0),(7,.int .i64 x1)],[.var 56 (.acons (.int .i64 p) (.acons (.bool y) (.acons (.sl .write c l) .anil))),.vec .u8 true bs] => QA (true) (decide (x0 = bs.length) && decide (x1 = 0) && decide (l.length <= 1000000 /\ bs.length <= 1000000),⟨p,y,c,l,bs,0⟩)
 | _,_ => none
noncomputable def uf_2 := uf_1.addLoop 53 9 (sumR s25 [.slot 1 0,.slot 4 0] [1,4,7] Ze Qaf)
theorem Qkc : Qi Tryz.prog s25 uf_2 := by
 refine Qkb.addRoundsR Qb (by kernel_rfl) Ze 40 [1,4,7] [4] [.slot 1 0,.slot 4 0] [1,4,7] Qaf (fun q hI => ?_) ?_
 · obtain ⟨p,y,c,l,bs,i⟩ := q;refine ⟨?_,?_,QbM p y c l bs i hI⟩
   · simp_all [Qm,Ze,JA,Ye,Yf,D.refs,Obj.refs,rEnc]
   · simp_all [Ze,YY,Ye,Yf,RT.refsOK,Qm,D.refs,Obj.refs,rEnc]
 · intro env os b q hd_ hb;unfold Qaf at hd_
   split at hd_
   · obtain ⟨hs,hd_⟩ := Qj hd_;cases hd_;simp only [Bool.and_eq_true,decide_eq_true_eq] at hb;obtain ⟨⟨rfl,rfl⟩,hl⟩ := hb;exact ⟨⟨Nat.zero_le _,hl.1,hl.2⟩,rfl,rfl⟩
   · cases hd_
def Qc0 (p : Int) (y : Bool) (c : Bool) (l : List Qd) : Option (Bool × D RC) := some (lenOK l.length,.tup (.acons (.sl (C := RC) .u8 (!mayB ⟨p,y,l⟩) (bif mayB ⟨p,y,l⟩ then ZF ⟨p,y,l⟩ else [])) (.acons (.int .i64 (bif mayB ⟨p,y,l⟩ then 0 else 2)) .anil)))
def Qa0 : List (D RC) -> Option (Bool × D RC)
 | [.acons (.int .i64 p) (.acons (.bool y) (.acons (.sl .write c l) .anil))] => Qc0 p y c l
 | _ => none
noncomputable def Qc1 (p : Int) (y : Bool) (c : Bool) (l : List Qd) := evF s25 uf_2 40 53 [.acons (.int .i64 p) (.acons (.bool y) (.acons (.sl (C := RC) .write c l) .anil))]
theorem Qhq (p : Int) (y : Bool) (c : Bool) (l : List Qd) : Qc1 p y c l = (let Z0 : Nat := List.length l;let Z1 : List UInt8 := [] ++ [] ++ leB p (3 : Nat);let Z2 : List UInt8 := [UInt8.ofNat (bif y then (1 : Int) else (0 : Int)).toNat,UInt8.ofNat (IntKind.wrap IntKind.u8 (↑Z0 : Int)).toNat];let Z3 : Nat := List.length (Z1 ++ Z2);let Z4 : List UInt8 := Z1 ++ Z2 ++ List.flatMap Yr (List.drop (0 : Nat) l);bif lenOK Z0 then bif !mayB (Rec.mk p y l) then some (D.tup (D.acons (D.sl RTy.u8 true []) (.acons (D.int .i64 2) .anil))) else bif decide (p <= (9223372036854775807 : Int) /\ (1 : Int) <= (3 : Int) /\ (3 : Int) <= (6 : Int)) && QL p (3 : Nat) then bif decide ((0 : Int) <= p /\ p <= (9223372036854775807 : Int) /\ (0 : Int) <= (3 : Int) /\ (3 : Int) <= (6 : Int) /\ (0 : Nat) <= (1000000 : Nat)) then bif lenOK Z0 then bif decide (List.length Z1 + List.length Z2 = Z3) && true && decide (Z0 <= (1000000 : Nat) /\ Z3 <= (1000000 : Nat)) then bif Nat.beq Z4.length Z4.length then some (D.tup (D.acons (D.sl RTy.u8 false Z4) (.acons (D.int .i64 0) .anil))) else none else none else none else none else none else none) := by kernel_rfl
theorem Qhr (p : Int) (y : Bool) (c : Bool) (l : List Qd) (h : (lenOK l.length) = true) : Qc1 p y c l = some (.tup (.acons (.sl (C := RC) .u8 (!mayB ⟨p,y,l⟩) (bif mayB ⟨p,y,l⟩ then ZF ⟨p,y,l⟩ else [])) (.acons (.int .i64 (bif mayB ⟨p,y,l⟩ then 0 else 2)) .anil))) := by
 (rw [Qhq];conv => zeta)
 rw [h];have hlen := YO h;cases hm : mayB ⟨p,y,l⟩
 · rfl
 · obtain ⟨hp,hl,hw⟩ := Jx hm;have f3 := Qvt (n := p) (by rw [QD];omega)
   have hy : UInt8.ofNat (Int.toNat (bif y then 1 else 0)) = Q0 (bif y then 1 else 0) := by cases y <;> rfl
   have hb : UInt8.ofNat (IntKind.u8.wrap (l.length : Int)).toNat = Q0 l.length := rfl;have e1 : (p <= 9223372036854775807 /\ 1 <= (3 : Int) /\ (3 : Int) <= 6) := by omega
   have e2 : l.length <= 1000000 := by omega
   have e3 : 0 <= p := by omega
   have e4 : p <= 9223372036854775807 := by omega
   simp [hy,hb,f3,e1,e2,e3,e4,QG,ZF,leB1]
noncomputable def uf_3 := uf_2.addSpec 53 Qa0
theorem Qkd : Qi Tryz.prog s25 uf_3 := Qkc.addEv Qb fun args d h => by
 unfold Qa0 at h
 split at h
 · unfold Qc0 at h;have h1 := congrArg Prod.fst (Option.some.inj h);obtain rfl : _ = d := congrArg Prod.snd (Option.some.inj h);exact ⟨by simp [D.refs],40,Qhr _ _ _ _ h1⟩
 · cases h
theorem J6 (n : Int) : (BitVec.ofInt IntKind.u32.bits n).toNat = (n % 4294967296).toNat := by
 rw [BitVec.toNat_ofInt];simp only [IntKind.bits]
 congr 1
theorem YZ (n : Int) : IntKind.u32.wrap n = n % 4294967296 := by
 simp [IntKind.wrap,IntKind.bits,IntKind.signed]
def J7 (a b : Int) : Int := bits .u32 (fun _ u v => u ^^^ v) a b
theorem Je (a b : Int) : 0 <= J7 a b /\ J7 a b < 4294967296 := by
 unfold J7 bits;rw [YZ];omega
def crcS (n : Int) : Int := if n % 2 = 1 then J7 (n / 2) 3988292384 else n / 2
theorem Qhs {n : Int} (h : 0 <= n /\ n < 4294967296) : 0 <= crcS n /\ crcS n < 4294967296 := by
 unfold crcS
 split
 · exact Je _ _
 · omega
theorem and1 {n : Int} (h : 0 <= n /\ n < 4294967296) : bits .u32 (fun _ u v => u &&& v) n 1 = n % 2 := by
 unfold bits;rw [BitVec.toNat_and,J6,J6];have e : ((1 : Int) % 4294967296).toNat = 2 ^ 1 - 1 := by decide
 rw [e,Nat.and_two_pow_sub_one_eq_mod,YZ];omega
theorem Qht {n : Int} (h : 0 <= n /\ n < 4294967296) : J7 n 0 = n := by
 unfold J7 bits;rw [BitVec.toNat_xor,J6,J6];have e : ((0 : Int) % 4294967296).toNat = 0 := by decide
 rw [e,Nat.xor_zero,YZ];omega
theorem half {n : Int} (h : 0 <= n) : n.fdiv 2 = n / 2 := Int.fdiv_eq_ediv_of_nonneg _ (by omega)
def QaD : Nat -> Int -> Int
 | 0,n => n
 | k + 1,n => QaD k (crcS n)
def crc8 (n : Int) : Int := QaD 8 n
def Ve (n : Int) (l : List UInt8) : Int := l.foldl (fun n c => crc8 (J7 n (c.toNat : Int))) n
theorem Qhu (n : Int) (c : UInt8) (l : List UInt8) : Ve n (c :: l) = Ve (crc8 (J7 n (c.toNat : Int))) l := by
 simp only [Ve,List.foldl_cons]
theorem Qc2 (n : Int) : Ve n [] = n := by simp only [Ve,List.foldl_nil]
def Yp (l : List UInt8) : Int := J7 4294967295 (Ve 4294967295 l)
theorem Qev (l : List UInt8) : 0 <= Yp l /\ Yp l < 4294967296 := Je _ _
def JC (b : List UInt8) : List UInt8 := b ++ leB (Yp b) 4
theorem Qke (b : List UInt8) : (JC b).length = b.length + 4 := by simp [JC,QG]
def Ku (b : List UInt8) : Option (List UInt8) := if 4 <= b.length /\ JC (b.take (b.length - 4)) = b then some (b.take (b.length - 4)) else none
def okF (n : Int) (load : List UInt8) : Bool := decide (1 <= n) && decide (n <= 1048575) && decide (load.length <= 600)
def Vq (n : Int) (load : List UInt8) : List UInt8 := JC (leB n 6 ++ leB load.length 2 ++ load)
theorem Qhv (n : Int) (load : List UInt8) : (Vq n load).length = load.length + 12 := by
 simp [Vq,Qke,QG];omega
noncomputable def rng (n : Int) : Bool := @decide (0 <= n /\ n < 4294967296) (Classical.propDecidable _)
theorem Qag {n : Int} : rng n = true ↔ 0 <= n /\ n < 4294967296 := by unfold rng;exact @decide_eq_true_iff _ (Classical.propDecidable _)
theorem QvA (a b : Int) : rng (J7 a b) = true := Qag.2 (Je a b)
theorem QvB {n : Int} (h : rng n = true) : rng (crcS n) = true := Qag.2 (Qhs (Qag.1 h))
theorem QrU (c : UInt8) : IntKind.u32.wrap (c.toNat : Int) = (c.toNat : Int) := by
 have := c.toNat_lt;rw [YZ];omega
theorem Qa1 (b : List UInt8) (i : Nat) (n : Int) (h : i < b.length) (d : UInt8) : Ve n (b.drop i) = Ve (crc8 (J7 n ((b.getD i d).toNat : Int))) (b.drop (i + 1)) := by
 have e : b.getD i d = b[i] := by simp [h]
 have e2 : b.drop i = b[i] :: b.drop (i + 1) := List.drop_eq_getElem_cons h;rw [e2,e];exact Qhu _ _ _
theorem Qkf {n : Int} (h : 0 <= n /\ n < 4294967296) : bits .u32 (fun _ u v => u &&& v) n 255 = n % 256 := by
 unfold bits;rw [BitVec.toNat_and,J6,J6];have e : ((255 : Int) % 4294967296).toNat = 2 ^ 8 - 1 := by decide
 rw [e,Nat.and_two_pow_sub_one_eq_mod,YZ];omega
theorem Qah (n : Int) : UInt8.ofNat (IntKind.u8.wrap n).toNat = Q0 n := rfl
theorem Qhw (n : Int) : Q0 (n % 256) = Q0 n := by
 unfold Q0;rw [QbF,QbF];congr 2;omega
theorem leB4 (n : Int) : leB n 4 = [Q0 n,Q0 (n.fdiv 256),Q0 ((n.fdiv 256).fdiv 256),Q0 (((n.fdiv 256).fdiv 256).fdiv 256)] := rfl
theorem QV {α : Type} {c : Bool} {x y z : α} (h : c = true) (h2 : x = z) : cond c x y = z := by rw [h];exact h2
theorem Qew {α : Type} {c : Bool} {x y z : α} (h : c = false) (h2 : y = z) : cond c x y = z := by rw [h];exact h2
theorem QE {α : Type} {c : Bool} {x y z : α} (h1 : c = true -> x = z) (h2 : c = false -> y = z) : cond c x y = z := by cases c;exact h2 rfl;exact h1 rfl
open Go.Proofs
noncomputable def Qkg (n : Int) : Option (Bool × D RC) := some (rng n,.int .u32 (crcS n))
noncomputable def QfC : List (D RC) -> Option (Bool × D RC)
 | [.int .u32 n] => Qkg n
 | _ => none
noncomputable def Qkh (n : Int) := evF s25 uf_3 40 272 [.int .u32 n]
theorem Qpg (n : Int) : Qkh n = (some (D.int IntKind.u32 (bits IntKind.u32 (fun (x : Nat) (u v : BitVec x) => u ^^^ v) (Int.fdiv n (2 : Int)) (IntKind.wrap IntKind.u32 (bits IntKind.u32 (fun (x : Nat) (u v : BitVec x) => u &&& v) n (1 : Int) * (3988292384 : Int)))))) := by kernel_rfl
theorem Qph (n : Int) (h : (rng n) = true) : Qkh n = some (.int .u32 (crcS n)) := by
 rw [Qpg];have hr := Qag.1 h;rw [and1 hr,half hr.1]
 congr 2
 unfold crcS
 split
 · rename_i e;rw [e,YZ];rfl
 · rename_i e;have e0 : n % 2 = 0 := by omega
   rw [e0,YZ];exact Qht (by omega)
noncomputable def ug_1 := uf_3.addSpec 272 QfC
theorem Qki : Qi Tryz.prog s25 ug_1 := Qkd.addEv Qb fun args d h => by
 unfold QfC at h
 split at h
 · unfold Qkg at h;have h1 := congrArg Prod.fst (Option.some.inj h);obtain rfl : _ = d := congrArg Prod.snd (Option.some.inj h);exact ⟨by simp [D.refs],40,Qph _ h1⟩
 · cases h
noncomputable def Qkj (n : Int) : Option (Bool × D RC) := some (rng n,.int .u32 (crcS n))
noncomputable def QfD : List (D RC) -> Option (Bool × D RC)
 | [.int .u32 n] => Qkj n
 | _ => none
noncomputable def Qkk (n : Int) := evF s25 ug_1 40 242 [.int .u32 n]
theorem Qpi (n : Int) : Qkk n = (let Z0 : Int := Int.fdiv n (2 : Int);bif bits IntKind.u32 (fun (x : Nat) (u v : BitVec x) => u &&& v) n (1 : Int) == (1 : Int) then some (D.int IntKind.u32 (bits IntKind.u32 (fun (x : Nat) (u v : BitVec x) => u ^^^ v) Z0 (3988292384 : Int))) else some (D.int IntKind.u32 Z0)) := by kernel_rfl
theorem Qpj (n : Int) (h : (rng n) = true) : Qkk n = some (.int .u32 (crcS n)) := by
 (rw [Qpi];conv => zeta)
 have hr := Qag.1 h;rw [and1 hr,half hr.1];unfold crcS
 by_cases e : n % 2 = 1
 · rw [if_pos e,Zs e];rfl
 · rw [if_neg e,Za e];rfl
noncomputable def ug_2 := ug_1.addSpec 242 QfD
theorem Qkl : Qi Tryz.prog s25 ug_2 := Qki.addEv Qb fun args d h => by
 unfold QfD at h
 split at h
 · unfold Qkj at h;have h1 := congrArg Prod.fst (Option.some.inj h);obtain rfl : _ = d := congrArg Prod.snd (Option.some.inj h);exact ⟨by simp [D.refs],40,Qpj _ h1⟩
 · cases h
structure Qkm where
 n : Int
 i : Nat
noncomputable def Qkn (n : Int) (i : Nat) : Env RC := [(0,.int .u32 n),(17,.int .i64 (i : Int))]
def QfE (n : Int) (i : Nat) : List (Obj RC) := []
noncomputable def QrV (n : Int) (i : Nat) := rndO s25 ug_2 241 6 60 0 [0,17] [0] [] (Qkn n i) (QfE n i)
theorem Qtw (n : Int) (i : Nat) : QrV n i = (bif decide ((↑i : Int) < (8 : Int)) then bif rng n then some ((X.normal,[(0,D.int IntKind.u32 (crcS n)),(17,D.int .i64 (IntKind.wrap .i64 ((↑i : Int) + (1 : Int))))]),[]) else none else some ((X.exit (2 : Nat),[(0,D.int IntKind.u32 n)]),[])) := by kernel_rfl
noncomputable def KD (n : Int) (i : Nat) : RT RC := .leaf (.exit 2) [(0,.int .u32 (QaD (8 - i) n))] []
def JD (n : Int) (i : Nat) : Prop := i <= 8 /\ rng n = true
noncomputable def Kk : QT RC Qkm where
 k := 0
 canon q := Qkn q.n q.i
 objs q := QfE q.n q.i
 fin q := KD q.n q.i
 Inv q := JD q.n q.i
 μ q := 8 - q.i
theorem Qhx (n : Int) (i : Nat) (hI : JD n i) : Leaf (QrV n i) (LedR Kk ⟨n,i⟩) := by
 rw [Qtw];unfold JD at hI;obtain ⟨h1,h2⟩ := hI
 by_cases hlt : i < 8
 · have c1 : decide ((i : Int) < 8) = true := by simp;omega
   have w_succ : IntKind.i64.wrap ((i : Int) + 1) = ((i + 1 : Nat) : Int) := by rw [Qc (by omega) (by omega)];simp
   rw [c1,h2,w_succ];refine QB ⟨crcS n,i + 1⟩ ⟨hlt,QvB h2⟩ (by simp only [Kk];omega) ?_ rfl rfl
   simp only [Kk,KD,show 8 - i = (8 - (i + 1)) + 1 by omega,QaD]
 · have hi : i = 8 := by omega
   have c1 : decide ((i : Int) < 8) = false := by simp;omega
   rw [c1];exact Qn [] (by simp only [Kk,KD,hi,Nat.sub_self,QaD,RT.val]) rfl
noncomputable def Qko (env : Env RC) (os : List (Obj RC)) : Option (Bool × Qkm) := match env,os with
 | [(0,.int .u32 n),(17,.int .i64 x0)],[] => QA (true) (decide (x0 = 0) && rng n,⟨n,0⟩)
 | _,_ => none
noncomputable def ug_3 := ug_2.addLoop 241 6 (sumR s25 [] [0,17] Kk Qko)
theorem Qkp : Qi Tryz.prog s25 ug_3 := by
 refine Qkl.addRoundsR Qb (by kernel_rfl) Kk 60 [0,17] [0] [] [0,17] Qko (fun q hI => ?_) ?_
 · obtain ⟨n,i⟩ := q;refine ⟨?_,?_,Qhx n i hI⟩
   · simp_all [Qm,Kk,Qkn,QfE,JD,D.refs,Obj.refs,rEnc]
   · simp_all [Kk,KD,QfE,JD,RT.refsOK,Qm,D.refs,Obj.refs,rEnc]
 · intro env os b q hd_ hb;unfold Qko at hd_
   split at hd_
   · obtain ⟨hs,hd_⟩ := Qj hd_;cases hd_;simp only [Bool.and_eq_true,decide_eq_true_eq] at hb;obtain ⟨rfl,h⟩ := hb;exact ⟨⟨Nat.zero_le _,h⟩,rfl,rfl⟩
   · cases hd_
structure Qkq where
 n : Int
 i : Nat
noncomputable def Qkr (n : Int) (i : Nat) : Env RC := [(0,.int .u32 n),(6,.int .i64 (i : Int))]
def QfF (n : Int) (i : Nat) : List (Obj RC) := []
noncomputable def QrW (n : Int) (i : Nat) := rndO s25 ug_3 197 6 60 0 [0,6] [0] [] (Qkr n i) (QfF n i)
theorem Qtx (n : Int) (i : Nat) : QrW n i = (bif decide ((↑i : Int) < (8 : Int)) then bif rng n then some ((X.normal,[(0,D.int IntKind.u32 (crcS n)),(6,D.int .i64 (IntKind.wrap .i64 ((↑i : Int) + (1 : Int))))]),[]) else none else some ((X.exit (2 : Nat),[(0,D.int IntKind.u32 n)]),[])) := by kernel_rfl
noncomputable def KE (n : Int) (i : Nat) : RT RC := .leaf (.exit 2) [(0,.int .u32 (QaD (8 - i) n))] []
def JE (n : Int) (i : Nat) : Prop := i <= 8 /\ rng n = true
noncomputable def Kl : QT RC Qkq where
 k := 0
 canon q := Qkr q.n q.i
 objs q := QfF q.n q.i
 fin q := KE q.n q.i
 Inv q := JE q.n q.i
 μ q := 8 - q.i
theorem Qhy (n : Int) (i : Nat) (hI : JE n i) : Leaf (QrW n i) (LedR Kl ⟨n,i⟩) := by
 rw [Qtx];unfold JE at hI;obtain ⟨h1,h2⟩ := hI
 by_cases hlt : i < 8
 · have c1 : decide ((i : Int) < 8) = true := by simp;omega
   have w_succ : IntKind.i64.wrap ((i : Int) + 1) = ((i + 1 : Nat) : Int) := by rw [Qc (by omega) (by omega)];simp
   rw [c1,h2,w_succ];refine QB ⟨crcS n,i + 1⟩ ⟨hlt,QvB h2⟩ (by simp only [Kl];omega) ?_ rfl rfl
   simp only [Kl,KE,show 8 - i = (8 - (i + 1)) + 1 by omega,QaD]
 · have hi : i = 8 := by omega
   have c1 : decide ((i : Int) < 8) = false := by simp;omega
   rw [c1];exact Qn [] (by simp only [Kl,KE,hi,Nat.sub_self,QaD,RT.val]) rfl
noncomputable def Qks (env : Env RC) (os : List (Obj RC)) : Option (Bool × Qkq) := match env,os with
 | [(0,.int .u32 n),(6,.int .i64 x0)],[] => QA (true) (decide (x0 = 0) && rng n,⟨n,0⟩)
 | _,_ => none
noncomputable def ug_4 := ug_3.addLoop 197 6 (sumR s25 [] [0,6] Kl Qks)
theorem Qkt : Qi Tryz.prog s25 ug_4 := by
 refine Qkp.addRoundsR Qb (by kernel_rfl) Kl 60 [0,6] [0] [] [0,6] Qks (fun q hI => ?_) ?_
 · obtain ⟨n,i⟩ := q;refine ⟨?_,?_,Qhy n i hI⟩
   · simp_all [Qm,Kl,Qkr,QfF,JE,D.refs,Obj.refs,rEnc]
   · simp_all [Kl,KE,QfF,JE,RT.refsOK,Qm,D.refs,Obj.refs,rEnc]
 · intro env os b q hd_ hb;unfold Qks at hd_
   split at hd_
   · obtain ⟨hs,hd_⟩ := Qj hd_;cases hd_;simp only [Bool.and_eq_true,decide_eq_true_eq] at hb;obtain ⟨rfl,h⟩ := hb;exact ⟨⟨Nat.zero_le _,h⟩,rfl,rfl⟩
   · cases hd_
structure Qku where
 n : Int
 c : Bool
 b : List UInt8
 i : Nat
noncomputable def Qkv (n : Int) (c : Bool) (b : List UInt8) (i : Nat) : Env RC := [(0,.int .u32 n),(7,.sl (C := RC) .u8 c b),(8,.int .i64 (b.length)),(9,.int .i64 (i : Int))]
def QfG (n : Int) (c : Bool) (b : List UInt8) (i : Nat) : List (Obj RC) := []
noncomputable def QrX (n : Int) (c : Bool) (b : List UInt8) (i : Nat) := rndO s25 ug_4 241 2 60 0 [0,7,8,9] [0] [] (Qkv n c b i) (QfG n c b i)
theorem Qty (n : Int) (c : Bool) (b : List UInt8) (i : Nat) : QrX n c b i = (let Z0 : Int := (↑i : Int);let Z1 : Int := (↑b.length : Int);let Z2 : Int := bits IntKind.u32 (fun (x : Nat) (u v : BitVec x) => u ^^^ v) n (IntKind.wrap IntKind.u32 (↑(UInt8.toNat (List.getD b Z0.toNat (UInt8.ofBitVec (BitVec.ofNat (8 : Nat) (nat_lit 0))))) : Int));bif decide (Z0 < Z1) then bif decide ((0 : Int) <= Z0 /\ Z0 < Z1) then bif rng Z2 then some ((X.normal,[(0,D.int IntKind.u32 (QaD (8 : Nat) Z2)),(7,D.sl RTy.u8 c b),(8,D.int .i64 Z1),(9,D.int .i64 (IntKind.wrap .i64 (Z0 + (1 : Int))))]),[]) else none else none else some ((X.exit (0 : Nat),[(0,D.int IntKind.u32 n)]),[])) := by kernel_rfl
noncomputable def KF (n : Int) (c : Bool) (b : List UInt8) (i : Nat) : RT RC := .leaf (.exit 0) [(0,.int .u32 (Ve n (b.drop i)))] []
def JF (n : Int) (c : Bool) (b : List UInt8) (i : Nat) : Prop := i <= b.length /\ b.length <= 1000000
noncomputable def Km : QT RC Qku where
 k := 0
 canon q := Qkv q.n q.c q.b q.i
 objs q := QfG q.n q.c q.b q.i
 fin q := KF q.n q.c q.b q.i
 Inv q := JF q.n q.c q.b q.i
 μ q := q.b.length - q.i
theorem Qhz (n : Int) (c : Bool) (b : List UInt8) (i : Nat) (hI : JF n c b i) : Leaf (QrX n c b i) (LedR Km ⟨n,c,b,i⟩) := by
 (rw [Qty];conv => zeta)
 unfold JF at hI;obtain ⟨h1,h2⟩ := hI
 by_cases hlt : i < b.length
 · have w_succ : IntKind.i64.wrap ((i : Int) + 1) = ((i + 1 : Nat) : Int) := by rw [Qc (by omega) (by omega)];simp
   have d_lt : decide ((i : Int) < b.length) = true := by simp;omega
   have d_in : decide (0 <= (i : Int) /\ (i : Int) < b.length) = true := by simp;omega
   have t_nat : ((i : Int)).toNat = i := by simp
   simp only [w_succ,d_lt,d_in,t_nat,cond_true];have hx : ∀ x : Int,rng (bits .u32 (fun _ u v => u ^^^ v) n x) = true := fun x => QvA n x;simp only [QrU,hx,cond_true];refine QB ⟨crc8 (J7 n ((b.getD i 0).toNat : Int)),c,b,i + 1⟩ ⟨hlt,h2⟩ (by simp only [Km];omega) ?_ rfl rfl
   simp only [Km,KF,Qa1 b i n hlt 0]
 · have hi : i = b.length := by omega
   have c1 : decide ((i : Int) < b.length) = false := by simp;omega
   rw [c1];exact Qn [] (by simp only [Km,KF,hi,List.drop_length,Qc2,RT.val]) rfl
noncomputable def Qkw (env : Env RC) (os : List (Obj RC)) : Option (Bool × Qku) := match env,os with
 | [(0,.int .u32 n),(7,.sl .u8 c b),(8,.int .i64 x0),(9,.int .i64 x1)],[] => QA (true) (decide (x0 = b.length) && decide (x1 = 0) && decide (b.length <= 1000000),⟨n,c,b,0⟩)
 | _,_ => none
noncomputable def ug_5 := ug_4.addLoop 241 2 (sumR s25 [] [0,7,8,9] Km Qkw)
theorem Qkx : Qi Tryz.prog s25 ug_5 := by
 refine Qkt.addRoundsR Qb (by kernel_rfl) Km 60 [0,7,8,9] [0] [] [0,7,8,9] Qkw (fun q hI => ?_) ?_
 · obtain ⟨n,c,b,i⟩ := q;refine ⟨?_,?_,Qhz n c b i hI⟩
   · simp_all [Qm,Km,Qkv,QfG,JF,D.refs,Obj.refs,rEnc]
   · simp_all [Km,KF,QfG,JF,RT.refsOK,Qm,D.refs,Obj.refs,rEnc]
 · intro env os b q hd_ hb;unfold Qkw at hd_
   split at hd_
   · obtain ⟨hs,hd_⟩ := Qj hd_;cases hd_;simp only [Bool.and_eq_true,decide_eq_true_eq] at hb;obtain ⟨⟨rfl,rfl⟩,h⟩ := hb;exact ⟨⟨Nat.zero_le _,h⟩,rfl,rfl⟩
   · cases hd_
structure Qky where
 n : Int
 c : Bool
 b : List UInt8
 i : Nat
noncomputable def Qkz (n : Int) (c : Bool) (b : List UInt8) (i : Nat) : Env RC := [(0,.int .u32 n),(1,.sl (C := RC) .u8 c b),(5,.int .i64 (i : Int))]
def QfH (n : Int) (c : Bool) (b : List UInt8) (i : Nat) : List (Obj RC) := []
noncomputable def QrY (n : Int) (c : Bool) (b : List UInt8) (i : Nat) := rndO s25 ug_5 197 2 60 0 [0,1,5] [0] [] (Qkz n c b i) (QfH n c b i)
theorem Qtz (n : Int) (c : Bool) (b : List UInt8) (i : Nat) : QrY n c b i = (let Z0 : Int := (↑i : Int);let Z1 : Int := bits IntKind.u32 (fun (x : Nat) (u v : BitVec x) => u ^^^ v) n (IntKind.wrap IntKind.u32 (↑(UInt8.toNat (List.getD b Z0.toNat (UInt8.ofBitVec (BitVec.ofNat (8 : Nat) (nat_lit 0))))) : Int));bif lenOK b.length then bif decide (Z0 < (↑b.length : Int)) then bif decide ((0 : Int) <= Z0 /\ Z0 < (↑b.length : Int)) then bif rng Z1 then some ((X.normal,[(0,D.int IntKind.u32 (QaD (8 : Nat) Z1)),(1,D.sl RTy.u8 c b),(5,D.int .i64 (IntKind.wrap .i64 (Z0 + (1 : Int))))]),[]) else none else none else some ((X.exit (0 : Nat),[(0,D.int IntKind.u32 n)]),[]) else none) := by kernel_rfl
noncomputable def KG (n : Int) (c : Bool) (b : List UInt8) (i : Nat) : RT RC := .leaf (.exit 0) [(0,.int .u32 (Ve n (b.drop i)))] []
def JG (n : Int) (c : Bool) (b : List UInt8) (i : Nat) : Prop := i <= b.length /\ b.length <= 1000000
noncomputable def Ko : QT RC Qky where
 k := 0
 canon q := Qkz q.n q.c q.b q.i
 objs q := QfH q.n q.c q.b q.i
 fin q := KG q.n q.c q.b q.i
 Inv q := JG q.n q.c q.b q.i
 μ q := q.b.length - q.i
theorem QhA (n : Int) (c : Bool) (b : List UInt8) (i : Nat) (hI : JG n c b i) : Leaf (QrY n c b i) (LedR Ko ⟨n,c,b,i⟩) := by
 (rw [Qtz];conv => zeta)
 unfold JG at hI;obtain ⟨h1,h2⟩ := hI;have hlk : lenOK b.length = true := Qk (by omega)
 by_cases hlt : i < b.length
 · have w_succ : IntKind.i64.wrap ((i : Int) + 1) = ((i + 1 : Nat) : Int) := by rw [Qc (by omega) (by omega)];simp
   have d_lt : decide ((i : Int) < b.length) = true := by simp;omega
   have d_in : decide (0 <= (i : Int) /\ (i : Int) < b.length) = true := by simp;omega
   have t_nat : ((i : Int)).toNat = i := by simp
   simp only [w_succ,d_lt,d_in,t_nat,cond_true];have hx : ∀ x : Int,rng (bits .u32 (fun _ u v => u ^^^ v) n x) = true := fun x => QvA n x;simp only [QrU,hx,hlk,cond_true];refine QB ⟨crc8 (J7 n ((b.getD i 0).toNat : Int)),c,b,i + 1⟩ ⟨hlt,h2⟩ (by simp only [Ko];omega) ?_ rfl rfl
   simp only [Ko,KG,Qa1 b i n hlt 0]
 · have hi : i = b.length := by omega
   have c1 : decide ((i : Int) < b.length) = false := by simp;omega
   rw [hlk,c1];exact Qn [] (by simp only [Ko,KG,hi,List.drop_length,Qc2,RT.val]) rfl
noncomputable def QkA (env : Env RC) (os : List (Obj RC)) : Option (Bool × Qky) := match env,os with
 | [(0,.int .u32 n),(1,.sl .u8 c b),(5,.int .i64 x0)],[] => QA (true) (decide (x0 = 0) && decide (b.length <= 1000000),⟨n,c,b,0⟩)
 | _,_ => none
noncomputable def ug_6 := ug_5.addLoop 197 2 (sumR s25 [] [0,1,5] Ko QkA)
theorem QkB : Qi Tryz.prog s25 ug_6 := by
 refine Qkx.addRoundsR Qb (by kernel_rfl) Ko 60 [0,1,5] [0] [] [0,1,5] QkA (fun q hI => ?_) ?_
 · obtain ⟨n,c,b,i⟩ := q;refine ⟨?_,?_,QhA n c b i hI⟩
   · simp_all [Qm,Ko,Qkz,QfH,JG,D.refs,Obj.refs,rEnc]
   · simp_all [Ko,KG,QfH,JG,RT.refsOK,Qm,D.refs,Obj.refs,rEnc]
 · intro env os b q hd_ hb;unfold QkA at hd_
   split at hd_
   · obtain ⟨hs,hd_⟩ := Qj hd_;cases hd_;simp only [Bool.and_eq_true,decide_eq_true_eq] at hb;obtain ⟨rfl,h⟩ := hb;exact ⟨⟨Nat.zero_le _,h⟩,rfl,rfl⟩
   · cases hd_
def QvC (n : Int) (c : Bool) (b : List UInt8) : Option (Bool × D RC) := some (decide (b.length <= 1000000),.int .u32 (Ve n b))
def QrZ : List (D RC) -> Option (Bool × D RC)
 | [.int .u32 n,.sl .u8 c b] => QvC n c b
 | _ => none
noncomputable def QvD (n : Int) (c : Bool) (b : List UInt8) := evF s25 ug_6 60 241 [.int .u32 n,.sl (C := RC) .u8 c b]
theorem QvE (n : Int) (c : Bool) (b : List UInt8) : QvD n c b = (let Z0 : Nat := List.length b;bif lenOK Z0 then bif decide ((↑Z0 : Int) = (↑Z0 : Int)) && true && decide (Z0 <= (1000000 : Nat)) then some (D.int IntKind.u32 (Ve n (List.drop (0 : Nat) b))) else none else none) := by kernel_rfl
theorem QvF (n : Int) (c : Bool) (b : List UInt8) (h : (decide (b.length <= 1000000)) = true) : QvD n c b = some (.int .u32 (Ve n b)) := by
 (rw [QvE];conv => zeta)
 have hl := of_decide_eq_true h;rw [Qk (by omega),h]
 simp
noncomputable def ug_7 := ug_6.addSpec 241 QrZ
theorem QkC : Qi Tryz.prog s25 ug_7 := QkB.addEv Qb fun args d h => by
 unfold QrZ at h
 split at h
 · unfold QvC at h;have h1 := congrArg Prod.fst (Option.some.inj h);obtain rfl : _ = d := congrArg Prod.snd (Option.some.inj h);exact ⟨by simp [D.refs],60,QvF _ _ _ h1⟩
 · cases h
def QvG (n : Int) (c : Bool) (b : List UInt8) : Option (Bool × D RC) := some (decide (b.length <= 1000000),.int .u32 (Ve n b))
def Qr0 : List (D RC) -> Option (Bool × D RC)
 | [.int .u32 n,.sl .u8 c b] => QvG n c b
 | _ => none
noncomputable def QvH (n : Int) (c : Bool) (b : List UInt8) := evF s25 ug_7 60 197 [.int .u32 n,.sl (C := RC) .u8 c b]
theorem QvI (n : Int) (c : Bool) (b : List UInt8) : QvH n c b = (bif decide (List.length b <= (1000000 : Nat)) then some (D.int IntKind.u32 (Ve n (List.drop (0 : Nat) b))) else none) := by kernel_rfl
theorem QvJ (n : Int) (c : Bool) (b : List UInt8) (h : (decide (b.length <= 1000000)) = true) : QvH n c b = some (.int .u32 (Ve n b)) := by
 rw [QvI];have hl := of_decide_eq_true h;rw [h];simp
noncomputable def ug_8 := ug_7.addSpec 197 Qr0
theorem QkD : Qi Tryz.prog s25 ug_8 := QkC.addEv Qb fun args d h => by
 unfold Qr0 at h
 split at h
 · unfold QvG at h;have h1 := congrArg Prod.fst (Option.some.inj h);obtain rfl : _ = d := congrArg Prod.snd (Option.some.inj h);exact ⟨by simp [D.refs],60,QvJ _ _ _ h1⟩
 · cases h
def Qr1 (c : Bool) (b : List UInt8) : Option (Bool × D RC) := some (decide (b.length <= 1000000),.int .u32 (Yp b))
def QkE : List (D RC) -> Option (Bool × D RC)
 | [.sl .u8 c b] => Qr1 c b
 | _ => none
noncomputable def Qr2 (c : Bool) (b : List UInt8) := evF s25 ug_8 60 158 [.sl (C := RC) .u8 c b]
theorem QtA (c : Bool) (b : List UInt8) : Qr2 c b = (bif decide (List.length b <= (1000000 : Nat)) then some (D.int IntKind.u32 (bits IntKind.u32 (fun (x : Nat) (u v : BitVec x) => u ^^^ v) (4294967295 : Int) (Ve (4294967295 : Int) b))) else none) := by kernel_rfl
theorem QtB (c : Bool) (b : List UInt8) (h : (decide (b.length <= 1000000)) = true) : Qr2 c b = some (.int .u32 (Yp b)) := by
 rw [QtA];rw [h];rfl
noncomputable def ug_9 := ug_8.addSpec 158 QkE
theorem QkF : Qi Tryz.prog s25 ug_9 := QkD.addEv Qb fun args d h => by
 unfold QkE at h
 split at h
 · unfold Qr1 at h;have h1 := congrArg Prod.fst (Option.some.inj h);obtain rfl : _ = d := congrArg Prod.snd (Option.some.inj h);exact ⟨by simp [D.refs],60,QtB _ _ h1⟩
 · cases h
def Qr3 (c : Bool) (b : List UInt8) : Option (Bool × D RC) := some (decide (b.length <= 1000000),.int .u32 (Yp b))
def QkG : List (D RC) -> Option (Bool × D RC)
 | [.sl .u8 c b] => Qr3 c b
 | _ => none
noncomputable def Qr4 (c : Bool) (b : List UInt8) := evF s25 ug_9 60 160 [.sl (C := RC) .u8 c b]
theorem QtC (c : Bool) (b : List UInt8) : Qr4 c b = (bif decide (List.length b <= (1000000 : Nat)) then some (D.int IntKind.u32 (bits IntKind.u32 (fun (x : Nat) (u v : BitVec x) => u ^^^ v) (4294967295 : Int) (Ve (4294967295 : Int) b))) else none) := by kernel_rfl
theorem QtD (c : Bool) (b : List UInt8) (h : (decide (b.length <= 1000000)) = true) : Qr4 c b = some (.int .u32 (Yp b)) := by
 rw [QtC];rw [h];rfl
noncomputable def QtE := ug_9.addSpec 160 QkG
theorem QhB : Qi Tryz.prog s25 QtE := QkF.addEv Qb fun args d h => by
 unfold QkG at h
 split at h
 · unfold Qr3 at h;have h1 := congrArg Prod.fst (Option.some.inj h);obtain rfl : _ = d := congrArg Prod.snd (Option.some.inj h);exact ⟨by simp [D.refs],60,QtD _ _ h1⟩
 · cases h
def QkH (c : Bool) (b : List UInt8) : Option (Bool × D RC) := some (decide (b.length <= 1000000),.sl (C := RC) .u8 false (JC b))
def QfI : List (D RC) -> Option (Bool × D RC)
 | [.sl .u8 c b] => QkH c b
 | _ => none
noncomputable def QkI (c : Bool) (b : List UInt8) := evF s25 QtE 60 107 [.sl (C := RC) .u8 c b]
theorem Qpk (c : Bool) (b : List UInt8) : QkI c b = (let Z0 : Nat := List.length b;let Z1 : Int := (↑Z0 : Int);let Z2 : Int := IntKind.wrap .i64 (Z1 + (4 : Int));let Z3 : Nat := Int.toNat Z1;let Z4 : List UInt8 := List.replicate Z3 (UInt8.ofBitVec (BitVec.ofNat (8 : Nat) (nat_lit 0)));let Z5 : List UInt8 := List.take Z4.length b ++ List.drop Z0 Z4;let Z6 : List UInt8 := [UInt8.ofNat (IntKind.wrap IntKind.u8 (Yp b)).toNat];let Z7 : Nat := List.length Z5 + List.length Z6;let Z8 : Nat := List.length (Z5 ++ Z6);let Z9 : Int := Int.fdiv (Yp b) (256 : Int);let Z10 : List UInt8 := [UInt8.ofNat (IntKind.wrap IntKind.u8 Z9).toNat];let Z11 : Nat := List.length (Z5 ++ Z6 ++ Z10);let Z12 : Int := Int.fdiv Z9 (256 : Int);let Z13 : List UInt8 := [UInt8.ofNat (IntKind.wrap IntKind.u8 Z12).toNat];let Z14 : Nat := List.length (Z5 ++ Z6 ++ Z10 ++ Z13);let Z15 : List UInt8 := [UInt8.ofNat (IntKind.wrap IntKind.u8 (Int.fdiv Z12 (256 : Int))).toNat];bif lenOK Z0 then bif lenOK Z0 then bif decide ((0 : Int) <= Z1 /\ Z1 <= Z2) && Qh Z2.toNat (1 : Nat) then bif Nat.beq Z3 Z4.length && lenOK Z3 then bif decide (Z0 <= (1000000 : Nat)) then bif Nat.beq Z3 Z5.length && Qh (Z3 + List.length Z6) (1 : Nat) then bif Nat.beq Z7 Z8 && Qh (Z7 + List.length Z10) (1 : Nat) then bif Nat.beq (Z8 + List.length Z10) Z11 && Qh (Z8 + List.length Z10 + List.length Z13) (1 : Nat) then bif Nat.beq (Z11 + List.length Z13) Z14 && Qh (Z11 + List.length Z13 + List.length Z15) (1 : Nat) then bif Nat.beq (Z14 + List.length Z15) (Z5 ++ Z6 ++ Z10 ++ Z13 ++ Z15).length then some (D.sl RTy.u8 false (Z5 ++ Z6 ++ Z10 ++ Z13 ++ Z15)) else none else none else none else none else none else none else none else none else none else none) := by kernel_rfl
theorem Qpl (c : Bool) (b : List UInt8) (h : (decide (b.length <= 1000000)) = true) : QkI c b = some (.sl (C := RC) .u8 false (JC b)) := by
 (rw [Qpk];conv => zeta)
 have hl := of_decide_eq_true h;have t1 : ((b.length : Int)).toNat = b.length := by simp
 have t2 : b.take (List.replicate b.length (⟨0#8⟩ : UInt8)).length = b := by simp
 have t3 : (List.replicate b.length (⟨0#8⟩ : UInt8)).drop b.length = [] := by simp
 have w4 : IntKind.i64.wrap ((b.length : Int) + 4) = (b.length : Int) + 4 := Qc (by omega) (by omega)
 have t4 : ((b.length : Int) + 4).toNat = b.length + 4 := by omega
 simp only [t1,t2,t3,t4,w4,List.append_nil,Qah,List.append_assoc,List.cons_append,List.nil_append,List.length_cons,List.length_nil,List.length_append,List.length_replicate,List.take_length,Nat.zero_add,Nat.reduceAdd,Nat.add_assoc];have eb : ∀ n : Nat,n.beq n = true := fun n => by simp
 have es : ∀ k : Nat,k <= 10 -> Qh (b.length + k) 1 = true := fun k hk => Vd (by omega)
 simp only [eb,es,Nat.reduceLeDiff,Bool.and_self,Bool.true_and,cond_true]
 repeat (refine QV (by first | assumption | exact Qk (by omega) | exact Vd (by omega) | (simp;done) | (simp;omega) | (simp [Qh];omega)) ?_)
 rfl
noncomputable def QtF := QtE.addSpec 107 QfI
theorem QhC : Qi Tryz.prog s25 QtF := QhB.addEv Qb fun args d h => by
 unfold QfI at h
 split at h
 · unfold QkH at h;have h1 := congrArg Prod.fst (Option.some.inj h);obtain rfl : _ = d := congrArg Prod.snd (Option.some.inj h);exact ⟨by simp [D.refs],60,Qpl _ _ h1⟩
 · cases h
def QkJ (c : Bool) (b : List UInt8) : Option (Bool × D RC) := some (decide (b.length <= 1000000),.sl (C := RC) .u8 false (JC b))
def QfJ : List (D RC) -> Option (Bool × D RC)
 | [.sl .u8 c b] => QkJ c b
 | _ => none
noncomputable def QkK (c : Bool) (b : List UInt8) := evF s25 QtF 60 111 [.sl (C := RC) .u8 c b]
theorem Qpm (c : Bool) (b : List UInt8) : QkK c b = (let Z0 : Nat := (0 : Nat) + List.length b;let Z1 : Nat := List.length ([] ++ b);let Z2 : Int := Yp b;let Z3 : List UInt8 := [UInt8.ofNat (IntKind.wrap IntKind.u8 (bits IntKind.u32 (fun (x : Nat) (u v : BitVec x) => u &&& v) Z2 (255 : Int))).toNat,UInt8.ofNat (IntKind.wrap IntKind.u8 (bits IntKind.u32 (fun (x : Nat) (u v : BitVec x) => u &&& v) (Int.fdiv Z2 (256 : Int)) (255 : Int))).toNat,UInt8.ofNat (IntKind.wrap IntKind.u8 (bits IntKind.u32 (fun (x : Nat) (u v : BitVec x) => u &&& v) (Int.fdiv Z2 (65536 : Int)) (255 : Int))).toNat,UInt8.ofNat (IntKind.wrap IntKind.u8 (Int.fdiv Z2 (16777216 : Int))).toNat];bif decide (List.length b <= (1000000 : Nat)) then bif Qh Z0 (1 : Nat) then bif Nat.beq Z0 Z1 && Qh (Z0 + List.length Z3) (1 : Nat) then bif Nat.beq (Z1 + List.length Z3) ([] ++ b ++ Z3).length then some (D.sl RTy.u8 false ([] ++ b ++ Z3)) else none else none else none else none) := by kernel_rfl
theorem Qpn (c : Bool) (b : List UInt8) (h : (decide (b.length <= 1000000)) = true) : QkK c b = some (.sl (C := RC) .u8 false (JC b)) := by
 (rw [Qpm];conv => zeta)
 have hl := of_decide_eq_true h;have hr := Qev b;have f8 : (Yp b).fdiv 256 = Yp b / 256 := Int.fdiv_eq_ediv_of_nonneg _ (by omega)
 have f16 : (Yp b).fdiv 65536 = Yp b / 65536 := Int.fdiv_eq_ediv_of_nonneg _ (by omega)
 have f24 : (Yp b).fdiv 16777216 = Yp b / 16777216 := Int.fdiv_eq_ediv_of_nonneg _ (by omega)
 have g1 : ((Yp b).fdiv 256).fdiv 256 = Yp b / 65536 := by rw [f8,Int.fdiv_eq_ediv_of_nonneg _ (by omega)];omega
 have g2 : (((Yp b).fdiv 256).fdiv 256).fdiv 256 = Yp b / 16777216 := by rw [g1,Int.fdiv_eq_ediv_of_nonneg _ (by omega)];omega
 simp only [f8,f16,f24,Qkf hr,Qkf (n := Yp b / 256) (by omega),Qkf (n := Yp b / 65536) (by omega),Qah,Qhw,List.nil_append,List.length_cons,List.length_nil,List.length_append]
 iterate 4 refine QV (by first | exact Qk (by simp;omega) | exact Qk (by omega) | (simp [Qh];done) | (simp [Qh];omega) | omega) ?_
 rw [JC,leB4,g2,g1,f8]
noncomputable def QtG := QtF.addSpec 111 QfJ
theorem QhD : Qi Tryz.prog s25 QtG := QhC.addEv Qb fun args d h => by
 unfold QfJ at h
 split at h
 · unfold QkJ at h;have h1 := congrArg Prod.fst (Option.some.inj h);obtain rfl : _ = d := congrArg Prod.snd (Option.some.inj h);exact ⟨by simp [D.refs],60,Qpn _ _ h1⟩
 · cases h
def QkL (c : Bool) (b : List UInt8) : Option (Bool × D RC) := some (decide (b.length <= 1000000),.tup (.acons (.sl (C := RC) .u8 (Ku b).isNone ((Ku b).getD [])) (.acons (.int .i64 (bif (Ku b).isNone then 50 else 0)) .anil)))
def QfK : List (D RC) -> Option (Bool × D RC)
 | [.sl .u8 c b] => QkL c b
 | _ => none
noncomputable def QkM (c : Bool) (b : List UInt8) := evF s25 QtG 60 153 [.sl (C := RC) .u8 c b]
theorem Qpo (c : Bool) (b : List UInt8) : QkM c b = (let Z0 : Int := (↑b.length : Int);let Z1 : Int := IntKind.wrap .i64 (Z0 - (4 : Int));let Z2 : DO_ := some (D.tup (D.acons (D.sl RTy.u8 true []) (.acons (D.int .i64 50) .anil)));let Z3 : Bool := decide ((0 : Int) <= (0 : Int) /\ (0 : Int) <= Z1 /\ Z1 <= Z0);let Z4 : List UInt8 := List.drop (0 : Nat) (List.take Z1.toNat b);let Z5 : Nat := (0 : Nat) + List.length Z4;bif lenOK b.length then bif decide (Z1 < (0 : Int)) then Z2 else bif Z3 then bif decide (List.length Z4 <= (1000000 : Nat)) then bif !(fun (l : List (RA RTy.u8)) => l) (JC Z4) == (fun (l : List (RA RTy.u8)) => l) b then Z2 else bif Z3 then bif Qh Z5 (1 : Nat) then bif Nat.beq Z5 ([] ++ Z4).length then some (D.tup (D.acons (D.sl RTy.u8 false ([] ++ Z4)) (.acons (D.int .i64 0) .anil))) else none else none else none else none else none else none) := by kernel_rfl
theorem Qpp (c : Bool) (b : List UInt8) (h : (decide (b.length <= 1000000)) = true) : QkM c b = some (.tup (.acons (.sl (C := RC) .u8 (Ku b).isNone ((Ku b).getD [])) (.acons (.int .i64 (bif (Ku b).isNone then 50 else 0)) .anil))) := by
 (rw [Qpo];conv => zeta)
 have hl := of_decide_eq_true h;have wm : IntKind.i64.wrap ((b.length : Int) - 4) = (b.length : Int) - 4 := Qc (by omega) (by omega)
 have tm : ((b.length : Int) - 4).toNat = b.length - 4 := by omega
 have ts : (b.take (b.length - 4)).length = b.length - 4 := by simp
 simp only [wm,tm,List.drop_zero,List.nil_append];refine QV (Qk (by omega)) ?_
 refine QE (fun h0 => ?_) fun h0 => ?_ <;> simp only [decide_eq_true_eq,decide_eq_false_iff_not] at h0
 · have e : Ku b = none := by unfold Ku;rw [if_neg (by omega)]
   rw [e];rfl
 iterate 2 refine QV (by first | exact Qk (by simp;omega) | exact Qk (by omega) | (simp [Qh];done) | (simp [Qh];omega) | omega) ?_
 by_cases hq : JC (b.take (b.length - 4)) = b
 · have e : Ku b = some (b.take (b.length - 4)) := by unfold Ku;rw [if_pos ⟨by omega,hq⟩]
   rw [hq,e];simp only [beq_self_eq_true,Bool.not_true,cond_false]
   iterate 3 refine QV (by first | exact Qk (by simp;omega) | exact Qk (by omega) | (simp [Qh];done) | (simp [Qh];omega) | omega) ?_
   rfl
 · have e : Ku b = none := by unfold Ku;rw [if_neg (fun q => hq q.2)]
   rw [e,show (JC (b.take (b.length - 4)) == b) = false by simpa using hq]
   rfl
noncomputable def QtH := QtG.addSpec 153 QfK
theorem QhE : Qi Tryz.prog s25 QtH := QhD.addEv Qb fun args d h => by
 unfold QfK at h
 split at h
 · unfold QkL at h;have h1 := congrArg Prod.fst (Option.some.inj h);obtain rfl : _ = d := congrArg Prod.snd (Option.some.inj h);exact ⟨by simp [D.refs],60,Qpp _ _ h1⟩
 · cases h
def Zg (s : Sector) : Bool := decide (0 <= s.n) && decide (s.n <= 1048575) && decide (s.b.length <= 640) && (decide (0 < s.n) || s.b == [])
def YH (l : List Sector) : Bool := decide (l.length = 33) && l.all Zg
def Kv (now sure : List Sector) (i : Nat) : Bool := ((now.zip sure).drop i).all fun p => decide (p.2.n <= p.1.n)
def diskOK (now sure : List Sector) : Bool := YH now && YH sure && Kv now sure 0
theorem J8 {now sure : List Sector} (h : diskOK now sure = true) : now.length = 33 /\ sure.length = 33 := by
 simp only [diskOK,YH,Bool.and_eq_true,decide_eq_true_eq] at h;exact ⟨h.1.1.1,h.1.2.1⟩
def sec0 : Sector := ⟨0,[]⟩
theorem Y0 {α : Type} (l : List α) (p : α -> Bool) (i : Nat) (h : i < l.length) (d : α) : (l.drop i).all p = (p (l.getD i d) && (l.drop (i + 1)).all p) := by
 have e : l.getD i d = l[i] := by simp [h]
 rw [List.drop_eq_getElem_cons h,e,List.all_cons]
theorem QhF {now sure : List Sector} (i : Nat) (h1 : i < now.length) (h2 : i < sure.length) (d : Sector) : Kv now sure i = (decide ((sure.getD i d).n <= (now.getD i d).n) && Kv now sure (i + 1)) := by
 unfold Kv;rw [Y0 _ _ i (by simp;omega) (d,d)]
 have e : (now.zip sure).getD i (d,d) = (now.getD i d,sure.getD i d) := by
  have hz : i < (now.zip sure).length := by simp;omega
  simp [List.getD_eq_getElem?_getD,List.getElem?_eq_getElem hz,h1,h2]
 rw [e]
theorem QkN {now sure : List Sector} (i : Nat) (h : now.length <= i) : Kv now sure i = true := by
 unfold Kv;rw [List.drop_eq_nil_of_le (by simp;omega)];rfl
def Yg (now sure : List Sector) (k n : Int) (b : List UInt8) : Bool := diskOK now sure && (decide (0 <= k) && decide (k < 33) && decide (1 <= n) && !(b == []) && Zg ⟨n,b⟩)
def Vb (now : List Sector) (k : Nat) (n : Int) (b : List UInt8) : List Sector := if (now.getD k sec0).n < n then now.set k ⟨n,b⟩ else now
theorem J9 (now : List Sector) (k : Nat) (n : Int) (b : List UInt8) : (Vb now k n b).length = now.length := by unfold Vb;split <;> simp
def Q1 : List Sector := List.replicate 33 ⟨0,[]⟩
theorem Qai {l : List Sector} (h : YH l = true) : l.length = 33 := by simp only [YH,Bool.and_eq_true,decide_eq_true_eq] at h;exact h.1
def pNow (now sure : List Sector) (k n : Int) (b : List UInt8) : List Sector := bif Yg now sure k n b then Vb now k.toNat n b else []
def QaE (now sure : List Sector) (k n : Int) (b : List UInt8) : List Sector := bif Yg now sure k n b then sure else []
def goodL (l : List Sector) : Bool := decide (l.length <= 9223372036854775807) && l.all fun s => lenOK s.b.length
theorem Vr {l : List Sector} : goodL l = true ↔ l.length <= 9223372036854775807 /\ ∀ s ∈ l,lenOK s.b.length = true := by simp [goodL]
theorem Qpq {l : List Sector} (h : goodL l = true) (i : Nat) (hi : i < l.length) (d : Sector) : lenOK (l.getD i d).b.length = true := by
 have e : l.getD i d = l[i] := by simp [hi]
 rw [e];exact (Vr.1 h).2 _ (List.getElem_mem hi)
theorem Jf {now sure : List Sector} {k n : Int} {b : List UInt8} (h : Yg now sure k n b = true) : diskOK now sure = true /\ 0 <= k /\ k < 33 /\ 1 <= n /\ b ≠ [] /\ Zg ⟨n,b⟩ = true := by
 simp only [Yg,Bool.and_eq_true,decide_eq_true_eq] at h;obtain ⟨h1,⟨⟨⟨h2,h3⟩,h4⟩,h5⟩,h6⟩ := h;exact ⟨h1,h2,h3,h4,by simpa using h5,h6⟩
theorem Yh {now sure : List Sector} {k n : Int} {b : List UInt8} (h : ¬ (diskOK now sure = true /\ 0 <= k /\ k < 33 /\ 1 <= n /\ b ≠ [] /\ Zg ⟨n,b⟩ = true)) : Yg now sure k n b = false := by
 cases e : Yg now sure k n b
 · rfl
 · exact absurd (Jf e) h
structure Rd where
 c : Bool
 b : List UInt8
 bad : Bool
structure Rdr (σ : Type) where
 get : Nat -> σ -> Int × σ
 bad : σ -> Bool
 rem : σ -> List UInt8
structure Qwt {σ : Type} (R : Rdr σ) : Prop where
 ok : ∀ w s,1 <= w -> R.bad s = false -> w <= (R.rem s).length -> (R.get w s).1 = (Jw ((R.rem s).take w) : Int) /\ R.rem (R.get w s).2 = (R.rem s).drop w /\ R.bad (R.get w s).2 = false
 no : ∀ w s,R.bad s = false -> (R.rem s).length < w -> R.bad (R.get w s).2 = true
 stay : ∀ w s,R.bad s = true -> R.bad (R.get w s).2 = true
section
variable {σ : Type} (R : Rdr σ)
variable {R} (K : Qwt R)
include K
end
structure Rn where
 pos : Nat
 short : Bool
structure QS (σ : Type) where
 r : σ
 l0 : List Line
 l1 : List Line
 l2 : List Line
 c0 : Int
 c1 : Int
 c2 : Int
section
variable {σ : Type} (R : Rdr σ) (stop : Bool) (mark : σ -> σ)
end
theorem Qa2 {r : Rec} (h : mayB r = true) : (ZF r).length <= 13 := by
 obtain ⟨p,y,l⟩ := r;obtain ⟨hp,hl,hw⟩ := Jx h;simp only [ZF,List.length_append,QG,Qeo l Yr 2 Qhl];omega
theorem Jg {n : Int} {l : List UInt8} (h : ¬ (1 <= n /\ n <= 1048575 /\ l.length <= 600)) : okF n l = false := by
 cases e : okF n l
 · rfl
 · simp only [okF,Bool.and_eq_true,decide_eq_true_eq] at e;exact absurd ⟨e.1.1,e.1.2,e.2⟩ h
open Go.Proofs
def QfL (n : Int) : Option (Bool × D RC) := some (decide (n <= 1000000),.int .i64 (bif decide (n < 0) || decide (600 < n) then 0 else n + 12))
def Qc3 : List (D RC) -> Option (Bool × D RC)
 | [.int .i64 n] => QfL n
 | _ => none
noncomputable def QfM (n : Int) := evF s25 QtH 40 106 [.int .i64 n]
theorem QkO (n : Int) : QfM n = (let Z0 : DO_ := some (D.int .i64 0);bif decide (n < (0 : Int)) then Z0 else bif decide ((600 : Int) < n) then Z0 else some (D.int .i64 (IntKind.wrap .i64 (IntKind.wrap .i64 ((8 : Int) + n) + (4 : Int))))) := by kernel_rfl
theorem QkP (n : Int) (h : (decide (n <= 1000000)) = true) : QfM n = some (.int .i64 (bif decide (n < 0) || decide (600 < n) then 0 else n + 12)) := by
 (rw [QkO];conv => zeta)
 have hl := of_decide_eq_true h
 by_cases h0 : n < 0
 · simp [h0]
 by_cases h6 : 600 < n
 · simp [h0,h6]
 have w1 : IntKind.i64.wrap (8 + n) = 8 + n := Qc (by omega) (by omega)
 have w2 : IntKind.i64.wrap (8 + n + 4) = 8 + n + 4 := Qc (by omega) (by omega)
 simp [h0,h6,w1,w2];omega
noncomputable def uh_1 := QtH.addSpec 106 Qc3
theorem QkQ : Qi Tryz.prog s25 uh_1 := QhE.addEv Qb fun args d h => by
 unfold Qc3 at h
 split at h
 · unfold QfL at h;have h1 := congrArg Prod.fst (Option.some.inj h);obtain rfl : _ = d := congrArg Prod.snd (Option.some.inj h);exact ⟨by simp [D.refs],40,QkP _ h1⟩
 · cases h
def Qc4 (n : Int) (b : List UInt8) : Option (Bool × D RC) := some (decide (b.length <= 1000000),.tup (.acons (.str (bif okF n b then Vq n b else [])) (.acons (.int .i64 (bif okF n b then 0 else 2)) .anil)))
def Qa3 : List (D RC) -> Option (Bool × D RC)
 | [.int .i64 n,.str b] => Qc4 n b
 | _ => none
noncomputable def Qc5 (n : Int) (b : List UInt8) := evF s25 uh_1 60 51 [.int .i64 n,.str b]
theorem QhG (n : Int) (b : List UInt8) : Qc5 n b = (let Z0 : DO_ := some (D.tup (D.acons (D.str (Array.toList #[])) (.acons (D.int .i64 2) .anil)));let Z1 : Nat := List.length b;let Z2 : Int := (↑Z1 : Int);let Z3 : Nat := (0 : Nat) + List.length (putL [] n (6 : Nat));let Z4 : Nat := List.length ([] ++ putL [] n (6 : Nat));let Z5 : Nat := List.length (putL [] Z2 (2 : Nat));let Z6 : List UInt8 := [] ++ putL [] n (6 : Nat) ++ putL [] Z2 (2 : Nat);let Z7 : Nat := List.length (Z6 ++ b);let Z8 : DO_ := none;bif (bif QL n (6 : Nat) then (0 : Int) else (2 : Int)) != (0 : Int) then Z0 else bif decide (n < (1 : Int)) then Z0 else bif decide ((1048575 : Int) < n) then Z0 else bif lenOK Z1 then bif decide (Z2 <= (1000000 : Int)) then bif (bif decide (Z2 < (0 : Int)) || decide ((600 : Int) < Z2) then (0 : Int) else Z2 + (12 : Int)) == (0 : Int) then Z0 else bif lenOK Z1 then bif Qh Z1 (1 : Nat) then bif Qh Z3 (1 : Nat) then bif Nat.beq Z3 Z4 && Qh (Z3 + Z5) (1 : Nat) then bif Nat.beq (Z4 + Z5) Z6.length && Qh (Z4 + Z5 + Z1) (1 : Nat) then bif Nat.beq (List.length Z6 + Z1) Z7 then bif decide (Z7 <= (1000000 : Nat)) then some (D.tup (D.acons (D.str (JC (Z6 ++ b))) (.acons (D.int .i64 0) .anil))) else Z8 else Z8 else Z8 else Z8 else Z8 else Z8 else Z8 else Z8 else Z8) := by kernel_rfl
theorem QhH (n : Int) (b : List UInt8) (h : (decide (b.length <= 1000000)) = true) : Qc5 n b = some (.tup (.acons (.str (bif okF n b then Vq n b else [])) (.acons (.int .i64 (bif okF n b then 0 else 2)) .anil))) := by
 (rw [QhG];conv => zeta)
 have hl := of_decide_eq_true h;have lb : lenOK b.length = true := Qk (by omega)
 have ld : decide ((b.length : Int) <= 1000000) = true := by simp;omega
 have no : okF n b = false -> some (D.tup (.acons (.str []) (.acons (.int .i64 2) .anil))) = some (.tup (.acons (.str (bif okF n b then Vq n b else [])) (.acons (.int .i64 (bif okF n b then 0 else 2)) .anil)) : D RC) := fun e => by rw [e];rfl
 refine QE (fun e => no (Jg fun f => by rw [show QL n 6 = true by rw [Zk];omega] at e;cases e)) fun e0 => ?_
 refine QE (fun e => no (Jg fun f => by simp only [decide_eq_true_eq] at e;omega)) fun e1 => ?_
 refine QE (fun e => no (Jg fun f => by simp only [decide_eq_true_eq] at e;omega)) fun e2 => ?_
 refine QV lb (QV ld ?_);simp only [decide_eq_false_iff_not] at e1 e2
 by_cases h6 : 600 < (b.length : Int)
 · refine QV ?_ (no (Jg fun f => by omega))
   simp [h6]
 refine Qew ?_ ?_
 · have : ¬ (b.length : Int) < 0 := by omega
   simp [this,h6];omega
 have ok : okF n b = true := by simp only [okF,Bool.and_eq_true,decide_eq_true_eq];omega
 have f6 : QL n 6 = true := by rw [Zk];omega
 have f2 : QL (b.length : Int) 2 = true := by rw [Zk];omega
 have p6 : putL [] n 6 = leB n 6 := (Zd f6).trans (List.nil_append _);have p2 : putL [] (b.length : Int) 2 = leB b.length 2 := (Zd f2).trans (List.nil_append _);simp only [p6,p2,List.nil_append,QG,List.length_append,Nat.zero_add];have hb6 : b.length <= 600 := by omega
 have es : ∀ k : Nat,k <= 700 -> Qh k 1 = true := fun k hk => Vd (by omega)
 have eb : ∀ n : Nat,n.beq n = true := fun n => by simp
 have ed : decide (6 + 2 + b.length <= 1000000) = true := by simp;omega
 simp (disch := omega) only [es,eb,lb,ed,Bool.and_self,cond_true];rw [ok];rfl
noncomputable def uh_2 := uh_1.addSpec 51 Qa3
theorem QkR : Qi Tryz.prog s25 uh_2 := QkQ.addEv Qb fun args d h => by
 unfold Qa3 at h
 split at h
 · unfold Qc4 at h;have h1 := congrArg Prod.fst (Option.some.inj h);obtain rfl : _ = d := congrArg Prod.snd (Option.some.inj h);exact ⟨by simp [D.refs],60,QhH _ _ h1⟩
 · cases h
open Go.Proofs
def Qc6 (n : Int) (b : List UInt8) : Option (Bool × D RC) := some (decide (b.length <= 1000000),.tup (.acons (.str (bif okF n b then Vq n b else [])) (.acons (.int .i64 (bif okF n b then 0 else 2)) .anil)))
def Qa4 : List (D RC) -> Option (Bool × D RC)
 | [.int .i64 n,.str b] => Qc6 n b
 | _ => none
noncomputable def Qc7 (n : Int) (b : List UInt8) := evF s25 uh_2 60 54 [.int .i64 n,.str b]
theorem QhI (n : Int) (b : List UInt8) : Qc7 n b = (let Z0 : DO_ := some (D.tup (D.acons (D.str (Array.toList #[])) (.acons (D.int .i64 2) .anil)));let Z1 : Bool := lenOK b.length;let Z2 : Int := (↑b.length : Int);let Z3 : List UInt8 := [] ++ [] ++ leB n (6 : Nat);let Z4 : Nat := List.length ([] ++ Z3);let Z5 : List UInt8 := [] ++ Z3 ++ leB Z2 (2 : Nat);let Z6 : Nat := List.length Z5;let Z7 : List UInt8 := (fun (l : List UInt8) => l) b;let Z8 : Nat := List.length (Z5 ++ Z7);let Z9 : DO_ := none;bif decide (n < (1 : Int)) then Z0 else bif decide ((1048575 : Int) < n) then Z0 else bif Z1 then bif decide ((600 : Int) < Z2) then Z0 else bif decide (n <= (9223372036854775807 : Int) /\ (1 : Int) <= (6 : Int) /\ (6 : Int) <= (6 : Int)) && QL n (6 : Nat) then bif decide ((0 : Int) <= n /\ n <= (9223372036854775807 : Int) /\ (0 : Int) <= (6 : Int) /\ (6 : Int) <= (6 : Int) /\ (0 : Nat) <= (1000000 : Nat)) then bif Z1 then bif decide (Z2 <= (9223372036854775807 : Int) /\ (1 : Int) <= (2 : Int) /\ (2 : Int) <= (6 : Int)) && QL Z2 (2 : Nat) then bif decide ((0 : Nat) + List.length Z3 = Z4) && true && decide ((0 : Int) <= Z2 /\ Z2 <= (9223372036854775807 : Int) /\ (0 : Int) <= (2 : Int) /\ (2 : Int) <= (6 : Int) /\ Z4 <= (1000000 : Nat)) then bif Nat.beq Z6 Z6 && Qh (Z6 + List.length Z7) (1 : Nat) then bif Nat.beq (Z6 + List.length Z7) Z8 then bif decide (Z8 <= (1000000 : Nat)) then some (D.tup (D.acons (D.str (JC (Z5 ++ Z7))) (.acons (D.int .i64 0) .anil))) else Z9 else Z9 else Z9 else Z9 else Z9 else Z9 else Z9 else Z9 else Z9) := by kernel_rfl
theorem QhJ (n : Int) (b : List UInt8) (h : (decide (b.length <= 1000000)) = true) : Qc7 n b = some (.tup (.acons (.str (bif okF n b then Vq n b else [])) (.acons (.int .i64 (bif okF n b then 0 else 2)) .anil))) := by
 (rw [QhI];conv => zeta)
 have hl := of_decide_eq_true h;have lb : lenOK b.length = true := Qk (by omega)
 have no : okF n b = false -> some (D.tup (.acons (.str []) (.acons (.int .i64 2) .anil))) = some (.tup (.acons (.str (bif okF n b then Vq n b else [])) (.acons (.int .i64 (bif okF n b then 0 else 2)) .anil)) : D RC) := fun e => by rw [e];rfl
 refine QE (fun e => no (Jg fun f => by simp only [decide_eq_true_eq] at e;omega)) fun e1 => ?_
 refine QE (fun e => no (Jg fun f => by simp only [decide_eq_true_eq] at e;omega)) fun e2 => ?_
 refine QV lb (QE (fun e => no (Jg fun f => by simp only [decide_eq_true_eq] at e;omega)) fun e3 => ?_)
 simp only [decide_eq_false_iff_not] at e1 e2 e3;have ok : okF n b = true := by simp only [okF,Bool.and_eq_true,decide_eq_true_eq];omega
 have f6 : QL n 6 = true := by rw [Zk];omega
 have f2 : QL (b.length : Int) 2 = true := by rw [Zk];omega
 have eb : ∀ n : Nat,n.beq n = true := fun n => by simp
 have s1 : Qh (6 + 2 + b.length) 1 = true := Vd (by omega)
 have g1 : decide (n <= 9223372036854775807 /\ (1 : Int) <= 6 /\ (6 : Int) <= 6) = true := decide_eq_true (by omega)
 have g2 : decide (0 <= n /\ n <= 9223372036854775807 /\ (0 : Int) <= 6 /\ (6 : Int) <= 6 /\ 0 <= 1000000) = true := decide_eq_true (by omega)
 have g3 : decide ((b.length : Int) <= 9223372036854775807 /\ (1 : Int) <= 2 /\ (2 : Int) <= 6) = true := decide_eq_true (by omega)
 have g4 : decide (0 <= (b.length : Int) /\ (b.length : Int) <= 9223372036854775807 /\ (0 : Int) <= 2 /\ (2 : Int) <= 6 /\ 6 <= 1000000) = true := decide_eq_true (by omega)
 have g5 : decide (6 + 2 + b.length <= 1000000) = true := decide_eq_true (by omega)
 simp only [List.nil_append,QG,List.length_append,f6,f2,eb,lb,s1,Nat.zero_add,Bool.and_self,cond_true];refine QV (by rw [g1];rfl) (QV g2 (QV (by rw [g3];rfl) (QV (by rw [g4];rfl) (QV g5 ?_))))
 rw [ok];rfl
noncomputable def ui_1 := uh_2.addSpec 54 Qa4
theorem QkS : Qi Tryz.prog s25 ui_1 := QkR.addEv Qb fun args d h => by
 unfold Qa4 at h
 split at h
 · unfold Qc6 at h;have h1 := congrArg Prod.fst (Option.some.inj h);obtain rfl : _ = d := congrArg Prod.snd (Option.some.inj h);exact ⟨by simp [D.refs],60,QhJ _ _ h1⟩
 · cases h
theorem Qc8 {l : List Sector} (h : YH l = true) : ∀ s ∈ l,Zg s = true := by
 simp only [YH,Bool.and_eq_true] at h;exact List.all_eq_true.1 h.2
theorem Qpr {l : List Sector} (h1 : l.length = 33) (h2 : ∀ s ∈ l,Zg s = true) : YH l = true := by
 simp only [YH,Bool.and_eq_true,decide_eq_true_eq];exact ⟨h1,List.all_eq_true.2 h2⟩
theorem Qa5 {l : List Sector} (h : YH l = true) : goodL l = true := by
 have h1 := Qai h;rw [Vr];refine ⟨by omega,fun s hs => Qk ?_⟩
 have := Qc8 h s hs;simp only [Zg,Bool.and_eq_true,decide_eq_true_eq] at this;omega
theorem Ys {now sure : List Sector} (h : diskOK now sure = true) : YH now = true /\ YH sure = true /\ Kv now sure 0 = true := by
 simp only [diskOK,Bool.and_eq_true] at h;exact ⟨h.1.1,h.1.2,h.2⟩
theorem Qex {now sure : List Sector} (hl : now.length = sure.length) : Kv now sure 0 = true ↔ ∀ i,i < now.length -> (sure.getD i sec0).n <= (now.getD i sec0).n := by
 unfold Kv;rw [List.drop_zero,List.all_eq_true];constructor
 · intro h i hi;have hz : i < (now.zip sure).length := by simp;omega
   have h3 := h _ (List.getElem_mem hz);simp only [List.getElem_zip,decide_eq_true_eq] at h3;have hi2 : i < sure.length := by omega
   simpa [hi,hi2] using h3
 · intro h p hp;obtain ⟨i,hi,rfl⟩ := List.getElem_of_mem hp;have h1 : i < now.length := by simp at hi;omega
   have h2 : i < sure.length := by omega
   have := h i h1;simp only [List.getElem_zip,decide_eq_true_eq]
   simpa [h1,h2] using this
theorem Qey {now sure : List Sector} (h : diskOK now sure = true) : goodL now = true /\ goodL sure = true :=
 ⟨Qa5 (Ys h).1,Qa5 (Ys h).2.1⟩
theorem putNow_mem {now : List Sector} {k : Nat} {n : Int} {b : List UInt8} {s : Sector} (h : s ∈ Vb now k n b) : s ∈ now \/ s = ⟨n,b⟩ := by
 unfold Vb at h
 split at h
 · exact List.mem_or_eq_of_mem_set h
 · exact .inl h
theorem QkT {now : List Sector} {k : Nat} {n : Int} {b : List UInt8} (hk : k < now.length) (j : Nat) : (Vb now k n b).getD j sec0 = if j = k /\ (now.getD k sec0).n < n then ⟨n,b⟩ else now.getD j sec0 := by
 unfold Vb
 by_cases h : (now.getD k sec0).n < n
 · rw [if_pos h]
   by_cases hj : j = k
   · subst hj;rw [if_pos ⟨rfl,h⟩];simp [hk]
   · rw [if_neg (fun q => hj q.1)];simp only [List.getD_eq_getElem?_getD];rw [List.getElem?_set_ne (fun q => hj q.symm)]
 · rw [if_neg h,if_neg (fun q => h q.2)]
theorem QhK {now sure : List Sector} {k n : Int} {b : List UInt8} (h : Yg now sure k n b = true) : diskOK (pNow now sure k n b) (QaE now sure k n b) = true := by
 obtain ⟨hd,h0,h1,h2,h3,h4⟩ := Jf h;obtain ⟨d1,d2,d3⟩ := Ys hd;obtain ⟨l1,l2⟩ := J8 hd;simp only [pNow,QaE,h,cond_true,diskOK,Bool.and_eq_true];have hk : k.toNat < now.length := by omega
 refine ⟨⟨Qpr (by rw [J9];exact l1) fun s hs => ?_,d2⟩,?_⟩
 · rcases putNow_mem hs with q | rfl
   · exact Qc8 d1 s q
   · exact h4
 · rw [Qex (by rw [J9];omega)]
   intro i hi;rw [J9] at hi;have := (Qex (by omega)).1 d3 i hi
   rw [QkT hk]
   split
   · rename_i q;obtain ⟨rfl,q⟩ := q;have h5 : (sure.getD k.toNat sec0).n <= (now.getD k.toNat sec0).n := this;show (sure.getD k.toNat sec0).n <= n;omega
   · exact this
theorem Qez {l : List Sector} (h : YH l = true) : diskOK l l = true := by
 simp only [diskOK,h,Bool.true_and];rw [Qex rfl];intro i _;exact Int.le_refl _
def secI (p : Int) : Int := if p < 0 then 0 else p % 32
def entL (r : Rec) : List UInt8 := bif mayB r then Vq r.place (ZF r) else []
open Go.Proofs
def entE (r : Rec) : Int := bif mayB r then 0 else 2
theorem QtI (p : Int) : (if p < 0 then 0 else p).tmod 32 = secI p := by
 unfold secI
 split
 · rfl
 · rw [Int.tmod_eq_emod_of_nonneg (by omega)]
theorem Qr5 {r : Rec} (h : mayB r = true) : okF r.place (ZF r) = true /\ (ZF r).length <= 13 := by
 have h1 := Qa2 h;have h2 := (Jx (p := r.place) (y := r.yes) (l := r.writes) h).1;refine ⟨?_,h1⟩;simp only [okF,Bool.and_eq_true,decide_eq_true_eq];omega
def Qc9 (p : Int) : Option (Bool × D RC) := some (true,.int .i64 (secI p))
def Qa6 : List (D RC) -> Option (Bool × D RC)
 | [.int .i64 p] => Qc9 p
 | _ => none
noncomputable def Qda (p : Int) := evF s25 ui_1 20 52 [.int .i64 p]
theorem QhL (p : Int) : Qda p = (some (D.int .i64 (Int.tmod (if p < (0 : Int) then (0 : Int) else p) (32 : Int)))) := by kernel_rfl
theorem QhM (p : Int) (h : (true) = true) : Qda p = some (.int .i64 (secI p)) := by
 rw [QhL];rw [QtI]
noncomputable def uj_1 := ui_1.addSpec 52 Qa6
theorem QkU : Qi Tryz.prog s25 uj_1 := QkS.addEv Qb fun args d h => by
 unfold Qa6 at h
 split at h
 · unfold Qc9 at h;have h1 := congrArg Prod.fst (Option.some.inj h);obtain rfl : _ = d := congrArg Prod.snd (Option.some.inj h);exact ⟨by simp [D.refs],20,QhM _ h1⟩
 · cases h
def Qdb (p : Int) : Option (Bool × D RC) := some (true,.int .i64 (secI p))
def Qa7 : List (D RC) -> Option (Bool × D RC)
 | [.int .i64 p] => Qdb p
 | _ => none
noncomputable def Qdc (p : Int) := evF s25 uj_1 20 41 [.int .i64 p]
theorem QhN (p : Int) : Qdc p = (bif decide (p < (0 : Int)) then some (D.int .i64 0) else some (D.int .i64 (Int.tmod p (32 : Int)))) := by kernel_rfl
theorem QhO (p : Int) (h : (true) = true) : Qdc p = some (.int .i64 (secI p)) := by
 rw [QhN];refine QE (fun e => ?_) fun e => ?_
 · simp only [decide_eq_true_eq] at e;rw [secI,if_pos e]
 · simp only [decide_eq_false_iff_not] at e;rw [secI,if_neg e,Int.tmod_eq_emod_of_nonneg (by omega)]
noncomputable def uj_2 := uj_1.addSpec 41 Qa7
theorem QkV : Qi Tryz.prog s25 uj_2 := QkU.addEv Qb fun args d h => by
 unfold Qa7 at h
 split at h
 · unfold Qdb at h;have h1 := congrArg Prod.fst (Option.some.inj h);obtain rfl : _ = d := congrArg Prod.snd (Option.some.inj h);exact ⟨by simp [D.refs],20,QhO _ h1⟩
 · cases h
theorem QbN (x : Nat) (hx : x < 2 ^ 64) : (BitVec.ofInt IntKind.i64.bits (x : Int)).toNat = x := by
 rw [BitVec.toNat_ofInt];simp only [IntKind.bits];omega
theorem QbO (n : Int) (k : Nat) (h0 : 0 <= n) (h1 : n < 9223372036854775808) (hk : k <= 62) :
 bits .i64 (fun _ u v => u &&& v) n ((2 ^ k - 1 : Nat) : Int) = n % ((2 ^ k : Nat) : Int) := by
 obtain ⟨m,rfl⟩ := Int.eq_ofNat_of_zero_le h0;have hp : 2 ^ k <= 2 ^ 62 := Nat.pow_le_pow_right (by omega) hk
 have hq : 0 < 2 ^ k := Nat.pow_pos (by omega)
 unfold bits;rw [BitVec.toNat_and,QbN _ (by omega),QbN _ (by omega),Nat.and_two_pow_sub_one_eq_mod]
 have := Nat.mod_lt m hq;rw [Qc (by omega) (by omega)]
 simp
theorem QeA (a b : Int) (k : Nat) (ha : 0 <= a) (hb : 0 <= b) (h1 : b < ((2 ^ k : Nat) : Int)) (h2 : a * ((2 ^ k : Nat) : Int) + b < 9223372036854775808) :
 bits .i64 (fun _ u v => u ||| v) (a * ((2 ^ k : Nat) : Int)) b = a * ((2 ^ k : Nat) : Int) + b := by
 obtain ⟨a,rfl⟩ := Int.eq_ofNat_of_zero_le ha;obtain ⟨b,rfl⟩ := Int.eq_ofNat_of_zero_le hb;have e : (a : Int) * ((2 ^ k : Nat) : Int) = ((a * 2 ^ k : Nat) : Int) := by simp
 have h2' : a * 2 ^ k + b < 9223372036854775808 := by rw [e] at h2;omega
 have h1' : b < 2 ^ k := by omega
 unfold bits;rw [e,BitVec.toNat_or,QbN _ (by omega),QbN _ (by omega)]
 have h3 : a * 2 ^ k ||| b = a * 2 ^ k + b := by
  rw [Nat.mul_comm,<- Nat.two_pow_add_eq_or_of_lt h1']
 rw [h3,Qc (by omega) (by omega)]
 simp
theorem Yt (m a b : Int) (k : Nat) (hm : m = ((2 ^ k : Nat) : Int)) (ha : 0 <= a) (hb : 0 <= b) (h1 : b < m) (h2 : a * m + b < 9223372036854775808) :
 bits .i64 (fun _ u v => u ||| v) (a * m) b = a * m + b := by
 subst hm;exact QeA a b k ha hb h1 h2
theorem Zx (n m : Int) (k : Nat) (hm : m + 1 = ((2 ^ k : Nat) : Int)) (h0 : 0 <= n) (h1 : n < 9223372036854775808) (hk : k <= 62) :
 bits .i64 (fun _ u v => u &&& v) n m = n % (m + 1) := by
 have hq : 0 < 2 ^ k := Nat.pow_pos (by omega)
 rw [hm,<- QbO n k h0 h1 hk]
 congr 1
 omega
def ZI (l : Line) : Bool := decide (0 <= l.offset /\ l.offset < 4194304 /\ 1 <= l.place /\ l.place <= 1048575 /\ 0 <= l.j /\ l.j <= 3 /\ 0 <= l.key /\ l.key <= 7 /\ 0 <= l.value /\ l.value <= 255)
def QbP (l : Line) : Int := (l.offset + 1) * 8589934592 + l.place * 8192 + l.j * 2048 + l.key * 256 + l.value
def V0 (w : Int) : Line := ⟨w / 8589934592 - 1,w / 8192 % 1048576,w / 2048 % 4,w / 256 % 8,w % 256⟩
def Q9 (w : Int) : Option Line := if 0 <= w /\ ZI (V0 w) = true then some (V0 w) else none
def Y1 (l : Line) : Int := bif ZI l then QbP l else 0
theorem Qps {o p j k v : Int} (h : ZI ⟨o,p,j,k,v⟩ = true) :
 bits .i64 (fun _ u v => u ||| v) (bits .i64 (fun _ u v => u ||| v) (bits .i64 (fun _ u v => u ||| v) (bits .i64 (fun _ u v => u ||| v) ((o + 1) * 8589934592) (p * 8192)) (j * 2048)) (k * 256)) v = QbP ⟨o,p,j,k,v⟩ := by
 unfold ZI at h;rw [decide_eq_true_eq] at h;simp only at h;have e1 := Yt 8589934592 (o + 1) (p * 8192) 33 (by decide) (by omega) (by omega) (by omega) (by omega)
 have e2 := Yt 8192 ((o + 1) * 1048576 + p) (j * 2048) 13 (by decide) (by omega) (by omega) (by omega) (by omega)
 have e3 := Yt 2048 (((o + 1) * 1048576 + p) * 4 + j) (k * 256) 11 (by decide) (by omega) (by omega) (by omega) (by omega)
 have e4 := Yt 256 ((((o + 1) * 1048576 + p) * 4 + j) * 8 + k) v 8 (by decide) (by omega) (by omega) (by omega) (by omega)
 rw [e1,show (o + 1) * 8589934592 + p * 8192 = ((o + 1) * 1048576 + p) * 8192 by omega,e2,
  show ((o + 1) * 1048576 + p) * 8192 + j * 2048 = (((o + 1) * 1048576 + p) * 4 + j) * 2048 by omega,e3,
  show (((o + 1) * 1048576 + p) * 4 + j) * 2048 + k * 256 = ((((o + 1) * 1048576 + p) * 4 + j) * 8 + k) * 256 by omega,e4]
 unfold QbP;simp only;omega
theorem QeB {w : Int} (h0 : 0 <= w) : QbP (V0 w) = w := by
 unfold V0 QbP;simp only;omega
theorem QhP {w : Int} {l : Line} (h : Q9 w = some l) : ZI l = true /\ QbP l = w /\ l = V0 w /\ 0 <= w := by
 unfold Q9 at h
 split at h
 · rename_i q;cases h;exact ⟨q.2,QeB q.1,rfl,q.1⟩
 · cases h
def readO (w : Int) : Line := (Q9 w).getD ⟨0,0,0,0,0⟩
open Go.Proofs
def QkW (p : Int) (y : Bool) (c : Bool) (l : List Qd) : Option (Bool × D RC) := some (lenOK l.length,.tup (.acons (.int .i64 (bif mayB ⟨p,y,l⟩ then secI p else 0)) (.acons (.str (entL ⟨p,y,l⟩)) (.acons (.int .i64 (entE ⟨p,y,l⟩)) .anil))))
def QfN : List (D RC) -> Option (Bool × D RC)
 | [.acons (.int .i64 p) (.acons (.bool y) (.acons (.sl .write c l) .anil))] => QkW p y c l
 | _ => none
noncomputable def QkX (p : Int) (y : Bool) (c : Bool) (l : List Qd) := evF s25 uj_2 20 23 [.acons (.int .i64 p) (.acons (.bool y) (.acons (.sl (C := RC) .write c l) .anil))]
theorem Qpt (p : Int) (y : Bool) (c : Bool) (l : List Qd) : QkX p y c l = (let Z0 : Int := bif mayB (Rec.mk p y l) then (0 : Int) else (2 : Int);let Z1 : List (RA RTy.u8) := (fun (l : List (RA RTy.u8)) => l) (bif mayB (Rec.mk p y l) then ZF (Rec.mk p y l) else []);bif lenOK l.length then bif Z0 != (0 : Int) then some (D.tup (D.acons (D.int .i64 0) (.acons (D.str (Array.toList #[])) (.acons (D.int .i64 Z0) .anil)))) else bif decide (List.length Z1 <= (1000000 : Nat)) then some (D.tup (D.acons (D.int .i64 (secI p)) (.acons (D.str (bif okF p Z1 then Vq p Z1 else [])) (.acons (D.int .i64 (bif okF p Z1 then (0 : Int) else (2 : Int))) .anil)))) else none else none) := by kernel_rfl
theorem Qpu (p : Int) (y : Bool) (c : Bool) (l : List Qd) (h : (lenOK l.length) = true) : QkX p y c l = some (.tup (.acons (.int .i64 (bif mayB ⟨p,y,l⟩ then secI p else 0)) (.acons (.str (entL ⟨p,y,l⟩)) (.acons (.int .i64 (entE ⟨p,y,l⟩)) .anil)))) := by
 (rw [Qpt];conv => zeta)
 refine QV h ?_;cases hm : mayB ⟨p,y,l⟩
 · simp only [entL,entE,hm];rfl
 · obtain ⟨h1,h2⟩ := Qr5 hm;have h3 : decide ((ZF ⟨p,y,l⟩).length <= 1000000) = true := decide_eq_true (by omega)
   simp only [entL,entE,hm,h1,h3,cond_true,cond_false,Bool.not_true];rfl
noncomputable def uk_1 := uj_2.addSpec 23 QfN
theorem QkY : Qi Tryz.prog s25 uk_1 := QkV.addEv Qb fun args d h => by
 unfold QfN at h
 split at h
 · unfold QkW at h;have h1 := congrArg Prod.fst (Option.some.inj h);obtain rfl : _ = d := congrArg Prod.snd (Option.some.inj h);exact ⟨by simp [D.refs],20,Qpu _ _ _ _ h1⟩
 · cases h
def QfO (p : Int) (y : Bool) (c : Bool) (l : List Qd) : Option (Bool × D RC) := some (lenOK l.length,.tup (.acons (.int .i64 (bif mayB ⟨p,y,l⟩ then secI p else 0)) (.acons (.str (entL ⟨p,y,l⟩)) (.acons (.int .i64 (entE ⟨p,y,l⟩)) .anil))))
def Qdd : List (D RC) -> Option (Bool × D RC)
 | [.acons (.int .i64 p) (.acons (.bool y) (.acons (.sl .write c l) .anil))] => QfO p y c l
 | _ => none
noncomputable def QfP (p : Int) (y : Bool) (c : Bool) (l : List Qd) := evF s25 uk_1 20 24 [.acons (.int .i64 p) (.acons (.bool y) (.acons (.sl (C := RC) .write c l) .anil))]
theorem QkZ (p : Int) (y : Bool) (c : Bool) (l : List Qd) : QfP p y c l = (let Z0 : Int := bif mayB (Rec.mk p y l) then (0 : Int) else (2 : Int);let Z1 : List (RA RTy.u8) := (fun (l : List (RA RTy.u8)) => l) (bif mayB (Rec.mk p y l) then ZF (Rec.mk p y l) else []);bif lenOK l.length then bif Z0 != (0 : Int) then some (D.tup (D.acons (D.int .i64 0) (.acons (D.str (Array.toList #[])) (.acons (D.int .i64 Z0) .anil)))) else bif decide (List.length Z1 <= (1000000 : Nat)) then some (D.tup (D.acons (D.int .i64 (secI p)) (.acons (D.str (bif okF p Z1 then Vq p Z1 else [])) (.acons (D.int .i64 (bif okF p Z1 then (0 : Int) else (2 : Int))) .anil)))) else none else none) := by kernel_rfl
theorem Qk0 (p : Int) (y : Bool) (c : Bool) (l : List Qd) (h : (lenOK l.length) = true) : QfP p y c l = some (.tup (.acons (.int .i64 (bif mayB ⟨p,y,l⟩ then secI p else 0)) (.acons (.str (entL ⟨p,y,l⟩)) (.acons (.int .i64 (entE ⟨p,y,l⟩)) .anil)))) := by
 (rw [QkZ];conv => zeta)
 refine QV h ?_;cases hm : mayB ⟨p,y,l⟩
 · simp only [entL,entE,hm];rfl
 · obtain ⟨h1,h2⟩ := Qr5 hm;have h3 : decide ((ZF ⟨p,y,l⟩).length <= 1000000) = true := decide_eq_true (by omega)
   simp only [entL,entE,hm,h1,h3,cond_true,cond_false,Bool.not_true];rfl
noncomputable def uk_2 := uk_1.addSpec 24 Qdd
theorem Qk1 : Qi Tryz.prog s25 uk_2 := QkY.addEv Qb fun args d h => by
 unfold Qdd at h
 split at h
 · unfold QfO at h;have h1 := congrArg Prod.fst (Option.some.inj h);obtain rfl : _ = d := congrArg Prod.snd (Option.some.inj h);exact ⟨by simp [D.refs],20,Qk0 _ _ _ _ h1⟩
 · cases h
def Qde  : Option (Bool × D RC) := some (true,.bool true)
def Qa8 : List (D RC) -> Option (Bool × D RC)
 | [] => Qde 
 | _ => none
noncomputable def Qk2  := evF s25 uk_2 1000 10 []
theorem QhQ  (h : (true) = true) : Qk2  = some (.bool true) := by
 kernel_rfl
noncomputable def uk_3 := uk_2.addSpec 10 Qa8
theorem Qk3 : Qi Tryz.prog s25 uk_3 := Qk1.addEv Qb fun args d h => by
 unfold Qa8 at h
 split at h
 · unfold Qde at h;have h1 := congrArg Prod.fst (Option.some.inj h);obtain rfl : _ = d := congrArg Prod.snd (Option.some.inj h);exact ⟨by simp [D.refs],1000,QhQ  h1⟩
 · cases h
def lRow (first n many : Int) : Int := if 0 <= n /\ n < many then first + n else -1
def lRing (p w : Int) : Int := if 0 <= p /\ 2 <= w /\ w <= 8 then 13 + p % w else -1
def lStream (q o : Int) : Int := if 0 <= q /\ q <= 2 /\ 0 <= o then 51 + 16 * q + o % 16 else -1
def lField (first slot f many fields : Int) : Int := if 0 <= slot /\ slot < many /\ 0 <= f /\ f < fields then first + slot * fields + f else -1
theorem ZX (n : Int) : (BitVec.ofInt IntKind.i64.bits n).toNat = (n % 18446744073709551616).toNat := by
 rw [BitVec.toNat_ofInt];simp only [IntKind.bits]
 congr 1
theorem Qaj {p w : Int} (hw : 0 < w) : 0 <= p % w /\ p % w < w := ⟨Int.emod_nonneg _ (by omega),Int.emod_lt_of_pos _ hw⟩
theorem ZY {x a b : Int} (h : Qq x a b = false) : ¬ (a <= x /\ x <= b) := by rw [<- QD];simp [h]
theorem Y2 {p w : Int} (h : 0 <= p) : p.tmod w = p % w := Int.tmod_eq_emod_of_nonneg h
theorem Q5 {α : Type} {c : Bool} {x y z : α} (h1 : c = true -> x = z) (h2 : c = false -> y = z) : cond c x y = z := by cases c;exact h2 rfl;exact h1 rfl
def ZS : List Int := 0 :: 1 :: List.replicate 289 0 ++ (List.replicate 160 [(0 : Int),-1,0]).flatten
def inWord (w : Int) : Int := if 0 <= w /\ w <= 1099510841343 then w else 0
def plc (w : Int) : Int := inWord w / 1048576
def bare (w : Int) : Int := inWord w % 1048576
def OkWord (p h : Int) : Prop := 0 <= p /\ p <= 1048575 /\ (256 <= h /\ h <= 262143 \/ h = 0 /\ p = 0)
instance instOkWord (p h : Int) : Decidable (OkWord p h) := by unfold OkWord;infer_instance
def wordN (p h : Int) : Int := if OkWord p h then p * 1048576 + h else 0
def Qdf (p h : Int) : Int := if OkWord p h then 0 else 2
theorem Qdg (w : Int) : 0 <= inWord w /\ inWord w <= 1099510841343 := by unfold inWord;split <;> omega
theorem Q2 {w : Int} (h : ¬ (0 <= w /\ w <= 1099510841343)) : inWord w = 0 := if_neg h
theorem ZJ {w : Int} (h : 0 <= w /\ w <= 1099510841343) : inWord w = w := if_pos h
theorem Qr6 {w : Int} (h : 0 <= w) : w.fdiv 1048576 = w / 1048576 := Int.fdiv_eq_ediv_of_nonneg _ (by decide)
theorem Qwu {n : Int} (h : 0 <= n /\ n < 1099511627776) : bits .i64 (fun _ u v => u &&& v) n 1099511627775 = n := by
 unfold bits;rw [BitVec.toNat_and,ZX,ZX];have e : ((1099511627775 : Int) % 18446744073709551616).toNat = 2 ^ 40 - 1 := by decide
 rw [e,Nat.and_two_pow_sub_one_eq_mod,Qc (by omega) (by omega)]
 omega
theorem QvK (n : Int) : bits .i64 (fun _ u v => u &&& v) n 1048575 = n % 1048576 := by
 unfold bits;rw [BitVec.toNat_and,ZX,ZX];have e : ((1048575 : Int) % 18446744073709551616).toNat = 2 ^ 20 - 1 := by decide
 rw [e,Nat.and_two_pow_sub_one_eq_mod,Qc (by omega) (by omega)]
 omega
theorem or20 {p h : Int} (hp : 0 <= p /\ p <= 1048575) (hh : 0 <= h /\ h < 1048576) : bits .i64 (fun _ u v => u ||| v) (p * 1048576) h = p * 1048576 + h := by
 obtain ⟨p,rfl⟩ : ∃ n : Nat,p = n := ⟨p.toNat,by omega⟩
 obtain ⟨h,rfl⟩ : ∃ n : Nat,h = n := ⟨h.toNat,by omega⟩
 unfold bits;have e : (p : Int) * 1048576 = ((p * 1048576 : Nat) : Int) := by simp
 rw [e]
 have h1 : ∀ x : Nat,x < 2 ^ 64 -> (BitVec.ofInt IntKind.i64.bits (x : Int)).toNat = x := by
  intro x hx;rw [BitVec.toNat_ofInt];simp only [IntKind.bits];omega
 rw [BitVec.toNat_or,h1 _ (by omega),h1 _ (by omega)]
 have h2 : p * 1048576 ||| h = p * 1048576 + h := by
  rw [Nat.mul_comm p 1048576,show (1048576 : Nat) = 2 ^ 20 from rfl,<- Nat.two_pow_add_eq_or_of_lt (by omega)]
 rw [h2,Qc (by omega) (by omega)]
 simp
theorem Qdh {C : Cdc} {p h : Int} (hw : OkWord p h) : (D.tup (.acons (.int .i64 (p * 1048576 + h)) (.acons (.int .i64 0) .anil)) : D C) = .tup (.acons (.int .i64 (wordN p h)) (.acons (.int .i64 (Qdf p h)) .anil)) := by
 rw [wordN,Qdf,if_pos hw,if_pos hw]
theorem Qdi {C : Cdc} {p h : Int} (hw : ¬ OkWord p h) : (D.tup (.acons (.int .i64 0) (.acons (.int .i64 2) .anil)) : D C) = .tup (.acons (.int .i64 (wordN p h)) (.acons (.int .i64 (Qdf p h)) .anil)) := by
 rw [wordN,Qdf,if_neg hw,if_neg hw]
def Qr7 (k a b v g : Int) (tl al : Nat) : Prop :=
 -1 <= b /\ b <= 1152921504606846976 /\ -1 <= v /\ v <= 1152921504606846976 /\ -1 <= g /\ g <= 1152921504606846976 /\ al <= 96 /\ tl <= 640 /\ 0 <= a /\ a <= 4095 /\
 (k = 0 /\ b = 0 /\ v = 0 /\ tl = 0 /\ al = 0 \/ k = 2 /\ tl = 0 /\ al = 0 \/ k = 7 /\ a = 0 /\ b = 0 /\ v = 0 /\ g = 0 /\ tl = 0)
instance instMayAct (k a b v g : Int) (tl al : Nat) : Decidable (Qr7 k a b v g tl al) := by unfold Qr7;infer_instance
structure GoR where
 st : List Qf
 got : List Int
 over : Bool
 kind : Int
 a : Int
 b : Int
 v : Int
 is : Bool
def gLoad (r got : List Int) (n cell : Int) : GoR := ⟨[⟨68,n,r⟩],got,false,0,cell,0,0,true⟩
def gCas (r got : List Int) (n cell b v : Int) : GoR := ⟨[⟨68,n,r⟩],got,false,2,cell,b,v,true⟩
def gEnd (l : List Int) : GoR := ⟨[],l,true,0,0,0,0,false⟩
def goF (k : Int) (r got : List Int) (x : Int) : GoR :=
 if k = 0 \/ k = 5 then gLoad r got 1 1
 else if k = 1 then gLoad (r.set 2 x) got 2 0
 else if k = 2 then (if x + r.getD 0 0 < r.getD 2 0 then gEnd [170] else if 1048575 < r.getD 2 0 then gEnd [172] else gLoad r got 3 4)
 else if k = 3 then (if x < r.getD 2 0 - 32 then gEnd [171] else gLoad r got 4 (lRing (r.getD 2 0) (r.getD 0 0)))
 else if k = 4 then (if plc x = r.getD 2 0 then gCas (r.set 3 x) got 5 1 (r.getD 2 0) (r.getD 2 0 + 1) else if r.getD 2 0 < plc x then gLoad (r.set 3 x) got 1 1
  else gCas (r.set 3 x) got 6 (lRing (r.getD 2 0) (r.getD 0 0)) x (wordN (r.getD 2 0) (r.getD 1 0)))
 else if k = 6 then (if x = 0 then gLoad r got 1 1 else gCas r got 7 1 (r.getD 2 0) (r.getD 2 0 + 1))
 else gEnd [0,r.getD 2 0]
def goR (st : List Qf) (got : List Int) : GoR := match st with
 | [f] => goF f.at' f.r got (got.headD 0)
 | _ => gEnd []
def OkF (k : Int) (r : List Int) (x : Int) : Prop := 1 <= k /\ k <= 7 /\ 0 <= x /\ x <= 1152921504606846976 /\ 2 <= r.getD 0 0 /\ r.getD 0 0 <= 8 /\ 0 <= r.getD 2 0 /\ r.getD 2 0 <= 1099511627776
instance instOkF (k : Int) (r : List Int) (x : Int) : Decidable (OkF k r x) := by unfold OkF;infer_instance
def okFr (k : Int) (r got : List Int) : Bool := match got with
 | [] => decide (k = 0)
 | [x] => decide (OkF k r x)
 | _ => false
def okG (c : Int) (st : List Qf) (got : List Int) : Bool := match st with
 | [f] => decide (0 <= c /\ c <= 3 /\ f.prog = 68 /\ f.r.length = 96) && okFr f.at' f.r got
 | _ => false
theorem Qa {l : List Int} {i j : Nat} {x d : Int} (h : i ≠ j) : (l.set i x).getD j d = l.getD j d := by
 simp [List.getD_eq_getElem?_getD,List.getElem?_set_ne h]
theorem VS {p w : Int} (hp : 0 <= p) (hw : 2 <= w /\ w <= 8) : 13 <= lRing p w /\ lRing p w < 13 + w := by
 have := Qaj (p := p) (w := w) (by omega)
 rw [lRing,if_pos ⟨hp,hw.1,hw.2⟩];omega
theorem Qpv (p h : Int) : 0 <= wordN p h /\ wordN p h <= 1099510841343 := by
 unfold wordN
 split
 · rename_i hw;unfold OkWord at hw;omega
 · omega
def QaF (n : Int) : Bool := decide (-1152921504606846976 <= n) && decide (n <= 1152921504606846976)
def cellsOK (l : List Int) : Bool := decide (l.length <= 1024) && l.all QaF
def OkDo (l : List Int) (k a b v : Int) : Prop := (k = 0 /\ b = 0 /\ v = 0 \/ k = 2) /\ 0 <= a /\ a < l.length /\ -1152921504606846976 <= b /\ b <= 1152921504606846976 /\ -1152921504606846976 <= v /\ v <= 1152921504606846976
instance instOkDo (l : List Int) (k a b v : Int) : Decidable (OkDo l k a b v) := by unfold OkDo;infer_instance
def doC (l : List Int) (k a b v : Int) : List Int := if k = 2 /\ l.getD a.toNat 0 = b then l.set a.toNat v else l
def doG (l : List Int) (k a b : Int) : Int := if k = 0 then l.getD a.toNat 0 else if l.getD a.toNat 0 = b then 1 else 0
def tkC (ts : List Task) (c : Int) : Task := ts.getD c.toNat ⟨0,[],[],false⟩
def stG (t : Task) : GoR := goR t.stack t.got
def stX (cs : List Int) (t : Task) : Int := doG cs (stG t).kind (stG t).a (stG t).b
def stCs (cs : List Int) (t : Task) : List Int := doC cs (stG t).kind (stG t).a (stG t).b (stG t).v
def stE (cs : List Int) (t : Task) : GoR := goR (stG t).st [stX cs t]
def stT (cs : List Int) (t : Task) : Task := ⟨t.client,(stG t).st,[stX cs t],(stG t).over⟩
def Qr8 (cs : List Int) (t : Task) (now sure : List Sector) : Prop :=
 okG t.client t.stack t.got = true /\ t.over = false /\ (stG t).is = true /\ OkDo cs (stG t).kind (stG t).a (stG t).b (stG t).v /\ cellsOK cs = true /\ diskOK now sure = true /\ goodL now = true /\ goodL sure = true /\ okG t.client (stG t).st [stX cs t] = true
instance instOkStep (cs : List Int) (t : Task) (now sure : List Sector) : Decidable (Qr8 cs t now sure) := by unfold Qr8;infer_instance
def hnd (c n : Int) : Int := (n % 1000 + 1) * 256 + c
structure GS where
 cs : List Int
 ts : List Task
 busy : List Bool
 n : Int
 has : List Int
 told : List Int
def Qr9 (s : GS) (c : Int) : Bool := s.busy.getD c.toNat false
theorem mod4 (x : Int) : Int.tmod (IntKind.i64.wrap (Int.tmod x 4 + 4)) 4 = x % 4 := by
 have h1 : -4 < Int.tmod x 4 := Int.lt_tmod_of_pos _ (by decide)
 have h2 : Int.tmod x 4 < 4 := Int.tmod_lt_of_pos _ (by decide)
 rw [Qc (by omega) (by omega),Int.tmod_eq_emod_of_nonneg (by omega)]
 have h3 : x = 4 * (x.tdiv 4) + x.tmod 4 := (Int.mul_tdiv_add_tmod x 4).symm;omega
def wd (p : Int) (hs : List Int) : Int := if p <= 0 then 0 else p * 1048576 + hs.getD (p - 1).toNat 0
structure RW (w : Int) (cs hs : List Int) : Prop where
 w0 : 2 <= w
 w1 : w <= 8
 lc : cs.length = 771
 fit : ∀ i,-1152921504606846976 <= cs.getD i 0 /\ cs.getD i 0 <= 1152921504606846976
 q0 : 0 <= cs.getD 4 0
 qf : cs.getD 4 0 <= cs.getD 0 0
 fT : cs.getD 0 0 <= hs.length
 Tf : (hs.length : Int) <= cs.getD 0 0 + w
 Tt : (hs.length : Int) <= cs.getD 1 0
 tT : cs.getD 1 0 <= hs.length + 1
 t1 : 1 <= cs.getD 1 0
 hv : ∀ d ∈ hs,256 <= d /\ d <= 262143
 Tk : (hs.length : Int) <= 100000
 TL : (hs.length : Int) - 32 <= cs.getD 4 0
 ring : ∀ p : Int,hs.length - w < p -> p <= hs.length -> cs.getD (13 + p % w).toNat 0 = wd p hs
theorem QtJ {l : List Int} {i : Nat} {d : Int} (h : i < l.length) : l.getD i d = l[i] := by
 rw [List.getD_eq_getElem?_getD,List.getElem?_eq_getElem h];rfl
theorem Qe {l : List Int} {i : Nat} {x d : Int} (h : i < l.length) : (l.set i x).getD i d = x := by
 rw [List.getD_eq_getElem?_getD,List.getElem?_set_self h];rfl
def MayA (k a b v g : Int) (tl al : Nat) : Prop :=
 -1 <= b /\ b <= 1152921504606846976 /\ -1 <= v /\ v <= 1152921504606846976 /\ -1 <= g /\ g <= 1152921504606846976 /\ al <= 96 /\ tl <= 640 /\ 0 <= a /\ a <= 4095 /\
 (k = 0 /\ b = 0 /\ v = 0 /\ tl = 0 /\ al = 0 \/ k = 1 /\ b = 0 /\ tl = 0 /\ al = 0 \/ k = 2 /\ tl = 0 /\ al = 0 \/ k = 3 /\ b = 0 /\ g = 0 /\ tl = 0 /\ al = 0 \/ k = 4 /\ v = 0 /\ g = 0 /\ al = 0 \/
  k = 5 /\ a = 0 /\ b = 0 /\ v = 0 /\ g = 0 /\ tl = 0 /\ al = 0 \/ k = 6 /\ a <= 127 /\ b = 0 /\ v = 0 /\ g = 0 /\ tl = 0 \/ k = 7 /\ a = 0 /\ b = 0 /\ v = 0 /\ g = 0 /\ tl = 0)
instance instMayA (k a b v g : Int) (tl al : Nat) : Decidable (MayA k a b v g tl al) := by unfold MayA;infer_instance
def ZT (k a b v g : Int) (tx : List UInt8) (ar : List Int) : Bool := decide (MayA k a b v g tx.length ar.length)
theorem Qdj {C : Cdc} {k a b v g : Int} {tx : List UInt8} {ar : List Int} (h : MayA k a b v g tx.length ar.length) : (some (D.bool true) : Option (D C)) = some (.bool (ZT k a b v g tx ar)) := by rw [ZT,decide_eq_true h]
theorem Qdk {C : Cdc} {k a b v g : Int} {tx : List UInt8} {ar : List Int} (h : ¬ MayA k a b v g tx.length ar.length) : (some (D.bool false) : Option (D C)) = some (.bool (ZT k a b v g tx ar)) := by rw [ZT,decide_eq_false h]
theorem MayA.k0 {a b v g : Int} {tl al : Nat} : MayA 0 a b v g tl al ↔ (-1 <= b /\ b <= 1152921504606846976 /\ -1 <= v /\ v <= 1152921504606846976 /\ -1 <= g /\ g <= 1152921504606846976 /\ al <= 96 /\ tl <= 640 /\ 0 <= a /\ a <= 4095) /\ b = 0 /\ v = 0 /\ tl = 0 /\ al = 0 := by
 unfold MayA;refine ⟨fun ⟨q1,q2,q3,q4,q5,q6,q7,q8,q9,q10,h⟩ => ⟨⟨q1,q2,q3,q4,q5,q6,q7,q8,q9,q10⟩,?_⟩,fun ⟨⟨q1,q2,q3,q4,q5,q6,q7,q8,q9,q10⟩,h⟩ => ⟨q1,q2,q3,q4,q5,q6,q7,q8,q9,q10,.inl ⟨rfl,h⟩⟩⟩;rcases h with ⟨e,h⟩ | ⟨e,h⟩ | ⟨e,h⟩ | ⟨e,h⟩ | ⟨e,h⟩ | ⟨e,h⟩ | ⟨e,h⟩ | ⟨e,h⟩
 · exact h
 · exact absurd e (by decide)
 · exact absurd e (by decide)
 · exact absurd e (by decide)
 · exact absurd e (by decide)
 · exact absurd e (by decide)
 · exact absurd e (by decide)
 · exact absurd e (by decide)
theorem MayA.k1 {a b v g : Int} {tl al : Nat} : MayA 1 a b v g tl al ↔ (-1 <= b /\ b <= 1152921504606846976 /\ -1 <= v /\ v <= 1152921504606846976 /\ -1 <= g /\ g <= 1152921504606846976 /\ al <= 96 /\ tl <= 640 /\ 0 <= a /\ a <= 4095) /\ b = 0 /\ tl = 0 /\ al = 0 := by
 unfold MayA;refine ⟨fun ⟨q1,q2,q3,q4,q5,q6,q7,q8,q9,q10,h⟩ => ⟨⟨q1,q2,q3,q4,q5,q6,q7,q8,q9,q10⟩,?_⟩,fun ⟨⟨q1,q2,q3,q4,q5,q6,q7,q8,q9,q10⟩,h⟩ => ⟨q1,q2,q3,q4,q5,q6,q7,q8,q9,q10,.inr (.inl ⟨rfl,h⟩)⟩⟩;rcases h with ⟨e,h⟩ | ⟨e,h⟩ | ⟨e,h⟩ | ⟨e,h⟩ | ⟨e,h⟩ | ⟨e,h⟩ | ⟨e,h⟩ | ⟨e,h⟩
 · exact absurd e (by decide)
 · exact h
 · exact absurd e (by decide)
 · exact absurd e (by decide)
 · exact absurd e (by decide)
 · exact absurd e (by decide)
 · exact absurd e (by decide)
 · exact absurd e (by decide)
theorem MayA.k2 {a b v g : Int} {tl al : Nat} : MayA 2 a b v g tl al ↔ (-1 <= b /\ b <= 1152921504606846976 /\ -1 <= v /\ v <= 1152921504606846976 /\ -1 <= g /\ g <= 1152921504606846976 /\ al <= 96 /\ tl <= 640 /\ 0 <= a /\ a <= 4095) /\ tl = 0 /\ al = 0 := by
 unfold MayA;refine ⟨fun ⟨q1,q2,q3,q4,q5,q6,q7,q8,q9,q10,h⟩ => ⟨⟨q1,q2,q3,q4,q5,q6,q7,q8,q9,q10⟩,?_⟩,fun ⟨⟨q1,q2,q3,q4,q5,q6,q7,q8,q9,q10⟩,h⟩ => ⟨q1,q2,q3,q4,q5,q6,q7,q8,q9,q10,.inr (.inr (.inl ⟨rfl,h⟩))⟩⟩;rcases h with ⟨e,h⟩ | ⟨e,h⟩ | ⟨e,h⟩ | ⟨e,h⟩ | ⟨e,h⟩ | ⟨e,h⟩ | ⟨e,h⟩ | ⟨e,h⟩
 · exact absurd e (by decide)
 · exact absurd e (by decide)
 · exact h
 · exact absurd e (by decide)
 · exact absurd e (by decide)
 · exact absurd e (by decide)
 · exact absurd e (by decide)
 · exact absurd e (by decide)
theorem MayA.k3 {a b v g : Int} {tl al : Nat} : MayA 3 a b v g tl al ↔ (-1 <= b /\ b <= 1152921504606846976 /\ -1 <= v /\ v <= 1152921504606846976 /\ -1 <= g /\ g <= 1152921504606846976 /\ al <= 96 /\ tl <= 640 /\ 0 <= a /\ a <= 4095) /\ b = 0 /\ g = 0 /\ tl = 0 /\ al = 0 := by
 unfold MayA;refine ⟨fun ⟨q1,q2,q3,q4,q5,q6,q7,q8,q9,q10,h⟩ => ⟨⟨q1,q2,q3,q4,q5,q6,q7,q8,q9,q10⟩,?_⟩,fun ⟨⟨q1,q2,q3,q4,q5,q6,q7,q8,q9,q10⟩,h⟩ => ⟨q1,q2,q3,q4,q5,q6,q7,q8,q9,q10,.inr (.inr (.inr (.inl ⟨rfl,h⟩)))⟩⟩;rcases h with ⟨e,h⟩ | ⟨e,h⟩ | ⟨e,h⟩ | ⟨e,h⟩ | ⟨e,h⟩ | ⟨e,h⟩ | ⟨e,h⟩ | ⟨e,h⟩
 · exact absurd e (by decide)
 · exact absurd e (by decide)
 · exact absurd e (by decide)
 · exact h
 · exact absurd e (by decide)
 · exact absurd e (by decide)
 · exact absurd e (by decide)
 · exact absurd e (by decide)
theorem MayA.k4 {a b v g : Int} {tl al : Nat} : MayA 4 a b v g tl al ↔ (-1 <= b /\ b <= 1152921504606846976 /\ -1 <= v /\ v <= 1152921504606846976 /\ -1 <= g /\ g <= 1152921504606846976 /\ al <= 96 /\ tl <= 640 /\ 0 <= a /\ a <= 4095) /\ v = 0 /\ g = 0 /\ al = 0 := by
 unfold MayA;refine ⟨fun ⟨q1,q2,q3,q4,q5,q6,q7,q8,q9,q10,h⟩ => ⟨⟨q1,q2,q3,q4,q5,q6,q7,q8,q9,q10⟩,?_⟩,fun ⟨⟨q1,q2,q3,q4,q5,q6,q7,q8,q9,q10⟩,h⟩ => ⟨q1,q2,q3,q4,q5,q6,q7,q8,q9,q10,.inr (.inr (.inr (.inr (.inl ⟨rfl,h⟩))))⟩⟩;rcases h with ⟨e,h⟩ | ⟨e,h⟩ | ⟨e,h⟩ | ⟨e,h⟩ | ⟨e,h⟩ | ⟨e,h⟩ | ⟨e,h⟩ | ⟨e,h⟩
 · exact absurd e (by decide)
 · exact absurd e (by decide)
 · exact absurd e (by decide)
 · exact absurd e (by decide)
 · exact h
 · exact absurd e (by decide)
 · exact absurd e (by decide)
 · exact absurd e (by decide)
theorem MayA.k5 {a b v g : Int} {tl al : Nat} : MayA 5 a b v g tl al ↔ (-1 <= b /\ b <= 1152921504606846976 /\ -1 <= v /\ v <= 1152921504606846976 /\ -1 <= g /\ g <= 1152921504606846976 /\ al <= 96 /\ tl <= 640 /\ 0 <= a /\ a <= 4095) /\ a = 0 /\ b = 0 /\ v = 0 /\ g = 0 /\ tl = 0 /\ al = 0 := by
 unfold MayA;refine ⟨fun ⟨q1,q2,q3,q4,q5,q6,q7,q8,q9,q10,h⟩ => ⟨⟨q1,q2,q3,q4,q5,q6,q7,q8,q9,q10⟩,?_⟩,fun ⟨⟨q1,q2,q3,q4,q5,q6,q7,q8,q9,q10⟩,h⟩ => ⟨q1,q2,q3,q4,q5,q6,q7,q8,q9,q10,.inr (.inr (.inr (.inr (.inr (.inl ⟨rfl,h⟩)))))⟩⟩;rcases h with ⟨e,h⟩ | ⟨e,h⟩ | ⟨e,h⟩ | ⟨e,h⟩ | ⟨e,h⟩ | ⟨e,h⟩ | ⟨e,h⟩ | ⟨e,h⟩
 · exact absurd e (by decide)
 · exact absurd e (by decide)
 · exact absurd e (by decide)
 · exact absurd e (by decide)
 · exact absurd e (by decide)
 · exact h
 · exact absurd e (by decide)
 · exact absurd e (by decide)
theorem MayA.k6 {a b v g : Int} {tl al : Nat} : MayA 6 a b v g tl al ↔ (-1 <= b /\ b <= 1152921504606846976 /\ -1 <= v /\ v <= 1152921504606846976 /\ -1 <= g /\ g <= 1152921504606846976 /\ al <= 96 /\ tl <= 640 /\ 0 <= a /\ a <= 4095) /\ a <= 127 /\ b = 0 /\ v = 0 /\ g = 0 /\ tl = 0 := by
 unfold MayA;refine ⟨fun ⟨q1,q2,q3,q4,q5,q6,q7,q8,q9,q10,h⟩ => ⟨⟨q1,q2,q3,q4,q5,q6,q7,q8,q9,q10⟩,?_⟩,fun ⟨⟨q1,q2,q3,q4,q5,q6,q7,q8,q9,q10⟩,h⟩ => ⟨q1,q2,q3,q4,q5,q6,q7,q8,q9,q10,.inr (.inr (.inr (.inr (.inr (.inr (.inl ⟨rfl,h⟩))))))⟩⟩;rcases h with ⟨e,h⟩ | ⟨e,h⟩ | ⟨e,h⟩ | ⟨e,h⟩ | ⟨e,h⟩ | ⟨e,h⟩ | ⟨e,h⟩ | ⟨e,h⟩
 · exact absurd e (by decide)
 · exact absurd e (by decide)
 · exact absurd e (by decide)
 · exact absurd e (by decide)
 · exact absurd e (by decide)
 · exact absurd e (by decide)
 · exact h
 · exact absurd e (by decide)
theorem MayA.k7 {a b v g : Int} {tl al : Nat} : MayA 7 a b v g tl al ↔ (-1 <= b /\ b <= 1152921504606846976 /\ -1 <= v /\ v <= 1152921504606846976 /\ -1 <= g /\ g <= 1152921504606846976 /\ al <= 96 /\ tl <= 640 /\ 0 <= a /\ a <= 4095) /\ a = 0 /\ b = 0 /\ v = 0 /\ g = 0 /\ tl = 0 := by
 unfold MayA;refine ⟨fun ⟨q1,q2,q3,q4,q5,q6,q7,q8,q9,q10,h⟩ => ⟨⟨q1,q2,q3,q4,q5,q6,q7,q8,q9,q10⟩,?_⟩,fun ⟨⟨q1,q2,q3,q4,q5,q6,q7,q8,q9,q10⟩,h⟩ => ⟨q1,q2,q3,q4,q5,q6,q7,q8,q9,q10,.inr (.inr (.inr (.inr (.inr (.inr (.inr (⟨rfl,h⟩)))))))⟩⟩;rcases h with ⟨e,h⟩ | ⟨e,h⟩ | ⟨e,h⟩ | ⟨e,h⟩ | ⟨e,h⟩ | ⟨e,h⟩ | ⟨e,h⟩ | ⟨e,h⟩
 · exact absurd e (by decide)
 · exact absurd e (by decide)
 · exact absurd e (by decide)
 · exact absurd e (by decide)
 · exact absurd e (by decide)
 · exact absurd e (by decide)
 · exact absurd e (by decide)
 · exact h
theorem cdD {α : Type} {p : Prop} [Decidable p] {x y z : α} (h1 : p -> x = z) (h2 : ¬ p -> y = z) : cond (decide p) x y = z := by
 by_cases h : p
 · rw [decide_eq_true h];exact h1 h
 · rw [decide_eq_false h];exact h2 h
theorem cdE {α : Type} {a b : Int} {x y z : α} (h1 : a = b -> x = z) (h2 : ¬ a = b -> y = z) : cond (a == b) x y = z := by
 by_cases h : a = b
 · rw [beq_iff_eq.2 h];exact h1 h
 · rw [beq_eq_false_iff_ne.2 h];exact h2 h
theorem cdS {α : Type} {t : List UInt8} {x y z : α} (h1 : t.length = 0 -> x = z) (h2 : ¬ t.length = 0 -> y = z) : cond (t == []) x y = z := by
 by_cases h : t = []
 · rw [beq_iff_eq.2 h];exact h1 (by rw [h];rfl)
 · rw [beq_eq_false_iff_ne.2 h];exact h2 (fun q => h (List.eq_nil_of_length_eq_zero q))
def Qk4 (l : List Int) (k a b v : Int) : Prop := (k = 0 /\ b = 0 /\ v = 0 \/ k = 1 /\ b = 0 \/ k = 2 \/ k = 3 /\ b = 0) /\ 0 <= a /\ a < l.length /\ -1152921504606846976 <= b /\ b <= 1152921504606846976 /\ -1152921504606846976 <= v /\ v <= 1152921504606846976
instance instOkDo4 (l : List Int) (k a b v : Int) : Decidable (Qk4 l k a b v) := by unfold Qk4;infer_instance
def addC (n v : Int) : Int := max (min (n + v) 1152921504606846976) (-1152921504606846976)
def doC4 (l : List Int) (k a b v : Int) : List Int := if k = 1 \/ k = 2 /\ l.getD a.toNat 0 = b then l.set a.toNat v else if k = 3 then l.set a.toNat (addC (l.getD a.toNat 0) v) else l
def doG4 (l : List Int) (k a b : Int) : Int := if k = 0 \/ k = 3 then l.getD a.toNat 0 else if k = 2 /\ l.getD a.toNat 0 = b then 1 else 0
structure GoR4 where
 st : List Qf
 got : List Int
 over : Bool
 kind : Int
 a : Int
 b : Int
 v : Int
 g : Int
 is : Bool
def g4 (p n : Int) (r got : List Int) (kind a b v g : Int) : GoR4 := ⟨[⟨p,n,r⟩],got,false,kind,a,b,v,g,true⟩
def Qpw (l : List Int) : GoR4 := ⟨[],l,true,0,0,0,0,0,false⟩
def Zf (ar : List Int) : List Int := ar ++ List.replicate (96 - ar.length) 0
def flo : Int -> List Int -> Int
 | n,[] => n
 | n,s :: l => flo (if 0 < s /\ s - 1 < n then s - 1 else n) l
def oBeg (k : Int) (r got : List Int) (x : Int) : GoR4 :=
 if k = 0 then g4 92 1 r got 0 0 0 0 0
 else if k = 1 then g4 92 2 (r.set 1 x) got 1 (lRow 9 (r.getD 0 0) 4) 0 (x + 1) 0
 else if k = 2 then g4 92 3 r got 0 3 0 0 0
 else if r.getD 1 0 < x then g4 92 1 r got 0 0 0 0 0 else Qpw [r.getD 1 0]
def QvL (k : Int) (r got : List Int) (x : Int) : GoR4 :=
 if k = 0 then g4 93 1 r got 0 0 0 0 0
 else if k = 1 then g4 93 2 (r.set 0 x) got 0 3 0 0 0
 else if k = 2 then (if x < r.getD 0 0 then g4 93 3 r got 2 3 x (r.getD 0 0) 0 else g4 93 4 (r.set 1 0) got 0 9 0 0 0)
 else if k = 3 then (if x = 0 then g4 93 2 r got 0 3 0 0 0 else g4 93 4 (r.set 1 0) got 0 9 0 0 0)
 else if r.getD 1 0 = 3 then Qpw [flo (r.getD 0 0) [r.getD 2 0,r.getD 3 0,r.getD 4 0,x]]
 else g4 93 4 ((r.set (2 + (r.getD 1 0).toNat) x).set 1 (r.getD 1 0 + 1)) got 0 (10 + r.getD 1 0) 0 0 0
def QvM (k : Int) (r got : List Int) (x : Int) : GoR4 :=
 if k = 0 then g4 93 1 r got 0 0 0 0 0
 else if k = 1 then g4 93 2 (r.set 0 x) got 0 3 0 0 0
 else if k = 2 then (if x < r.getD 0 0 then g4 93 3 (r.set 1 x) got 2 3 x (r.getD 0 0) 0 else g4 93 4 (r.set 2 0) got 0 9 0 0 0)
 else if k = 3 then (if x = 0 then g4 93 2 r got 0 3 0 0 0 else g4 93 4 (r.set 2 0) got 0 9 0 0 0)
 else if r.getD 2 0 = 3 then Qpw [flo (r.getD 0 0) [r.getD 3 0,r.getD 4 0,r.getD 5 0,x]]
 else g4 93 4 ((r.set (3 + (r.getD 2 0).toNat) x).set 2 (r.getD 2 0 + 1)) got 0 (10 + r.getD 2 0) 0 0 0
def goO (own : Bool) (st : List Qf) (got : List Int) : GoR4 := match st with
 | [f] => if f.prog = 92 then oBeg f.at' f.r got (got.headD 0) else bif own then QvM f.at' f.r got (got.headD 0) else QvL f.at' f.r got (got.headD 0)
 | _ => Qpw []
def Qwv (k : Int) (r got : List Int) : Prop :=
 k = 0 /\ got = [] \/ ∃ x,got = [x] /\ 1 <= k /\ k <= 3 /\ 0 <= x /\ x <= 1000000000 /\ 0 <= r.getD 0 0 /\ r.getD 0 0 <= 3
def QvN (own : Bool) (k : Int) (r got : List Int) : Prop :=
 k = 0 /\ got = [] \/ ∃ x,got = [x] /\ 1 <= k /\ k <= 4 /\ 0 <= x /\ x <= 1000000000 /\ (2 <= k -> 0 <= r.getD 0 0 /\ r.getD 0 0 <= 1000000000) /\
  (k = 4 -> bif own then 0 <= r.getD 2 0 /\ r.getD 2 0 <= 3 /\ (r.getD 2 0 = 3 -> r.getD 3 0 <= 1000000000 /\ r.getD 4 0 <= 1000000000 /\ r.getD 5 0 <= 1000000000)
   else 0 <= r.getD 1 0 /\ r.getD 1 0 <= 3 /\ (r.getD 1 0 = 3 -> r.getD 2 0 <= 1000000000 /\ r.getD 3 0 <= 1000000000 /\ r.getD 4 0 <= 1000000000))
def okO (own : Bool) (c : Int) (st : List Qf) (got : List Int) : Prop :=
 0 <= c /\ c <= 3 /\ ∃ p k r,st = [⟨p,k,r⟩] /\ r.length = 96 /\ (p = 92 /\ Qwv k r got \/ p = 93 /\ QvN own k r got)
def mkO (c p k : Int) (r got : List Int) : Task := ⟨c,[⟨p,k,r⟩],got,false⟩
def QvO (A B : GoR4) : Prop := A.is = B.is /\ A.kind = B.kind /\ A.a = B.a /\ A.b = B.b /\ A.v = B.v /\ A.g = B.g /\ A.got = B.got
def frC (cs : List Int) : Int := cs.getD 0 0
def mkC (cs : List Int) : Int := cs.getD 3 0
def scC (cs : List Int) (i : Nat) : Int := cs.getD (9 + i) 0
def opB (opn : List Bool) (i : Nat) : Bool := opn.getD i false
def stA (start : List Int) (i : Nat) : Int := start.getD i 0
def QvP (opn : List Bool) (start : List Int) (w : Int) (i : Nat) (v : Int) : Prop := opB opn i = true -> w <= stA start i \/ 0 < v /\ v - 1 <= stA start i
def JB (cs : List Int) (opn : List Bool) (c k : Int) (r got : List Int) : Prop :=
 r.length = 96 /\ r.getD 0 0 = c /\ opB opn c.toNat = false /\
 (k = 0 /\ got = [] \/ ∃ x,got = [x] /\ 0 <= x /\ x <= frC cs /\ (k = 1 \/ 0 <= r.getD 1 0 /\ r.getD 1 0 <= frC cs /\ scC cs c.toNat = r.getD 1 0 + 1 /\ (k = 2 \/ k = 3)))
def JM4 (cs : List Int) (opn : List Bool) (start : List Int) (r q : List Int) (x : Int) : Prop :=
 r.getD 0 0 <= mkC cs /\ ∃ j : Nat,j <= 3 /\ r.getD 1 0 = j /\ q.getD 2 0 = j /\ (∀ i,i < j -> r.getD (2 + i) 0 = q.getD (3 + i) 0 /\ 0 <= r.getD (2 + i) 0 /\ r.getD (2 + i) 0 <= frC cs + 1 /\ QvP opn start (r.getD 0 0) i (r.getD (2 + i) 0)) /\ QvP opn start (r.getD 0 0) j x
def JM (cs : List Int) (opn : List Bool) (start : List Int) (k : Int) (r q got : List Int) : Prop :=
 r.length = 96 /\ q.length = 96 /\
 (k = 0 /\ got = [] \/ ∃ x,got = [x] /\ 0 <= x /\ x <= frC cs + 1 /\ (k = 1 /\ x <= frC cs \/ r.getD 0 0 = q.getD 0 0 /\ 0 <= r.getD 0 0 /\ r.getD 0 0 <= frC cs /\
  (k = 2 /\ x <= mkC cs \/ k = 3 /\ (x = 0 \/ r.getD 0 0 <= mkC cs) \/ k = 4 /\ JM4 cs opn start r q x)))
structure OCells (p : Int) (cs cs' : List Int) (c : Nat) : Prop where
 len : cs'.length = 771
 ok : cellsOK cs' = true
 fr : frC cs' = frC cs
 mr : mkC cs <= mkC cs' /\ mkC cs' <= frC cs
 sc : ∀ i,i ≠ c \/ p = 93 -> scC cs' i = scC cs i
 sb : ∀ i,i < 4 -> 0 <= scC cs' i /\ scC cs' i <= frC cs + 1
structure OC (cs : List Int) : Prop where
 len : cs.length = 771
 ok : cellsOK cs = true
 mr : 0 <= mkC cs /\ mkC cs <= frC cs
 fr : frC cs <= 1000000
 sb : ∀ i,i < 4 -> 0 <= scC cs i /\ scC cs i <= frC cs + 1
section
variable {C : Cdc} {P : Program} {T : Tab C} {Φ : Fns C}
open Pg (Ex)
noncomputable def cdec (P : Prop) : Bool := @decide P (Classical.propDecidable P)
theorem QF {P : Prop} : cdec P = true ↔ P := by
 unfold cdec;exact @decide_eq_true_iff P (Classical.propDecidable P)
theorem Qx {P : Prop} (h : P) : cdec P = true := QF.2 h
structure FunR (C : Cdc) (σ : Type) where
 k : Nat
 args : σ -> List (D C)
 objs : σ -> List (Obj C)
 fin : σ -> RT C
 Inv : σ -> Prop
def fnO (T : Tab C) (Φ : Fns C) (g n k : Nat) (args : List (D C)) (os : List (Obj C)) : Option (D C × List (Option (Obj C))) :=
 (KR T Φ (evC T Φ n) g args).run (0,0) (hpOf 0 os) k [] fun d h _ _ => some (d,QbD 0 k h)
def LedF {σ : Type} (S : FunR C σ) (s : σ) (r : D C × List (Option (Obj C))) : Prop := ∃ os,(S.fin s).val = some ((.ret,[(0,r.1)]),os) /\ r.2 = os.map some
def resF {σ : Type} (S : FunR C σ) (d : Env C -> List (Obj C) -> Option (Bool × σ)) (env : Env C) (os : List (Obj C)) : RT C := match d env os with
 | some (b,q) => .br b (S.fin q) .fail
 | none => .fail
def sumF (T : Tab C) (fs : List Fnd) (n : Nat) {σ : Type} (S : FunR C σ) (d : Env C -> List (Obj C) -> Option (Bool × σ)) (args : List (D C)) : Pg C (D C) :=
 bif Nat.beq args.length n then .bind (sumO T fs (List.range n) (resF S d) (eargs 0 args)) fun r => .ret (eget r.2 0) else .fail
theorem Qu.args (K : Q6 P T) {X : Cx} {nx : Nat} {lim : Lim} {args : List (D C)} {vs : List Value} (h : RVs T X args vs) (hr : ∀ a ∈ args,∀ id ∈ D.refs a,old nx lim id) : Qu T X nx lim (eargs 0 args) (⟨vs⟩ : Array Value) := by
 intro t;rw [K3];simp only [Nat.zero_le,if_true,Nat.sub_zero];refine ⟨?_,?_⟩
 · have := h.get t;have e : (⟨vs⟩ : Array Value).getD t undef = vs.getD t undef := by simp [Array.getD_eq_getD_getElem?]
   rw [e];exact this
 · by_cases ht : t < args.length
   · exact hr _ (by simp [List.getD_eq_getElem?_getD,ht])
   · have : args.getD t .top = .top := by
      simp only [List.getD_eq_getElem?_getD];rw [List.getElem?_eq_none (by omega)];rfl
     rw [this];simp [D.refs]
theorem RVs.of_get {X : Cx} : ∀ (args : List (D C)) (vs : List Value),args.length = vs.length -> (∀ i,i < args.length -> RV T X (args.getD i .top) (vs.getD i undef)) -> RVs T X args vs
 | [],[],_,_ => .nil
 | [],_ :: _,h,_ => by simp at h
 | _ :: _,[],h,_ => by simp at h
 | d :: ds,v :: vs,h,hg => .cons (by simpa using hg 0 (by simp)) (RVs.of_get ds vs (by simpa using h) fun i hi => by simpa using hg (i + 1) (by simpa using hi))
theorem RVs.of_env {X : Cx} {nx : Nat} {lim : Lim} {args : List (D C)} {vs : List Value} (hl : args.length = vs.length) (h : Qu T X nx lim (eargs 0 args) (⟨vs⟩ : Array Value)) : RVs T X args vs := by
 refine RVs.of_get args vs hl fun i hi => ?_;have := (h i).1;rw [K3] at this
 simpa [Array.getD_eq_getD_getElem?] using this
theorem Qdl : ∀ (l : List (D C)) (n i : Nat) (h : i < l.length),(n + i,l[i]) ∈ eargs n l
 | [],_,_,h => by simp at h
 | d :: l,n,0,_ => by simp [eargs]
 | d :: l,n,i + 1,h => by
  have := Qdl l (n + 1) i (by simpa using h)
  simp only [eargs,List.mem_cons];right;rw [show n + (i + 1) = n + 1 + i by omega]
  simpa using this
theorem Qk5 (K : Q6 P T) {X X1 : Cx} {h' : Heap C} {k nx' : Nat} (g1 : G T X1 h' nx' (lim0 nx')) (s1 : Step X k (lim0 nx') X1) (hle : k <= nx') {os : List (Obj C)} {d : D C} {v : Value} (q : Qm k [(0,d)] os)
 (hget : ∀ j,j < k -> h'.get j = os[j]?) (rd : RO T X1 nx' (lim0 nx') d v) : ∃ X2,X2.w = X1.w /\ G T X2 (hpOf 0 os) k (lim0 k) /\ Step X k (lim0 k) X2 /\ RO T X2 k (lim0 k) d v := by
 obtain ⟨q1,q2,q3⟩ := q
 obtain ⟨X2,w2,g2,s2,hρ⟩ := G.drop K.base g1 (h' := hpOf 0 os) (fun id => by
  rw [QC]
  by_cases hid : id < k
  · exact .inl (hget id hid).symm
  · exact .inr (List.getElem?_eq_none (by omega)))
 have hnone : ∀ id,¬ id < k -> X2.ρ id = none := fun id hid => by
  cases hq : X2.ρ id with
  | none => rfl
  | some l =>
   have := g2.dom id l hq;rw [QC,List.getElem?_eq_none (by omega)] at this
   cases this
 have s3 := s1.trans s2 hle;refine ⟨X2,w2,g2.relim2 (Jv q1 q3) (Nat.le_refl _) (Nat.zero_le _) (fun _ h => h),⟨s3.O,s3.os,s3.tape,s3.output,s3.size,fun id ho => ?_,s3.mine,s3.cell,s3.block,s3.frz⟩,?_⟩
 · by_cases hid : id < k
   · exact s3.ρ id ⟨.inl hid,fun h => h⟩
   · rw [hnone id hid];cases X.ρ id <;> simp [Ql]
 · have hrt : ∀ r ∈ d.refs,r < k := q2 (0,d) (by simp)
   exact ⟨rd.1.mono T K.base.encOK s2.keeps fun r hh => s2.ρ r ⟨.inl (by have := hrt r hh;omega),fun h => h⟩,fun r hh => ⟨.inl (hrt r hh),fun h => h⟩⟩
theorem Qpx (K : Q6 P T) (F : Qi P T Φ) {g : Nat} {fs : List Fnd} {m n : Nat} {σ : Type} {S : FunR C σ}
 (hr : ∀ q,S.Inv q -> Qm S.k (eargs 0 (S.args q)) (S.objs q) /\ (S.fin q).refsOK S.k /\ (S.args q).length = m /\ Leaf (fnO T Φ g n S.k (S.args q) (S.objs q)) (LedF S q))
 (d : Env C -> List (Obj C) -> Option (Bool × σ)) (hd : ∀ env os b q,d env os = some (b,q) -> b = true -> S.Inv q /\ eargs 0 (S.args q) = env /\ S.objs q = os) : Qjx P T g (sumF T fs m S d) := by
 intro args vs X h nx lim e dd h' nx' tr gg hargs hrefs hlim hx;unfold sumF at hx;cases hm : Nat.beq args.length m with
 | false => rw [hm] at hx;exact (Ex.fail hx).elim
 | true =>
 rw [hm] at hx;simp only [cond_true] at hx;have hm := Nat.eq_of_beq_eq_true hm;obtain ⟨⟨x,env'⟩,h9,n9,t8,t9,hx0,hret,_⟩ := Ex.bind hx;obtain ⟨hdd,e1h,e1n,_⟩ := Ex.ret hret;subst e1h;subst e1n;have he := Qu.args K hargs hrefs;unfold sumO at hx0;obtain ⟨X1,h1,nx1,env1,ids,tr1,w1,g1,s1,hn1,e1,hx1⟩ := Qfq K hlim fs X h nx _ _ [] gg he hx0;cases hnd : Kg ids with
 | false => rw [hnd] at hx1;exact (Ex.fail hx1).elim
 | true =>
 rw [hnd] at hx1;simp only [cond_true] at hx1;have hnodup := YX hnd;obtain ⟨os,tr2,hlen,hos,hx2⟩ := QbB ids _ _ hx1;cases hin : inB ids ((List.range m).flatMap fun t => (eget env1 t).refs) && inB ids (os.flatMap Obj.refs) with
 | false => rw [hin] at hx2;exact (Ex.fail hx2).elim
 | true =>
 rw [hin] at hx2;simp only [cond_true] at hx2;simp only [Bool.and_eq_true] at hin;have hin1 := VO hin.1;have hin2 := VO hin.2;obtain ⟨xx,ee,os',hq,hx3⟩ := RT.pg_ok _ _ hx2;unfold resF at hq
 split at hq
 · rename_i b q hdq;cases b with
   | false => simp [RT.val] at hq
   | true =>
   simp only [RT.val,cond_true] at hq;obtain ⟨hI,hcan,hobjs⟩ := hd _ _ _ _ hdq rfl;obtain ⟨hr1,hr2,hlenA,r,hr3,hr4⟩ := hr q hI;obtain ⟨h2,tr3,hl2,hw1,hw2,hx4⟩ := QbC ids _ h1 _ hnodup hx3;obtain ⟨hxx,eh,en,_⟩ := Ex.ret hx4;obtain ⟨rfl,rfl⟩ := Prod.mk.inj hxx;subst eh;subst en
   let f : Nat -> Nat := fun j => ids.getD j 0
   have hfj : ∀ j,j < ids.length -> ids[j]? = some (f j) := fun j hj => by simp [f,hj]
   have hk0 : ids.length = S.k := by rw [<- hr1.1,hobjs];simp [hlen]
   have hff : ∀ r,r ∈ ids -> f (idx ids r) = r := fun r hr => by
    have := KA ids r hr;simp only [f,List.getD_eq_getElem?_getD,this,Option.getD_some]
   have hlenO : (S.objs q).length = ids.length := by rw [hr1.1,hk0]
   have part : Part h1 (S.objs q) f := by
    refine ⟨fun j o ho => ?_,fun i j hi hj hij => ?_,fun o ho r hr => by rw [hr1.1];exact hr1.2.2 o ho r hr⟩
    · rw [hobjs,List.getElem?_map] at ho;cases hoj : os[j]? with
      | none => simp [hoj] at ho
      | some o0 =>
       simp only [hoj,Option.map_some,Option.some.injEq] at ho;have hj : j < ids.length := by rw [<- hlen];exact (List.getElem?_eq_some_iff.1 hoj).1
       rw [hos j (f j) o0 (hfj j hj) hoj,<- ho,Obj.ren_ren];intro id hid;exact hff id (hin2 id (List.mem_flatMap.2 ⟨o0,List.mem_of_getElem? hoj,hid⟩))
    · rw [hlenO] at hi hj;have := (List.getElem?_inj hi hnodup (j := j)).1 (by rw [hfj i hi,hfj j hj];simp only [f] at hij ⊢;rw [hij])
      exact this
   have g2 := Part.ctx K.base g1 part (S.objs q).length
   have e2 : Qu T (X1.part (S.objs q).length f) (S.objs q).length (lim0 (S.objs q).length) (eargs 0 (S.args q)) (⟨vs⟩ : Array Value) := by
    refine Qu.part K.base e1 part.inj (fun p hp => ?_) (fun p hp r hr => by rw [hr1.1];exact hr1.2.1 p hp r hr)
    rw [hcan] at hp;simp only [List.mem_map] at hp;obtain ⟨t,ht,rfl⟩ := hp;simp only;rw [D.ren_ren];intro id hid;exact hff id (hin1 id (List.mem_flatMap.2 ⟨t,ht,hid⟩))
   rw [hr1.1] at g2 e2;obtain ⟨d0,hh,nn,tt,hex,hsome⟩ := Pg.run_some hr3;simp only [Option.some.injEq] at hsome;subst hsome;obtain ⟨os2,hv2,hg2⟩ := hr4;rw [hq] at hv2;simp only [Option.some.injEq,Prod.mk.injEq] at hv2;obtain ⟨⟨rfl,rfl⟩,rfl⟩ := hv2;have hgets := Vm S.k 0 hh _ hg2;simp only [Nat.zero_add] at hgets;obtain ⟨x5,env5,os5,hv5,hok5⟩ := RT.refsOK_val hr2;rw [hq] at hv5;simp only [Option.some.injEq,Prod.mk.injEq] at hv5;obtain ⟨⟨rfl,rfl⟩,rfl⟩ := hv5;have hle : S.k <= nn := hex.le;have g0 : G T (X1.part S.k f) (hpOf 0 (S.objs q)) S.k (lim0 nn) := g2.relim2 (Jv hr1.1 hr1.2.2) (Nat.le_refl _) (Nat.zero_le _) (fun _ h => h);have hvs : RVs T (X1.part S.k f) (S.args q) vs := RVs.of_env (by rw [hlenA,<- hm];exact RVs.length T hargs) e2
   have hrefs0 : ∀ a ∈ S.args q,∀ id ∈ D.refs a,old S.k (lim0 nn) id := fun a ha id hid => ⟨.inl (by
    obtain ⟨i,hi,hia⟩ := List.getElem_of_mem ha;refine hr1.2.1 (0 + i,a) ?_ id hid;rw [<- hia];exact Qdl _ _ _ hi),fun h => h⟩
   obtain ⟨c1,c2⟩ := Qfn K F n g (S.args q) vs (X1.part S.k f) (hpOf 0 (S.objs q)) S.k (lim0 nn) (0,0) d0 hh nn tt g0 hvs hrefs0 (Nat.le_refl _) hex;have hw : (X1.part S.k f).w = X.w := w1;rw [hw] at c1 c2;refine ⟨c1,c2.mono fun en w9 hp => ?_⟩;obtain ⟨v,X2,rfl,hX2,g3,s3,ro3⟩ := hp;obtain ⟨X3,w3,g4,s4,ro4⟩ := Qk5 K g3 s3 hle hok5 hgets ro3;have hlen' : os'.length = (S.objs q).length := by rw [hok5.1,hr1.1]
   have hrefs' : ∀ o ∈ os',∀ r ∈ Obj.refs o,r < (S.objs q).length := fun o ho r hr => by rw [hr1.1];exact hok5.2.2 o ho r hr
   obtain ⟨X4,w4,g5,s5,hρ,hB2⟩ := Part.back K.base g1 part hlen' hrefs' (X1 := X3) (lim1 := lim0 S.k) (h' := h') (by rw [hr1.1];exact g4) (by rw [hr1.1];exact s4) (fun j o hj => by
    have hlt : j < ids.length := by rw [<- hlenO,<- hlen'];exact (List.getElem?_eq_some_iff.1 hj).1
    exact hw1 j (f j) _ (hfj j hlt) (by rw [List.getElem?_map,hj];rfl)) (fun id hid => by
    refine hw2 id fun hm => ?_;obtain ⟨j,hj,hjj⟩ := List.getElem_of_mem hm;refine hid j (by rw [hlenO];exact hj) ?_
    simp [f,hj,hjj])
   have hold : ∀ j,j < S.k -> old nx' lim (f j) := fun j hj => by
    have hj' : j < (S.objs q).length := by rw [hr1.1];exact hj
    exact (g1.nums _ _ (part.at' j (S.objs q)[j] (by simp [hj']))).1
   have e4 : Qu T X3 S.k (lim0 S.k) [(0,d0)] (#[v] : Array Value) := fun t => by
    rw [Qs]
    by_cases ht : t = 0
    · subst ht;simpa using ro4
    · simp only [ht,if_false,eget];exact RO.mk (RV.top _ _ _) rfl
   have e5 := Qu.back (nx := nx') (lim := lim) (f := f) K.base e4 (fun p hp r hr => hok5.2.1 p hp r hr) (fun j hj => hρ j (by rw [hr1.1];exact hj)) ⟨hB2,fun l r h1 _ => ⟨by rw [w4];exact h1,fun o ho => g5.mine_loop ho (by rw [w4];exact h1)⟩⟩ hold
   have ro5 := e5 0;refine ⟨v,X4,rfl,by rw [w4,w3,hX2],g5,s1.trans s5 hn1,?_⟩
   rw [hdd];exact ro5
 · simp [RT.val] at hq
theorem Qi.addFun (K : Q6 P T) (F : Qi P T Φ) {g : Nat} {σ : Type} (S : FunR C σ) (n m : Nat) (fs : List Fnd) (d : Env C -> List (Obj C) -> Option (Bool × σ))
 (hr : ∀ q,S.Inv q -> Qm S.k (eargs 0 (S.args q)) (S.objs q) /\ (S.fin q).refsOK S.k /\ (S.args q).length = m /\ Leaf (fnO T Φ g n S.k (S.args q) (S.objs q)) (LedF S q))
 (hd : ∀ env os b q,d env os = some (b,q) -> b = true -> S.Inv q /\ eargs 0 (S.args q) = env /\ S.objs q = os) : Qi P T (Φ.addObj g (sumF T fs m S d)) := F.addObj (Qpx K F hr d hd)
theorem QeC {σ : Type} {S : FunR C σ} {s : σ} {d : D C} {os : List (Option (Obj C))} (os' : List (Obj C)) (h1 : (S.fin s).val = some ((.ret,[(0,d)]),os')) (h2 : os = os'.map some) : Leaf (some (d,os)) (LedF S s) :=
 Jt.2 ⟨os',h1,h2⟩
end
structure NA where
 f : Qf
 a : Qg
 fl : Bool
def naLd (p n : Int) (r : List Int) (c g : Int) : NA := ⟨⟨p,n,r⟩,⟨0,c,0,0,g,[],[]⟩,true⟩
def naCs (p n : Int) (r : List Int) (c b v g : Int) : NA := ⟨⟨p,n,r⟩,⟨2,c,b,v,g,[],[]⟩,true⟩
def naPt (p n : Int) (r : List Int) (s b : Int) (t : List UInt8) : NA := ⟨⟨p,n,r⟩,⟨4,s,b,0,0,t,[]⟩,true⟩
def naSy (p n : Int) (r : List Int) : NA := ⟨⟨p,n,r⟩,⟨5,0,0,0,0,[],[]⟩,true⟩
def naCl (p n : Int) (r : List Int) (q : Int) (l : List Int) : NA := ⟨⟨p,n,r⟩,⟨6,q,0,0,0,[],l⟩,true⟩
def naEn (p n : Int) (r : List Int) (l : List Int) (fl : Bool) : NA := ⟨⟨p,n,r⟩,⟨7,0,0,0,0,[],l⟩,fl⟩
def mayN (a : Qg) : Bool := ZT a.kind a.a a.b a.v a.gen a.text a.args
def frm0 : Qf := ⟨0,0,List.replicate 96 0⟩
def act0 : Qg := ⟨0,0,0,0,0,[],[]⟩
def topF (st : List Qf) : Qf := st.getLastD frm0
def calF (a : Qg) : Qf := ⟨a.a,0,Zf a.args⟩
def tkSt (st : List Qf) (f : Qf) (a : Qg) : List Qf := if a.kind < 6 then st.dropLast ++ [f] else if a.kind = 6 then st.dropLast ++ [f,calF a] else st.dropLast
def Vf (got : List Int) (a : Qg) : List Int := if a.kind < 6 then got else if a.kind = 6 then [] else a.args
def tkFl (e : Bool) (a : Qg) : Bool := if a.kind < 6 then e else decide (a.kind = 6)
structure GoM where
 st : List Qf
 got : List Int
 gf : Bool
 a : Qg
 af : Bool
 is : Bool
def goN (nx : Qf -> List Int -> NA) : Nat -> List Qf -> List Int -> Bool -> GoM
 | 0,st,got,e => ⟨st,got,e,act0,true,false⟩
 | n + 1,st,got,e => if st = [] then ⟨[],got,e,act0,true,false⟩
  else if (nx (topF st) got).a.kind < 6 then ⟨tkSt st (nx (topF st) got).f (nx (topF st) got).a,got,e,(nx (topF st) got).a,(nx (topF st) got).fl,true⟩
  else goN nx n (tkSt st (nx (topF st) got).f (nx (topF st) got).a) (Vf got (nx (topF st) got).a) (tkFl e (nx (topF st) got).a)
def OkN (nx : Qf -> List Int -> NA) (ok : Qf -> List Int -> Prop) : Nat -> List Qf -> List Int -> Prop
 | 0,_,_ => False
 | n + 1,st,got => st = [] \/ (st ≠ [] /\ st.length <= 6 /\ got.length <= 96 /\ ok (topF st) got /\ mayN (nx (topF st) got).a = true /\ 0 <= (nx (topF st) got).a.kind /\ (nx (topF st) got).a.kind <= 7 /\
  ((nx (topF st) got).a.kind < 6 \/ ((nx (topF st) got).a.kind = 6 -> st.length < 6) /\ OkN nx ok n (tkSt st (nx (topF st) got).f (nx (topF st) got).a) (Vf got (nx (topF st) got).a)))
open Go.Proofs
def QvQ (n : Int) (a : Int) (b : Int) : Option (Bool × D RC) := some (true,.bool (Qq n a b))
def Qsa : List (D RC) -> Option (Bool × D RC)
 | [.int .i64 n,.int .i64 a,.int .i64 b] => QvQ n a b
 | _ => none
noncomputable def QvR (n : Int) (a : Int) (b : Int) := evF s25 uk_3 20 162 [.int .i64 n,.int .i64 a,.int .i64 b]
theorem QvS (n : Int) (a : Int) (b : Int) : QvR n a b = (bif decide (a <= n) then some (D.bool (decide (n <= b))) else some (D.bool false)) := by kernel_rfl
theorem QvT (n : Int) (a : Int) (b : Int) (h : (true) = true) : QvR n a b = some (.bool (Qq n a b)) := by
 rw [QvS];rw [Qq];cases decide (a <= n) <;> simp
noncomputable def ul_1 := uk_3.addSpec 162 Qsa
theorem Qk6 : Qi Tryz.prog s25 ul_1 := Qk3.addEv Qb fun args d h => by
 unfold Qsa at h
 split at h
 · unfold QvQ at h;have h1 := congrArg Prod.fst (Option.some.inj h);obtain rfl : _ = d := congrArg Prod.snd (Option.some.inj h);exact ⟨by simp [D.refs],20,QvT _ _ _ h1⟩
 · cases h
def Qk7 (p : Int) (w : Int) : Option (Bool × D RC) := some (true,.int .i64 (lRing p w))
def QfQ : List (D RC) -> Option (Bool × D RC)
 | [.int .i64 p,.int .i64 w] => Qk7 p w
 | _ => none
noncomputable def Qk8 (p : Int) (w : Int) := evF s25 ul_1 20 129 [.int .i64 p,.int .i64 w]
theorem Qpy (p : Int) (w : Int) : Qk8 p w = (let Z0 : DO_ := some (D.int .i64 (-1 : Int));bif decide (p < (0 : Int)) then Z0 else bif !Qq w (2 : Int) (8 : Int) then Z0 else bif w == (0 : Int) then none else some (D.int .i64 (IntKind.wrap .i64 ((13 : Int) + Int.tmod p w)))) := by kernel_rfl
theorem Qpz (p : Int) (w : Int) (h : (true) = true) : Qk8 p w = some (.int .i64 (lRing p w)) := by
 (rw [Qpy];conv => zeta)
 unfold lRing;refine Q5 (fun h0 => ?_) fun h0 => ?_ <;> simp only [decide_eq_true_eq,decide_eq_false_iff_not] at h0
 · rw [if_neg (by omega)]
 · cases h1 : Qq w 2 8
   · have h2 := ZY h1;rw [if_neg (by omega)];rfl
   · rw [QD] at h1;have hw : (w == 0) = false := by simp;omega
     have hm := Qaj (p := p) (w := w) (by omega)
     simp only [hw,Bool.not_true,cond_false];rw [Y2 (by omega),Qc (by omega) (by omega),if_pos ⟨by omega,h1.1,h1.2⟩]
noncomputable def ul_2 := ul_1.addSpec 129 QfQ
theorem Qk9 : Qi Tryz.prog s25 ul_2 := Qk6.addEv Qb fun args d h => by
 unfold QfQ at h
 split at h
 · unfold Qk7 at h;have h1 := congrArg Prod.fst (Option.some.inj h);obtain rfl : _ = d := congrArg Prod.snd (Option.some.inj h);exact ⟨by simp [D.refs],20,Qpz _ _ h1⟩
 · cases h
def Qla (p : Int) (w : Int) : Option (Bool × D RC) := some (true,.int .i64 (lRing p w))
def QfR : List (D RC) -> Option (Bool × D RC)
 | [.int .i64 p,.int .i64 w] => Qla p w
 | _ => none
noncomputable def Qlb (p : Int) (w : Int) := evF s25 ul_2 20 89 [.int .i64 p,.int .i64 w]
theorem QpA (p : Int) (w : Int) : Qlb p w = (let Z0 : DO_ := some (D.int .i64 (-1 : Int));bif decide (p < (0 : Int)) then Z0 else bif decide (w < (2 : Int)) then Z0 else bif decide ((8 : Int) < w) then Z0 else bif w == (0 : Int) then none else some (D.int .i64 (IntKind.wrap .i64 ((13 : Int) + Int.tmod p w)))) := by kernel_rfl
theorem QpB (p : Int) (w : Int) (h : (true) = true) : Qlb p w = some (.int .i64 (lRing p w)) := by
 (rw [QpA];conv => zeta)
 unfold lRing;refine Q5 (fun h0 => ?_) fun h0 => ?_ <;> simp only [decide_eq_true_eq,decide_eq_false_iff_not] at h0
 · rw [if_neg (by omega)]
 refine Q5 (fun h1 => ?_) fun h1 => ?_ <;> simp only [decide_eq_true_eq,decide_eq_false_iff_not] at h1
 · rw [if_neg (by omega)]
 refine Q5 (fun h2 => ?_) fun h2 => ?_ <;> simp only [decide_eq_true_eq,decide_eq_false_iff_not] at h2
 · rw [if_neg (by omega)]
 have hw : (w == 0) = false := by simp;omega
 have hm := Qaj (p := p) (w := w) (by omega)
 simp only [hw,Bool.not_true,cond_false];rw [Y2 (by omega),Qc (by omega) (by omega),if_pos ⟨by omega,by omega,by omega⟩]
noncomputable def ul_3 := ul_2.addSpec 89 QfR
theorem Qlc : Qi Tryz.prog s25 ul_3 := Qk9.addEv Qb fun args d h => by
 unfold QfR at h
 split at h
 · unfold Qla at h;have h1 := congrArg Prod.fst (Option.some.inj h);obtain rfl : _ = d := congrArg Prod.snd (Option.some.inj h);exact ⟨by simp [D.refs],20,QpB _ _ h1⟩
 · cases h
def Qdm (q : Int) (o : Int) : Option (Bool × D RC) := some (true,.int .i64 (lStream q o))
def Qa9 : List (D RC) -> Option (Bool × D RC)
 | [.int .i64 q,.int .i64 o] => Qdm q o
 | _ => none
noncomputable def Qdn (q : Int) (o : Int) := evF s25 ul_3 20 245 [.int .i64 q,.int .i64 o]
theorem QhR (q : Int) (o : Int) : Qdn q o = (let Z0 : DO_ := some (D.int .i64 (-1 : Int));bif !Qq q (0 : Int) (2 : Int) then Z0 else bif decide (o < (0 : Int)) then Z0 else some (D.int .i64 (IntKind.wrap .i64 (IntKind.wrap .i64 ((51 : Int) + IntKind.wrap .i64 ((16 : Int) * q)) + Int.tmod o (16 : Int))))) := by kernel_rfl
theorem QhS (q : Int) (o : Int) (h : (true) = true) : Qdn q o = some (.int .i64 (lStream q o)) := by
 (rw [QhR];conv => zeta)
 unfold lStream;cases h1 : Qq q 0 2
 · have h2 := ZY h1;rw [if_neg (by omega)];rfl
 · rw [QD] at h1;simp only [Bool.not_true,cond_false];refine Q5 (fun h0 => ?_) fun h0 => ?_ <;> simp only [decide_eq_true_eq,decide_eq_false_iff_not] at h0
   · rw [if_neg (by omega)]
   · rw [Y2 (by omega),Qc (n := 16 * q) (by omega) (by omega),Qc (n := 51 + 16 * q) (by omega) (by omega),Qc (by omega) (by omega),if_pos ⟨h1.1,h1.2,by omega⟩]
noncomputable def ul_4 := ul_3.addSpec 245 Qa9
theorem Qld : Qi Tryz.prog s25 ul_4 := Qlc.addEv Qb fun args d h => by
 unfold Qa9 at h
 split at h
 · unfold Qdm at h;have h1 := congrArg Prod.fst (Option.some.inj h);obtain rfl : _ = d := congrArg Prod.snd (Option.some.inj h);exact ⟨by simp [D.refs],20,QhS _ _ h1⟩
 · cases h
def Qdo (q : Int) (o : Int) : Option (Bool × D RC) := some (true,.int .i64 (lStream q o))
def Qba : List (D RC) -> Option (Bool × D RC)
 | [.int .i64 q,.int .i64 o] => Qdo q o
 | _ => none
noncomputable def Qdp (q : Int) (o : Int) := evF s25 ul_4 20 102 [.int .i64 q,.int .i64 o]
theorem QhT (q : Int) (o : Int) : Qdp q o = (let Z0 : DO_ := some (D.int .i64 (-1 : Int));bif decide (q < (0 : Int)) then Z0 else bif decide ((3 : Int) <= q) then Z0 else bif decide (o < (0 : Int)) then Z0 else some (D.int .i64 (IntKind.wrap .i64 (IntKind.wrap .i64 ((51 : Int) + IntKind.wrap .i64 ((16 : Int) * q)) + Int.tmod o (16 : Int))))) := by kernel_rfl
theorem QhU (q : Int) (o : Int) (h : (true) = true) : Qdp q o = some (.int .i64 (lStream q o)) := by
 (rw [QhT];conv => zeta)
 unfold lStream;refine Q5 (fun h0 => ?_) fun h0 => ?_ <;> simp only [decide_eq_true_eq,decide_eq_false_iff_not] at h0
 · rw [if_neg (by omega)]
 refine Q5 (fun h1 => ?_) fun h1 => ?_ <;> simp only [decide_eq_true_eq,decide_eq_false_iff_not] at h1
 · rw [if_neg (by omega)]
 refine Q5 (fun h2 => ?_) fun h2 => ?_ <;> simp only [decide_eq_true_eq,decide_eq_false_iff_not] at h2
 · rw [if_neg (by omega)]
 rw [Y2 (by omega),Qc (n := 16 * q) (by omega) (by omega),Qc (n := 51 + 16 * q) (by omega) (by omega),Qc (by omega) (by omega),if_pos ⟨by omega,by omega,by omega⟩]
noncomputable def ul_5 := ul_4.addSpec 102 Qba
theorem Qle : Qi Tryz.prog s25 ul_5 := Qld.addEv Qb fun args d h => by
 unfold Qba at h
 split at h
 · unfold Qdo at h;have h1 := congrArg Prod.fst (Option.some.inj h);obtain rfl : _ = d := congrArg Prod.snd (Option.some.inj h);exact ⟨by simp [D.refs],20,QhU _ _ h1⟩
 · cases h
def Qlf (a : Int) (n : Int) (m : Int) : Option (Bool × D RC) := some (true,.int .i64 (bif decide (0 <= n) && decide (n < m) then IntKind.i64.wrap (a + n) else -1))
def QfS : List (D RC) -> Option (Bool × D RC)
 | [.int .i64 a,.int .i64 n,.int .i64 m] => Qlf a n m
 | _ => none
noncomputable def Qlg (a : Int) (n : Int) (m : Int) := evF s25 ul_5 20 199 [.int .i64 a,.int .i64 n,.int .i64 m]
theorem QpC (a : Int) (n : Int) (m : Int) : Qlg a n m = (let Z0 : DO_ := some (D.int .i64 (-1 : Int));bif decide (n < (0 : Int)) then Z0 else bif decide (m <= n) then Z0 else some (D.int .i64 (IntKind.wrap .i64 (a + n)))) := by kernel_rfl
theorem QpD (a : Int) (n : Int) (m : Int) (h : (true) = true) : Qlg a n m = some (.int .i64 (bif decide (0 <= n) && decide (n < m) then IntKind.i64.wrap (a + n) else -1)) := by
 (rw [QpC];conv => zeta)
 refine Q5 (fun h0 => ?_) fun h0 => ?_ <;> simp only [decide_eq_true_eq,decide_eq_false_iff_not] at h0
 · rw [decide_eq_false (p := 0 <= n) (by omega)];rfl
 refine Q5 (fun h1 => ?_) fun h1 => ?_ <;> simp only [decide_eq_true_eq,decide_eq_false_iff_not] at h1
 · rw [decide_eq_false (p := n < m) (by omega),Bool.and_false];rfl
 · rw [decide_eq_true (p := 0 <= n) (by omega),decide_eq_true (p := n < m) (by omega)];rfl
noncomputable def ul_6 := ul_5.addSpec 199 QfS
theorem Qlh : Qi Tryz.prog s25 ul_6 := Qle.addEv Qb fun args d h => by
 unfold QfS at h
 split at h
 · unfold Qlf at h;have h1 := congrArg Prod.fst (Option.some.inj h);obtain rfl : _ = d := congrArg Prod.snd (Option.some.inj h);exact ⟨by simp [D.refs],20,QpD _ _ _ h1⟩
 · cases h
def Qli (a : Int) (s : Int) (n : Int) (m : Int) : Option (Bool × D RC) := some (true,.int .i64 (bif decide (0 <= n) && decide (n < m) then IntKind.i64.wrap (a + IntKind.i64.wrap (s * n)) else -1))
def QfT : List (D RC) -> Option (Bool × D RC)
 | [.int .i64 a,.int .i64 s,.int .i64 n,.int .i64 m] => Qli a s n m
 | _ => none
noncomputable def Qlj (a : Int) (s : Int) (n : Int) (m : Int) := evF s25 ul_6 20 49 [.int .i64 a,.int .i64 s,.int .i64 n,.int .i64 m]
theorem QpE (a : Int) (s : Int) (n : Int) (m : Int) : Qlj a s n m = (let Z0 : DO_ := some (D.int .i64 (-1 : Int));bif decide (n < (0 : Int)) then Z0 else bif decide (m <= n) then Z0 else some (D.int .i64 (IntKind.wrap .i64 (a + IntKind.wrap .i64 (s * n))))) := by kernel_rfl
theorem QpF (a : Int) (s : Int) (n : Int) (m : Int) (h : (true) = true) : Qlj a s n m = some (.int .i64 (bif decide (0 <= n) && decide (n < m) then IntKind.i64.wrap (a + IntKind.i64.wrap (s * n)) else -1)) := by
 (rw [QpE];conv => zeta)
 refine Q5 (fun h0 => ?_) fun h0 => ?_ <;> simp only [decide_eq_true_eq,decide_eq_false_iff_not] at h0
 · rw [decide_eq_false (p := 0 <= n) (by omega)];rfl
 refine Q5 (fun h1 => ?_) fun h1 => ?_ <;> simp only [decide_eq_true_eq,decide_eq_false_iff_not] at h1
 · rw [decide_eq_false (p := n < m) (by omega),Bool.and_false];rfl
 · rw [decide_eq_true (p := 0 <= n) (by omega),decide_eq_true (p := n < m) (by omega)];rfl
noncomputable def ul_7 := ul_6.addSpec 49 QfT
theorem Qlk : Qi Tryz.prog s25 ul_7 := Qlh.addEv Qb fun args d h => by
 unfold QfT at h
 split at h
 · unfold Qli at h;have h1 := congrArg Prod.fst (Option.some.inj h);obtain rfl : _ = d := congrArg Prod.snd (Option.some.inj h);exact ⟨by simp [D.refs],20,QpF _ _ _ _ h1⟩
 · cases h
def Qll (n : Int) : Option (Bool × D RC) := some (true,.int .i64 (lRow 5 n 4))
def QfU : List (D RC) -> Option (Bool × D RC)
 | [.int .i64 n] => Qll n
 | _ => none
noncomputable def Qlm (n : Int) := evF s25 ul_7 20 320 [.int .i64 n]
theorem QpG (n : Int) : Qlm n = (some (D.int .i64 (bif decide ((0 : Int) <= n) && decide (n < (4 : Int)) then IntKind.wrap .i64 ((5 : Int) + n) else (-1 : Int)))) := by kernel_rfl
theorem QpH (n : Int) (h : (true) = true) : Qlm n = some (.int .i64 (lRow 5 n 4)) := by
 rw [QpG]
 congr 2
 unfold lRow
 by_cases h0 : 0 <= n
 · by_cases h1 : n < 4
   · simp (disch := omega) only [decide_eq_true h0,decide_eq_true h1,Bool.and_self,cond_true,VZ];rw [if_pos ⟨h0,h1⟩]
   · simp only [decide_eq_false h1,Bool.and_false,cond_false];rw [if_neg (by omega)]
 · simp only [decide_eq_false h0,Bool.false_and,cond_false];rw [if_neg (by omega)]
noncomputable def ul_8 := ul_7.addSpec 320 QfU
theorem Qln : Qi Tryz.prog s25 ul_8 := Qlk.addEv Qb fun args d h => by
 unfold QfU at h
 split at h
 · unfold Qll at h;have h1 := congrArg Prod.fst (Option.some.inj h);obtain rfl : _ = d := congrArg Prod.snd (Option.some.inj h);exact ⟨by simp [D.refs],20,QpH _ h1⟩
 · cases h
def Qlo (n : Int) : Option (Bool × D RC) := some (true,.int .i64 (lRow 5 n 4))
def QfV : List (D RC) -> Option (Bool × D RC)
 | [.int .i64 n] => Qlo n
 | _ => none
noncomputable def Qlp (n : Int) := evF s25 ul_8 20 333 [.int .i64 n]
theorem QpI (n : Int) : Qlp n = (some (D.int .i64 (bif decide ((0 : Int) <= n) && decide (n < (4 : Int)) then IntKind.wrap .i64 ((5 : Int) + IntKind.wrap .i64 ((1 : Int) * n)) else (-1 : Int)))) := by kernel_rfl
theorem QpJ (n : Int) (h : (true) = true) : Qlp n = some (.int .i64 (lRow 5 n 4)) := by
 rw [QpI]
 congr 2
 unfold lRow
 by_cases h0 : 0 <= n
 · by_cases h1 : n < 4
   · simp (disch := omega) only [decide_eq_true h0,decide_eq_true h1,Bool.and_self,cond_true,Int.one_mul,VZ];rw [if_pos ⟨h0,h1⟩]
   · simp only [decide_eq_false h1,Bool.and_false,cond_false];rw [if_neg (by omega)]
 · simp only [decide_eq_false h0,Bool.false_and,cond_false];rw [if_neg (by omega)]
noncomputable def ul_9 := ul_8.addSpec 333 QfV
theorem Qlq : Qi Tryz.prog s25 ul_9 := Qln.addEv Qb fun args d h => by
 unfold QfV at h
 split at h
 · unfold Qlo at h;have h1 := congrArg Prod.fst (Option.some.inj h);obtain rfl : _ = d := congrArg Prod.snd (Option.some.inj h);exact ⟨by simp [D.refs],20,QpJ _ h1⟩
 · cases h
def Qdq (n : Int) : Option (Bool × D RC) := some (true,.int .i64 (lRow 9 n 4))
def Qbb : List (D RC) -> Option (Bool × D RC)
 | [.int .i64 n] => Qdq n
 | _ => none
noncomputable def Qdr (n : Int) := evF s25 ul_9 20 166 [.int .i64 n]
theorem QhV (n : Int) : Qdr n = (some (D.int .i64 (bif decide ((0 : Int) <= n) && decide (n < (4 : Int)) then IntKind.wrap .i64 ((9 : Int) + n) else (-1 : Int)))) := by kernel_rfl
theorem QhW (n : Int) (h : (true) = true) : Qdr n = some (.int .i64 (lRow 9 n 4)) := by
 rw [QhV]
 congr 2
 unfold lRow
 by_cases h0 : 0 <= n
 · by_cases h1 : n < 4
   · simp (disch := omega) only [decide_eq_true h0,decide_eq_true h1,Bool.and_self,cond_true,VZ];rw [if_pos ⟨h0,h1⟩]
   · simp only [decide_eq_false h1,Bool.and_false,cond_false];rw [if_neg (by omega)]
 · simp only [decide_eq_false h0,Bool.false_and,cond_false];rw [if_neg (by omega)]
noncomputable def QtK := ul_9.addSpec 166 Qbb
theorem QhX : Qi Tryz.prog s25 QtK := Qlq.addEv Qb fun args d h => by
 unfold Qbb at h
 split at h
 · unfold Qdq at h;have h1 := congrArg Prod.fst (Option.some.inj h);obtain rfl : _ = d := congrArg Prod.snd (Option.some.inj h);exact ⟨by simp [D.refs],20,QhW _ h1⟩
 · cases h
def Qds (n : Int) : Option (Bool × D RC) := some (true,.int .i64 (lRow 9 n 4))
def Qbc : List (D RC) -> Option (Bool × D RC)
 | [.int .i64 n] => Qds n
 | _ => none
noncomputable def Qdt (n : Int) := evF s25 QtK 20 267 [.int .i64 n]
theorem QhY (n : Int) : Qdt n = (some (D.int .i64 (bif decide ((0 : Int) <= n) && decide (n < (4 : Int)) then IntKind.wrap .i64 ((9 : Int) + IntKind.wrap .i64 ((1 : Int) * n)) else (-1 : Int)))) := by kernel_rfl
theorem QhZ (n : Int) (h : (true) = true) : Qdt n = some (.int .i64 (lRow 9 n 4)) := by
 rw [QhY]
 congr 2
 unfold lRow
 by_cases h0 : 0 <= n
 · by_cases h1 : n < 4
   · simp (disch := omega) only [decide_eq_true h0,decide_eq_true h1,Bool.and_self,cond_true,Int.one_mul,VZ];rw [if_pos ⟨h0,h1⟩]
   · simp only [decide_eq_false h1,Bool.and_false,cond_false];rw [if_neg (by omega)]
 · simp only [decide_eq_false h0,Bool.false_and,cond_false];rw [if_neg (by omega)]
noncomputable def QtL := QtK.addSpec 267 Qbc
theorem Qh0 : Qi Tryz.prog s25 QtL := QhX.addEv Qb fun args d h => by
 unfold Qbc at h
 split at h
 · unfold Qds at h;have h1 := congrArg Prod.fst (Option.some.inj h);obtain rfl : _ = d := congrArg Prod.snd (Option.some.inj h);exact ⟨by simp [D.refs],20,QhZ _ h1⟩
 · cases h
def QfW (n : Int) : Option (Bool × D RC) := some (true,.int .i64 (lRow 21 n 24))
def Qdu : List (D RC) -> Option (Bool × D RC)
 | [.int .i64 n] => QfW n
 | _ => none
noncomputable def QfX (n : Int) := evF s25 QtL 20 184 [.int .i64 n]
theorem Qlr (n : Int) : QfX n = (some (D.int .i64 (bif decide ((0 : Int) <= n) && decide (n < (24 : Int)) then IntKind.wrap .i64 ((21 : Int) + n) else (-1 : Int)))) := by kernel_rfl
theorem Qls (n : Int) (h : (true) = true) : QfX n = some (.int .i64 (lRow 21 n 24)) := by
 rw [Qlr]
 congr 2
 unfold lRow
 by_cases h0 : 0 <= n
 · by_cases h1 : n < 24
   · simp (disch := omega) only [decide_eq_true h0,decide_eq_true h1,Bool.and_self,cond_true,VZ];rw [if_pos ⟨h0,h1⟩]
   · simp only [decide_eq_false h1,Bool.and_false,cond_false];rw [if_neg (by omega)]
 · simp only [decide_eq_false h0,Bool.false_and,cond_false];rw [if_neg (by omega)]
noncomputable def QtM := QtL.addSpec 184 Qdu
theorem Qh1 : Qi Tryz.prog s25 QtM := Qh0.addEv Qb fun args d h => by
 unfold Qdu at h
 split at h
 · unfold QfW at h;have h1 := congrArg Prod.fst (Option.some.inj h);obtain rfl : _ = d := congrArg Prod.snd (Option.some.inj h);exact ⟨by simp [D.refs],20,Qls _ h1⟩
 · cases h
def QfY (n : Int) : Option (Bool × D RC) := some (true,.int .i64 (lRow 21 n 24))
def Qdv : List (D RC) -> Option (Bool × D RC)
 | [.int .i64 n] => QfY n
 | _ => none
noncomputable def QfZ (n : Int) := evF s25 QtM 20 29 [.int .i64 n]
theorem Qlt (n : Int) : QfZ n = (some (D.int .i64 (bif decide ((0 : Int) <= n) && decide (n < (24 : Int)) then IntKind.wrap .i64 ((21 : Int) + IntKind.wrap .i64 ((1 : Int) * n)) else (-1 : Int)))) := by kernel_rfl
theorem Qlu (n : Int) (h : (true) = true) : QfZ n = some (.int .i64 (lRow 21 n 24)) := by
 rw [Qlt]
 congr 2
 unfold lRow
 by_cases h0 : 0 <= n
 · by_cases h1 : n < 24
   · simp (disch := omega) only [decide_eq_true h0,decide_eq_true h1,Bool.and_self,cond_true,Int.one_mul,VZ];rw [if_pos ⟨h0,h1⟩]
   · simp only [decide_eq_false h1,Bool.and_false,cond_false];rw [if_neg (by omega)]
 · simp only [decide_eq_false h0,Bool.false_and,cond_false];rw [if_neg (by omega)]
noncomputable def QtN := QtM.addSpec 29 Qdv
theorem Qh2 : Qi Tryz.prog s25 QtN := Qh1.addEv Qb fun args d h => by
 unfold Qdv at h
 split at h
 · unfold QfY at h;have h1 := congrArg Prod.fst (Option.some.inj h);obtain rfl : _ = d := congrArg Prod.snd (Option.some.inj h);exact ⟨by simp [D.refs],20,Qlu _ h1⟩
 · cases h
def Qdw (n : Int) : Option (Bool × D RC) := some (true,.int .i64 (lRow 45 n 3))
def Qbd : List (D RC) -> Option (Bool × D RC)
 | [.int .i64 n] => Qdw n
 | _ => none
noncomputable def Qdx (n : Int) := evF s25 QtN 20 203 [.int .i64 n]
theorem Qh3 (n : Int) : Qdx n = (some (D.int .i64 (bif decide ((0 : Int) <= n) && decide (n < (3 : Int)) then IntKind.wrap .i64 ((45 : Int) + n) else (-1 : Int)))) := by kernel_rfl
theorem Qh4 (n : Int) (h : (true) = true) : Qdx n = some (.int .i64 (lRow 45 n 3)) := by
 rw [Qh3]
 congr 2
 unfold lRow
 by_cases h0 : 0 <= n
 · by_cases h1 : n < 3
   · simp (disch := omega) only [decide_eq_true h0,decide_eq_true h1,Bool.and_self,cond_true,VZ];rw [if_pos ⟨h0,h1⟩]
   · simp only [decide_eq_false h1,Bool.and_false,cond_false];rw [if_neg (by omega)]
 · simp only [decide_eq_false h0,Bool.false_and,cond_false];rw [if_neg (by omega)]
noncomputable def QtO := QtN.addSpec 203 Qbd
theorem Qh5 : Qi Tryz.prog s25 QtO := Qh2.addEv Qb fun args d h => by
 unfold Qbd at h
 split at h
 · unfold Qdw at h;have h1 := congrArg Prod.fst (Option.some.inj h);obtain rfl : _ = d := congrArg Prod.snd (Option.some.inj h);exact ⟨by simp [D.refs],20,Qh4 _ h1⟩
 · cases h
def Qdy (n : Int) : Option (Bool × D RC) := some (true,.int .i64 (lRow 45 n 3))
def Qbe : List (D RC) -> Option (Bool × D RC)
 | [.int .i64 n] => Qdy n
 | _ => none
noncomputable def Qdz (n : Int) := evF s25 QtO 20 20 [.int .i64 n]
theorem Qh6 (n : Int) : Qdz n = (some (D.int .i64 (bif decide ((0 : Int) <= n) && decide (n < (3 : Int)) then IntKind.wrap .i64 ((45 : Int) + IntKind.wrap .i64 ((1 : Int) * n)) else (-1 : Int)))) := by kernel_rfl
theorem Qh7 (n : Int) (h : (true) = true) : Qdz n = some (.int .i64 (lRow 45 n 3)) := by
 rw [Qh6]
 congr 2
 unfold lRow
 by_cases h0 : 0 <= n
 · by_cases h1 : n < 3
   · simp (disch := omega) only [decide_eq_true h0,decide_eq_true h1,Bool.and_self,cond_true,Int.one_mul,VZ];rw [if_pos ⟨h0,h1⟩]
   · simp only [decide_eq_false h1,Bool.and_false,cond_false];rw [if_neg (by omega)]
 · simp only [decide_eq_false h0,Bool.false_and,cond_false];rw [if_neg (by omega)]
noncomputable def QtP := QtO.addSpec 20 Qbe
theorem Qh8 : Qi Tryz.prog s25 QtP := Qh5.addEv Qb fun args d h => by
 unfold Qbe at h
 split at h
 · unfold Qdy at h;have h1 := congrArg Prod.fst (Option.some.inj h);obtain rfl : _ = d := congrArg Prod.snd (Option.some.inj h);exact ⟨by simp [D.refs],20,Qh7 _ h1⟩
 · cases h
def Qlv (n : Int) : Option (Bool × D RC) := some (true,.int .i64 (lRow 48 n 3))
def Qf0 : List (D RC) -> Option (Bool × D RC)
 | [.int .i64 n] => Qlv n
 | _ => none
noncomputable def Qlw (n : Int) := evF s25 QtP 20 210 [.int .i64 n]
theorem QpK (n : Int) : Qlw n = (some (D.int .i64 (bif decide ((0 : Int) <= n) && decide (n < (3 : Int)) then IntKind.wrap .i64 ((48 : Int) + n) else (-1 : Int)))) := by kernel_rfl
theorem QpL (n : Int) (h : (true) = true) : Qlw n = some (.int .i64 (lRow 48 n 3)) := by
 rw [QpK]
 congr 2
 unfold lRow
 by_cases h0 : 0 <= n
 · by_cases h1 : n < 3
   · simp (disch := omega) only [decide_eq_true h0,decide_eq_true h1,Bool.and_self,cond_true,VZ];rw [if_pos ⟨h0,h1⟩]
   · simp only [decide_eq_false h1,Bool.and_false,cond_false];rw [if_neg (by omega)]
 · simp only [decide_eq_false h0,Bool.false_and,cond_false];rw [if_neg (by omega)]
noncomputable def QtQ := QtP.addSpec 210 Qf0
theorem Qh9 : Qi Tryz.prog s25 QtQ := Qh8.addEv Qb fun args d h => by
 unfold Qf0 at h
 split at h
 · unfold Qlv at h;have h1 := congrArg Prod.fst (Option.some.inj h);obtain rfl : _ = d := congrArg Prod.snd (Option.some.inj h);exact ⟨by simp [D.refs],20,QpL _ h1⟩
 · cases h
def Qlx (n : Int) : Option (Bool × D RC) := some (true,.int .i64 (lRow 48 n 3))
def Qf1 : List (D RC) -> Option (Bool × D RC)
 | [.int .i64 n] => Qlx n
 | _ => none
noncomputable def Qly (n : Int) := evF s25 QtQ 20 289 [.int .i64 n]
theorem QpM (n : Int) : Qly n = (some (D.int .i64 (bif decide ((0 : Int) <= n) && decide (n < (3 : Int)) then IntKind.wrap .i64 ((48 : Int) + IntKind.wrap .i64 ((1 : Int) * n)) else (-1 : Int)))) := by kernel_rfl
theorem QpN (n : Int) (h : (true) = true) : Qly n = some (.int .i64 (lRow 48 n 3)) := by
 rw [QpM]
 congr 2
 unfold lRow
 by_cases h0 : 0 <= n
 · by_cases h1 : n < 3
   · simp (disch := omega) only [decide_eq_true h0,decide_eq_true h1,Bool.and_self,cond_true,Int.one_mul,VZ];rw [if_pos ⟨h0,h1⟩]
   · simp only [decide_eq_false h1,Bool.and_false,cond_false];rw [if_neg (by omega)]
 · simp only [decide_eq_false h0,Bool.false_and,cond_false];rw [if_neg (by omega)]
noncomputable def QtR := QtQ.addSpec 289 Qf1
theorem Qia : Qi Tryz.prog s25 QtR := Qh9.addEv Qb fun args d h => by
 unfold Qf1 at h
 split at h
 · unfold Qlx at h;have h1 := congrArg Prod.fst (Option.some.inj h);obtain rfl : _ = d := congrArg Prod.snd (Option.some.inj h);exact ⟨by simp [D.refs],20,QpN _ h1⟩
 · cases h
def QdA (a : Int) (s : Int) (f : Int) (m : Int) (k : Int) : Option (Bool × D RC) := some (true,.int .i64 (bif Qq s 0 (IntKind.i64.wrap (m - 1)) && Qq f 0 (IntKind.i64.wrap (k - 1)) then IntKind.i64.wrap (IntKind.i64.wrap (a + IntKind.i64.wrap (s * k)) + f) else -1))
def Qbf : List (D RC) -> Option (Bool × D RC)
 | [.int .i64 a,.int .i64 s,.int .i64 f,.int .i64 m,.int .i64 k] => QdA a s f m k
 | _ => none
noncomputable def QdB (a : Int) (s : Int) (f : Int) (m : Int) (k : Int) := evF s25 QtR 20 113 [.int .i64 a,.int .i64 s,.int .i64 f,.int .i64 m,.int .i64 k]
theorem Qib (a : Int) (s : Int) (f : Int) (m : Int) (k : Int) : QdB a s f m k = (let Z0 : DO_ := some (D.int .i64 (-1 : Int));bif !Qq s (0 : Int) (IntKind.wrap .i64 (m - (1 : Int))) then Z0 else bif !Qq f (0 : Int) (IntKind.wrap .i64 (k - (1 : Int))) then Z0 else some (D.int .i64 (IntKind.wrap .i64 (IntKind.wrap .i64 (a + IntKind.wrap .i64 (s * k)) + f)))) := by kernel_rfl
theorem Qic (a : Int) (s : Int) (f : Int) (m : Int) (k : Int) (h : (true) = true) : QdB a s f m k = some (.int .i64 (bif Qq s 0 (IntKind.i64.wrap (m - 1)) && Qq f 0 (IntKind.i64.wrap (k - 1)) then IntKind.i64.wrap (IntKind.i64.wrap (a + IntKind.i64.wrap (s * k)) + f) else -1)) := by
 (rw [Qib];conv => zeta)
 cases Qq s 0 (IntKind.i64.wrap (m - 1)) <;> cases Qq f 0 (IntKind.i64.wrap (k - 1)) <;> rfl
noncomputable def QtS := QtR.addSpec 113 Qbf
theorem Qid : Qi Tryz.prog s25 QtS := Qia.addEv Qb fun args d h => by
 unfold Qbf at h
 split at h
 · unfold QdA at h;have h1 := congrArg Prod.fst (Option.some.inj h);obtain rfl : _ = d := congrArg Prod.snd (Option.some.inj h);exact ⟨by simp [D.refs],20,Qic _ _ _ _ _ h1⟩
 · cases h
def Qf2 (s : Int) (f : Int) : Option (Bool × D RC) := some (true,.int .i64 (lField 99 s f 16 12))
def QdC : List (D RC) -> Option (Bool × D RC)
 | [.int .i64 s,.int .i64 f] => Qf2 s f
 | _ => none
noncomputable def Qf3 (s : Int) (f : Int) := evF s25 QtS 20 57 [.int .i64 s,.int .i64 f]
theorem Qlz (s : Int) (f : Int) : Qf3 s f = (some (D.int .i64 (bif Qq s (0 : Int) (15 : Int) && Qq f (0 : Int) (11 : Int) then IntKind.wrap .i64 (IntKind.wrap .i64 ((99 : Int) + IntKind.wrap .i64 (s * (12 : Int))) + f) else (-1 : Int)))) := by kernel_rfl
theorem QlA (s : Int) (f : Int) (h : (true) = true) : Qf3 s f = some (.int .i64 (lField 99 s f 16 12)) := by
 rw [Qlz]
 congr 2
 unfold lField;cases h0 : Qq s 0 15
 · have := ZY h0;rw [if_neg (by omega)];rfl
 cases h1 : Qq f 0 11
 · have := ZY h1;rw [if_neg (by omega)];rfl
 rw [QD] at h0 h1;rw [if_pos (by omega)]
 simp (disch := omega) only [Bool.and_self,cond_true,VZ]
noncomputable def QtT := QtS.addSpec 57 QdC
theorem Qie : Qi Tryz.prog s25 QtT := Qid.addEv Qb fun args d h => by
 unfold QdC at h
 split at h
 · unfold Qf2 at h;have h1 := congrArg Prod.fst (Option.some.inj h);obtain rfl : _ = d := congrArg Prod.snd (Option.some.inj h);exact ⟨by simp [D.refs],20,QlA _ _ h1⟩
 · cases h
def Qf4 (s : Int) (f : Int) : Option (Bool × D RC) := some (true,.int .i64 (lField 99 s f 16 12))
def QdD : List (D RC) -> Option (Bool × D RC)
 | [.int .i64 s,.int .i64 f] => Qf4 s f
 | _ => none
noncomputable def Qf5 (s : Int) (f : Int) := evF s25 QtT 20 27 [.int .i64 s,.int .i64 f]
theorem QlB (s : Int) (f : Int) : Qf5 s f = (let Z0 : DO_ := some (D.int .i64 (-1 : Int));let Z1 : Int := bif decide ((0 : Int) <= s) && decide (s < (16 : Int)) then IntKind.wrap .i64 ((99 : Int) + IntKind.wrap .i64 ((12 : Int) * s)) else (-1 : Int);bif decide (f < (0 : Int)) then Z0 else bif decide ((11 : Int) < f) then Z0 else bif decide (Z1 < (0 : Int)) then Z0 else some (D.int .i64 (IntKind.wrap .i64 (Z1 + f)))) := by kernel_rfl
theorem QlC (s : Int) (f : Int) (h : (true) = true) : Qf5 s f = some (.int .i64 (lField 99 s f 16 12)) := by
 (rw [QlB];conv => zeta)
 unfold lField;refine Q5 (fun h0 => ?_) fun h0 => ?_ <;> simp only [decide_eq_true_eq,decide_eq_false_iff_not] at h0
 · rw [if_neg (by omega)]
 refine Q5 (fun h1 => ?_) fun h1 => ?_ <;> simp only [decide_eq_true_eq,decide_eq_false_iff_not] at h1
 · rw [if_neg (by omega)]
 by_cases h2 : 0 <= s
 · by_cases h3 : s < 16
   · simp (disch := omega) only [decide_eq_true h2,decide_eq_true h3,Bool.and_self,cond_true,VZ];rw [decide_eq_false (by omega),if_pos (by omega)]
     simp (disch := omega) only [cond_false,VZ]
     congr 2;omega
   · simp only [decide_eq_false h3,Bool.and_false,cond_false];rw [if_neg (by omega)];rfl
 · simp only [decide_eq_false h2,Bool.false_and,cond_false];rw [if_neg (by omega)];rfl
noncomputable def QtU := QtT.addSpec 27 QdD
theorem Qif : Qi Tryz.prog s25 QtU := Qie.addEv Qb fun args d h => by
 unfold QdD at h
 split at h
 · unfold Qf4 at h;have h1 := congrArg Prod.fst (Option.some.inj h);obtain rfl : _ = d := congrArg Prod.snd (Option.some.inj h);exact ⟨by simp [D.refs],20,QlC _ _ h1⟩
 · cases h
def Qf6 (s : Int) (f : Int) : Option (Bool × D RC) := some (true,.int .i64 (lField 291 s f 160 3))
def QdE : List (D RC) -> Option (Bool × D RC)
 | [.int .i64 s,.int .i64 f] => Qf6 s f
 | _ => none
noncomputable def Qf7 (s : Int) (f : Int) := evF s25 QtU 20 274 [.int .i64 s,.int .i64 f]
theorem QlD (s : Int) (f : Int) : Qf7 s f = (some (D.int .i64 (bif Qq s (0 : Int) (159 : Int) && Qq f (0 : Int) (2 : Int) then IntKind.wrap .i64 (IntKind.wrap .i64 ((291 : Int) + IntKind.wrap .i64 (s * (3 : Int))) + f) else (-1 : Int)))) := by kernel_rfl
theorem QlE (s : Int) (f : Int) (h : (true) = true) : Qf7 s f = some (.int .i64 (lField 291 s f 160 3)) := by
 rw [QlD]
 congr 2
 unfold lField;cases h0 : Qq s 0 159
 · have := ZY h0;rw [if_neg (by omega)];rfl
 cases h1 : Qq f 0 2
 · have := ZY h1;rw [if_neg (by omega)];rfl
 rw [QD] at h0 h1;rw [if_pos (by omega)]
 simp (disch := omega) only [Bool.and_self,cond_true,VZ]
noncomputable def QtV := QtU.addSpec 274 QdE
theorem Qig : Qi Tryz.prog s25 QtV := Qif.addEv Qb fun args d h => by
 unfold QdE at h
 split at h
 · unfold Qf6 at h;have h1 := congrArg Prod.fst (Option.some.inj h);obtain rfl : _ = d := congrArg Prod.snd (Option.some.inj h);exact ⟨by simp [D.refs],20,QlE _ _ h1⟩
 · cases h
def Qf8 (s : Int) (f : Int) : Option (Bool × D RC) := some (true,.int .i64 (lField 291 s f 160 3))
def QdF : List (D RC) -> Option (Bool × D RC)
 | [.int .i64 s,.int .i64 f] => Qf8 s f
 | _ => none
noncomputable def Qf9 (s : Int) (f : Int) := evF s25 QtV 20 82 [.int .i64 s,.int .i64 f]
theorem QlF (s : Int) (f : Int) : Qf9 s f = (let Z0 : DO_ := some (D.int .i64 (-1 : Int));let Z1 : Int := bif decide ((0 : Int) <= s) && decide (s < (160 : Int)) then IntKind.wrap .i64 ((291 : Int) + IntKind.wrap .i64 ((3 : Int) * s)) else (-1 : Int);bif decide (f < (0 : Int)) then Z0 else bif decide ((2 : Int) < f) then Z0 else bif decide (Z1 < (0 : Int)) then Z0 else some (D.int .i64 (IntKind.wrap .i64 (Z1 + f)))) := by kernel_rfl
theorem QlG (s : Int) (f : Int) (h : (true) = true) : Qf9 s f = some (.int .i64 (lField 291 s f 160 3)) := by
 (rw [QlF];conv => zeta)
 unfold lField;refine Q5 (fun h0 => ?_) fun h0 => ?_ <;> simp only [decide_eq_true_eq,decide_eq_false_iff_not] at h0
 · rw [if_neg (by omega)]
 refine Q5 (fun h1 => ?_) fun h1 => ?_ <;> simp only [decide_eq_true_eq,decide_eq_false_iff_not] at h1
 · rw [if_neg (by omega)]
 by_cases h2 : 0 <= s
 · by_cases h3 : s < 160
   · simp (disch := omega) only [decide_eq_true h2,decide_eq_true h3,Bool.and_self,cond_true,VZ];rw [decide_eq_false (by omega),if_pos (by omega)]
     simp (disch := omega) only [cond_false,VZ]
     congr 2;omega
   · simp only [decide_eq_false h3,Bool.and_false,cond_false];rw [if_neg (by omega)];rfl
 · simp only [decide_eq_false h2,Bool.false_and,cond_false];rw [if_neg (by omega)];rfl
noncomputable def QtW := QtV.addSpec 82 QdF
theorem Qih : Qi Tryz.prog s25 QtW := Qig.addEv Qb fun args d h => by
 unfold QdF at h
 split at h
 · unfold Qf8 at h;have h1 := congrArg Prod.fst (Option.some.inj h);obtain rfl : _ = d := congrArg Prod.snd (Option.some.inj h);exact ⟨by simp [D.refs],20,QlG _ _ h1⟩
 · cases h
open Go.Proofs
def Qsb (w : Int) : Option (Bool × D RC) := some (true,.int .i64 (plc w))
def QlH : List (D RC) -> Option (Bool × D RC)
 | [.int .i64 w] => Qsb w
 | _ => none
noncomputable def Qsc (w : Int) := evF s25 QtW 20 131 [.int .i64 w]
theorem QtX (w : Int) : Qsc w = (let Z0 : DO_ := some (D.int .i64 0);bif decide (w < (0 : Int)) then Z0 else bif decide ((1099510841343 : Int) < w) then Z0 else some (D.int .i64 (bits .i64 (fun (x : Nat) (u v : BitVec x) => u &&& v) (Int.fdiv w (1048576 : Int)) (1099511627775 : Int)))) := by kernel_rfl
theorem QtY (w : Int) (h : (true) = true) : Qsc w = some (.int .i64 (plc w)) := by
 (rw [QtX];conv => zeta)
 unfold plc;refine Q5 (fun h0 => ?_) fun h0 => Q5 (fun h1 => ?_) fun h1 => ?_ <;> simp only [decide_eq_true_eq,decide_eq_false_iff_not] at *
 · rw [Q2 (by omega)];rfl
 · rw [Q2 (by omega)];rfl
 · rw [ZJ (by omega),Qr6 (by omega),Qwu (by omega)]
noncomputable def um_1 := QtW.addSpec 131 QlH
theorem QlI : Qi Tryz.prog s25 um_1 := Qih.addEv Qb fun args d h => by
 unfold QlH at h
 split at h
 · unfold Qsb at h;have h1 := congrArg Prod.fst (Option.some.inj h);obtain rfl : _ = d := congrArg Prod.snd (Option.some.inj h);exact ⟨by simp [D.refs],20,QtY _ h1⟩
 · cases h
def QlJ (p : Int) (d : Int) : Option (Bool × D RC) := some (true,.tup (.acons (.int .i64 (wordN p d)) (.acons (.int .i64 (Qdf p d)) .anil)))
def Qga : List (D RC) -> Option (Bool × D RC)
 | [.int .i64 p,.int .i64 d] => QlJ p d
 | _ => none
noncomputable def QlK (p : Int) (d : Int) := evF s25 um_1 20 253 [.int .i64 p,.int .i64 d]
theorem QpO (p : Int) (d : Int) : QlK p d = (let Z0 : Bool := decide (p < (0 : Int));let Z1 : D RC := D.int .i64 0;let Z2 : DO_ := some (D.tup (D.acons Z1 (D.acons (D.int .i64 2) .anil)));let Z3 : Bool := decide ((1048575 : Int) < p);let Z4 : DO_ := some (D.tup (D.acons (D.int .i64 (bits .i64 (fun (x : Nat) (u v : BitVec x) => u ||| v) (IntKind.wrap .i64 (p * (1048576 : Int))) d)) (.acons Z1 .anil)));let Z5 : DO_ := bif d != (0 : Int) then Z2 else bif p != (0 : Int) then Z2 else Z4;bif decide ((256 : Int) <= d) then bif Z0 then Z2 else bif Z3 then Z2 else bif !decide (d <= (262143 : Int)) then Z5 else Z4 else bif Z0 then Z2 else bif Z3 then Z2 else Z5) := by kernel_rfl
theorem QpP (p : Int) (d : Int) (h : (true) = true) : QlK p d = some (.tup (.acons (.int .i64 (wordN p d)) (.acons (.int .i64 (Qdf p d)) .anil))) := by
 (rw [QpO];conv => zeta)
 have ww : 0 <= p -> p <= 1048575 -> IntKind.i64.wrap (p * 1048576) = p * 1048576 := fun h1 h2 => Qc (by omega) (by omega)
 repeat' (refine Q5 (fun hc => ?_) fun hc => ?_)
 all_goals
  simp only [decide_eq_true_eq,decide_eq_false_iff_not,beq_iff_eq,bne_iff_ne,ne_eq,Bool.not_eq_true',Bool.not_eq_false',bne_eq_false_iff_eq,beq_eq_false_iff_ne] at *
  first
  | exact congrArg some (Qdi (by unfold OkWord;omega))
  | (rw [ww (by omega) (by omega),or20 (by omega) (by omega)];exact congrArg some (Qdh (by unfold OkWord;omega)))
noncomputable def um_2 := um_1.addSpec 253 Qga
theorem QlL : Qi Tryz.prog s25 um_2 := QlI.addEv Qb fun args d h => by
 unfold Qga at h
 split at h
 · unfold QlJ at h;have h1 := congrArg Prod.fst (Option.some.inj h);obtain rfl : _ = d := congrArg Prod.snd (Option.some.inj h);exact ⟨by simp [D.refs],20,QpP _ _ h1⟩
 · cases h
def Qsd (w : Int) : Option (Bool × D RC) := some (true,.int .i64 (plc w))
def QlM : List (D RC) -> Option (Bool × D RC)
 | [.int .i64 w] => Qsd w
 | _ => none
noncomputable def Qse (w : Int) := evF s25 um_2 20 28 [.int .i64 w]
theorem QtZ (w : Int) : Qse w = (let Z0 : DO_ := some (D.int .i64 0);bif decide (w < (0 : Int)) then Z0 else bif decide ((1099510841343 : Int) < w) then Z0 else some (D.int .i64 (Int.fdiv w (1048576 : Int)))) := by kernel_rfl
theorem Qt0 (w : Int) (h : (true) = true) : Qse w = some (.int .i64 (plc w)) := by
 (rw [QtZ];conv => zeta)
 unfold plc;refine Q5 (fun h0 => ?_) fun h0 => Q5 (fun h1 => ?_) fun h1 => ?_ <;> simp only [decide_eq_true_eq,decide_eq_false_iff_not] at *
 · rw [Q2 (by omega)];rfl
 · rw [Q2 (by omega)];rfl
 · rw [ZJ (by omega),Qr6 (by omega)]
noncomputable def um_3 := um_2.addSpec 28 QlM
theorem QlN : Qi Tryz.prog s25 um_3 := QlL.addEv Qb fun args d h => by
 unfold QlM at h
 split at h
 · unfold Qsd at h;have h1 := congrArg Prod.fst (Option.some.inj h);obtain rfl : _ = d := congrArg Prod.snd (Option.some.inj h);exact ⟨by simp [D.refs],20,Qt0 _ h1⟩
 · cases h
def QlO (w : Int) : Option (Bool × D RC) := some (true,.int .i64 (bare w))
def Qgb : List (D RC) -> Option (Bool × D RC)
 | [.int .i64 w] => QlO w
 | _ => none
noncomputable def QlP (w : Int) := evF s25 um_3 20 90 [.int .i64 w]
theorem QpQ (w : Int) : QlP w = (let Z0 : DO_ := some (D.int .i64 0);bif decide (w < (0 : Int)) then Z0 else bif decide ((1099510841343 : Int) < w) then Z0 else some (D.int .i64 (bits .i64 (fun (x : Nat) (u v : BitVec x) => u &&& v) w (1048575 : Int)))) := by kernel_rfl
theorem QpR (w : Int) (h : (true) = true) : QlP w = some (.int .i64 (bare w)) := by
 (rw [QpQ];conv => zeta)
 unfold bare;refine Q5 (fun h0 => ?_) fun h0 => Q5 (fun h1 => ?_) fun h1 => ?_ <;> simp only [decide_eq_true_eq,decide_eq_false_iff_not] at *
 · rw [Q2 (by omega)];rfl
 · rw [Q2 (by omega)];rfl
 · rw [ZJ (by omega),QvK]
noncomputable def um_4 := um_3.addSpec 90 Qgb
theorem QlQ : Qi Tryz.prog s25 um_4 := QlN.addEv Qb fun args d h => by
 unfold Qgb at h
 split at h
 · unfold QlO at h;have h1 := congrArg Prod.fst (Option.some.inj h);obtain rfl : _ = d := congrArg Prod.snd (Option.some.inj h);exact ⟨by simp [D.refs],20,QpR _ h1⟩
 · cases h
def QlR (p : Int) (d : Int) : Option (Bool × D RC) := some (true,.tup (.acons (.int .i64 (wordN p d)) (.acons (.int .i64 (Qdf p d)) .anil)))
def Qgc : List (D RC) -> Option (Bool × D RC)
 | [.int .i64 p,.int .i64 d] => QlR p d
 | _ => none
noncomputable def QlS (p : Int) (d : Int) := evF s25 um_4 20 312 [.int .i64 p,.int .i64 d]
theorem QpS (p : Int) (d : Int) : QlS p d = (let Z0 : D RC := D.int .i64 0;let Z1 : DO_ := some (D.tup (D.acons Z0 (D.acons (D.int .i64 2) .anil)));let Z2 : DO_ := some (D.tup (D.acons (D.int .i64 (IntKind.wrap .i64 (IntKind.wrap .i64 (p * (1048576 : Int)) + d))) (.acons Z0 .anil)));let Z3 : DO_ := bif d == (0 : Int) then bif p != (0 : Int) then Z1 else Z2 else Z2;bif decide (p < (0 : Int)) then Z1 else bif decide ((1048575 : Int) < p) then Z1 else bif d != (0 : Int) then bif decide ((256 : Int) <= d) then bif !decide (d <= (262143 : Int)) then Z1 else Z3 else Z1 else Z3) := by kernel_rfl
theorem QpT (p : Int) (d : Int) (h : (true) = true) : QlS p d = some (.tup (.acons (.int .i64 (wordN p d)) (.acons (.int .i64 (Qdf p d)) .anil))) := by
 (rw [QpS];conv => zeta)
 have ww : 0 <= p -> p <= 1048575 -> IntKind.i64.wrap (p * 1048576) = p * 1048576 := fun h1 h2 => Qc (by omega) (by omega)
 repeat' (refine Q5 (fun hc => ?_) fun hc => ?_)
 all_goals
  simp only [decide_eq_true_eq,decide_eq_false_iff_not,beq_iff_eq,bne_iff_ne,ne_eq,Bool.not_eq_true',Bool.not_eq_false',bne_eq_false_iff_eq,beq_eq_false_iff_ne] at *
  first
  | exact congrArg some (Qdi (by unfold OkWord;omega))
  | (rw [ww (by omega) (by omega),Qc (by omega) (by omega)];exact congrArg some (Qdh (by unfold OkWord;omega)))
noncomputable def um_5 := um_4.addSpec 312 Qgc
theorem QlT : Qi Tryz.prog s25 um_5 := QlQ.addEv Qb fun args d h => by
 unfold Qgc at h
 split at h
 · unfold QlR at h;have h1 := congrArg Prod.fst (Option.some.inj h);obtain rfl : _ = d := congrArg Prod.snd (Option.some.inj h);exact ⟨by simp [D.refs],20,QpT _ _ h1⟩
 · cases h
def QlU (w : Int) : Option (Bool × D RC) := some (true,.int .i64 (bare w))
def Qgd : List (D RC) -> Option (Bool × D RC)
 | [.int .i64 w] => QlU w
 | _ => none
noncomputable def QlV (w : Int) := evF s25 um_5 20 132 [.int .i64 w]
theorem QpU (w : Int) : QlV w = (let Z0 : DO_ := some (D.int .i64 0);bif decide (w < (0 : Int)) then Z0 else bif decide ((1099510841343 : Int) < w) then Z0 else some (D.int .i64 (bits .i64 (fun (x : Nat) (u v : BitVec x) => u &&& v) (Int.fdiv w (1 : Int)) (1048575 : Int)))) := by kernel_rfl
theorem QpV (w : Int) (h : (true) = true) : QlV w = some (.int .i64 (bare w)) := by
 (rw [QpU];conv => zeta)
 unfold bare;refine Q5 (fun h0 => ?_) fun h0 => Q5 (fun h1 => ?_) fun h1 => ?_ <;> simp only [decide_eq_true_eq,decide_eq_false_iff_not] at *
 · rw [Q2 (by omega)];rfl
 · rw [Q2 (by omega)];rfl
 · rw [ZJ (by omega),Int.fdiv_one,QvK]
noncomputable def um_6 := um_5.addSpec 132 Qgd
theorem QlW : Qi Tryz.prog s25 um_6 := QlT.addEv Qb fun args d h => by
 unfold Qgd at h
 split at h
 · unfold QlU at h;have h1 := congrArg Prod.fst (Option.some.inj h);obtain rfl : _ = d := congrArg Prod.snd (Option.some.inj h);exact ⟨by simp [D.refs],20,QpV _ h1⟩
 · cases h
theorem and8 (n : Int) : bits .i64 (fun _ u v => u &&& v) n 255 = n % 256 := by
 unfold bits;rw [BitVec.toNat_and,ZX,ZX];have e : ((255 : Int) % 18446744073709551616).toNat = 2 ^ 8 - 1 := by decide
 rw [e,Nat.and_two_pow_sub_one_eq_mod,Qc (by omega) (by omega)]
 omega
def Qsf (w : Int) : Option (Bool × D RC) := some (true,.int .i64 (inWord w % 256))
def QlX : List (D RC) -> Option (Bool × D RC)
 | [.int .i64 w] => Qsf w
 | _ => none
noncomputable def Qsg (w : Int) := evF s25 um_6 20 58 [.int .i64 w]
theorem Qt1 (w : Int) : Qsg w = (let Z0 : DO_ := some (D.int .i64 0);bif decide (w < (0 : Int)) then Z0 else bif decide ((1099510841343 : Int) < w) then Z0 else some (D.int .i64 (bits .i64 (fun (x : Nat) (u v : BitVec x) => u &&& v) (Int.fdiv w (1 : Int)) (255 : Int)))) := by kernel_rfl
theorem Qt2 (w : Int) (h : (true) = true) : Qsg w = some (.int .i64 (inWord w % 256)) := by
 (rw [Qt1];conv => zeta)
 refine Q5 (fun h0 => ?_) fun h0 => Q5 (fun h1 => ?_) fun h1 => ?_ <;> simp only [decide_eq_true_eq,decide_eq_false_iff_not] at *
 · rw [Q2 (by omega)];rfl
 · rw [Q2 (by omega)];rfl
 · rw [ZJ (by omega),Int.fdiv_one,and8]
noncomputable def um_7 := um_6.addSpec 58 QlX
theorem QlY : Qi Tryz.prog s25 um_7 := QlW.addEv Qb fun args d h => by
 unfold QlX at h
 split at h
 · unfold Qsf at h;have h1 := congrArg Prod.fst (Option.some.inj h);obtain rfl : _ = d := congrArg Prod.snd (Option.some.inj h);exact ⟨by simp [D.refs],20,Qt2 _ h1⟩
 · cases h
def Qsh (w : Int) : Option (Bool × D RC) := some (true,.int .i64 (inWord w % 256))
def QlZ : List (D RC) -> Option (Bool × D RC)
 | [.int .i64 w] => Qsh w
 | _ => none
noncomputable def Qsi (w : Int) := evF s25 um_7 20 115 [.int .i64 w]
theorem Qt3 (w : Int) : Qsi w = (let Z0 : DO_ := some (D.int .i64 0);bif decide (w < (0 : Int)) then Z0 else bif decide ((1099510841343 : Int) < w) then Z0 else some (D.int .i64 (bits .i64 (fun (x : Nat) (u v : BitVec x) => u &&& v) w (255 : Int)))) := by kernel_rfl
theorem Qt4 (w : Int) (h : (true) = true) : Qsi w = some (.int .i64 (inWord w % 256)) := by
 (rw [Qt3];conv => zeta)
 refine Q5 (fun h0 => ?_) fun h0 => Q5 (fun h1 => ?_) fun h1 => ?_ <;> simp only [decide_eq_true_eq,decide_eq_false_iff_not] at *
 · rw [Q2 (by omega)];rfl
 · rw [Q2 (by omega)];rfl
 · rw [ZJ (by omega),and8]
noncomputable def um_8 := um_7.addSpec 115 QlZ
theorem Ql0 : Qi Tryz.prog s25 um_8 := QlY.addEv Qb fun args d h => by
 unfold QlZ at h
 split at h
 · unfold Qsh at h;have h1 := congrArg Prod.fst (Option.some.inj h);obtain rfl : _ = d := congrArg Prod.snd (Option.some.inj h);exact ⟨by simp [D.refs],20,Qt4 _ h1⟩
 · cases h
open Go.Proofs
def Qsj (k : Int) (a : Int) (b : Int) (v : Int) (g : Int) (tx : List UInt8) (c : Bool) (ar : List Int) : Option (Bool × D RC) := some (decide (0 <= k /\ k <= 7) && (lenOK tx.length && lenOK ar.length),.bool (ZT k a b v g tx ar))
def Ql1 : List (D RC) -> Option (Bool × D RC)
 | [.acons (.int .i8 k) (.acons (.int .i64 a) (.acons (.int .i64 b) (.acons (.int .i64 v) (.acons (.int .i64 g) (.acons (.str tx) (.acons (.sl .int c ar) .anil))))))] => Qsj k a b v g tx c ar
 | _ => none
noncomputable def ZK (k : Int) (a : Int) (b : Int) (v : Int) (g : Int) (tx : List UInt8) (c : Bool) (ar : List Int) := evF s25 um_8 100 188 [.acons (.int .i8 k) (.acons (.int .i64 a) (.acons (.int .i64 b) (.acons (.int .i64 v) (.acons (.int .i64 g) (.acons (.str tx) (.acons (.sl (C := RC) .int c ar) .anil))))))]
theorem QpW (a b v g : Int) (tx : List UInt8) (c : Bool) (ar : List Int) : ZK 0 a b v g tx c ar = (let Z0 : Int := (-1 : Int);let Z1 : DO_ := some (D.bool false);let Z2 : Bool := lenOK ar.length;let Z3 : Int := (↑ar.length : Int);let Z4 : DO_ := bif tx == Array.toList #[] then bif Z2 then bif Z3 == (0 : Int) then some (D.bool true) else Z1 else none else Z1;let Z5 : DO_ := bif b == (0 : Int) then bif v == (0 : Int) then bif g == (0 : Int) then Z4 else Z4 else Z1 else Z1;bif decide (b < Z0) then Z1 else bif decide ((1152921504606846976 : Int) < b) then Z1 else bif decide (v < Z0) then Z1 else bif decide ((1152921504606846976 : Int) < v) then Z1 else bif decide (g < Z0) then Z1 else bif decide ((1152921504606846976 : Int) < g) then Z1 else bif Z2 then bif decide ((96 : Int) < Z3) then Z1 else bif lenOK tx.length then bif decide ((640 : Int) < (↑tx.length : Int)) then Z1 else bif decide (a < (0 : Int)) then Z1 else bif decide ((4095 : Int) < a) then Z1 else bif a == (0 : Int) then Z5 else Z5 else none else none) := by kernel_rfl
theorem QpX (a b v g : Int) (tx : List UInt8) (c : Bool) (ar : List Int) : ZK 1 a b v g tx c ar = (let Z0 : Int := (-1 : Int);let Z1 : DO_ := some (D.bool false);let Z2 : Bool := lenOK ar.length;let Z3 : Int := (↑ar.length : Int);let Z4 : DO_ := bif tx == Array.toList #[] then bif Z2 then bif Z3 == (0 : Int) then some (D.bool true) else Z1 else none else Z1;let Z5 : DO_ := bif g == (0 : Int) then Z4 else Z4;let Z6 : DO_ := bif b == (0 : Int) then bif v == (0 : Int) then Z5 else Z5 else Z1;bif decide (b < Z0) then Z1 else bif decide ((1152921504606846976 : Int) < b) then Z1 else bif decide (v < Z0) then Z1 else bif decide ((1152921504606846976 : Int) < v) then Z1 else bif decide (g < Z0) then Z1 else bif decide ((1152921504606846976 : Int) < g) then Z1 else bif Z2 then bif decide ((96 : Int) < Z3) then Z1 else bif lenOK tx.length then bif decide ((640 : Int) < (↑tx.length : Int)) then Z1 else bif decide (a < (0 : Int)) then Z1 else bif decide ((4095 : Int) < a) then Z1 else bif a == (0 : Int) then Z6 else Z6 else none else none) := by kernel_rfl
theorem QpY (a b v g : Int) (tx : List UInt8) (c : Bool) (ar : List Int) : ZK 2 a b v g tx c ar = (let Z0 : Int := (-1 : Int);let Z1 : DO_ := some (D.bool false);let Z2 : Bool := lenOK ar.length;let Z3 : Int := (↑ar.length : Int);let Z4 : DO_ := bif tx == Array.toList #[] then bif Z2 then bif Z3 == (0 : Int) then some (D.bool true) else Z1 else none else Z1;let Z5 : DO_ := bif g == (0 : Int) then Z4 else Z4;let Z6 : DO_ := bif v == (0 : Int) then Z5 else Z5;let Z7 : DO_ := bif b == (0 : Int) then Z6 else Z6;bif decide (b < Z0) then Z1 else bif decide ((1152921504606846976 : Int) < b) then Z1 else bif decide (v < Z0) then Z1 else bif decide ((1152921504606846976 : Int) < v) then Z1 else bif decide (g < Z0) then Z1 else bif decide ((1152921504606846976 : Int) < g) then Z1 else bif Z2 then bif decide ((96 : Int) < Z3) then Z1 else bif lenOK tx.length then bif decide ((640 : Int) < (↑tx.length : Int)) then Z1 else bif decide (a < (0 : Int)) then Z1 else bif decide ((4095 : Int) < a) then Z1 else bif a == (0 : Int) then Z7 else Z7 else none else none) := by kernel_rfl
theorem QpZ (a b v g : Int) (tx : List UInt8) (c : Bool) (ar : List Int) : ZK 3 a b v g tx c ar = (let Z0 : Int := (-1 : Int);let Z1 : DO_ := some (D.bool false);let Z2 : Bool := lenOK ar.length;let Z3 : Int := (↑ar.length : Int);let Z4 : DO_ := bif g == (0 : Int) then bif tx == Array.toList #[] then bif Z2 then bif Z3 == (0 : Int) then some (D.bool true) else Z1 else none else Z1 else Z1;let Z5 : DO_ := bif b == (0 : Int) then bif v == (0 : Int) then Z4 else Z4 else Z1;bif decide (b < Z0) then Z1 else bif decide ((1152921504606846976 : Int) < b) then Z1 else bif decide (v < Z0) then Z1 else bif decide ((1152921504606846976 : Int) < v) then Z1 else bif decide (g < Z0) then Z1 else bif decide ((1152921504606846976 : Int) < g) then Z1 else bif Z2 then bif decide ((96 : Int) < Z3) then Z1 else bif lenOK tx.length then bif decide ((640 : Int) < (↑tx.length : Int)) then Z1 else bif decide (a < (0 : Int)) then Z1 else bif decide ((4095 : Int) < a) then Z1 else bif a == (0 : Int) then Z5 else Z5 else none else none) := by kernel_rfl
theorem Qp0 (a b v g : Int) (tx : List UInt8) (c : Bool) (ar : List Int) : ZK 4 a b v g tx c ar = (let Z0 : Int := (-1 : Int);let Z1 : DO_ := some (D.bool false);let Z2 : Bool := lenOK ar.length;let Z3 : Int := (↑ar.length : Int);let Z4 : DO_ := bif Z2 then bif Z3 == (0 : Int) then some (D.bool true) else Z1 else none;let Z5 : DO_ := bif v == (0 : Int) then bif g == (0 : Int) then bif tx == Array.toList #[] then Z4 else Z4 else Z1 else Z1;let Z6 : DO_ := bif b == (0 : Int) then Z5 else Z5;bif decide (b < Z0) then Z1 else bif decide ((1152921504606846976 : Int) < b) then Z1 else bif decide (v < Z0) then Z1 else bif decide ((1152921504606846976 : Int) < v) then Z1 else bif decide (g < Z0) then Z1 else bif decide ((1152921504606846976 : Int) < g) then Z1 else bif Z2 then bif decide ((96 : Int) < Z3) then Z1 else bif lenOK tx.length then bif decide ((640 : Int) < (↑tx.length : Int)) then Z1 else bif decide (a < (0 : Int)) then Z1 else bif decide ((4095 : Int) < a) then Z1 else bif a == (0 : Int) then Z6 else Z6 else none else none) := by kernel_rfl
theorem Qp1 (a b v g : Int) (tx : List UInt8) (c : Bool) (ar : List Int) : ZK 5 a b v g tx c ar = (let Z0 : Int := (-1 : Int);let Z1 : DO_ := some (D.bool false);let Z2 : Bool := lenOK ar.length;let Z3 : Int := (↑ar.length : Int);bif decide (b < Z0) then Z1 else bif decide ((1152921504606846976 : Int) < b) then Z1 else bif decide (v < Z0) then Z1 else bif decide ((1152921504606846976 : Int) < v) then Z1 else bif decide (g < Z0) then Z1 else bif decide ((1152921504606846976 : Int) < g) then Z1 else bif Z2 then bif decide ((96 : Int) < Z3) then Z1 else bif lenOK tx.length then bif decide ((640 : Int) < (↑tx.length : Int)) then Z1 else bif decide (a < (0 : Int)) then Z1 else bif decide ((4095 : Int) < a) then Z1 else bif a == (0 : Int) then bif b == (0 : Int) then bif v == (0 : Int) then bif g == (0 : Int) then bif tx == Array.toList #[] then bif Z2 then bif Z3 == (0 : Int) then some (D.bool true) else Z1 else none else Z1 else Z1 else Z1 else Z1 else Z1 else none else none) := by kernel_rfl
theorem Qp2 (a b v g : Int) (tx : List UInt8) (c : Bool) (ar : List Int) : ZK 6 a b v g tx c ar = (let Z0 : Int := (-1 : Int);let Z1 : DO_ := some (D.bool false);let Z2 : Bool := lenOK ar.length;let Z3 : Int := (↑ar.length : Int);let Z4 : DO_ := bif b == (0 : Int) then bif v == (0 : Int) then bif g == (0 : Int) then bif tx == Array.toList #[] then bif Z2 then bif Z3 == (0 : Int) then some (D.bool true) else some (D.bool true) else none else Z1 else Z1 else Z1 else Z1;bif decide (b < Z0) then Z1 else bif decide ((1152921504606846976 : Int) < b) then Z1 else bif decide (v < Z0) then Z1 else bif decide ((1152921504606846976 : Int) < v) then Z1 else bif decide (g < Z0) then Z1 else bif decide ((1152921504606846976 : Int) < g) then Z1 else bif Z2 then bif decide ((96 : Int) < Z3) then Z1 else bif lenOK tx.length then bif decide ((640 : Int) < (↑tx.length : Int)) then Z1 else bif decide (a < (0 : Int)) then Z1 else bif decide ((4095 : Int) < a) then Z1 else bif decide ((127 : Int) < a) then Z1 else bif a == (0 : Int) then Z4 else Z4 else none else none) := by kernel_rfl
theorem Qp3 (a b v g : Int) (tx : List UInt8) (c : Bool) (ar : List Int) : ZK 7 a b v g tx c ar = (let Z0 : Int := (-1 : Int);let Z1 : DO_ := some (D.bool false);let Z2 : Bool := lenOK ar.length;let Z3 : Int := (↑ar.length : Int);bif decide (b < Z0) then Z1 else bif decide ((1152921504606846976 : Int) < b) then Z1 else bif decide (v < Z0) then Z1 else bif decide ((1152921504606846976 : Int) < v) then Z1 else bif decide (g < Z0) then Z1 else bif decide ((1152921504606846976 : Int) < g) then Z1 else bif Z2 then bif decide ((96 : Int) < Z3) then Z1 else bif lenOK tx.length then bif decide ((640 : Int) < (↑tx.length : Int)) then Z1 else bif decide (a < (0 : Int)) then Z1 else bif decide ((4095 : Int) < a) then Z1 else bif a == (0 : Int) then bif b == (0 : Int) then bif v == (0 : Int) then bif g == (0 : Int) then bif tx == Array.toList #[] then bif Z2 then bif Z3 == (0 : Int) then some (D.bool true) else some (D.bool true) else none else Z1 else Z1 else Z1 else Z1 else Z1 else none else none) := by kernel_rfl
theorem Qt5 (a b v g : Int) (tx : List UInt8) (c : Bool) (ar : List Int) (h1 : lenOK tx.length = true) (h2 : lenOK ar.length = true) : ZK 0 a b v g tx c ar = some (.bool (ZT 0 a b v g tx ar)) := by
 (rw [QpW];conv => zeta)
 simp only [h1,h2,cond_true];clear h1 h2
 repeat' (first | refine cdD (fun hc => ?_) fun hc => ?_ | refine cdE (fun hc => ?_) fun hc => ?_ | refine cdS (fun hc => ?_) fun hc => ?_)
 all_goals first | exact Qdj (MayA.k0.2 (by omega)) | exact Qdk (fun q => by have q := MayA.k0.1 q;omega)
theorem Qt6 (a b v g : Int) (tx : List UInt8) (c : Bool) (ar : List Int) (h1 : lenOK tx.length = true) (h2 : lenOK ar.length = true) : ZK 1 a b v g tx c ar = some (.bool (ZT 1 a b v g tx ar)) := by
 (rw [QpX];conv => zeta)
 simp only [h1,h2,cond_true];clear h1 h2
 repeat' (first | refine cdD (fun hc => ?_) fun hc => ?_ | refine cdE (fun hc => ?_) fun hc => ?_ | refine cdS (fun hc => ?_) fun hc => ?_)
 all_goals first | exact Qdj (MayA.k1.2 (by omega)) | exact Qdk (fun q => by have q := MayA.k1.1 q;omega)
theorem Qt7 (a b v g : Int) (tx : List UInt8) (c : Bool) (ar : List Int) (h1 : lenOK tx.length = true) (h2 : lenOK ar.length = true) : ZK 2 a b v g tx c ar = some (.bool (ZT 2 a b v g tx ar)) := by
 (rw [QpY];conv => zeta)
 simp only [h1,h2,cond_true];clear h1 h2
 repeat' (first | refine cdD (fun hc => ?_) fun hc => ?_ | refine cdE (fun hc => ?_) fun hc => ?_ | refine cdS (fun hc => ?_) fun hc => ?_)
 all_goals first | exact Qdj (MayA.k2.2 (by omega)) | exact Qdk (fun q => by have q := MayA.k2.1 q;omega)
theorem Qt8 (a b v g : Int) (tx : List UInt8) (c : Bool) (ar : List Int) (h1 : lenOK tx.length = true) (h2 : lenOK ar.length = true) : ZK 3 a b v g tx c ar = some (.bool (ZT 3 a b v g tx ar)) := by
 (rw [QpZ];conv => zeta)
 simp only [h1,h2,cond_true];clear h1 h2
 repeat' (first | refine cdD (fun hc => ?_) fun hc => ?_ | refine cdE (fun hc => ?_) fun hc => ?_ | refine cdS (fun hc => ?_) fun hc => ?_)
 all_goals first | exact Qdj (MayA.k3.2 (by omega)) | exact Qdk (fun q => by have q := MayA.k3.1 q;omega)
theorem Qt9 (a b v g : Int) (tx : List UInt8) (c : Bool) (ar : List Int) (h1 : lenOK tx.length = true) (h2 : lenOK ar.length = true) : ZK 4 a b v g tx c ar = some (.bool (ZT 4 a b v g tx ar)) := by
 (rw [Qp0];conv => zeta)
 simp only [h1,h2,cond_true];clear h1 h2
 repeat' (first | refine cdD (fun hc => ?_) fun hc => ?_ | refine cdE (fun hc => ?_) fun hc => ?_ | refine cdS (fun hc => ?_) fun hc => ?_)
 all_goals first | exact Qdj (MayA.k4.2 (by omega)) | exact Qdk (fun q => by have q := MayA.k4.1 q;omega)
theorem Qua (a b v g : Int) (tx : List UInt8) (c : Bool) (ar : List Int) (h1 : lenOK tx.length = true) (h2 : lenOK ar.length = true) : ZK 5 a b v g tx c ar = some (.bool (ZT 5 a b v g tx ar)) := by
 (rw [Qp1];conv => zeta)
 simp only [h1,h2,cond_true];clear h1 h2
 repeat' (first | refine cdD (fun hc => ?_) fun hc => ?_ | refine cdE (fun hc => ?_) fun hc => ?_ | refine cdS (fun hc => ?_) fun hc => ?_)
 all_goals first | exact Qdj (MayA.k5.2 (by omega)) | exact Qdk (fun q => by have q := MayA.k5.1 q;omega)
theorem Qub (a b v g : Int) (tx : List UInt8) (c : Bool) (ar : List Int) (h1 : lenOK tx.length = true) (h2 : lenOK ar.length = true) : ZK 6 a b v g tx c ar = some (.bool (ZT 6 a b v g tx ar)) := by
 (rw [Qp2];conv => zeta)
 simp only [h1,h2,cond_true];clear h1 h2
 repeat' (first | refine cdD (fun hc => ?_) fun hc => ?_ | refine cdE (fun hc => ?_) fun hc => ?_ | refine cdS (fun hc => ?_) fun hc => ?_)
 all_goals first | exact Qdj (MayA.k6.2 (by omega)) | exact Qdk (fun q => by have q := MayA.k6.1 q;omega)
theorem Quc (a b v g : Int) (tx : List UInt8) (c : Bool) (ar : List Int) (h1 : lenOK tx.length = true) (h2 : lenOK ar.length = true) : ZK 7 a b v g tx c ar = some (.bool (ZT 7 a b v g tx ar)) := by
 (rw [Qp3];conv => zeta)
 simp only [h1,h2,cond_true];clear h1 h2
 repeat' (first | refine cdD (fun hc => ?_) fun hc => ?_ | refine cdE (fun hc => ?_) fun hc => ?_ | refine cdS (fun hc => ?_) fun hc => ?_)
 all_goals first | exact Qdj (MayA.k7.2 (by omega)) | exact Qdk (fun q => by have q := MayA.k7.1 q;omega)
theorem Qud (k : Int) (a : Int) (b : Int) (v : Int) (g : Int) (tx : List UInt8) (c : Bool) (ar : List Int) (h : (decide (0 <= k /\ k <= 7) && (lenOK tx.length && lenOK ar.length)) = true) : ZK k a b v g tx c ar = some (.bool (ZT k a b v g tx ar)) := by
 rw [Bool.and_eq_true,Bool.and_eq_true,decide_eq_true_eq] at h;obtain ⟨h0,h1,h2⟩ := h;have hs : ((((((k = 0 \/ k = 1) \/ k = 2) \/ k = 3) \/ k = 4) \/ k = 5) \/ k = 6) \/ k = 7 := by omega
 rcases hs with ((((((rfl | rfl) | rfl) | rfl) | rfl) | rfl) | rfl) | rfl
 · exact Qt5 a b v g tx c ar h1 h2
 · exact Qt6 a b v g tx c ar h1 h2
 · exact Qt7 a b v g tx c ar h1 h2
 · exact Qt8 a b v g tx c ar h1 h2
 · exact Qt9 a b v g tx c ar h1 h2
 · exact Qua a b v g tx c ar h1 h2
 · exact Qub a b v g tx c ar h1 h2
 · exact Quc a b v g tx c ar h1 h2
noncomputable def un_1 := um_8.addSpec 188 Ql1
theorem Ql2 : Qi Tryz.prog s25 un_1 := Ql0.addEv Qb fun args d h => by
 unfold Ql1 at h
 split at h
 · unfold Qsj at h;have h1 := congrArg Prod.fst (Option.some.inj h);obtain rfl : _ = d := congrArg Prod.snd (Option.some.inj h);exact ⟨by simp [D.refs],100,Qud _ _ _ _ _ _ _ _ h1⟩
 · cases h
end Go.Ev
