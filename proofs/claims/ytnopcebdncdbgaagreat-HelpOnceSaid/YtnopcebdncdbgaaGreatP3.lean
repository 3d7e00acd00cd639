/-
  A part of the proof of a statement of this seat: the model is run over values by content, proved sound; what the functions come to. No condition beyond the given statements. (text 4)
-/
import Derived.Test.YtnopcebdncdbgaaGreatP2
namespace Go.Ev
open Go.Proofs
set_option maxRecDepth 100000
set_option linter.unusedVariables false
set_option linter.unusedSimpArgs false
structure QcW where
 n:Int
 w:Int
 i:Nat
def QbN (n:Int) (w:Int) (i:Nat):Env RC := [(0,.int .i64 n),(1,.int .i64 w),(5,.int .i64 (i:Int))]
def Ky (n:Int) (w:Int) (i:Nat):List (Obj RC) := []
noncomputable def Qfx (n:Int) (w:Int) (i:Nat) := rndO s25 uc_2 159 4 40 0 [0,1,5] [0] [] (QbN n w i) (Ky n w i)
theorem QjX (n:Int) (w:Int) (i:Nat):Qfx n w i = (bif decide ((↑i:Int) < w) then some ((X.normal,[(0,D.int .i64 (IntKind.wrap .i64 (Int.tdiv n (256:Int)))),(1,D.int .i64 w),(5,D.int .i64 (IntKind.wrap .i64 ((↑i:Int) + (1:Int))))]),[]) else some ((X.exit (0:Nat),[(0,D.int .i64 n)]),[])) := by kernel_rfl
def VJ (n:Int) (w:Int) (i:Nat):RT RC := .leaf (.exit 0) [(0,.int .i64 (n / 256 ^ (w.toNat - i)))] []
def Zv (n:Int) (w:Int) (i:Nat):Prop := 0 <= n /\ n <= 9223372036854775807 /\ (i:Int) <= w /\ w <= 6
def Zx:QU RC QcW where
 k := 0
 canon q := QbN q.n q.w q.i
 objs q := Ky q.n q.w q.i
 fin q := VJ q.n q.w q.i
 Inv q := Zv q.n q.w q.i
 μ q := q.w.toNat - q.i
theorem QcX (n:Int) (w:Int) (i:Nat) (hI:Zv n w i):Leaf (Qfx n w i) (LedR Zx ⟨n,w,i⟩) := by
 rw [QjX];unfold Zv at hI;obtain ⟨h1,h2,h3,h4⟩ := hI
 by_cases hlt:(i:Int) < w
 · have w_succ:IntKind.i64.wrap ((i:Int) + 1) = ((i + 1:Nat):Int) := by rw [Qb (by omega) (by omega)];simp
   have hd:IntKind.i64.wrap (n.tdiv 256) = n / 256 := by rw [Int.tdiv_eq_ediv_of_nonneg h1];exact Qb (by omega) (by omega)
   simp only [hlt,decide_true,cond_true,w_succ,hd];refine Qw ⟨n / 256,w,i + 1⟩ (by simp only [Zx,Zv];omega) (by simp only [Zx];omega) ?_ rfl rfl
   simp only [Zx,VJ];have:w.toNat - i = (w.toNat - (i + 1)) + 1 := by omega
   rw [this,Int.pow_succ',Int.ediv_ediv_of_nonneg (by omega)]
 · have hi:w.toNat - i = 0 := by omega
   simp only [hlt,decide_false,cond_false];exact Qn [] (by simp [Zx,VJ,hi,RT.val]) rfl
def QbO (env:Env RC) (os:List (Obj RC)):Option (Bool × QcW) := match env,os with
 | [(0,.int .i64 n),(1,.int .i64 w),(5,.int .i64 x0)],[] => Qz (true) (decide (x0 = 0) && decide (0 <= n /\ n <= 9223372036854775807 /\ 0 <= w /\ w <= 6),⟨n,w,0⟩)
 | _,_ => none
noncomputable def ud_1 := uc_2.addLoop 159 4 (sumR s25 [] [0,1,5] Zx QbO)
theorem QjY:Qh Tryz.prog s25 ud_1 := by
 refine QjW.addRoundsR Qa (by kernel_rfl) Zx 40 [0,1,5] [0] [] [0,1,5] QbO (fun q hI => ?_) ?_
 · obtain ⟨n,w,i⟩ := q;refine ⟨?_,?_,QcX n w i hI⟩
   · simp_all [Ql,Zx,QbN,Ky,Zv,D.refs,Obj.refs,rEnc]
   · simp_all [Zx,VJ,Ky,Zv,RT.refsOK,Ql,D.refs,Obj.refs,rEnc]
 · intro env os b q hd_ hb;unfold QbO at hd_
   split at hd_
   · obtain ⟨hs,hd_⟩ := Qi hd_;cases hd_;simp only [Bool.and_eq_true,decide_eq_true_eq] at hb;obtain ⟨rfl,hq⟩ := hb;exact ⟨by simp only [Zx,Zv];omega,rfl,rfl⟩
   · cases hd_
def Qfy (n:Int) (w:Int):Option (Bool × D RC) := some (decide (n <= 9223372036854775807 /\ 1 <= w /\ w <= 6) && QM n w.toNat,.bool true)
def QcY:List (D RC) -> Option (Bool × D RC)
 | [.int .i64 n,.int .i64 w] => Qfy n w
 | _ => none
noncomputable def Qfz (n:Int) (w:Int) := evF s25 ud_1 40 159 [.int .i64 n,.int .i64 w]
theorem QjZ (n:Int) (w:Int):Qfz n w = (let Z0:DO_ := some (D.bool false);bif decide (w < (1:Int)) then Z0 else bif decide ((6:Int) < w) then Z0 else bif decide (n < (0:Int)) then Z0 else bif decide ((0:Int) <= n /\ n <= (9223372036854775807:Int) /\ (0:Int) <= w /\ w <= (6:Int)) then some (D.bool (n / (256:Int) ^ (Int.toNat w - 0) == (0:Int))) else none) := by kernel_rfl
theorem Qj0 (n:Int) (w:Int) (h:(decide (n <= 9223372036854775807 /\ 1 <= w /\ w <= 6) && QM n w.toNat) = true):Qfz n w = some (.bool true) := by
 (rw [QjZ];conv => zeta)
 simp only [Bool.and_eq_true,decide_eq_true_eq] at h;obtain ⟨⟨hn,hw1,hw6⟩,hf⟩ := h;have h0:0 <= n := (Zk.1 hf).1;have w1:¬ w < 1 := by omega
 have w6:¬ 6 < w := by omega
 have n0:¬ n < 0 := by omega
 have hc:(0 <= n /\ n <= 9223372036854775807 /\ 0 <= w /\ w <= 6) := by omega
 have hp:(0:Int) < 256 ^ w.toNat := Int.pow_pos (by decide)
 have hz:n / 256 ^ w.toNat = 0 := (Int.ediv_eq_zero_iff_of_pos' h0 hp).2 (Zk.1 hf).2;rw [decide_eq_false w1,decide_eq_false w6,decide_eq_false n0,decide_eq_true hc];simp only [cond_false,cond_true,Nat.sub_zero,hz];rfl
noncomputable def ud_2 := ud_1.addSpec 159 QcY
theorem Qj1:Qh Tryz.prog s25 ud_2 := QjY.addEv Qa fun args d h => by
 unfold QcY at h
 split at h
 · unfold Qfy at h;have h1 := congrArg Prod.fst (Option.some.inj h);obtain rfl:_ = d := congrArg Prod.snd (Option.some.inj h);exact ⟨by simp [D.refs],40,Qj0 _ _ h1⟩
 · cases h
structure QfA where
 c:Bool
 b:List UInt8
 a:Int
 i:Int
 m:Nat
def Qeq (c:Bool) (b:List UInt8) (a:Int) (i:Int) (m:Nat):Env RC := [(0,.sl (C := RC) .u8 c b),(1,.int .i64 a),(9,.int .i64 i),(8,.int .i64 (m:Int))]
def QbP (c:Bool) (b:List UInt8) (a:Int) (i:Int) (m:Nat):List (Obj RC) := []
noncomputable def Qj2 (c:Bool) (b:List UInt8) (a:Int) (i:Int) (m:Nat) := rndO s25 ud_2 97 7 40 0 [0,1,9,8] [8] [] (Qeq c b a i m) (QbP c b a i m)
theorem Qpb (c:Bool) (b:List UInt8) (a:Int) (i:Int) (m:Nat):Qj2 c b a i m = (let Z0:Int := IntKind.wrap .i64 (a + i);bif decide ((0:Int) <= i) then bif decide ((0:Int) <= Z0 /\ Z0 < (↑b.length:Int)) then some ((X.normal,[(0,D.sl RTy.u8 c b),(1,D.int .i64 a),(9,D.int .i64 (IntKind.wrap .i64 (i - (1:Int)))),(8,D.int .i64 (IntKind.wrap .i64 (IntKind.wrap .i64 ((256:Int) * (↑m:Int)) + IntKind.wrap .i64 (↑(UInt8.toNat (List.getD b Z0.toNat (UInt8.ofBitVec (BitVec.ofNat (8:Nat) (nat_lit 0))))):Int))))]),[]) else none else some ((X.exit (0:Nat),[(8,D.int .i64 (↑m:Int))]),[])) := by kernel_rfl
def Js (c:Bool) (b:List UInt8) (a:Int) (i:Int) (m:Nat):RT RC := .leaf (.exit 0) [(8,.int .i64 ((m * 256 ^ (i + 1).toNat + Jq ((b.drop a.toNat).take (i + 1).toNat):Nat):Int))] []
def YD (c:Bool) (b:List UInt8) (a:Int) (i:Int) (m:Nat):Prop := -1 <= i /\ i <= 5 /\ 0 <= a /\ a + i + 1 <= b.length /\ b.length <= 1000000000000 /\ m < 256 ^ (5 - i).toNat
def Vl:QU RC QfA where
 k := 0
 canon q := Qeq q.c q.b q.a q.i q.m
 objs q := QbP q.c q.b q.a q.i q.m
 fin q := Js q.c q.b q.a q.i q.m
 Inv q := YD q.c q.b q.a q.i q.m
 μ q := (q.i + 1).toNat
theorem Qer (c:Bool) (b:List UInt8) (a:Int) (i:Int) (m:Nat) (hI:YD c b a i m):Leaf (Qj2 c b a i m) (LedR Vl ⟨c,b,a,i,m⟩) := by
 (rw [Qpb];conv => zeta)
 unfold YD at hI;obtain ⟨h1,h2,h3,h4,h5,h6⟩ := hI
 by_cases hlt:0 <= i
 · have w1:IntKind.i64.wrap (a + i) = a + i := Qb (by omega) (by omega)
   have w2:IntKind.i64.wrap (i - 1) = i - 1 := Qb (by omega) (by omega)
   have d1:decide (0 <= a + i /\ a + i < b.length) = true := by simp;omega
   have hm:m < 256 ^ 5 := Nat.lt_of_lt_of_le h6 (Nat.pow_le_pow_right (by omega) (by omega))
   have hx := (b.getD (a + i).toNat ⟨0#8⟩).toNat_lt;have w3:IntKind.i64.wrap (256 * (m:Int)) = ((256 * m:Nat):Int) := by rw [Qb (by omega) (by omega)];simp
   have w4:IntKind.i64.wrap (((256 * m:Nat):Int) + ((b.getD (a + i).toNat ⟨0#8⟩).toNat:Int)) = ((256 * m + (b.getD (a + i).toNat ⟨0#8⟩).toNat:Nat):Int) := by
    rw [Qb (by omega) (by omega)];simp
   simp only [hlt,decide_true,cond_true,w1,w2,d1,w3,Qvo,w4];have hk:(5 - (i - 1)).toNat = (5 - i).toNat + 1 := by omega
   have hI':YD c b a (i - 1) (256 * m + (b.getD (a + i).toNat ⟨0#8⟩).toNat) := ⟨by omega,by omega,h3,by omega,h5,by rw [hk,Nat.pow_succ];omega⟩
   refine Qw ⟨c,b,a,i - 1,256 * m + (b.getD (a + i).toNat ⟨0#8⟩).toNat⟩ hI' (by simp only [Vl];omega) ?_ rfl rfl
   · simp only [Vl,Js];obtain ⟨k,rfl⟩:∃ k:Nat,i = k := ⟨i.toNat,by omega⟩
     obtain ⟨p,rfl⟩:∃ p:Nat,a = p := ⟨a.toNat,by omega⟩
     have e1:((k:Int) - 1 + 1).toNat = k := by omega
     have e2:((k:Int) + 1).toNat = k + 1 := by omega
     have e3:((p:Int) + (k:Int)).toNat = p + k := by omega
     have e4:((p:Int)).toNat = p := by omega
     rw [e1,e2,e3,e4];have hl:((b.drop p).take k).length = k := by simp;omega
     have hg:(b.drop p)[k]? = some (b.getD (p + k) ⟨0#8⟩) := by
      simp [List.getElem?_drop,show p + k < b.length by omega]
     rw [List.take_add_one,Ke,hl,hg];simp only [Option.toList_some,Jq]
     have:(256 * m + (b.getD (p + k) ⟨0#8⟩).toNat) * 256 ^ k + Jq ((b.drop p).take k) = m * 256 ^ (k + 1) + (Jq ((b.drop p).take k) + 256 ^ k * ((b.getD (p + k) ⟨0#8⟩).toNat + 256 * 0)) := by
      rw [Nat.pow_succ,Nat.add_mul,Nat.mul_comm 256 m,Nat.mul_assoc,Nat.mul_comm 256 (256 ^ k),Nat.mul_comm (b.getD (p + k) ⟨0#8⟩).toNat];simp;omega
     rw [this]
 · have e0:(i + 1).toNat = 0 := by omega
   simp only [hlt,decide_false,cond_false];exact Qn [] (by simp [Vl,Js,e0,RT.val,Jq]) rfl
def Qes (env:Env RC) (os:List (Obj RC)):Option (Bool × QfA) := match env,os with
 | [(0,.sl .u8 c b),(1,.int .i64 a),(9,.int .i64 i),(8,.int .i64 x0)],[] => Qz (true) (decide (x0 = 0) && decide (-1 <= i /\ i <= 5 /\ 0 <= a /\ a + i + 1 <= b.length /\ b.length <= 1000000000000),⟨c,b,a,i,0⟩)
 | _,_ => none
noncomputable def ud_3 := ud_2.addLoop 97 7 (sumR s25 [] [0,1,9,8] Vl Qes)
theorem Qj3:Qh Tryz.prog s25 ud_3 := by
 refine Qj1.addRoundsR Qa (by kernel_rfl) Vl 40 [0,1,9,8] [8] [] [0,1,9,8] Qes (fun q hI => ?_) ?_
 · obtain ⟨c,b,a,i,m⟩ := q;refine ⟨?_,?_,Qer c b a i m hI⟩
   · simp_all [Ql,Vl,Qeq,QbP,YD,D.refs,Obj.refs,rEnc]
   · simp_all [Vl,Js,QbP,YD,RT.refsOK,Ql,D.refs,Obj.refs,rEnc]
 · intro env os b q hd_ hb;unfold Qes at hd_
   split at hd_
   · obtain ⟨hs,hd_⟩ := Qi hd_;cases hd_;simp only [Bool.and_eq_true,decide_eq_true_eq] at hb;obtain ⟨rfl,h⟩ := hb;exact ⟨⟨h.1,h.2.1,h.2.2.1,h.2.2.2.1,h.2.2.2.2,Nat.pow_pos (by omega)⟩,rfl,rfl⟩
   · cases hd_
def Qj4 (c:Bool) (b:List UInt8) (a:Int) (w:Int):Option (Bool × D RC) := some (decide (b.length <= 1000000000000),.tup (.acons (.int .i64 (getP b a w).1) (.acons (.int .i64 (getP b a w).2) .anil)))
def QfB:List (D RC) -> Option (Bool × D RC)
 | [.sl .u8 c b,.int .i64 a,.int .i64 w] => Qj4 c b a w
 | _ => none
noncomputable def Qj5 (c:Bool) (b:List UInt8) (a:Int) (w:Int) := evF s25 ud_3 40 97 [.sl (C := RC) .u8 c b,.int .i64 a,.int .i64 w]
theorem Qpc (c:Bool) (b:List UInt8) (a:Int) (w:Int):Qj5 c b a w = (let Z0:D RC := D.int .i64 0;let Z1:DO_ := some (D.tup (D.acons Z0 (D.acons (D.int .i64 2) .anil)));let Z2:DO_ := some (D.tup (D.acons Z0 (D.acons (D.int .i64 50) .anil)));let Z3:Nat := List.length b;let Z4:Int := (↑Z3:Int);let Z5:Int := IntKind.wrap .i64 (w - (1:Int));let Z6:Nat := Int.toNat (Z5 + (1:Int));bif decide (w < (1:Int)) then Z1 else bif decide ((6:Int) < w) then Z1 else bif decide (a < (0:Int)) then Z2 else bif lenOK Z3 then bif decide (Z4 < a) then Z2 else bif lenOK Z3 then bif decide (IntKind.wrap .i64 (Z4 - a) < w) then Z2 else bif decide ((-1:Int) <= Z5 /\ Z5 <= (5:Int) /\ (0:Int) <= a /\ a + Z5 + (1:Int) <= Z4 /\ Z3 <= (1000000000000:Nat)) then some (D.tup (D.acons (D.int .i64 (↑((0:Nat) * (256:Nat) ^ Z6 + Jq (List.take Z6 (List.drop a.toNat b))):Int)) (.acons Z0 .anil))) else none else none else none) := by kernel_rfl
theorem Qpd (c:Bool) (b:List UInt8) (a:Int) (w:Int) (h:(decide (b.length <= 1000000000000)) = true):Qj5 c b a w = some (.tup (.acons (.int .i64 (getP b a w).1) (.acons (.int .i64 (getP b a w).2) .anil))) := by
 (rw [Qpc];conv => zeta)
 have hl := of_decide_eq_true h;have hl':lenOK b.length = true := Qk (by omega)
 simp only [hl']
 by_cases hw:1 <= w /\ w <= 6
 · have w1:decide (w < 1) = false := by simp;omega
   have w2:decide (6 < w) = false := by simp;omega
   have w3:(decide (1 <= w) && decide (w <= 6)) = true := by simp;omega
   have w4:IntKind.i64.wrap (w - 1) = w - 1 := Qb (by omega) (by omega)
   simp only [w1,w2,cond_false,cond_true,getP,w3,w4]
   by_cases ha:0 <= a /\ a + w <= b.length
   · have a1:decide (a < 0) = false := by simp;omega
     have a2:decide ((b.length:Int) < a) = false := by simp;omega
     have e1:IntKind.i64.wrap ((b.length:Int) - a) = b.length - a := Qb (by omega) (by omega)
     have a3:decide ((b.length:Int) - a < w) = false := by simp;omega
     have a5:(decide (0 <= a) && decide (a + w <= (b.length:Int))) = true := by simp;omega
     have a6:decide (-1 <= w - 1 /\ w - 1 <= 5 /\ 0 <= a /\ a + (w - 1) + 1 <= (b.length:Int) /\ b.length <= 1000000000000) = true := by simp;omega
     have e2:(w - 1 + 1).toNat = w.toNat := by omega
     simp [a1,a2,e1,a3,a5,a6,e2]
   · have a5:(decide (0 <= a) && decide (a + w <= (b.length:Int))) = false := by simp;omega
     simp only [a5,cond_false]
     by_cases a1:a < 0
     · simp [a1]
     · by_cases a2:(b.length:Int) < a
       · simp [a1,a2]
       · have e1:IntKind.i64.wrap ((b.length:Int) - a) = b.length - a := Qb (by omega) (by omega)
         have a3:decide ((b.length:Int) - a < w) = true := by simp;omega
         simp [a1,a2,e1,a3]
 · have w3:(decide (1 <= w) && decide (w <= 6)) = false := by simp;omega
   simp only [getP,w3]
   by_cases w1:w < 1
   · simp [w1]
   · have w2:6 < w := by omega
     simp [w1,w2]
noncomputable def ud_4 := ud_3.addSpec 97 QfB
theorem Qj6:Qh Tryz.prog s25 ud_4 := Qj3.addEv Qa fun args d h => by
 unfold QfB at h
 split at h
 · unfold Qj4 at h;have h1 := congrArg Prod.fst (Option.some.inj h);obtain rfl:_ = d := congrArg Prod.snd (Option.some.inj h);exact ⟨by simp [D.refs],40,Qpd _ _ _ _ h1⟩
 · cases h
open Go.Proofs
structure Qaa where
 c:Bool
 l:List Qc
 i:Nat
def VK (c:Bool) (l:List Qc) (i:Nat):Env RC := [(0,.sl (C := RC) .write c l),(2,.bool false),(3,.int .i64 (i:Int))]
def VL (c:Bool) (l:List Qc) (i:Nat):List (Obj RC) := []
noncomputable def Qa4 (c:Bool) (l:List Qc) (i:Nat) := rndO s25 ud_4 80 4 40 0 [0,2,3] [2] [] (VK c l i) (VL c l i)
theorem Qet (c:Bool) (l:List Qc) (i:Nat):Qa4 c l i = (let Z0:Int := (↑i:Int);let Z1:Int := (↑l.length:Int);let Z2:Bool := decide ((0:Int) <= Z0 /\ Z0 < Z1);let Z3:Qc := Qc.mk (0:Int) (0:Int);let Z4:Qc := List.getD l Z0.toNat Z3;let Z5:Int := Qc.key Z4;let Z6:RO_ := some ((X.ret,[(2,D.bool false)]),[]);let Z7:Int := IntKind.wrap .i64 (Z0 - (1:Int));let Z8:RO_ := some ((X.normal,[(0,D.sl RTy.write c l),(2,D.bool false),(3,D.int .i64 (IntKind.wrap .i64 (Z0 + (1:Int))))]),[]);bif lenOK l.length then bif decide (Z0 < Z1) then bif Z2 then bif decide (Z5 < (0:Int)) then Z6 else bif Z2 then bif decide ((24:Int) <= Z5) then Z6 else bif Z2 then bif decide (Qc.value Z4 < (0:Int)) then Z6 else bif Z2 then bif decide ((255:Int) < Qc.value Z4) then Z6 else bif decide ((0:Int) < Z0) then bif Z2 then bif decide ((0:Int) <= Z7 /\ Z7 < Z1) then bif decide (Z5 <= Qc.key (List.getD l Z7.toNat Z3)) then Z6 else Z8 else none else none else Z8 else none else none else none else none else some ((X.exit (0:Nat),[(2,D.bool false)]),[]) else none) := by kernel_rfl
def ZH (c:Bool) (l:List Qc) (i:Nat):RT RC := .br (ZF ZL YB l i) (.leaf (.exit 0) [(2,.bool false)] []) (.leaf .ret [(2,.bool false)] [])
def ZI (c:Bool) (l:List Qc) (i:Nat):Prop := i <= l.length /\ l.length <= 9223372036854775807
def QV:QU RC Qaa where
 k := 0
 canon q := VK q.c q.l q.i
 objs q := VL q.c q.l q.i
 fin q := ZH q.c q.l q.i
 Inv q := ZI q.c q.l q.i
 μ q := q.l.length - q.i
theorem QaG (c:Bool) (l:List Qc) (i:Nat) (hI:ZI c l i):Leaf (Qa4 c l i) (LedR QV ⟨c,l,i⟩) := by
 (rw [Qet];conv => zeta)
 unfold ZI at hI;obtain ⟨h1,h2⟩ := hI;have hlk := Qk h2
 by_cases hlt:i < l.length
 · have w_succ:IntKind.i64.wrap ((i:Int) + 1) = ((i + 1:Nat):Int) := by rw [Qb (by omega) (by omega)];simp
   have d_lt:decide ((i:Int) < l.length) = true := by simp;omega
   have d_in:decide (0 <= (i:Int) /\ (i:Int) < l.length) = true := by simp;omega
   have t_nat:((i:Int)).toNat = i := by simp
   have w_pred:IntKind.i64.wrap ((i:Int) - 1) = (i:Int) - 1 := Qb (by omega) (by omega)
   have t_natp:((i:Int) - 1).toNat = i - 1 := by omega
   simp only [w_succ,d_lt,d_in,t_nat,w_pred,t_natp,cond_true];simp only [hlk,cond_true];have hst := K7 ZL YB l i (⟨0,0⟩:Qc) hlt;generalize l.getD i (⟨0,0⟩:Qc) = x at hst ⊢;generalize l.getD (i - 1) (⟨0,0⟩:Qc) = y at hst ⊢
   have hgo:ZL x = true -> (i = 0 \/ YB y x = true) -> Leaf (some ((X.normal,VK c l (i + 1)),[])) (LedR QV ⟨c,l,i⟩) := fun a b =>
    Qw ⟨c,l,i + 1⟩ ⟨hlt,h2⟩ (by simp only [QV];omega) (by simp only [QV,ZH,hst,a];rcases b with b | b <;> simp [b]) rfl rfl
   have hno:¬ (ZL x = true /\ (i = 0 \/ YB y x = true)) -> Leaf (some ((X.ret,[(2,D.bool false)]),[])) (LedR QV ⟨c,l,i⟩) := fun he => Q7 [] (by
    have:ZF ZL YB l i = false := by rw [hst];simp only [Bool.and_eq_false_iff];by_cases a:ZL x = true <;> by_cases b:i = 0 <;> simp_all
    simp [QV,ZH,this,RT.val]) rfl
   simp only [ZL,YB,Qp,Bool.and_eq_true,decide_eq_true_eq] at hgo hno
   by_cases hi:i = 0
   · have d0:decide (0 < (i:Int)) = false := by simp;omega
     simp only [d0,cond_false]
     repeat' (first | (refine Jm.2 ⟨fun hc_ => ?_,fun hc_ => ?_⟩ <;> simp only [decide_eq_true_eq,decide_eq_false_iff_not,beq_iff_eq,beq_eq_false_iff_ne,bne_iff_ne,ne_eq,Bool.not_eq_true,Bool.not_eq_false,bne_eq_false_iff_eq,decide_eq_decide,Bool.true_eq_false,Bool.false_eq_true] at hc_))
     all_goals first | (exfalso;omega) | exact hno (by omega) | (apply hgo <;> omega)
   · have d_pos:decide (0 < (i:Int)) = true := by simp;omega
     have d_inp:decide (0 <= (i:Int) - 1 /\ (i:Int) - 1 < l.length) = true := by simp;omega
     simp only [d_pos,d_inp,cond_true]
     repeat' (first | (refine Jm.2 ⟨fun hc_ => ?_,fun hc_ => ?_⟩ <;> simp only [decide_eq_true_eq,decide_eq_false_iff_not,beq_iff_eq,beq_eq_false_iff_ne,bne_iff_ne,ne_eq,Bool.not_eq_true,Bool.not_eq_false,bne_eq_false_iff_eq,decide_eq_decide,Bool.true_eq_false,Bool.false_eq_true] at hc_))
     all_goals first | (exfalso;omega) | exact hno (by omega) | (apply hgo <;> omega)
 · have hi:i = l.length := by omega
   have c1:decide ((i:Int) < l.length) = false := by simp;omega
   simp only [hlk,c1,cond_true,cond_false];exact Qn [] (by simp [QV,ZH,hi,ZF,Qek,RT.val]) rfl
def J2 (env:Env RC) (os:List (Obj RC)):Option (Bool × Qaa) := match env,os with
 | [(0,.sl .write c l),(2,.bool false),(3,.int .i64 x0)],[] => Qz (true) (decide (x0 = 0) && decide (l.length <= 9223372036854775807),⟨c,l,0⟩)
 | _,_ => none
noncomputable def ue_1 := ud_4.addLoop 80 4 (sumR s25 [] [0,2,3] QV J2)
theorem Qj7:Qh Tryz.prog s25 ue_1 := by
 refine Qj6.addRoundsR Qa (by kernel_rfl) QV 40 [0,2,3] [2] [] [0,2,3] J2 (fun q hI => ?_) ?_
 · obtain ⟨c,l,i⟩ := q;refine ⟨?_,?_,QaG c l i hI⟩
   · simp_all [Ql,QV,VK,VL,ZI,D.refs,Obj.refs,rEnc]
   · simp_all [QV,ZH,VL,ZI,RT.refsOK,Ql,D.refs,Obj.refs,rEnc]
 · intro env os b q hd_ hb;unfold J2 at hd_
   split at hd_
   · obtain ⟨hs,hd_⟩ := Qi hd_;cases hd_;simp only [Bool.and_eq_true,decide_eq_true_eq] at hb;obtain ⟨rfl,hl⟩ := hb;exact ⟨⟨Nat.zero_le _,hl⟩,rfl,rfl⟩
   · cases hd_
def Qab (c:Bool) (l:List Qc):Option (Bool × D RC) := some (lenOK l.length,.bool (Qx l))
def Kg:List (D RC) -> Option (Bool × D RC)
 | [.sl .write c l] => Qab c l
 | _ => none
noncomputable def Qac (c:Bool) (l:List Qc) := evF s25 ue_1 40 80 [.sl (C := RC) .write c l]
theorem QcZ (c:Bool) (l:List Qc):Qac c l = (let Z0:Nat := List.length l;bif lenOK Z0 then bif decide ((4:Int) < (↑Z0:Int)) then some (D.bool false) else bif decide (Z0 <= (9223372036854775807:Nat)) then bif ZF ZL YB l (0:Nat) then some (D.bool true) else some (D.bool false) else none else none) := by kernel_rfl
theorem Qc0 (c:Bool) (l:List Qc) (h:(lenOK l.length) = true):Qac c l = some (.bool (Qx l)) := by
 (rw [QcZ];conv => zeta)
 have h2:l.length <= 9223372036854775807 := YK h;rw [Qx,h]
 by_cases h4:l.length <= 4
 · have:¬ (4:Int) < l.length := by omega
   simp [h4,h2,this];cases ZF ZL YB l 0 <;> rfl
 · have:(4:Int) < l.length := by omega
   simp [h4,this]
noncomputable def ue_2 := ue_1.addSpec 80 Kg
theorem Qj8:Qh Tryz.prog s25 ue_2 := Qj7.addEv Qa fun args d h => by
 unfold Kg at h
 split at h
 · unfold Qab at h;have h1 := congrArg Prod.fst (Option.some.inj h);obtain rfl:_ = d := congrArg Prod.snd (Option.some.inj h);exact ⟨by simp [D.refs],40,Qc0 _ _ h1⟩
 · cases h
def QrL (p:Int) (y:Bool) (c:Bool) (l:List Qc):Option (Bool × D RC) := some (lenOK l.length,.bool (mayB ⟨p,y,l⟩))
def Qj9:List (D RC) -> Option (Bool × D RC)
 | [.acons (.int .i64 p) (.acons (.bool y) (.acons (.sl .write c l) .anil))] => QrL p y c l
 | _ => none
noncomputable def QrM (p:Int) (y:Bool) (c:Bool) (l:List Qc) := evF s25 ue_2 40 98 [.acons (.int .i64 p) (.acons (.bool y) (.acons (.sl (C := RC) .write c l) .anil))]
theorem Qto (p:Int) (y:Bool) (c:Bool) (l:List Qc):QrM p y c l = (let Z0:Bool := lenOK l.length;let Z1:DO_ := some (D.bool false);bif decide ((1:Int) <= p) then bif decide (p <= (1048575:Int)) then bif Z0 then bif Qx l then bif y then some (D.bool true) else bif Z0 then some (D.bool ((↑l.length:Int) == (0:Int))) else none else Z1 else none else Z1 else Z1) := by kernel_rfl
theorem Qtp (p:Int) (y:Bool) (c:Bool) (l:List Qc) (h:(lenOK l.length) = true):QrM p y c l = some (.bool (mayB ⟨p,y,l⟩)) := by
 (rw [Qto];conv => zeta)
 have h3:(((l.length:Nat):Int) = 0) ↔ l.length = 0 := by omega
 simp only [mayB,h,Qp];cases decide (1 <= p) <;> cases decide (p <= 1048575) <;> cases Qx l <;> cases y <;> simp [h3]
 cases l <;> simp
 omega
noncomputable def ue_3 := ue_2.addSpec 98 Qj9
theorem Qka:Qh Tryz.prog s25 ue_3 := Qj8.addEv Qa fun args d h => by
 unfold Qj9 at h
 split at h
 · unfold QrL at h;have h1 := congrArg Prod.fst (Option.some.inj h);obtain rfl:_ = d := congrArg Prod.snd (Option.some.inj h);exact ⟨by simp [D.refs],40,Qtp _ _ _ _ h1⟩
 · cases h
open Go.Proofs
structure Qkb where
 n:Int
 w:Int
 out:List UInt8
 i:Nat
def QfC (n:Int) (w:Int) (out:List UInt8) (i:Nat):Env RC := [(1,.int .i64 n),(2,.int .i64 w),(8,.vs 0 (out.length)),(9,.int .i64 (i:Int))]
def Qad (n:Int) (w:Int) (out:List UInt8) (i:Nat):List (Obj RC) := [.vec (C := RC) .u8 true out]
noncomputable def QrN (n:Int) (w:Int) (out:List UInt8) (i:Nat) := rndO s25 ue_3 110 6 40 1 [1,2,8,9] [8] [.slot 8 0] (QfC n w out i) (Qad n w out i)
theorem Qtq (n:Int) (w:Int) (out:List UInt8) (i:Nat):QrN n w out i = (let Z0:Nat := List.length out;let Z1:List UInt8 := [UInt8.ofNat (IntKind.wrap IntKind.u8 (Int.tmod n (256:Int))).toNat];bif decide ((↑i:Int) < w) then bif Nat.beq Z0 Z0 && Qg (Z0 + List.length Z1) (1:Nat) then some ((X.normal,[(1,D.int .i64 (IntKind.wrap .i64 (Int.tdiv n (256:Int)))),(2,D.int .i64 w),(8,D.vs 0 (Z0 + List.length Z1)),(9,D.int .i64 (IntKind.wrap .i64 ((↑i:Int) + (1:Int))))]),[some (Obj.vec RTy.u8 true (out ++ Z1))]) else none else some ((X.exit (0:Nat),[(8,D.vs 0 Z0)]),[some (Obj.vec RTy.u8 true out)])) := by kernel_rfl
def Kz (n:Int) (w:Int) (out:List UInt8) (i:Nat):RT RC := .leaf (.exit 0) [(8,.vs 0 (out ++ leB n (w.toNat - i)).length)] [.vec (C := RC) .u8 true (out ++ leB n (w.toNat - i))]
def Jt (n:Int) (w:Int) (out:List UInt8) (i:Nat):Prop := 0 <= n /\ n <= 9223372036854775807 /\ (i:Int) <= w /\ w <= 6 /\ out.length <= 1000000 + i
def VU:QU RC Qkb where
 k := 1
 canon q := QfC q.n q.w q.out q.i
 objs q := Qad q.n q.w q.out q.i
 fin q := Kz q.n q.w q.out q.i
 Inv q := Jt q.n q.w q.out q.i
 μ q := q.w.toNat - q.i
theorem Qhq (n:Int) (w:Int) (out:List UInt8) (i:Nat) (hI:Jt n w out i):Leaf (QrN n w out i) (LedR VU ⟨n,w,out,i⟩) := by
 (rw [Qtq];conv => zeta)
 unfold Jt at hI;obtain ⟨h1,h2,h3,h4,h5⟩ := hI
 by_cases hlt:(i:Int) < w
 · have w_succ:IntKind.i64.wrap ((i:Int) + 1) = ((i + 1:Nat):Int) := by rw [Qb (by omega) (by omega)];simp
   obtain ⟨d1,d2,d3⟩ := putD h1 h2;have e1:Qg (out.length + 1) 1 = true := VR (by omega)
   have eb:∀ n:Nat,n.beq n = true := fun n => by simp
   simp only [hlt,decide_true,cond_true,w_succ,d1,putB h1,List.length_cons,List.length_nil,Nat.zero_add,e1,eb,Bool.and_self];refine Qw ⟨n.fdiv 256,w,out ++ [Q1 n],i + 1⟩ (by refine ⟨d2,d3,hlt,h4,?_⟩;simp;omega) (by simp only [VU];omega) ?_ (by simp [VU,QfC]) (by simp [VU,Qad])
   have:w.toNat - i = (w.toNat - (i + 1)) + 1 := by omega
   simp only [VU,Kz,this,leB,List.append_assoc,List.cons_append,List.nil_append]
 · have hi:w.toNat - i = 0 := by omega
   simp only [hlt,decide_false,cond_false];exact Qn (Qad n w out i) (by simp only [VU,Kz,Qad,hi,leB,RT.val,List.append_nil]) rfl
def Qkc (env:Env RC) (os:List (Obj RC)):Option (Bool × Qkb) := match env,os with
 | [(1,.int .i64 n),(2,.int .i64 w),(8,.vs 0 x0),(9,.int .i64 x1)],[.vec .u8 true out] => Qz (true) (decide (x0 = out.length) && decide (x1 = 0) && decide (0 <= n /\ n <= 9223372036854775807 /\ 0 <= w /\ w <= 6 /\ out.length <= 1000000),⟨n,w,out,0⟩)
 | _,_ => none
noncomputable def uf_1 := ue_3.addLoop 110 6 (sumR s25 [.slot 8 0] [1,2,8,9] VU Qkc)
theorem Qkd:Qh Tryz.prog s25 uf_1 := by
 refine Qka.addRoundsR Qa (by kernel_rfl) VU 40 [1,2,8,9] [8] [.slot 8 0] [1,2,8,9] Qkc (fun q hI => ?_) ?_
 · obtain ⟨n,w,out,i⟩ := q;refine ⟨?_,?_,Qhq n w out i hI⟩
   · simp_all [Ql,VU,QfC,Qad,Jt,D.refs,Obj.refs,rEnc]
   · simp_all [VU,Kz,Qad,Jt,RT.refsOK,Ql,D.refs,Obj.refs,rEnc]
 · intro env os b q hd_ hb;unfold Qkc at hd_
   split at hd_
   · obtain ⟨hs,hd_⟩ := Qi hd_;cases hd_;simp only [Bool.and_eq_true,decide_eq_true_eq] at hb;obtain ⟨⟨rfl,rfl⟩,hl⟩ := hb;exact ⟨by refine ⟨hl.1,hl.2.1,by simpa using hl.2.2.1,hl.2.2.2.1,by simpa using hl.2.2.2.2⟩,rfl,rfl⟩
   · cases hd_
structure Qa5 where
 p:Int
 y:Bool
 c:Bool
 l:List Qc
 bs:List UInt8
 i:Nat
def Ju (p:Int) (y:Bool) (c:Bool) (l:List Qc) (bs:List UInt8) (i:Nat):Env RC := [(1,.ptr 0 []),(4,.vs 1 (bs.length)),(7,.int .i64 (i:Int))]
def Yd (p:Int) (y:Bool) (c:Bool) (l:List Qc) (bs:List UInt8) (i:Nat):List (Obj RC) := [.var 56 (.acons (.int .i64 p) (.acons (.bool y) (.acons (.sl (C := RC) .write c l) .anil))),.vec (C := RC) .u8 true bs]
noncomputable def Qc1 (p:Int) (y:Bool) (c:Bool) (l:List Qc) (bs:List UInt8) (i:Nat) := rndO s25 uf_1 53 9 40 2 [1,4,7] [4] [.slot 1 0,.slot 4 0] (Ju p y c l bs i) (Yd p y c l bs i)
theorem Qhr (p:Int) (y:Bool) (c:Bool) (l:List Qc) (bs:List UInt8) (i:Nat):Qc1 p y c l bs i = (let Z0:Int := (↑i:Int);let Z1:Bool := decide ((0:Int) <= Z0 /\ Z0 < (↑l.length:Int));let Z2:Nat := List.length bs;let Z3:Qc := List.getD l Z0.toNat (Qc.mk (0:Int) (0:Int));let Z4:List UInt8 := [UInt8.ofNat (IntKind.wrap IntKind.u8 (Qc.key Z3)).toNat,UInt8.ofNat (IntKind.wrap IntKind.u8 (Qc.value Z3)).toNat];let Z5:Option (Obj RC) := some (Obj.var 56 (.acons (D.int .i64 p) (.acons (D.bool y) (.acons (D.sl RTy.write c l) .anil))));bif lenOK l.length then bif decide (Z0 < (↑l.length:Int)) then bif Z1 then bif Z1 then bif Nat.beq Z2 Z2 && Qg (Z2 + List.length Z4) (1:Nat) then some ((X.normal,[(1,D.ptr 0 []),(4,D.vs 1 (Z2 + List.length Z4)),(7,D.int .i64 (IntKind.wrap .i64 (Z0 + (1:Int))))]),[Z5,some (Obj.vec RTy.u8 true (bs ++ Z4))]) else none else none else none else some ((X.exit (0:Nat),[(4,D.vs 1 Z2)]),[Z5,some (Obj.vec RTy.u8 true bs)]) else none) := by kernel_rfl
def YV (p:Int) (y:Bool) (c:Bool) (l:List Qc) (bs:List UInt8) (i:Nat):RT RC := .leaf (.exit 0) [(4,.vs 1 (bs ++ (l.drop i).flatMap Yq).length)] [.var 56 (.acons (.int .i64 p) (.acons (.bool y) (.acons (.sl (C := RC) .write c l) .anil))),.vec (C := RC) .u8 true (bs ++ (l.drop i).flatMap Yq)]
def Ye (p:Int) (y:Bool) (c:Bool) (l:List Qc) (bs:List UInt8) (i:Nat):Prop := i <= l.length /\ l.length <= 1000000 /\ bs.length <= 1000000 + 2 * i
def Zf:QU RC Qa5 where
 k := 2
 canon q := Ju q.p q.y q.c q.l q.bs q.i
 objs q := Yd q.p q.y q.c q.l q.bs q.i
 fin q := YV q.p q.y q.c q.l q.bs q.i
 Inv q := Ye q.p q.y q.c q.l q.bs q.i
 μ q := q.l.length - q.i
theorem QbQ (p:Int) (y:Bool) (c:Bool) (l:List Qc) (bs:List UInt8) (i:Nat) (hI:Ye p y c l bs i):Leaf (Qc1 p y c l bs i) (LedR Zf ⟨p,y,c,l,bs,i⟩) := by
 (rw [Qhr];conv => zeta)
 unfold Ye at hI;obtain ⟨h1,h2,h3⟩ := hI;have hlk := Qk (show l.length <= 9223372036854775807 by omega)
 by_cases hlt:i < l.length
 · have w_succ:IntKind.i64.wrap ((i:Int) + 1) = ((i + 1:Nat):Int) := by rw [Qb (by omega) (by omega)];simp
   have d_lt:decide ((i:Int) < l.length) = true := by simp;omega
   have d_in:decide (0 <= (i:Int) /\ (i:Int) < l.length) = true := by simp;omega
   have t_nat:((i:Int)).toNat = i := by simp
   simp only [w_succ,d_lt,d_in,t_nat,cond_true];have hd:(l.drop i).flatMap Yq = _ := YC l i Yq hlt (⟨0,0⟩:Qc);generalize l.getD i (⟨0,0⟩:Qc) = x at hd ⊢;have e1:Qg (bs.length + 2) 1 = true := VR (by omega)
   have e2:bs.length.beq bs.length = true := by simp
   simp only [hlk,cond_true,List.length_cons,List.length_nil,Nat.zero_add,Nat.reduceAdd,e1,e2,Bool.and_self];refine Qw ⟨p,y,c,l,bs ++ [Q1 x.key,Q1 x.value],i + 1⟩ (by refine ⟨hlt,h2,?_⟩;simp;omega) (by simp only [Zf];omega) ?_ (by simp [Zf,Ju,Q1]) (by simp [Zf,Yd,Q1])
   simp only [Zf,YV,hd,Yq,List.append_assoc]
 · have hi:i = l.length := by omega
   have c1:decide ((i:Int) < l.length) = false := by simp;omega
   simp only [hlk,cond_true,c1,cond_false];have hd0:l.drop i = [] := List.drop_eq_nil_of_le (by omega)
   exact Qn (Yd p y c l bs i) (by simp only [Zf,YV,Yd,hd0,RT.val,List.flatMap_nil,List.append_nil]) rfl
def Qae (env:Env RC) (os:List (Obj RC)):Option (Bool × Qa5) := match env,os with
 | [(1,.ptr 0 []),(4,.vs 1 x0),(7,.int .i64 x1)],[.var 56 (.acons (.int .i64 p) (.acons (.bool y) (.acons (.sl .write c l) .anil))),.vec .u8 true bs] => Qz (true) (decide (x0 = bs.length) && decide (x1 = 0) && decide (l.length <= 1000000 /\ bs.length <= 1000000),⟨p,y,c,l,bs,0⟩)
 | _,_ => none
noncomputable def uf_2 := uf_1.addLoop 53 9 (sumR s25 [.slot 1 0,.slot 4 0] [1,4,7] Zf Qae)
theorem Qke:Qh Tryz.prog s25 uf_2 := by
 refine Qkd.addRoundsR Qa (by kernel_rfl) Zf 40 [1,4,7] [4] [.slot 1 0,.slot 4 0] [1,4,7] Qae (fun q hI => ?_) ?_
 · obtain ⟨p,y,c,l,bs,i⟩ := q;refine ⟨?_,?_,QbQ p y c l bs i hI⟩
   · simp_all [Ql,Zf,Ju,Yd,Ye,D.refs,Obj.refs,rEnc]
   · simp_all [Zf,YV,Yd,Ye,RT.refsOK,Ql,D.refs,Obj.refs,rEnc]
 · intro env os b q hd_ hb;unfold Qae at hd_
   split at hd_
   · obtain ⟨hs,hd_⟩ := Qi hd_;cases hd_;simp only [Bool.and_eq_true,decide_eq_true_eq] at hb;obtain ⟨⟨rfl,rfl⟩,hl⟩ := hb;exact ⟨⟨Nat.zero_le _,hl.1,hl.2⟩,rfl,rfl⟩
   · cases hd_
def Qc2 (p:Int) (y:Bool) (c:Bool) (l:List Qc):Option (Bool × D RC) := some (lenOK l.length,.tup (.acons (.sl (C := RC) .u8 (!mayB ⟨p,y,l⟩) (bif mayB ⟨p,y,l⟩ then ZG ⟨p,y,l⟩ else [])) (.acons (.int .i64 (bif mayB ⟨p,y,l⟩ then 0 else 2)) .anil)))
def Qa6:List (D RC) -> Option (Bool × D RC)
 | [.acons (.int .i64 p) (.acons (.bool y) (.acons (.sl .write c l) .anil))] => Qc2 p y c l
 | _ => none
noncomputable def Qc3 (p:Int) (y:Bool) (c:Bool) (l:List Qc) := evF s25 uf_2 40 53 [.acons (.int .i64 p) (.acons (.bool y) (.acons (.sl (C := RC) .write c l) .anil))]
theorem Qhs (p:Int) (y:Bool) (c:Bool) (l:List Qc):Qc3 p y c l = (let Z0:Nat := List.length l;let Z1:List UInt8 := [] ++ [] ++ leB p (3:Nat);let Z2:List UInt8 := [UInt8.ofNat (bif y then (1:Int) else (0:Int)).toNat,UInt8.ofNat (IntKind.wrap IntKind.u8 (↑Z0:Int)).toNat];let Z3:Nat := List.length (Z1 ++ Z2);let Z4:List UInt8 := Z1 ++ Z2 ++ List.flatMap Yq (List.drop (0:Nat) l);bif lenOK Z0 then bif !mayB (Rec.mk p y l) then some (D.tup (D.acons (D.sl RTy.u8 true []) (.acons (D.int .i64 2) .anil))) else bif decide (p <= (9223372036854775807:Int) /\ (1:Int) <= (3:Int) /\ (3:Int) <= (6:Int)) && QM p (3:Nat) then bif decide ((0:Int) <= p /\ p <= (9223372036854775807:Int) /\ (0:Int) <= (3:Int) /\ (3:Int) <= (6:Int) /\ (0:Nat) <= (1000000:Nat)) then bif lenOK Z0 then bif decide (List.length Z1 + List.length Z2 = Z3) && true && decide (Z0 <= (1000000:Nat) /\ Z3 <= (1000000:Nat)) then bif Nat.beq Z4.length Z4.length then some (D.tup (D.acons (D.sl RTy.u8 false Z4) (.acons (D.int .i64 0) .anil))) else none else none else none else none else none else none) := by kernel_rfl
theorem Qht (p:Int) (y:Bool) (c:Bool) (l:List Qc) (h:(lenOK l.length) = true):Qc3 p y c l = some (.tup (.acons (.sl (C := RC) .u8 (!mayB ⟨p,y,l⟩) (bif mayB ⟨p,y,l⟩ then ZG ⟨p,y,l⟩ else [])) (.acons (.int .i64 (bif mayB ⟨p,y,l⟩ then 0 else 2)) .anil))) := by
 (rw [Qhs];conv => zeta)
 rw [h];have hlen := YK h;cases hm:mayB ⟨p,y,l⟩
 · rfl
 · obtain ⟨hp,hl,hw⟩ := Jr hm;have f3 := Qvp (n := p) (by rw [QB];omega)
   have hy:UInt8.ofNat (Int.toNat (bif y then 1 else 0)) = Q1 (bif y then 1 else 0) := by cases y <;> rfl
   have hb:UInt8.ofNat (IntKind.u8.wrap (l.length:Int)).toNat = Q1 l.length := rfl;have e1:(p <= 9223372036854775807 /\ 1 <= (3:Int) /\ (3:Int) <= 6) := by omega
   have e2:l.length <= 1000000 := by omega
   have e3:0 <= p := by omega
   have e4:p <= 9223372036854775807 := by omega
   simp [hy,hb,f3,e1,e2,e3,e4,QF,ZG,leB1]
noncomputable def uf_3 := uf_2.addSpec 53 Qa6
theorem Qkf:Qh Tryz.prog s25 uf_3 := Qke.addEv Qa fun args d h => by
 unfold Qa6 at h
 split at h
 · unfold Qc2 at h;have h1 := congrArg Prod.fst (Option.some.inj h);obtain rfl:_ = d := congrArg Prod.snd (Option.some.inj h);exact ⟨by simp [D.refs],40,Qht _ _ _ _ h1⟩
 · cases h
theorem J3 (n:Int):(BitVec.ofInt IntKind.u32.bits n).toNat = (n % 4294967296).toNat := by
 rw [BitVec.toNat_ofInt];simp only [IntKind.bits]
 congr 1
theorem YW (n:Int):IntKind.u32.wrap n = n % 4294967296 := by
 simp [IntKind.wrap,IntKind.bits,IntKind.signed]
def J4 (a b:Int):Int := bits .u32 (fun _ u v => u ^^^ v) a b
theorem V8 (a b:Int):0 <= J4 a b /\ J4 a b < 4294967296 := by
 unfold J4 bits;rw [YW];omega
def crcS (n:Int):Int := if n % 2 = 1 then J4 (n / 2) 3988292384 else n / 2
theorem Qhu {n:Int} (h:0 <= n /\ n < 4294967296):0 <= crcS n /\ crcS n < 4294967296 := by
 unfold crcS
 split
 · exact V8 _ _
 · omega
theorem and1 {n:Int} (h:0 <= n /\ n < 4294967296):bits .u32 (fun _ u v => u &&& v) n 1 = n % 2 := by
 unfold bits;rw [BitVec.toNat_and,J3,J3];have e:((1:Int) % 4294967296).toNat = 2 ^ 1 - 1 := by decide
 rw [e,Nat.and_two_pow_sub_one_eq_mod,YW];omega
theorem Qhv {n:Int} (h:0 <= n /\ n < 4294967296):J4 n 0 = n := by
 unfold J4 bits;rw [BitVec.toNat_xor,J3,J3];have e:((0:Int) % 4294967296).toNat = 0 := by decide
 rw [e,Nat.xor_zero,YW];omega
theorem half {n:Int} (h:0 <= n):n.fdiv 2 = n / 2 := Int.fdiv_eq_ediv_of_nonneg _ (by omega)
def QaH:Nat -> Int -> Int
 | 0,n => n
 | k + 1,n => QaH k (crcS n)
def crc8 (n:Int):Int := QaH 8 n
def Va (n:Int) (l:List UInt8):Int := l.foldl (fun n c => crc8 (J4 n (c.toNat:Int))) n
theorem Qhw (n:Int) (c:UInt8) (l:List UInt8):Va n (c :: l) = Va (crc8 (J4 n (c.toNat:Int))) l := by
 simp only [Va,List.foldl_cons]
theorem Qc4 (n:Int):Va n [] = n := by simp only [Va,List.foldl_nil]
def Yo (l:List UInt8):Int := J4 4294967295 (Va 4294967295 l)
theorem Qeu (l:List UInt8):0 <= Yo l /\ Yo l < 4294967296 := V8 _ _
def Jv (b:List UInt8):List UInt8 := b ++ leB (Yo b) 4
theorem Qkg (b:List UInt8):(Jv b).length = b.length + 4 := by simp [Jv,QF]
def Kr (b:List UInt8):Option (List UInt8) := if 4 <= b.length /\ Jv (b.take (b.length - 4)) = b then some (b.take (b.length - 4)) else none
def okF (n:Int) (load:List UInt8):Bool := decide (1 <= n) && decide (n <= 1048575) && decide (load.length <= 600)
def Vm (n:Int) (load:List UInt8):List UInt8 := Jv (leB n 6 ++ leB load.length 2 ++ load)
theorem Qhx (n:Int) (load:List UInt8):(Vm n load).length = load.length + 12 := by
 simp [Vm,Qkg,QF];omega
noncomputable def rng (n:Int):Bool := @decide (0 <= n /\ n < 4294967296) (Classical.propDecidable _)
theorem Qaf {n:Int}:rng n = true ↔ 0 <= n /\ n < 4294967296 := by unfold rng;exact @decide_eq_true_iff _ (Classical.propDecidable _)
theorem Qvw (a b:Int):rng (J4 a b) = true := Qaf.2 (V8 a b)
theorem Qvx {n:Int} (h:rng n = true):rng (crcS n) = true := Qaf.2 (Qhu (Qaf.1 h))
theorem QrO (c:UInt8):IntKind.u32.wrap (c.toNat:Int) = (c.toNat:Int) := by
 have := c.toNat_lt;rw [YW];omega
theorem Qa7 (b:List UInt8) (i:Nat) (n:Int) (h:i < b.length) (d:UInt8):Va n (b.drop i) = Va (crc8 (J4 n ((b.getD i d).toNat:Int))) (b.drop (i + 1)) := by
 have e:b.getD i d = b[i] := by simp [h]
 have e2:b.drop i = b[i] :: b.drop (i + 1) := List.drop_eq_getElem_cons h;rw [e2,e];exact Qhw _ _ _
theorem Qkh {n:Int} (h:0 <= n /\ n < 4294967296):bits .u32 (fun _ u v => u &&& v) n 255 = n % 256 := by
 unfold bits;rw [BitVec.toNat_and,J3,J3];have e:((255:Int) % 4294967296).toNat = 2 ^ 8 - 1 := by decide
 rw [e,Nat.and_two_pow_sub_one_eq_mod,YW];omega
theorem Qag (n:Int):UInt8.ofNat (IntKind.u8.wrap n).toNat = Q1 n := rfl
theorem Qhy (n:Int):Q1 (n % 256) = Q1 n := by
 unfold Q1;rw [QbJ,QbJ];congr 2;omega
theorem leB4 (n:Int):leB n 4 = [Q1 n,Q1 (n.fdiv 256),Q1 ((n.fdiv 256).fdiv 256),Q1 (((n.fdiv 256).fdiv 256).fdiv 256)] := rfl
theorem QW {α:Type} {c:Bool} {x y z:α} (h:c = true) (h2:x = z):cond c x y = z := by rw [h];exact h2
theorem Qev {α:Type} {c:Bool} {x y z:α} (h:c = false) (h2:y = z):cond c x y = z := by rw [h];exact h2
theorem QC {α:Type} {c:Bool} {x y z:α} (h1:c = true -> x = z) (h2:c = false -> y = z):cond c x y = z := by cases c;exact h2 rfl;exact h1 rfl
open Go.Proofs
noncomputable def Qki (n:Int):Option (Bool × D RC) := some (rng n,.int .u32 (crcS n))
noncomputable def QfD:List (D RC) -> Option (Bool × D RC)
 | [.int .u32 n] => Qki n
 | _ => none
noncomputable def Qkj (n:Int) := evF s25 uf_3 40 272 [.int .u32 n]
theorem Qpe (n:Int):Qkj n = (some (D.int IntKind.u32 (bits IntKind.u32 (fun (x:Nat) (u v:BitVec x) => u ^^^ v) (Int.fdiv n (2:Int)) (IntKind.wrap IntKind.u32 (bits IntKind.u32 (fun (x:Nat) (u v:BitVec x) => u &&& v) n (1:Int) * (3988292384:Int)))))) := by kernel_rfl
theorem Qpf (n:Int) (h:(rng n) = true):Qkj n = some (.int .u32 (crcS n)) := by
 rw [Qpe];have hr := Qaf.1 h;rw [and1 hr,half hr.1]
 congr 2
 unfold crcS
 split
 · rename_i e;rw [e,YW];rfl
 · rename_i e;have e0:n % 2 = 0 := by omega
   rw [e0,YW];exact Qhv (by omega)
noncomputable def ug_1 := uf_3.addSpec 272 QfD
theorem Qkk:Qh Tryz.prog s25 ug_1 := Qkf.addEv Qa fun args d h => by
 unfold QfD at h
 split at h
 · unfold Qki at h;have h1 := congrArg Prod.fst (Option.some.inj h);obtain rfl:_ = d := congrArg Prod.snd (Option.some.inj h);exact ⟨by simp [D.refs],40,Qpf _ h1⟩
 · cases h
noncomputable def Qkl (n:Int):Option (Bool × D RC) := some (rng n,.int .u32 (crcS n))
noncomputable def QfE:List (D RC) -> Option (Bool × D RC)
 | [.int .u32 n] => Qkl n
 | _ => none
noncomputable def Qkm (n:Int) := evF s25 ug_1 40 242 [.int .u32 n]
theorem Qpg (n:Int):Qkm n = (let Z0:Int := Int.fdiv n (2:Int);bif bits IntKind.u32 (fun (x:Nat) (u v:BitVec x) => u &&& v) n (1:Int) == (1:Int) then some (D.int IntKind.u32 (bits IntKind.u32 (fun (x:Nat) (u v:BitVec x) => u ^^^ v) Z0 (3988292384:Int))) else some (D.int IntKind.u32 Z0)) := by kernel_rfl
theorem Qph (n:Int) (h:(rng n) = true):Qkm n = some (.int .u32 (crcS n)) := by
 (rw [Qpg];conv => zeta)
 have hr := Qaf.1 h;rw [and1 hr,half hr.1];unfold crcS
 by_cases e:n % 2 = 1
 · rw [if_pos e,Zt e];rfl
 · rw [if_neg e,Zd e];rfl
noncomputable def ug_2 := ug_1.addSpec 242 QfE
theorem Qkn:Qh Tryz.prog s25 ug_2 := Qkk.addEv Qa fun args d h => by
 unfold QfE at h
 split at h
 · unfold Qkl at h;have h1 := congrArg Prod.fst (Option.some.inj h);obtain rfl:_ = d := congrArg Prod.snd (Option.some.inj h);exact ⟨by simp [D.refs],40,Qph _ h1⟩
 · cases h
structure Qko where
 n:Int
 i:Nat
noncomputable def Qkp (n:Int) (i:Nat):Env RC := [(0,.int .u32 n),(17,.int .i64 (i:Int))]
def QfF (n:Int) (i:Nat):List (Obj RC) := []
noncomputable def QrP (n:Int) (i:Nat) := rndO s25 ug_2 241 6 60 0 [0,17] [0] [] (Qkp n i) (QfF n i)
theorem Qtr (n:Int) (i:Nat):QrP n i = (bif decide ((↑i:Int) < (8:Int)) then bif rng n then some ((X.normal,[(0,D.int IntKind.u32 (crcS n)),(17,D.int .i64 (IntKind.wrap .i64 ((↑i:Int) + (1:Int))))]),[]) else none else some ((X.exit (2:Nat),[(0,D.int IntKind.u32 n)]),[])) := by kernel_rfl
noncomputable def KA (n:Int) (i:Nat):RT RC := .leaf (.exit 2) [(0,.int .u32 (QaH (8 - i) n))] []
def Jw (n:Int) (i:Nat):Prop := i <= 8 /\ rng n = true
noncomputable def Kh:QU RC Qko where
 k := 0
 canon q := Qkp q.n q.i
 objs q := QfF q.n q.i
 fin q := KA q.n q.i
 Inv q := Jw q.n q.i
 μ q := 8 - q.i
theorem Qhz (n:Int) (i:Nat) (hI:Jw n i):Leaf (QrP n i) (LedR Kh ⟨n,i⟩) := by
 rw [Qtr];unfold Jw at hI;obtain ⟨h1,h2⟩ := hI
 by_cases hlt:i < 8
 · have c1:decide ((i:Int) < 8) = true := by simp;omega
   have w_succ:IntKind.i64.wrap ((i:Int) + 1) = ((i + 1:Nat):Int) := by rw [Qb (by omega) (by omega)];simp
   rw [c1,h2,w_succ];refine Qw ⟨crcS n,i + 1⟩ ⟨hlt,Qvx h2⟩ (by simp only [Kh];omega) ?_ rfl rfl
   simp only [Kh,KA,show 8 - i = (8 - (i + 1)) + 1 by omega,QaH]
 · have hi:i = 8 := by omega
   have c1:decide ((i:Int) < 8) = false := by simp;omega
   rw [c1];exact Qn [] (by simp only [Kh,KA,hi,Nat.sub_self,QaH,RT.val]) rfl
noncomputable def Qkq (env:Env RC) (os:List (Obj RC)):Option (Bool × Qko) := match env,os with
 | [(0,.int .u32 n),(17,.int .i64 x0)],[] => Qz (true) (decide (x0 = 0) && rng n,⟨n,0⟩)
 | _,_ => none
noncomputable def ug_3 := ug_2.addLoop 241 6 (sumR s25 [] [0,17] Kh Qkq)
theorem Qkr:Qh Tryz.prog s25 ug_3 := by
 refine Qkn.addRoundsR Qa (by kernel_rfl) Kh 60 [0,17] [0] [] [0,17] Qkq (fun q hI => ?_) ?_
 · obtain ⟨n,i⟩ := q;refine ⟨?_,?_,Qhz n i hI⟩
   · simp_all [Ql,Kh,Qkp,QfF,Jw,D.refs,Obj.refs,rEnc]
   · simp_all [Kh,KA,QfF,Jw,RT.refsOK,Ql,D.refs,Obj.refs,rEnc]
 · intro env os b q hd_ hb;unfold Qkq at hd_
   split at hd_
   · obtain ⟨hs,hd_⟩ := Qi hd_;cases hd_;simp only [Bool.and_eq_true,decide_eq_true_eq] at hb;obtain ⟨rfl,h⟩ := hb;exact ⟨⟨Nat.zero_le _,h⟩,rfl,rfl⟩
   · cases hd_
structure Qks where
 n:Int
 i:Nat
noncomputable def Qkt (n:Int) (i:Nat):Env RC := [(0,.int .u32 n),(6,.int .i64 (i:Int))]
def QfG (n:Int) (i:Nat):List (Obj RC) := []
noncomputable def QrQ (n:Int) (i:Nat) := rndO s25 ug_3 197 6 60 0 [0,6] [0] [] (Qkt n i) (QfG n i)
theorem Qts (n:Int) (i:Nat):QrQ n i = (bif decide ((↑i:Int) < (8:Int)) then bif rng n then some ((X.normal,[(0,D.int IntKind.u32 (crcS n)),(6,D.int .i64 (IntKind.wrap .i64 ((↑i:Int) + (1:Int))))]),[]) else none else some ((X.exit (2:Nat),[(0,D.int IntKind.u32 n)]),[])) := by kernel_rfl
noncomputable def KB (n:Int) (i:Nat):RT RC := .leaf (.exit 2) [(0,.int .u32 (QaH (8 - i) n))] []
def Jx (n:Int) (i:Nat):Prop := i <= 8 /\ rng n = true
noncomputable def Ki:QU RC Qks where
 k := 0
 canon q := Qkt q.n q.i
 objs q := QfG q.n q.i
 fin q := KB q.n q.i
 Inv q := Jx q.n q.i
 μ q := 8 - q.i
theorem QhA (n:Int) (i:Nat) (hI:Jx n i):Leaf (QrQ n i) (LedR Ki ⟨n,i⟩) := by
 rw [Qts];unfold Jx at hI;obtain ⟨h1,h2⟩ := hI
 by_cases hlt:i < 8
 · have c1:decide ((i:Int) < 8) = true := by simp;omega
   have w_succ:IntKind.i64.wrap ((i:Int) + 1) = ((i + 1:Nat):Int) := by rw [Qb (by omega) (by omega)];simp
   rw [c1,h2,w_succ];refine Qw ⟨crcS n,i + 1⟩ ⟨hlt,Qvx h2⟩ (by simp only [Ki];omega) ?_ rfl rfl
   simp only [Ki,KB,show 8 - i = (8 - (i + 1)) + 1 by omega,QaH]
 · have hi:i = 8 := by omega
   have c1:decide ((i:Int) < 8) = false := by simp;omega
   rw [c1];exact Qn [] (by simp only [Ki,KB,hi,Nat.sub_self,QaH,RT.val]) rfl
noncomputable def Qku (env:Env RC) (os:List (Obj RC)):Option (Bool × Qks) := match env,os with
 | [(0,.int .u32 n),(6,.int .i64 x0)],[] => Qz (true) (decide (x0 = 0) && rng n,⟨n,0⟩)
 | _,_ => none
noncomputable def ug_4 := ug_3.addLoop 197 6 (sumR s25 [] [0,6] Ki Qku)
theorem Qkv:Qh Tryz.prog s25 ug_4 := by
 refine Qkr.addRoundsR Qa (by kernel_rfl) Ki 60 [0,6] [0] [] [0,6] Qku (fun q hI => ?_) ?_
 · obtain ⟨n,i⟩ := q;refine ⟨?_,?_,QhA n i hI⟩
   · simp_all [Ql,Ki,Qkt,QfG,Jx,D.refs,Obj.refs,rEnc]
   · simp_all [Ki,KB,QfG,Jx,RT.refsOK,Ql,D.refs,Obj.refs,rEnc]
 · intro env os b q hd_ hb;unfold Qku at hd_
   split at hd_
   · obtain ⟨hs,hd_⟩ := Qi hd_;cases hd_;simp only [Bool.and_eq_true,decide_eq_true_eq] at hb;obtain ⟨rfl,h⟩ := hb;exact ⟨⟨Nat.zero_le _,h⟩,rfl,rfl⟩
   · cases hd_
structure Qkw where
 n:Int
 c:Bool
 b:List UInt8
 i:Nat
noncomputable def Qkx (n:Int) (c:Bool) (b:List UInt8) (i:Nat):Env RC := [(0,.int .u32 n),(7,.sl (C := RC) .u8 c b),(8,.int .i64 (b.length)),(9,.int .i64 (i:Int))]
def QfH (n:Int) (c:Bool) (b:List UInt8) (i:Nat):List (Obj RC) := []
noncomputable def QrR (n:Int) (c:Bool) (b:List UInt8) (i:Nat) := rndO s25 ug_4 241 2 60 0 [0,7,8,9] [0] [] (Qkx n c b i) (QfH n c b i)
theorem Qtt (n:Int) (c:Bool) (b:List UInt8) (i:Nat):QrR n c b i = (let Z0:Int := (↑i:Int);let Z1:Int := (↑b.length:Int);let Z2:Int := bits IntKind.u32 (fun (x:Nat) (u v:BitVec x) => u ^^^ v) n (IntKind.wrap IntKind.u32 (↑(UInt8.toNat (List.getD b Z0.toNat (UInt8.ofBitVec (BitVec.ofNat (8:Nat) (nat_lit 0))))):Int));bif decide (Z0 < Z1) then bif decide ((0:Int) <= Z0 /\ Z0 < Z1) then bif rng Z2 then some ((X.normal,[(0,D.int IntKind.u32 (QaH (8:Nat) Z2)),(7,D.sl RTy.u8 c b),(8,D.int .i64 Z1),(9,D.int .i64 (IntKind.wrap .i64 (Z0 + (1:Int))))]),[]) else none else none else some ((X.exit (0:Nat),[(0,D.int IntKind.u32 n)]),[])) := by kernel_rfl
noncomputable def KC (n:Int) (c:Bool) (b:List UInt8) (i:Nat):RT RC := .leaf (.exit 0) [(0,.int .u32 (Va n (b.drop i)))] []
def Jy (n:Int) (c:Bool) (b:List UInt8) (i:Nat):Prop := i <= b.length /\ b.length <= 1000000
noncomputable def Kj:QU RC Qkw where
 k := 0
 canon q := Qkx q.n q.c q.b q.i
 objs q := QfH q.n q.c q.b q.i
 fin q := KC q.n q.c q.b q.i
 Inv q := Jy q.n q.c q.b q.i
 μ q := q.b.length - q.i
theorem QhB (n:Int) (c:Bool) (b:List UInt8) (i:Nat) (hI:Jy n c b i):Leaf (QrR n c b i) (LedR Kj ⟨n,c,b,i⟩) := by
 (rw [Qtt];conv => zeta)
 unfold Jy at hI;obtain ⟨h1,h2⟩ := hI
 by_cases hlt:i < b.length
 · have w_succ:IntKind.i64.wrap ((i:Int) + 1) = ((i + 1:Nat):Int) := by rw [Qb (by omega) (by omega)];simp
   have d_lt:decide ((i:Int) < b.length) = true := by simp;omega
   have d_in:decide (0 <= (i:Int) /\ (i:Int) < b.length) = true := by simp;omega
   have t_nat:((i:Int)).toNat = i := by simp
   simp only [w_succ,d_lt,d_in,t_nat,cond_true];have hx:∀ x:Int,rng (bits .u32 (fun _ u v => u ^^^ v) n x) = true := fun x => Qvw n x;simp only [QrO,hx,cond_true];refine Qw ⟨crc8 (J4 n ((b.getD i 0).toNat:Int)),c,b,i + 1⟩ ⟨hlt,h2⟩ (by simp only [Kj];omega) ?_ rfl rfl
   simp only [Kj,KC,Qa7 b i n hlt 0]
 · have hi:i = b.length := by omega
   have c1:decide ((i:Int) < b.length) = false := by simp;omega
   rw [c1];exact Qn [] (by simp only [Kj,KC,hi,List.drop_length,Qc4,RT.val]) rfl
noncomputable def Qky (env:Env RC) (os:List (Obj RC)):Option (Bool × Qkw) := match env,os with
 | [(0,.int .u32 n),(7,.sl .u8 c b),(8,.int .i64 x0),(9,.int .i64 x1)],[] => Qz (true) (decide (x0 = b.length) && decide (x1 = 0) && decide (b.length <= 1000000),⟨n,c,b,0⟩)
 | _,_ => none
noncomputable def ug_5 := ug_4.addLoop 241 2 (sumR s25 [] [0,7,8,9] Kj Qky)
theorem Qkz:Qh Tryz.prog s25 ug_5 := by
 refine Qkv.addRoundsR Qa (by kernel_rfl) Kj 60 [0,7,8,9] [0] [] [0,7,8,9] Qky (fun q hI => ?_) ?_
 · obtain ⟨n,c,b,i⟩ := q;refine ⟨?_,?_,QhB n c b i hI⟩
   · simp_all [Ql,Kj,Qkx,QfH,Jy,D.refs,Obj.refs,rEnc]
   · simp_all [Kj,KC,QfH,Jy,RT.refsOK,Ql,D.refs,Obj.refs,rEnc]
 · intro env os b q hd_ hb;unfold Qky at hd_
   split at hd_
   · obtain ⟨hs,hd_⟩ := Qi hd_;cases hd_;simp only [Bool.and_eq_true,decide_eq_true_eq] at hb;obtain ⟨⟨rfl,rfl⟩,h⟩ := hb;exact ⟨⟨Nat.zero_le _,h⟩,rfl,rfl⟩
   · cases hd_
structure QkA where
 n:Int
 c:Bool
 b:List UInt8
 i:Nat
noncomputable def QkB (n:Int) (c:Bool) (b:List UInt8) (i:Nat):Env RC := [(0,.int .u32 n),(1,.sl (C := RC) .u8 c b),(5,.int .i64 (i:Int))]
def QfI (n:Int) (c:Bool) (b:List UInt8) (i:Nat):List (Obj RC) := []
noncomputable def QrS (n:Int) (c:Bool) (b:List UInt8) (i:Nat) := rndO s25 ug_5 197 2 60 0 [0,1,5] [0] [] (QkB n c b i) (QfI n c b i)
theorem Qtu (n:Int) (c:Bool) (b:List UInt8) (i:Nat):QrS n c b i = (let Z0:Int := (↑i:Int);let Z1:Int := bits IntKind.u32 (fun (x:Nat) (u v:BitVec x) => u ^^^ v) n (IntKind.wrap IntKind.u32 (↑(UInt8.toNat (List.getD b Z0.toNat (UInt8.ofBitVec (BitVec.ofNat (8:Nat) (nat_lit 0))))):Int));bif lenOK b.length then bif decide (Z0 < (↑b.length:Int)) then bif decide ((0:Int) <= Z0 /\ Z0 < (↑b.length:Int)) then bif rng Z1 then some ((X.normal,[(0,D.int IntKind.u32 (QaH (8:Nat) Z1)),(1,D.sl RTy.u8 c b),(5,D.int .i64 (IntKind.wrap .i64 (Z0 + (1:Int))))]),[]) else none else none else some ((X.exit (0:Nat),[(0,D.int IntKind.u32 n)]),[]) else none) := by kernel_rfl
noncomputable def KD (n:Int) (c:Bool) (b:List UInt8) (i:Nat):RT RC := .leaf (.exit 0) [(0,.int .u32 (Va n (b.drop i)))] []
def Jz (n:Int) (c:Bool) (b:List UInt8) (i:Nat):Prop := i <= b.length /\ b.length <= 1000000
noncomputable def Kk:QU RC QkA where
 k := 0
 canon q := QkB q.n q.c q.b q.i
 objs q := QfI q.n q.c q.b q.i
 fin q := KD q.n q.c q.b q.i
 Inv q := Jz q.n q.c q.b q.i
 μ q := q.b.length - q.i
theorem QhC (n:Int) (c:Bool) (b:List UInt8) (i:Nat) (hI:Jz n c b i):Leaf (QrS n c b i) (LedR Kk ⟨n,c,b,i⟩) := by
 (rw [Qtu];conv => zeta)
 unfold Jz at hI;obtain ⟨h1,h2⟩ := hI;have hlk:lenOK b.length = true := Qk (by omega)
 by_cases hlt:i < b.length
 · have w_succ:IntKind.i64.wrap ((i:Int) + 1) = ((i + 1:Nat):Int) := by rw [Qb (by omega) (by omega)];simp
   have d_lt:decide ((i:Int) < b.length) = true := by simp;omega
   have d_in:decide (0 <= (i:Int) /\ (i:Int) < b.length) = true := by simp;omega
   have t_nat:((i:Int)).toNat = i := by simp
   simp only [w_succ,d_lt,d_in,t_nat,cond_true];have hx:∀ x:Int,rng (bits .u32 (fun _ u v => u ^^^ v) n x) = true := fun x => Qvw n x;simp only [QrO,hx,hlk,cond_true];refine Qw ⟨crc8 (J4 n ((b.getD i 0).toNat:Int)),c,b,i + 1⟩ ⟨hlt,h2⟩ (by simp only [Kk];omega) ?_ rfl rfl
   simp only [Kk,KD,Qa7 b i n hlt 0]
 · have hi:i = b.length := by omega
   have c1:decide ((i:Int) < b.length) = false := by simp;omega
   rw [hlk,c1];exact Qn [] (by simp only [Kk,KD,hi,List.drop_length,Qc4,RT.val]) rfl
noncomputable def QkC (env:Env RC) (os:List (Obj RC)):Option (Bool × QkA) := match env,os with
 | [(0,.int .u32 n),(1,.sl .u8 c b),(5,.int .i64 x0)],[] => Qz (true) (decide (x0 = 0) && decide (b.length <= 1000000),⟨n,c,b,0⟩)
 | _,_ => none
noncomputable def ug_6 := ug_5.addLoop 197 2 (sumR s25 [] [0,1,5] Kk QkC)
theorem QkD:Qh Tryz.prog s25 ug_6 := by
 refine Qkz.addRoundsR Qa (by kernel_rfl) Kk 60 [0,1,5] [0] [] [0,1,5] QkC (fun q hI => ?_) ?_
 · obtain ⟨n,c,b,i⟩ := q;refine ⟨?_,?_,QhC n c b i hI⟩
   · simp_all [Ql,Kk,QkB,QfI,Jz,D.refs,Obj.refs,rEnc]
   · simp_all [Kk,KD,QfI,Jz,RT.refsOK,Ql,D.refs,Obj.refs,rEnc]
 · intro env os b q hd_ hb;unfold QkC at hd_
   split at hd_
   · obtain ⟨hs,hd_⟩ := Qi hd_;cases hd_;simp only [Bool.and_eq_true,decide_eq_true_eq] at hb;obtain ⟨rfl,h⟩ := hb;exact ⟨⟨Nat.zero_le _,h⟩,rfl,rfl⟩
   · cases hd_
def Qvy (n:Int) (c:Bool) (b:List UInt8):Option (Bool × D RC) := some (decide (b.length <= 1000000),.int .u32 (Va n b))
def QrT:List (D RC) -> Option (Bool × D RC)
 | [.int .u32 n,.sl .u8 c b] => Qvy n c b
 | _ => none
noncomputable def Qvz (n:Int) (c:Bool) (b:List UInt8) := evF s25 ug_6 60 241 [.int .u32 n,.sl (C := RC) .u8 c b]
theorem QvA (n:Int) (c:Bool) (b:List UInt8):Qvz n c b = (let Z0:Nat := List.length b;bif lenOK Z0 then bif decide ((↑Z0:Int) = (↑Z0:Int)) && true && decide (Z0 <= (1000000:Nat)) then some (D.int IntKind.u32 (Va n (List.drop (0:Nat) b))) else none else none) := by kernel_rfl
theorem QvB (n:Int) (c:Bool) (b:List UInt8) (h:(decide (b.length <= 1000000)) = true):Qvz n c b = some (.int .u32 (Va n b)) := by
 (rw [QvA];conv => zeta)
 have hl := of_decide_eq_true h;rw [Qk (by omega),h]
 simp
noncomputable def ug_7 := ug_6.addSpec 241 QrT
theorem QkE:Qh Tryz.prog s25 ug_7 := QkD.addEv Qa fun args d h => by
 unfold QrT at h
 split at h
 · unfold Qvy at h;have h1 := congrArg Prod.fst (Option.some.inj h);obtain rfl:_ = d := congrArg Prod.snd (Option.some.inj h);exact ⟨by simp [D.refs],60,QvB _ _ _ h1⟩
 · cases h
def QvC (n:Int) (c:Bool) (b:List UInt8):Option (Bool × D RC) := some (decide (b.length <= 1000000),.int .u32 (Va n b))
def QrU:List (D RC) -> Option (Bool × D RC)
 | [.int .u32 n,.sl .u8 c b] => QvC n c b
 | _ => none
noncomputable def QvD (n:Int) (c:Bool) (b:List UInt8) := evF s25 ug_7 60 197 [.int .u32 n,.sl (C := RC) .u8 c b]
theorem QvE (n:Int) (c:Bool) (b:List UInt8):QvD n c b = (bif decide (List.length b <= (1000000:Nat)) then some (D.int IntKind.u32 (Va n (List.drop (0:Nat) b))) else none) := by kernel_rfl
theorem QvF (n:Int) (c:Bool) (b:List UInt8) (h:(decide (b.length <= 1000000)) = true):QvD n c b = some (.int .u32 (Va n b)) := by
 rw [QvE];have hl := of_decide_eq_true h;rw [h];simp
noncomputable def ug_8 := ug_7.addSpec 197 QrU
theorem QkF:Qh Tryz.prog s25 ug_8 := QkE.addEv Qa fun args d h => by
 unfold QrU at h
 split at h
 · unfold QvC at h;have h1 := congrArg Prod.fst (Option.some.inj h);obtain rfl:_ = d := congrArg Prod.snd (Option.some.inj h);exact ⟨by simp [D.refs],60,QvF _ _ _ h1⟩
 · cases h
def QrV (c:Bool) (b:List UInt8):Option (Bool × D RC) := some (decide (b.length <= 1000000),.int .u32 (Yo b))
def QkG:List (D RC) -> Option (Bool × D RC)
 | [.sl .u8 c b] => QrV c b
 | _ => none
noncomputable def QrW (c:Bool) (b:List UInt8) := evF s25 ug_8 60 158 [.sl (C := RC) .u8 c b]
theorem Qtv (c:Bool) (b:List UInt8):QrW c b = (bif decide (List.length b <= (1000000:Nat)) then some (D.int IntKind.u32 (bits IntKind.u32 (fun (x:Nat) (u v:BitVec x) => u ^^^ v) (4294967295:Int) (Va (4294967295:Int) b))) else none) := by kernel_rfl
theorem Qtw (c:Bool) (b:List UInt8) (h:(decide (b.length <= 1000000)) = true):QrW c b = some (.int .u32 (Yo b)) := by
 rw [Qtv];rw [h];rfl
noncomputable def ug_9 := ug_8.addSpec 158 QkG
theorem QkH:Qh Tryz.prog s25 ug_9 := QkF.addEv Qa fun args d h => by
 unfold QkG at h
 split at h
 · unfold QrV at h;have h1 := congrArg Prod.fst (Option.some.inj h);obtain rfl:_ = d := congrArg Prod.snd (Option.some.inj h);exact ⟨by simp [D.refs],60,Qtw _ _ h1⟩
 · cases h
def QrX (c:Bool) (b:List UInt8):Option (Bool × D RC) := some (decide (b.length <= 1000000),.int .u32 (Yo b))
def QkI:List (D RC) -> Option (Bool × D RC)
 | [.sl .u8 c b] => QrX c b
 | _ => none
noncomputable def QrY (c:Bool) (b:List UInt8) := evF s25 ug_9 60 160 [.sl (C := RC) .u8 c b]
theorem Qtx (c:Bool) (b:List UInt8):QrY c b = (bif decide (List.length b <= (1000000:Nat)) then some (D.int IntKind.u32 (bits IntKind.u32 (fun (x:Nat) (u v:BitVec x) => u ^^^ v) (4294967295:Int) (Va (4294967295:Int) b))) else none) := by kernel_rfl
theorem Qty (c:Bool) (b:List UInt8) (h:(decide (b.length <= 1000000)) = true):QrY c b = some (.int .u32 (Yo b)) := by
 rw [Qtx];rw [h];rfl
noncomputable def Qtz := ug_9.addSpec 160 QkI
theorem QhD:Qh Tryz.prog s25 Qtz := QkH.addEv Qa fun args d h => by
 unfold QkI at h
 split at h
 · unfold QrX at h;have h1 := congrArg Prod.fst (Option.some.inj h);obtain rfl:_ = d := congrArg Prod.snd (Option.some.inj h);exact ⟨by simp [D.refs],60,Qty _ _ h1⟩
 · cases h
def QkJ (c:Bool) (b:List UInt8):Option (Bool × D RC) := some (decide (b.length <= 1000000),.sl (C := RC) .u8 false (Jv b))
def QfJ:List (D RC) -> Option (Bool × D RC)
 | [.sl .u8 c b] => QkJ c b
 | _ => none
noncomputable def QkK (c:Bool) (b:List UInt8) := evF s25 Qtz 60 107 [.sl (C := RC) .u8 c b]
theorem Qpi (c:Bool) (b:List UInt8):QkK c b = (let Z0:Nat := List.length b;let Z1:Int := (↑Z0:Int);let Z2:Int := IntKind.wrap .i64 (Z1 + (4:Int));let Z3:Nat := Int.toNat Z1;let Z4:List UInt8 := List.replicate Z3 (UInt8.ofBitVec (BitVec.ofNat (8:Nat) (nat_lit 0)));let Z5:List UInt8 := List.take Z4.length b ++ List.drop Z0 Z4;let Z6:List UInt8 := [UInt8.ofNat (IntKind.wrap IntKind.u8 (Yo b)).toNat];let Z7:Nat := List.length Z5 + List.length Z6;let Z8:Nat := List.length (Z5 ++ Z6);let Z9:Int := Int.fdiv (Yo b) (256:Int);let Z10:List UInt8 := [UInt8.ofNat (IntKind.wrap IntKind.u8 Z9).toNat];let Z11:Nat := List.length (Z5 ++ Z6 ++ Z10);let Z12:Int := Int.fdiv Z9 (256:Int);let Z13:List UInt8 := [UInt8.ofNat (IntKind.wrap IntKind.u8 Z12).toNat];let Z14:Nat := List.length (Z5 ++ Z6 ++ Z10 ++ Z13);let Z15:List UInt8 := [UInt8.ofNat (IntKind.wrap IntKind.u8 (Int.fdiv Z12 (256:Int))).toNat];bif lenOK Z0 then bif lenOK Z0 then bif decide ((0:Int) <= Z1 /\ Z1 <= Z2) && Qg Z2.toNat (1:Nat) then bif Nat.beq Z3 Z4.length && lenOK Z3 then bif decide (Z0 <= (1000000:Nat)) then bif Nat.beq Z3 Z5.length && Qg (Z3 + List.length Z6) (1:Nat) then bif Nat.beq Z7 Z8 && Qg (Z7 + List.length Z10) (1:Nat) then bif Nat.beq (Z8 + List.length Z10) Z11 && Qg (Z8 + List.length Z10 + List.length Z13) (1:Nat) then bif Nat.beq (Z11 + List.length Z13) Z14 && Qg (Z11 + List.length Z13 + List.length Z15) (1:Nat) then bif Nat.beq (Z14 + List.length Z15) (Z5 ++ Z6 ++ Z10 ++ Z13 ++ Z15).length then some (D.sl RTy.u8 false (Z5 ++ Z6 ++ Z10 ++ Z13 ++ Z15)) else none else none else none else none else none else none else none else none else none else none) := by kernel_rfl
theorem Qpj (c:Bool) (b:List UInt8) (h:(decide (b.length <= 1000000)) = true):QkK c b = some (.sl (C := RC) .u8 false (Jv b)) := by
 (rw [Qpi];conv => zeta)
 have hl := of_decide_eq_true h;have t1:((b.length:Int)).toNat = b.length := by simp
 have t2:b.take (List.replicate b.length (⟨0#8⟩:UInt8)).length = b := by simp
 have t3:(List.replicate b.length (⟨0#8⟩:UInt8)).drop b.length = [] := by simp
 have w4:IntKind.i64.wrap ((b.length:Int) + 4) = (b.length:Int) + 4 := Qb (by omega) (by omega)
 have t4:((b.length:Int) + 4).toNat = b.length + 4 := by omega
 simp only [t1,t2,t3,t4,w4,List.append_nil,Qag,List.append_assoc,List.cons_append,List.nil_append,List.length_cons,List.length_nil,List.length_append,List.length_replicate,List.take_length,Nat.zero_add,Nat.reduceAdd,Nat.add_assoc];have eb:∀ n:Nat,n.beq n = true := fun n => by simp
 have es:∀ k:Nat,k <= 10 -> Qg (b.length + k) 1 = true := fun k hk => VR (by omega)
 simp only [eb,es,Nat.reduceLeDiff,Bool.and_self,Bool.true_and,cond_true]
 repeat (refine QW (by first | assumption | exact Qk (by omega) | exact VR (by omega) | (simp;done) | (simp;omega) | (simp [Qg];omega)) ?_)
 rfl
noncomputable def QtA := Qtz.addSpec 107 QfJ
theorem QhE:Qh Tryz.prog s25 QtA := QhD.addEv Qa fun args d h => by
 unfold QfJ at h
 split at h
 · unfold QkJ at h;have h1 := congrArg Prod.fst (Option.some.inj h);obtain rfl:_ = d := congrArg Prod.snd (Option.some.inj h);exact ⟨by simp [D.refs],60,Qpj _ _ h1⟩
 · cases h
def QkL (c:Bool) (b:List UInt8):Option (Bool × D RC) := some (decide (b.length <= 1000000),.sl (C := RC) .u8 false (Jv b))
def QfK:List (D RC) -> Option (Bool × D RC)
 | [.sl .u8 c b] => QkL c b
 | _ => none
noncomputable def QkM (c:Bool) (b:List UInt8) := evF s25 QtA 60 111 [.sl (C := RC) .u8 c b]
theorem Qpk (c:Bool) (b:List UInt8):QkM c b = (let Z0:Nat := (0:Nat) + List.length b;let Z1:Nat := List.length ([] ++ b);let Z2:Int := Yo b;let Z3:List UInt8 := [UInt8.ofNat (IntKind.wrap IntKind.u8 (bits IntKind.u32 (fun (x:Nat) (u v:BitVec x) => u &&& v) Z2 (255:Int))).toNat,UInt8.ofNat (IntKind.wrap IntKind.u8 (bits IntKind.u32 (fun (x:Nat) (u v:BitVec x) => u &&& v) (Int.fdiv Z2 (256:Int)) (255:Int))).toNat,UInt8.ofNat (IntKind.wrap IntKind.u8 (bits IntKind.u32 (fun (x:Nat) (u v:BitVec x) => u &&& v) (Int.fdiv Z2 (65536:Int)) (255:Int))).toNat,UInt8.ofNat (IntKind.wrap IntKind.u8 (Int.fdiv Z2 (16777216:Int))).toNat];bif decide (List.length b <= (1000000:Nat)) then bif Qg Z0 (1:Nat) then bif Nat.beq Z0 Z1 && Qg (Z0 + List.length Z3) (1:Nat) then bif Nat.beq (Z1 + List.length Z3) ([] ++ b ++ Z3).length then some (D.sl RTy.u8 false ([] ++ b ++ Z3)) else none else none else none else none) := by kernel_rfl
theorem Qpl (c:Bool) (b:List UInt8) (h:(decide (b.length <= 1000000)) = true):QkM c b = some (.sl (C := RC) .u8 false (Jv b)) := by
 (rw [Qpk];conv => zeta)
 have hl := of_decide_eq_true h;have hr := Qeu b;have f8:(Yo b).fdiv 256 = Yo b / 256 := Int.fdiv_eq_ediv_of_nonneg _ (by omega)
 have f16:(Yo b).fdiv 65536 = Yo b / 65536 := Int.fdiv_eq_ediv_of_nonneg _ (by omega)
 have f24:(Yo b).fdiv 16777216 = Yo b / 16777216 := Int.fdiv_eq_ediv_of_nonneg _ (by omega)
 have g1:((Yo b).fdiv 256).fdiv 256 = Yo b / 65536 := by rw [f8,Int.fdiv_eq_ediv_of_nonneg _ (by omega)];omega
 have g2:(((Yo b).fdiv 256).fdiv 256).fdiv 256 = Yo b / 16777216 := by rw [g1,Int.fdiv_eq_ediv_of_nonneg _ (by omega)];omega
 simp only [f8,f16,f24,Qkh hr,Qkh (n := Yo b / 256) (by omega),Qkh (n := Yo b / 65536) (by omega),Qag,Qhy,List.nil_append,List.length_cons,List.length_nil,List.length_append]
 iterate 4 refine QW (by first | exact Qk (by simp;omega) | exact Qk (by omega) | (simp [Qg];done) | (simp [Qg];omega) | omega) ?_
 rw [Jv,leB4,g2,g1,f8]
noncomputable def QtB := QtA.addSpec 111 QfK
theorem QhF:Qh Tryz.prog s25 QtB := QhE.addEv Qa fun args d h => by
 unfold QfK at h
 split at h
 · unfold QkL at h;have h1 := congrArg Prod.fst (Option.some.inj h);obtain rfl:_ = d := congrArg Prod.snd (Option.some.inj h);exact ⟨by simp [D.refs],60,Qpl _ _ h1⟩
 · cases h
def QkN (c:Bool) (b:List UInt8):Option (Bool × D RC) := some (decide (b.length <= 1000000),.tup (.acons (.sl (C := RC) .u8 (Kr b).isNone ((Kr b).getD [])) (.acons (.int .i64 (bif (Kr b).isNone then 50 else 0)) .anil)))
def QfL:List (D RC) -> Option (Bool × D RC)
 | [.sl .u8 c b] => QkN c b
 | _ => none
noncomputable def QkO (c:Bool) (b:List UInt8) := evF s25 QtB 60 153 [.sl (C := RC) .u8 c b]
theorem Qpm (c:Bool) (b:List UInt8):QkO c b = (let Z0:Int := (↑b.length:Int);let Z1:Int := IntKind.wrap .i64 (Z0 - (4:Int));let Z2:DO_ := some (D.tup (D.acons (D.sl RTy.u8 true []) (.acons (D.int .i64 50) .anil)));let Z3:Bool := decide ((0:Int) <= (0:Int) /\ (0:Int) <= Z1 /\ Z1 <= Z0);let Z4:List UInt8 := List.drop (0:Nat) (List.take Z1.toNat b);let Z5:Nat := (0:Nat) + List.length Z4;bif lenOK b.length then bif decide (Z1 < (0:Int)) then Z2 else bif Z3 then bif decide (List.length Z4 <= (1000000:Nat)) then bif !(fun (l:List (RA RTy.u8)) => l) (Jv Z4) == (fun (l:List (RA RTy.u8)) => l) b then Z2 else bif Z3 then bif Qg Z5 (1:Nat) then bif Nat.beq Z5 ([] ++ Z4).length then some (D.tup (D.acons (D.sl RTy.u8 false ([] ++ Z4)) (.acons (D.int .i64 0) .anil))) else none else none else none else none else none else none) := by kernel_rfl
theorem Qpn (c:Bool) (b:List UInt8) (h:(decide (b.length <= 1000000)) = true):QkO c b = some (.tup (.acons (.sl (C := RC) .u8 (Kr b).isNone ((Kr b).getD [])) (.acons (.int .i64 (bif (Kr b).isNone then 50 else 0)) .anil))) := by
 (rw [Qpm];conv => zeta)
 have hl := of_decide_eq_true h;have wm:IntKind.i64.wrap ((b.length:Int) - 4) = (b.length:Int) - 4 := Qb (by omega) (by omega)
 have tm:((b.length:Int) - 4).toNat = b.length - 4 := by omega
 have ts:(b.take (b.length - 4)).length = b.length - 4 := by simp
 simp only [wm,tm,List.drop_zero,List.nil_append];refine QW (Qk (by omega)) ?_
 refine QC (fun h0 => ?_) fun h0 => ?_ <;> simp only [decide_eq_true_eq,decide_eq_false_iff_not] at h0
 · have e:Kr b = none := by unfold Kr;rw [if_neg (by omega)]
   rw [e];rfl
 iterate 2 refine QW (by first | exact Qk (by simp;omega) | exact Qk (by omega) | (simp [Qg];done) | (simp [Qg];omega) | omega) ?_
 by_cases hq:Jv (b.take (b.length - 4)) = b
 · have e:Kr b = some (b.take (b.length - 4)) := by unfold Kr;rw [if_pos ⟨by omega,hq⟩]
   rw [hq,e];simp only [beq_self_eq_true,Bool.not_true,cond_false]
   iterate 3 refine QW (by first | exact Qk (by simp;omega) | exact Qk (by omega) | (simp [Qg];done) | (simp [Qg];omega) | omega) ?_
   rfl
 · have e:Kr b = none := by unfold Kr;rw [if_neg (fun q => hq q.2)]
   rw [e,show (Jv (b.take (b.length - 4)) == b) = false by simpa using hq]
   rfl
noncomputable def QtC := QtB.addSpec 153 QfL
theorem QhG:Qh Tryz.prog s25 QtC := QhF.addEv Qa fun args d h => by
 unfold QfL at h
 split at h
 · unfold QkN at h;have h1 := congrArg Prod.fst (Option.some.inj h);obtain rfl:_ = d := congrArg Prod.snd (Option.some.inj h);exact ⟨by simp [D.refs],60,Qpn _ _ h1⟩
 · cases h
def Zg (s:Sector):Bool := decide (0 <= s.n) && decide (s.n <= 1048575) && decide (s.b.length <= 640) && (decide (0 < s.n) || s.b == [])
def YE (l:List Sector):Bool := decide (l.length = 33) && l.all Zg
def Ks (now sure:List Sector) (i:Nat):Bool := ((now.zip sure).drop i).all fun p => decide (p.2.n <= p.1.n)
def diskOK (now sure:List Sector):Bool := YE now && YE sure && Ks now sure 0
theorem J5 {now sure:List Sector} (h:diskOK now sure = true):now.length = 33 /\ sure.length = 33 := by
 simp only [diskOK,YE,Bool.and_eq_true,decide_eq_true_eq] at h;exact ⟨h.1.1.1,h.1.2.1⟩
def sec0:Sector := ⟨0,[]⟩
theorem YX {α:Type} (l:List α) (p:α -> Bool) (i:Nat) (h:i < l.length) (d:α):(l.drop i).all p = (p (l.getD i d) && (l.drop (i + 1)).all p) := by
 have e:l.getD i d = l[i] := by simp [h]
 rw [List.drop_eq_getElem_cons h,e,List.all_cons]
theorem QhH {now sure:List Sector} (i:Nat) (h1:i < now.length) (h2:i < sure.length) (d:Sector):Ks now sure i = (decide ((sure.getD i d).n <= (now.getD i d).n) && Ks now sure (i + 1)) := by
 unfold Ks;rw [YX _ _ i (by simp;omega) (d,d)]
 have e:(now.zip sure).getD i (d,d) = (now.getD i d,sure.getD i d) := by
  have hz:i < (now.zip sure).length := by simp;omega
  simp [List.getD_eq_getElem?_getD,List.getElem?_eq_getElem hz,h1,h2]
 rw [e]
theorem QkP {now sure:List Sector} (i:Nat) (h:now.length <= i):Ks now sure i = true := by
 unfold Ks;rw [List.drop_eq_nil_of_le (by simp;omega)];rfl
def Yf (now sure:List Sector) (k n:Int) (b:List UInt8):Bool := diskOK now sure && (decide (0 <= k) && decide (k < 33) && decide (1 <= n) && !(b == []) && Zg ⟨n,b⟩)
def Y8 (now:List Sector) (k:Nat) (n:Int) (b:List UInt8):List Sector := if (now.getD k sec0).n < n then now.set k ⟨n,b⟩ else now
theorem J6 (now:List Sector) (k:Nat) (n:Int) (b:List UInt8):(Y8 now k n b).length = now.length := by unfold Y8;split <;> simp
def QK:List Sector := List.replicate 33 ⟨0,[]⟩
theorem Qah {l:List Sector} (h:YE l = true):l.length = 33 := by simp only [YE,Bool.and_eq_true,decide_eq_true_eq] at h;exact h.1
def pNow (now sure:List Sector) (k n:Int) (b:List UInt8):List Sector := bif Yf now sure k n b then Y8 now k.toNat n b else []
def QaI (now sure:List Sector) (k n:Int) (b:List UInt8):List Sector := bif Yf now sure k n b then sure else []
def goodL (l:List Sector):Bool := decide (l.length <= 9223372036854775807) && l.all fun s => lenOK s.b.length
theorem Vn {l:List Sector}:goodL l = true ↔ l.length <= 9223372036854775807 /\ ∀ s ∈ l,lenOK s.b.length = true := by simp [goodL]
theorem Qpo {l:List Sector} (h:goodL l = true) (i:Nat) (hi:i < l.length) (d:Sector):lenOK (l.getD i d).b.length = true := by
 have e:l.getD i d = l[i] := by simp [hi]
 rw [e];exact (Vn.1 h).2 _ (List.getElem_mem hi)
theorem V9 {now sure:List Sector} {k n:Int} {b:List UInt8} (h:Yf now sure k n b = true):diskOK now sure = true /\ 0 <= k /\ k < 33 /\ 1 <= n /\ b ≠ [] /\ Zg ⟨n,b⟩ = true := by
 simp only [Yf,Bool.and_eq_true,decide_eq_true_eq] at h;obtain ⟨h1,⟨⟨⟨h2,h3⟩,h4⟩,h5⟩,h6⟩ := h;exact ⟨h1,h2,h3,h4,by simpa using h5,h6⟩
theorem Yg {now sure:List Sector} {k n:Int} {b:List UInt8} (h:¬ (diskOK now sure = true /\ 0 <= k /\ k < 33 /\ 1 <= n /\ b ≠ [] /\ Zg ⟨n,b⟩ = true)):Yf now sure k n b = false := by
 cases e:Yf now sure k n b
 · rfl
 · exact absurd (V9 e) h
structure Rd where
 c:Bool
 b:List UInt8
 bad:Bool
structure Rdr (σ:Type) where
 get:Nat -> σ -> Int × σ
 bad:σ -> Bool
 rem:σ -> List UInt8
structure Qwv {σ:Type} (R:Rdr σ):Prop where
 ok:∀ w s,1 <= w -> R.bad s = false -> w <= (R.rem s).length -> (R.get w s).1 = (Jq ((R.rem s).take w):Int) /\ R.rem (R.get w s).2 = (R.rem s).drop w /\ R.bad (R.get w s).2 = false
 no:∀ w s,R.bad s = false -> (R.rem s).length < w -> R.bad (R.get w s).2 = true
 stay:∀ w s,R.bad s = true -> R.bad (R.get w s).2 = true
section
variable {σ:Type} (R:Rdr σ)
variable {R} (K:Qwv R)
include K
end
structure Rn where
 pos:Nat
 short:Bool
structure QS (σ:Type) where
 r:σ
 l0:List Line
 l1:List Line
 l2:List Line
 c0:Int
 c1:Int
 c2:Int
section
variable {σ:Type} (R:Rdr σ) (stop:Bool) (mark:σ -> σ)
end
theorem Qa8 {r:Rec} (h:mayB r = true):(ZG r).length <= 13 := by
 obtain ⟨p,y,l⟩ := r;obtain ⟨hp,hl,hw⟩ := Jr h;simp only [ZG,List.length_append,QF,Qen l Yq 2 Qhn];omega
theorem Ja {n:Int} {l:List UInt8} (h:¬ (1 <= n /\ n <= 1048575 /\ l.length <= 600)):okF n l = false := by
 cases e:okF n l
 · rfl
 · simp only [okF,Bool.and_eq_true,decide_eq_true_eq] at e;exact absurd ⟨e.1.1,e.1.2,e.2⟩ h
open Go.Proofs
def QfM (n:Int):Option (Bool × D RC) := some (decide (n <= 1000000),.int .i64 (bif decide (n < 0) || decide (600 < n) then 0 else n + 12))
def Qc5:List (D RC) -> Option (Bool × D RC)
 | [.int .i64 n] => QfM n
 | _ => none
noncomputable def QfN (n:Int) := evF s25 QtC 40 106 [.int .i64 n]
theorem QkQ (n:Int):QfN n = (let Z0:DO_ := some (D.int .i64 0);bif decide (n < (0:Int)) then Z0 else bif decide ((600:Int) < n) then Z0 else some (D.int .i64 (IntKind.wrap .i64 (IntKind.wrap .i64 ((8:Int) + n) + (4:Int))))) := by kernel_rfl
theorem QkR (n:Int) (h:(decide (n <= 1000000)) = true):QfN n = some (.int .i64 (bif decide (n < 0) || decide (600 < n) then 0 else n + 12)) := by
 (rw [QkQ];conv => zeta)
 have hl := of_decide_eq_true h
 by_cases h0:n < 0
 · simp [h0]
 by_cases h6:600 < n
 · simp [h0,h6]
 have w1:IntKind.i64.wrap (8 + n) = 8 + n := Qb (by omega) (by omega)
 have w2:IntKind.i64.wrap (8 + n + 4) = 8 + n + 4 := Qb (by omega) (by omega)
 simp [h0,h6,w1,w2];omega
noncomputable def uh_1 := QtC.addSpec 106 Qc5
theorem QkS:Qh Tryz.prog s25 uh_1 := QhG.addEv Qa fun args d h => by
 unfold Qc5 at h
 split at h
 · unfold QfM at h;have h1 := congrArg Prod.fst (Option.some.inj h);obtain rfl:_ = d := congrArg Prod.snd (Option.some.inj h);exact ⟨by simp [D.refs],40,QkR _ h1⟩
 · cases h
def Qc6 (n:Int) (b:List UInt8):Option (Bool × D RC) := some (decide (b.length <= 1000000),.tup (.acons (.str (bif okF n b then Vm n b else [])) (.acons (.int .i64 (bif okF n b then 0 else 2)) .anil)))
def Qa9:List (D RC) -> Option (Bool × D RC)
 | [.int .i64 n,.str b] => Qc6 n b
 | _ => none
noncomputable def Qc7 (n:Int) (b:List UInt8) := evF s25 uh_1 60 51 [.int .i64 n,.str b]
theorem QhI (n:Int) (b:List UInt8):Qc7 n b = (let Z0:DO_ := some (D.tup (D.acons (D.str (Array.toList #[])) (.acons (D.int .i64 2) .anil)));let Z1:Nat := List.length b;let Z2:Int := (↑Z1:Int);let Z3:Nat := (0:Nat) + List.length (putL [] n (6:Nat));let Z4:Nat := List.length ([] ++ putL [] n (6:Nat));let Z5:Nat := List.length (putL [] Z2 (2:Nat));let Z6:List UInt8 := [] ++ putL [] n (6:Nat) ++ putL [] Z2 (2:Nat);let Z7:Nat := List.length (Z6 ++ b);let Z8:DO_ := none;bif (bif QM n (6:Nat) then (0:Int) else (2:Int)) != (0:Int) then Z0 else bif decide (n < (1:Int)) then Z0 else bif decide ((1048575:Int) < n) then Z0 else bif lenOK Z1 then bif decide (Z2 <= (1000000:Int)) then bif (bif decide (Z2 < (0:Int)) || decide ((600:Int) < Z2) then (0:Int) else Z2 + (12:Int)) == (0:Int) then Z0 else bif lenOK Z1 then bif Qg Z1 (1:Nat) then bif Qg Z3 (1:Nat) then bif Nat.beq Z3 Z4 && Qg (Z3 + Z5) (1:Nat) then bif Nat.beq (Z4 + Z5) Z6.length && Qg (Z4 + Z5 + Z1) (1:Nat) then bif Nat.beq (List.length Z6 + Z1) Z7 then bif decide (Z7 <= (1000000:Nat)) then some (D.tup (D.acons (D.str (Jv (Z6 ++ b))) (.acons (D.int .i64 0) .anil))) else Z8 else Z8 else Z8 else Z8 else Z8 else Z8 else Z8 else Z8 else Z8) := by kernel_rfl
theorem QhJ (n:Int) (b:List UInt8) (h:(decide (b.length <= 1000000)) = true):Qc7 n b = some (.tup (.acons (.str (bif okF n b then Vm n b else [])) (.acons (.int .i64 (bif okF n b then 0 else 2)) .anil))) := by
 (rw [QhI];conv => zeta)
 have hl := of_decide_eq_true h;have lb:lenOK b.length = true := Qk (by omega)
 have ld:decide ((b.length:Int) <= 1000000) = true := by simp;omega
 have no:okF n b = false -> some (D.tup (.acons (.str []) (.acons (.int .i64 2) .anil))) = some (.tup (.acons (.str (bif okF n b then Vm n b else [])) (.acons (.int .i64 (bif okF n b then 0 else 2)) .anil)):D RC) := fun e => by rw [e];rfl
 refine QC (fun e => no (Ja fun f => by rw [show QM n 6 = true by rw [Zk];omega] at e;cases e)) fun e0 => ?_
 refine QC (fun e => no (Ja fun f => by simp only [decide_eq_true_eq] at e;omega)) fun e1 => ?_
 refine QC (fun e => no (Ja fun f => by simp only [decide_eq_true_eq] at e;omega)) fun e2 => ?_
 refine QW lb (QW ld ?_);simp only [decide_eq_false_iff_not] at e1 e2
 by_cases h6:600 < (b.length:Int)
 · refine QW ?_ (no (Ja fun f => by omega))
   simp [h6]
 refine Qev ?_ ?_
 · have:¬ (b.length:Int) < 0 := by omega
   simp [this,h6];omega
 have ok:okF n b = true := by simp only [okF,Bool.and_eq_true,decide_eq_true_eq];omega
 have f6:QM n 6 = true := by rw [Zk];omega
 have f2:QM (b.length:Int) 2 = true := by rw [Zk];omega
 have p6:putL [] n 6 = leB n 6 := (Ze f6).trans (List.nil_append _);have p2:putL [] (b.length:Int) 2 = leB b.length 2 := (Ze f2).trans (List.nil_append _);simp only [p6,p2,List.nil_append,QF,List.length_append,Nat.zero_add];have hb6:b.length <= 600 := by omega
 have es:∀ k:Nat,k <= 700 -> Qg k 1 = true := fun k hk => VR (by omega)
 have eb:∀ n:Nat,n.beq n = true := fun n => by simp
 have ed:decide (6 + 2 + b.length <= 1000000) = true := by simp;omega
 simp (disch := omega) only [es,eb,lb,ed,Bool.and_self,cond_true];rw [ok];rfl
noncomputable def uh_2 := uh_1.addSpec 51 Qa9
theorem QkT:Qh Tryz.prog s25 uh_2 := QkS.addEv Qa fun args d h => by
 unfold Qa9 at h
 split at h
 · unfold Qc6 at h;have h1 := congrArg Prod.fst (Option.some.inj h);obtain rfl:_ = d := congrArg Prod.snd (Option.some.inj h);exact ⟨by simp [D.refs],60,QhJ _ _ h1⟩
 · cases h
open Go.Proofs
def Qc8 (n:Int) (b:List UInt8):Option (Bool × D RC) := some (decide (b.length <= 1000000),.tup (.acons (.str (bif okF n b then Vm n b else [])) (.acons (.int .i64 (bif okF n b then 0 else 2)) .anil)))
def Qba:List (D RC) -> Option (Bool × D RC)
 | [.int .i64 n,.str b] => Qc8 n b
 | _ => none
noncomputable def Qc9 (n:Int) (b:List UInt8) := evF s25 uh_2 60 54 [.int .i64 n,.str b]
theorem QhK (n:Int) (b:List UInt8):Qc9 n b = (let Z0:DO_ := some (D.tup (D.acons (D.str (Array.toList #[])) (.acons (D.int .i64 2) .anil)));let Z1:Bool := lenOK b.length;let Z2:Int := (↑b.length:Int);let Z3:List UInt8 := [] ++ [] ++ leB n (6:Nat);let Z4:Nat := List.length ([] ++ Z3);let Z5:List UInt8 := [] ++ Z3 ++ leB Z2 (2:Nat);let Z6:Nat := List.length Z5;let Z7:List UInt8 := (fun (l:List UInt8) => l) b;let Z8:Nat := List.length (Z5 ++ Z7);let Z9:DO_ := none;bif decide (n < (1:Int)) then Z0 else bif decide ((1048575:Int) < n) then Z0 else bif Z1 then bif decide ((600:Int) < Z2) then Z0 else bif decide (n <= (9223372036854775807:Int) /\ (1:Int) <= (6:Int) /\ (6:Int) <= (6:Int)) && QM n (6:Nat) then bif decide ((0:Int) <= n /\ n <= (9223372036854775807:Int) /\ (0:Int) <= (6:Int) /\ (6:Int) <= (6:Int) /\ (0:Nat) <= (1000000:Nat)) then bif Z1 then bif decide (Z2 <= (9223372036854775807:Int) /\ (1:Int) <= (2:Int) /\ (2:Int) <= (6:Int)) && QM Z2 (2:Nat) then bif decide ((0:Nat) + List.length Z3 = Z4) && true && decide ((0:Int) <= Z2 /\ Z2 <= (9223372036854775807:Int) /\ (0:Int) <= (2:Int) /\ (2:Int) <= (6:Int) /\ Z4 <= (1000000:Nat)) then bif Nat.beq Z6 Z6 && Qg (Z6 + List.length Z7) (1:Nat) then bif Nat.beq (Z6 + List.length Z7) Z8 then bif decide (Z8 <= (1000000:Nat)) then some (D.tup (D.acons (D.str (Jv (Z5 ++ Z7))) (.acons (D.int .i64 0) .anil))) else Z9 else Z9 else Z9 else Z9 else Z9 else Z9 else Z9 else Z9 else Z9) := by kernel_rfl
theorem QhL (n:Int) (b:List UInt8) (h:(decide (b.length <= 1000000)) = true):Qc9 n b = some (.tup (.acons (.str (bif okF n b then Vm n b else [])) (.acons (.int .i64 (bif okF n b then 0 else 2)) .anil))) := by
 (rw [QhK];conv => zeta)
 have hl := of_decide_eq_true h;have lb:lenOK b.length = true := Qk (by omega)
 have no:okF n b = false -> some (D.tup (.acons (.str []) (.acons (.int .i64 2) .anil))) = some (.tup (.acons (.str (bif okF n b then Vm n b else [])) (.acons (.int .i64 (bif okF n b then 0 else 2)) .anil)):D RC) := fun e => by rw [e];rfl
 refine QC (fun e => no (Ja fun f => by simp only [decide_eq_true_eq] at e;omega)) fun e1 => ?_
 refine QC (fun e => no (Ja fun f => by simp only [decide_eq_true_eq] at e;omega)) fun e2 => ?_
 refine QW lb (QC (fun e => no (Ja fun f => by simp only [decide_eq_true_eq] at e;omega)) fun e3 => ?_)
 simp only [decide_eq_false_iff_not] at e1 e2 e3;have ok:okF n b = true := by simp only [okF,Bool.and_eq_true,decide_eq_true_eq];omega
 have f6:QM n 6 = true := by rw [Zk];omega
 have f2:QM (b.length:Int) 2 = true := by rw [Zk];omega
 have eb:∀ n:Nat,n.beq n = true := fun n => by simp
 have s1:Qg (6 + 2 + b.length) 1 = true := VR (by omega)
 have g1:decide (n <= 9223372036854775807 /\ (1:Int) <= 6 /\ (6:Int) <= 6) = true := decide_eq_true (by omega)
 have g2:decide (0 <= n /\ n <= 9223372036854775807 /\ (0:Int) <= 6 /\ (6:Int) <= 6 /\ 0 <= 1000000) = true := decide_eq_true (by omega)
 have g3:decide ((b.length:Int) <= 9223372036854775807 /\ (1:Int) <= 2 /\ (2:Int) <= 6) = true := decide_eq_true (by omega)
 have g4:decide (0 <= (b.length:Int) /\ (b.length:Int) <= 9223372036854775807 /\ (0:Int) <= 2 /\ (2:Int) <= 6 /\ 6 <= 1000000) = true := decide_eq_true (by omega)
 have g5:decide (6 + 2 + b.length <= 1000000) = true := decide_eq_true (by omega)
 simp only [List.nil_append,QF,List.length_append,f6,f2,eb,lb,s1,Nat.zero_add,Bool.and_self,cond_true];refine QW (by rw [g1];rfl) (QW g2 (QW (by rw [g3];rfl) (QW (by rw [g4];rfl) (QW g5 ?_))))
 rw [ok];rfl
noncomputable def ui_1 := uh_2.addSpec 54 Qba
theorem QkU:Qh Tryz.prog s25 ui_1 := QkT.addEv Qa fun args d h => by
 unfold Qba at h
 split at h
 · unfold Qc8 at h;have h1 := congrArg Prod.fst (Option.some.inj h);obtain rfl:_ = d := congrArg Prod.snd (Option.some.inj h);exact ⟨by simp [D.refs],60,QhL _ _ h1⟩
 · cases h
theorem Qda {l:List Sector} (h:YE l = true):∀ s ∈ l,Zg s = true := by
 simp only [YE,Bool.and_eq_true] at h;exact List.all_eq_true.1 h.2
theorem Qpp {l:List Sector} (h1:l.length = 33) (h2:∀ s ∈ l,Zg s = true):YE l = true := by
 simp only [YE,Bool.and_eq_true,decide_eq_true_eq];exact ⟨h1,List.all_eq_true.2 h2⟩
theorem Qbb {l:List Sector} (h:YE l = true):goodL l = true := by
 have h1 := Qah h;rw [Vn];refine ⟨by omega,fun s hs => Qk ?_⟩
 have := Qda h s hs;simp only [Zg,Bool.and_eq_true,decide_eq_true_eq] at this;omega
theorem Yr {now sure:List Sector} (h:diskOK now sure = true):YE now = true /\ YE sure = true /\ Ks now sure 0 = true := by
 simp only [diskOK,Bool.and_eq_true] at h;exact ⟨h.1.1,h.1.2,h.2⟩
theorem Qew {now sure:List Sector} (hl:now.length = sure.length):Ks now sure 0 = true ↔ ∀ i,i < now.length -> (sure.getD i sec0).n <= (now.getD i sec0).n := by
 unfold Ks;rw [List.drop_zero,List.all_eq_true];constructor
 · intro h i hi;have hz:i < (now.zip sure).length := by simp;omega
   have h3 := h _ (List.getElem_mem hz);simp only [List.getElem_zip,decide_eq_true_eq] at h3;have hi2:i < sure.length := by omega
   simpa [hi,hi2] using h3
 · intro h p hp;obtain ⟨i,hi,rfl⟩ := List.getElem_of_mem hp;have h1:i < now.length := by simp at hi;omega
   have h2:i < sure.length := by omega
   have := h i h1;simp only [List.getElem_zip,decide_eq_true_eq]
   simpa [h1,h2] using this
theorem Qex {now sure:List Sector} (h:diskOK now sure = true):goodL now = true /\ goodL sure = true :=
 ⟨Qbb (Yr h).1,Qbb (Yr h).2.1⟩
theorem putNow_mem {now:List Sector} {k:Nat} {n:Int} {b:List UInt8} {s:Sector} (h:s ∈ Y8 now k n b):s ∈ now \/ s = ⟨n,b⟩ := by
 unfold Y8 at h
 split at h
 · exact List.mem_or_eq_of_mem_set h
 · exact .inl h
theorem QkV {now:List Sector} {k:Nat} {n:Int} {b:List UInt8} (hk:k < now.length) (j:Nat):(Y8 now k n b).getD j sec0 = if j = k /\ (now.getD k sec0).n < n then ⟨n,b⟩ else now.getD j sec0 := by
 unfold Y8
 by_cases h:(now.getD k sec0).n < n
 · rw [if_pos h]
   by_cases hj:j = k
   · subst hj;rw [if_pos ⟨rfl,h⟩];simp [hk]
   · rw [if_neg (fun q => hj q.1)];simp only [List.getD_eq_getElem?_getD];rw [List.getElem?_set_ne (fun q => hj q.symm)]
 · rw [if_neg h,if_neg (fun q => h q.2)]
theorem QhM {now sure:List Sector} {k n:Int} {b:List UInt8} (h:Yf now sure k n b = true):diskOK (pNow now sure k n b) (QaI now sure k n b) = true := by
 obtain ⟨hd,h0,h1,h2,h3,h4⟩ := V9 h;obtain ⟨d1,d2,d3⟩ := Yr hd;obtain ⟨l1,l2⟩ := J5 hd;simp only [pNow,QaI,h,cond_true,diskOK,Bool.and_eq_true];have hk:k.toNat < now.length := by omega
 refine ⟨⟨Qpp (by rw [J6];exact l1) fun s hs => ?_,d2⟩,?_⟩
 · rcases putNow_mem hs with q | rfl
   · exact Qda d1 s q
   · exact h4
 · rw [Qew (by rw [J6];omega)]
   intro i hi;rw [J6] at hi;have := (Qew (by omega)).1 d3 i hi
   rw [QkV hk]
   split
   · rename_i q;obtain ⟨rfl,q⟩ := q;have h5:(sure.getD k.toNat sec0).n <= (now.getD k.toNat sec0).n := this;show (sure.getD k.toNat sec0).n <= n;omega
   · exact this
theorem Qey {l:List Sector} (h:YE l = true):diskOK l l = true := by
 simp only [diskOK,h,Bool.true_and];rw [Qew rfl];intro i _;exact Int.le_refl _
def secI (p:Int):Int := if p < 0 then 0 else p % 32
def entL (r:Rec):List UInt8 := bif mayB r then Vm r.place (ZG r) else []
open Go.Proofs
def entE (r:Rec):Int := bif mayB r then 0 else 2
theorem QtD (p:Int):(if p < 0 then 0 else p).tmod 32 = secI p := by
 unfold secI
 split
 · rfl
 · rw [Int.tmod_eq_emod_of_nonneg (by omega)]
theorem QrZ {r:Rec} (h:mayB r = true):okF r.place (ZG r) = true /\ (ZG r).length <= 13 := by
 have h1 := Qa8 h;have h2 := (Jr (p := r.place) (y := r.yes) (l := r.writes) h).1;refine ⟨?_,h1⟩;simp only [okF,Bool.and_eq_true,decide_eq_true_eq];omega
def Qdb (p:Int):Option (Bool × D RC) := some (true,.int .i64 (secI p))
def Qbc:List (D RC) -> Option (Bool × D RC)
 | [.int .i64 p] => Qdb p
 | _ => none
noncomputable def Qdc (p:Int) := evF s25 ui_1 20 52 [.int .i64 p]
theorem QhN (p:Int):Qdc p = (some (D.int .i64 (Int.tmod (if p < (0:Int) then (0:Int) else p) (32:Int)))) := by kernel_rfl
theorem QhO (p:Int) (h:(true) = true):Qdc p = some (.int .i64 (secI p)) := by
 rw [QhN];rw [QtD]
noncomputable def uj_1 := ui_1.addSpec 52 Qbc
theorem QkW:Qh Tryz.prog s25 uj_1 := QkU.addEv Qa fun args d h => by
 unfold Qbc at h
 split at h
 · unfold Qdb at h;have h1 := congrArg Prod.fst (Option.some.inj h);obtain rfl:_ = d := congrArg Prod.snd (Option.some.inj h);exact ⟨by simp [D.refs],20,QhO _ h1⟩
 · cases h
def Qdd (p:Int):Option (Bool × D RC) := some (true,.int .i64 (secI p))
def Qbd:List (D RC) -> Option (Bool × D RC)
 | [.int .i64 p] => Qdd p
 | _ => none
noncomputable def Qde (p:Int) := evF s25 uj_1 20 41 [.int .i64 p]
theorem QhP (p:Int):Qde p = (bif decide (p < (0:Int)) then some (D.int .i64 0) else some (D.int .i64 (Int.tmod p (32:Int)))) := by kernel_rfl
theorem QhQ (p:Int) (h:(true) = true):Qde p = some (.int .i64 (secI p)) := by
 rw [QhP];refine QC (fun e => ?_) fun e => ?_
 · simp only [decide_eq_true_eq] at e;rw [secI,if_pos e]
 · simp only [decide_eq_false_iff_not] at e;rw [secI,if_neg e,Int.tmod_eq_emod_of_nonneg (by omega)]
noncomputable def uj_2 := uj_1.addSpec 41 Qbd
theorem QkX:Qh Tryz.prog s25 uj_2 := QkW.addEv Qa fun args d h => by
 unfold Qbd at h
 split at h
 · unfold Qdd at h;have h1 := congrArg Prod.fst (Option.some.inj h);obtain rfl:_ = d := congrArg Prod.snd (Option.some.inj h);exact ⟨by simp [D.refs],20,QhQ _ h1⟩
 · cases h
theorem QbR (x:Nat) (hx:x < 2 ^ 64):(BitVec.ofInt IntKind.i64.bits (x:Int)).toNat = x := by
 rw [BitVec.toNat_ofInt];simp only [IntKind.bits];omega
theorem QbS (n:Int) (k:Nat) (h0:0 <= n) (h1:n < 9223372036854775808) (hk:k <= 62) :
 bits .i64 (fun _ u v => u &&& v) n ((2 ^ k - 1:Nat):Int) = n % ((2 ^ k:Nat):Int) := by
 obtain ⟨m,rfl⟩ := Int.eq_ofNat_of_zero_le h0;have hp:2 ^ k <= 2 ^ 62 := Nat.pow_le_pow_right (by omega) hk
 have hq:0 < 2 ^ k := Nat.pow_pos (by omega)
 unfold bits;rw [BitVec.toNat_and,QbR _ (by omega),QbR _ (by omega),Nat.and_two_pow_sub_one_eq_mod]
 have := Nat.mod_lt m hq;rw [Qb (by omega) (by omega)]
 simp
theorem Qez (a b:Int) (k:Nat) (ha:0 <= a) (hb:0 <= b) (h1:b < ((2 ^ k:Nat):Int)) (h2:a * ((2 ^ k:Nat):Int) + b < 9223372036854775808) :
 bits .i64 (fun _ u v => u ||| v) (a * ((2 ^ k:Nat):Int)) b = a * ((2 ^ k:Nat):Int) + b := by
 obtain ⟨a,rfl⟩ := Int.eq_ofNat_of_zero_le ha;obtain ⟨b,rfl⟩ := Int.eq_ofNat_of_zero_le hb;have e:(a:Int) * ((2 ^ k:Nat):Int) = ((a * 2 ^ k:Nat):Int) := by simp
 have h2':a * 2 ^ k + b < 9223372036854775808 := by rw [e] at h2;omega
 have h1':b < 2 ^ k := by omega
 unfold bits;rw [e,BitVec.toNat_or,QbR _ (by omega),QbR _ (by omega)]
 have h3:a * 2 ^ k ||| b = a * 2 ^ k + b := by
  rw [Nat.mul_comm,<- Nat.two_pow_add_eq_or_of_lt h1']
 rw [h3,Qb (by omega) (by omega)]
 simp
theorem Ys (m a b:Int) (k:Nat) (hm:m = ((2 ^ k:Nat):Int)) (ha:0 <= a) (hb:0 <= b) (h1:b < m) (h2:a * m + b < 9223372036854775808) :
 bits .i64 (fun _ u v => u ||| v) (a * m) b = a * m + b := by
 subst hm;exact Qez a b k ha hb h1 h2
theorem Zy (n m:Int) (k:Nat) (hm:m + 1 = ((2 ^ k:Nat):Int)) (h0:0 <= n) (h1:n < 9223372036854775808) (hk:k <= 62) :
 bits .i64 (fun _ u v => u &&& v) n m = n % (m + 1) := by
 have hq:0 < 2 ^ k := Nat.pow_pos (by omega)
 rw [hm,<- QbS n k h0 h1 hk]
 congr 1
 omega
def ZJ (l:Line):Bool := decide (0 <= l.offset /\ l.offset < 4194304 /\ 1 <= l.place /\ l.place <= 1048575 /\ 0 <= l.j /\ l.j <= 3 /\ 0 <= l.key /\ l.key <= 7 /\ 0 <= l.value /\ l.value <= 255)
def QbT (l:Line):Int := (l.offset + 1) * 8589934592 + l.place * 8192 + l.j * 2048 + l.key * 256 + l.value
def VT (w:Int):Line := ⟨w / 8589934592 - 1,w / 8192 % 1048576,w / 2048 % 4,w / 256 % 8,w % 256⟩
def Q9 (w:Int):Option Line := if 0 <= w /\ ZJ (VT w) = true then some (VT w) else none
def YY (l:Line):Int := bif ZJ l then QbT l else 0
theorem Qpq {o p j k v:Int} (h:ZJ ⟨o,p,j,k,v⟩ = true) :
 bits .i64 (fun _ u v => u ||| v) (bits .i64 (fun _ u v => u ||| v) (bits .i64 (fun _ u v => u ||| v) (bits .i64 (fun _ u v => u ||| v) ((o + 1) * 8589934592) (p * 8192)) (j * 2048)) (k * 256)) v = QbT ⟨o,p,j,k,v⟩ := by
 unfold ZJ at h;rw [decide_eq_true_eq] at h;simp only at h;have e1 := Ys 8589934592 (o + 1) (p * 8192) 33 (by decide) (by omega) (by omega) (by omega) (by omega)
 have e2 := Ys 8192 ((o + 1) * 1048576 + p) (j * 2048) 13 (by decide) (by omega) (by omega) (by omega) (by omega)
 have e3 := Ys 2048 (((o + 1) * 1048576 + p) * 4 + j) (k * 256) 11 (by decide) (by omega) (by omega) (by omega) (by omega)
 have e4 := Ys 256 ((((o + 1) * 1048576 + p) * 4 + j) * 8 + k) v 8 (by decide) (by omega) (by omega) (by omega) (by omega)
 rw [e1,show (o + 1) * 8589934592 + p * 8192 = ((o + 1) * 1048576 + p) * 8192 by omega,e2,
  show ((o + 1) * 1048576 + p) * 8192 + j * 2048 = (((o + 1) * 1048576 + p) * 4 + j) * 2048 by omega,e3,
  show (((o + 1) * 1048576 + p) * 4 + j) * 2048 + k * 256 = ((((o + 1) * 1048576 + p) * 4 + j) * 8 + k) * 256 by omega,e4]
 unfold QbT;simp only;omega
theorem QeA {w:Int} (h0:0 <= w):QbT (VT w) = w := by
 unfold VT QbT;simp only;omega
theorem QhR {w:Int} {l:Line} (h:Q9 w = some l):ZJ l = true /\ QbT l = w /\ l = VT w /\ 0 <= w := by
 unfold Q9 at h
 split at h
 · rename_i q;cases h;exact ⟨q.2,QeA q.1,rfl,q.1⟩
 · cases h
def readO (w:Int):Line := (Q9 w).getD ⟨0,0,0,0,0⟩
open Go.Proofs
def QkY (p:Int) (y:Bool) (c:Bool) (l:List Qc):Option (Bool × D RC) := some (lenOK l.length,.tup (.acons (.int .i64 (bif mayB ⟨p,y,l⟩ then secI p else 0)) (.acons (.str (entL ⟨p,y,l⟩)) (.acons (.int .i64 (entE ⟨p,y,l⟩)) .anil))))
def QfO:List (D RC) -> Option (Bool × D RC)
 | [.acons (.int .i64 p) (.acons (.bool y) (.acons (.sl .write c l) .anil))] => QkY p y c l
 | _ => none
noncomputable def QkZ (p:Int) (y:Bool) (c:Bool) (l:List Qc) := evF s25 uj_2 20 23 [.acons (.int .i64 p) (.acons (.bool y) (.acons (.sl (C := RC) .write c l) .anil))]
theorem Qpr (p:Int) (y:Bool) (c:Bool) (l:List Qc):QkZ p y c l = (let Z0:Int := bif mayB (Rec.mk p y l) then (0:Int) else (2:Int);let Z1:List (RA RTy.u8) := (fun (l:List (RA RTy.u8)) => l) (bif mayB (Rec.mk p y l) then ZG (Rec.mk p y l) else []);bif lenOK l.length then bif Z0 != (0:Int) then some (D.tup (D.acons (D.int .i64 0) (.acons (D.str (Array.toList #[])) (.acons (D.int .i64 Z0) .anil)))) else bif decide (List.length Z1 <= (1000000:Nat)) then some (D.tup (D.acons (D.int .i64 (secI p)) (.acons (D.str (bif okF p Z1 then Vm p Z1 else [])) (.acons (D.int .i64 (bif okF p Z1 then (0:Int) else (2:Int))) .anil)))) else none else none) := by kernel_rfl
theorem Qps (p:Int) (y:Bool) (c:Bool) (l:List Qc) (h:(lenOK l.length) = true):QkZ p y c l = some (.tup (.acons (.int .i64 (bif mayB ⟨p,y,l⟩ then secI p else 0)) (.acons (.str (entL ⟨p,y,l⟩)) (.acons (.int .i64 (entE ⟨p,y,l⟩)) .anil)))) := by
 (rw [Qpr];conv => zeta)
 refine QW h ?_;cases hm:mayB ⟨p,y,l⟩
 · simp only [entL,entE,hm];rfl
 · obtain ⟨h1,h2⟩ := QrZ hm;have h3:decide ((ZG ⟨p,y,l⟩).length <= 1000000) = true := decide_eq_true (by omega)
   simp only [entL,entE,hm,h1,h3,cond_true,cond_false,Bool.not_true];rfl
noncomputable def uk_1 := uj_2.addSpec 23 QfO
theorem Qk0:Qh Tryz.prog s25 uk_1 := QkX.addEv Qa fun args d h => by
 unfold QfO at h
 split at h
 · unfold QkY at h;have h1 := congrArg Prod.fst (Option.some.inj h);obtain rfl:_ = d := congrArg Prod.snd (Option.some.inj h);exact ⟨by simp [D.refs],20,Qps _ _ _ _ h1⟩
 · cases h
def QfP (p:Int) (y:Bool) (c:Bool) (l:List Qc):Option (Bool × D RC) := some (lenOK l.length,.tup (.acons (.int .i64 (bif mayB ⟨p,y,l⟩ then secI p else 0)) (.acons (.str (entL ⟨p,y,l⟩)) (.acons (.int .i64 (entE ⟨p,y,l⟩)) .anil))))
def Qdf:List (D RC) -> Option (Bool × D RC)
 | [.acons (.int .i64 p) (.acons (.bool y) (.acons (.sl .write c l) .anil))] => QfP p y c l
 | _ => none
noncomputable def QfQ (p:Int) (y:Bool) (c:Bool) (l:List Qc) := evF s25 uk_1 20 24 [.acons (.int .i64 p) (.acons (.bool y) (.acons (.sl (C := RC) .write c l) .anil))]
theorem Qk1 (p:Int) (y:Bool) (c:Bool) (l:List Qc):QfQ p y c l = (let Z0:Int := bif mayB (Rec.mk p y l) then (0:Int) else (2:Int);let Z1:List (RA RTy.u8) := (fun (l:List (RA RTy.u8)) => l) (bif mayB (Rec.mk p y l) then ZG (Rec.mk p y l) else []);bif lenOK l.length then bif Z0 != (0:Int) then some (D.tup (D.acons (D.int .i64 0) (.acons (D.str (Array.toList #[])) (.acons (D.int .i64 Z0) .anil)))) else bif decide (List.length Z1 <= (1000000:Nat)) then some (D.tup (D.acons (D.int .i64 (secI p)) (.acons (D.str (bif okF p Z1 then Vm p Z1 else [])) (.acons (D.int .i64 (bif okF p Z1 then (0:Int) else (2:Int))) .anil)))) else none else none) := by kernel_rfl
theorem Qk2 (p:Int) (y:Bool) (c:Bool) (l:List Qc) (h:(lenOK l.length) = true):QfQ p y c l = some (.tup (.acons (.int .i64 (bif mayB ⟨p,y,l⟩ then secI p else 0)) (.acons (.str (entL ⟨p,y,l⟩)) (.acons (.int .i64 (entE ⟨p,y,l⟩)) .anil)))) := by
 (rw [Qk1];conv => zeta)
 refine QW h ?_;cases hm:mayB ⟨p,y,l⟩
 · simp only [entL,entE,hm];rfl
 · obtain ⟨h1,h2⟩ := QrZ hm;have h3:decide ((ZG ⟨p,y,l⟩).length <= 1000000) = true := decide_eq_true (by omega)
   simp only [entL,entE,hm,h1,h3,cond_true,cond_false,Bool.not_true];rfl
noncomputable def uk_2 := uk_1.addSpec 24 Qdf
theorem Qk3:Qh Tryz.prog s25 uk_2 := Qk0.addEv Qa fun args d h => by
 unfold Qdf at h
 split at h
 · unfold QfP at h;have h1 := congrArg Prod.fst (Option.some.inj h);obtain rfl:_ = d := congrArg Prod.snd (Option.some.inj h);exact ⟨by simp [D.refs],20,Qk2 _ _ _ _ h1⟩
 · cases h
def Qdg :Option (Bool × D RC) := some (true,.bool true)
def Qbe:List (D RC) -> Option (Bool × D RC)
 | [] => Qdg 
 | _ => none
noncomputable def Qk4  := evF s25 uk_2 1000 10 []
theorem QhS  (h:(true) = true):Qk4  = some (.bool true) := by
 kernel_rfl
noncomputable def uk_3 := uk_2.addSpec 10 Qbe
theorem Qk5:Qh Tryz.prog s25 uk_3 := Qk3.addEv Qa fun args d h => by
 unfold Qbe at h
 split at h
 · unfold Qdg at h;have h1 := congrArg Prod.fst (Option.some.inj h);obtain rfl:_ = d := congrArg Prod.snd (Option.some.inj h);exact ⟨by simp [D.refs],1000,QhS  h1⟩
 · cases h
def lRow (first n many:Int):Int := if 0 <= n /\ n < many then first + n else -1
def lRing (p w:Int):Int := if 0 <= p /\ 2 <= w /\ w <= 8 then 13 + p % w else -1
def lStream (q o:Int):Int := if 0 <= q /\ q <= 2 /\ 0 <= o then 51 + 16 * q + o % 16 else -1
def lField (first slot f many fields:Int):Int := if 0 <= slot /\ slot < many /\ 0 <= f /\ f < fields then first + slot * fields + f else -1
theorem ZW (n:Int):(BitVec.ofInt IntKind.i64.bits n).toNat = (n % 18446744073709551616).toNat := by
 rw [BitVec.toNat_ofInt];simp only [IntKind.bits]
 congr 1
theorem Qai {p w:Int} (hw:0 < w):0 <= p % w /\ p % w < w := ⟨Int.emod_nonneg _ (by omega),Int.emod_lt_of_pos _ hw⟩
theorem ZX {x a b:Int} (h:Qp x a b = false):¬ (a <= x /\ x <= b) := by rw [<- QB];simp [h]
theorem YZ {p w:Int} (h:0 <= p):p.tmod w = p % w := Int.tmod_eq_emod_of_nonneg h
theorem Q4 {α:Type} {c:Bool} {x y z:α} (h1:c = true -> x = z) (h2:c = false -> y = z):cond c x y = z := by cases c;exact h2 rfl;exact h1 rfl
def QL:List Int := 0 :: 1 :: List.replicate 289 0 ++ (List.replicate 160 [(0:Int),-1,0]).flatten
def inWord (w:Int):Int := if 0 <= w /\ w <= 1099510841343 then w else 0
def plc (w:Int):Int := inWord w / 1048576
def bare (w:Int):Int := inWord w % 1048576
def OkWord (p h:Int):Prop := 0 <= p /\ p <= 1048575 /\ (256 <= h /\ h <= 262143 \/ h = 0 /\ p = 0)
instance instOkWord (p h:Int):Decidable (OkWord p h) := by unfold OkWord;infer_instance
def wordN (p h:Int):Int := if OkWord p h then p * 1048576 + h else 0
def Qdh (p h:Int):Int := if OkWord p h then 0 else 2
theorem Qdi (w:Int):0 <= inWord w /\ inWord w <= 1099510841343 := by unfold inWord;split <;> omega
theorem Q2 {w:Int} (h:¬ (0 <= w /\ w <= 1099510841343)):inWord w = 0 := if_neg h
theorem Zm {w:Int} (h:0 <= w /\ w <= 1099510841343):inWord w = w := if_pos h
theorem Qr0 {w:Int} (h:0 <= w):w.fdiv 1048576 = w / 1048576 := Int.fdiv_eq_ediv_of_nonneg _ (by decide)
theorem Qww {n:Int} (h:0 <= n /\ n < 1099511627776):bits .i64 (fun _ u v => u &&& v) n 1099511627775 = n := by
 unfold bits;rw [BitVec.toNat_and,ZW,ZW];have e:((1099511627775:Int) % 18446744073709551616).toNat = 2 ^ 40 - 1 := by decide
 rw [e,Nat.and_two_pow_sub_one_eq_mod,Qb (by omega) (by omega)]
 omega
theorem QvG (n:Int):bits .i64 (fun _ u v => u &&& v) n 1048575 = n % 1048576 := by
 unfold bits;rw [BitVec.toNat_and,ZW,ZW];have e:((1048575:Int) % 18446744073709551616).toNat = 2 ^ 20 - 1 := by decide
 rw [e,Nat.and_two_pow_sub_one_eq_mod,Qb (by omega) (by omega)]
 omega
theorem or20 {p h:Int} (hp:0 <= p /\ p <= 1048575) (hh:0 <= h /\ h < 1048576):bits .i64 (fun _ u v => u ||| v) (p * 1048576) h = p * 1048576 + h := by
 obtain ⟨p,rfl⟩:∃ n:Nat,p = n := ⟨p.toNat,by omega⟩
 obtain ⟨h,rfl⟩:∃ n:Nat,h = n := ⟨h.toNat,by omega⟩
 unfold bits;have e:(p:Int) * 1048576 = ((p * 1048576:Nat):Int) := by simp
 rw [e]
 have h1:∀ x:Nat,x < 2 ^ 64 -> (BitVec.ofInt IntKind.i64.bits (x:Int)).toNat = x := by
  intro x hx;rw [BitVec.toNat_ofInt];simp only [IntKind.bits];omega
 rw [BitVec.toNat_or,h1 _ (by omega),h1 _ (by omega)]
 have h2:p * 1048576 ||| h = p * 1048576 + h := by
  rw [Nat.mul_comm p 1048576,show (1048576:Nat) = 2 ^ 20 from rfl,<- Nat.two_pow_add_eq_or_of_lt (by omega)]
 rw [h2,Qb (by omega) (by omega)]
 simp
theorem Qdj {C:Cdc} {p h:Int} (hw:OkWord p h):(D.tup (.acons (.int .i64 (p * 1048576 + h)) (.acons (.int .i64 0) .anil)):D C) = .tup (.acons (.int .i64 (wordN p h)) (.acons (.int .i64 (Qdh p h)) .anil)) := by
 rw [wordN,Qdh,if_pos hw,if_pos hw]
theorem Qdk {C:Cdc} {p h:Int} (hw:¬ OkWord p h):(D.tup (.acons (.int .i64 0) (.acons (.int .i64 2) .anil)):D C) = .tup (.acons (.int .i64 (wordN p h)) (.acons (.int .i64 (Qdh p h)) .anil)) := by
 rw [wordN,Qdh,if_neg hw,if_neg hw]
def Qr1 (k a b v g:Int) (tl al:Nat):Prop :=
 -1 <= b /\ b <= 1152921504606846976 /\ -1 <= v /\ v <= 1152921504606846976 /\ -1 <= g /\ g <= 1152921504606846976 /\ al <= 96 /\ tl <= 640 /\ 0 <= a /\ a <= 4095 /\
 (k = 0 /\ b = 0 /\ v = 0 /\ tl = 0 /\ al = 0 \/ k = 2 /\ tl = 0 /\ al = 0 \/ k = 7 /\ a = 0 /\ b = 0 /\ v = 0 /\ g = 0 /\ tl = 0)
instance instMayAct (k a b v g:Int) (tl al:Nat):Decidable (Qr1 k a b v g tl al) := by unfold Qr1;infer_instance
structure GoR where
 st:List Qe
 got:List Int
 over:Bool
 kind:Int
 a:Int
 b:Int
 v:Int
 is:Bool
def gLoad (r got:List Int) (n cell:Int):GoR := ⟨[⟨68,n,r⟩],got,false,0,cell,0,0,true⟩
def gCas (r got:List Int) (n cell b v:Int):GoR := ⟨[⟨68,n,r⟩],got,false,2,cell,b,v,true⟩
def gEnd (l:List Int):GoR := ⟨[],l,true,0,0,0,0,false⟩
def goF (k:Int) (r got:List Int) (x:Int):GoR :=
 if k = 0 \/ k = 5 then gLoad r got 1 1
 else if k = 1 then gLoad (r.set 2 x) got 2 0
 else if k = 2 then (if x + r.getD 0 0 < r.getD 2 0 then gEnd [170] else if 1048575 < r.getD 2 0 then gEnd [172] else gLoad r got 3 4)
 else if k = 3 then (if x < r.getD 2 0 - 32 then gEnd [171] else gLoad r got 4 (lRing (r.getD 2 0) (r.getD 0 0)))
 else if k = 4 then (if plc x = r.getD 2 0 then gCas (r.set 3 x) got 5 1 (r.getD 2 0) (r.getD 2 0 + 1) else if r.getD 2 0 < plc x then gLoad (r.set 3 x) got 1 1
  else gCas (r.set 3 x) got 6 (lRing (r.getD 2 0) (r.getD 0 0)) x (wordN (r.getD 2 0) (r.getD 1 0)))
 else if k = 6 then (if x = 0 then gLoad r got 1 1 else gCas r got 7 1 (r.getD 2 0) (r.getD 2 0 + 1))
 else gEnd [0,r.getD 2 0]
def goR (st:List Qe) (got:List Int):GoR := match st with
 | [f] => goF f.at' f.r got (got.headD 0)
 | _ => gEnd []
def OkF (k:Int) (r:List Int) (x:Int):Prop := 1 <= k /\ k <= 7 /\ 0 <= x /\ x <= 1152921504606846976 /\ 2 <= r.getD 0 0 /\ r.getD 0 0 <= 8 /\ 0 <= r.getD 2 0 /\ r.getD 2 0 <= 1099511627776
instance instOkF (k:Int) (r:List Int) (x:Int):Decidable (OkF k r x) := by unfold OkF;infer_instance
def okFr (k:Int) (r got:List Int):Bool := match got with
 | [] => decide (k = 0)
 | [x] => decide (OkF k r x)
 | _ => false
def okG (c:Int) (st:List Qe) (got:List Int):Bool := match st with
 | [f] => decide (0 <= c /\ c <= 3 /\ f.prog = 68 /\ f.r.length = 96) && okFr f.at' f.r got
 | _ => false
theorem getD_set_ne' {l:List Int} {i j:Nat} {x d:Int} (h:i ≠ j):(l.set i x).getD j d = l.getD j d := by
 simp [List.getD_eq_getElem?_getD,List.getElem?_set_ne h]
theorem JA {p w:Int} (hp:0 <= p) (hw:2 <= w /\ w <= 8):13 <= lRing p w /\ lRing p w < 13 + w := by
 have := Qai (p := p) (w := w) (by omega)
 rw [lRing,if_pos ⟨hp,hw.1,hw.2⟩];omega
theorem Qpt (p h:Int):0 <= wordN p h /\ wordN p h <= 1099510841343 := by
 unfold wordN
 split
 · rename_i hw;unfold OkWord at hw;omega
 · omega
def QaJ (n:Int):Bool := decide (-1152921504606846976 <= n) && decide (n <= 1152921504606846976)
def cellsOK (l:List Int):Bool := decide (l.length <= 1024) && l.all QaJ
def OkDo (l:List Int) (k a b v:Int):Prop := (k = 0 /\ b = 0 /\ v = 0 \/ k = 2) /\ 0 <= a /\ a < l.length /\ -1152921504606846976 <= b /\ b <= 1152921504606846976 /\ -1152921504606846976 <= v /\ v <= 1152921504606846976
instance instOkDo (l:List Int) (k a b v:Int):Decidable (OkDo l k a b v) := by unfold OkDo;infer_instance
def doC (l:List Int) (k a b v:Int):List Int := if k = 2 /\ l.getD a.toNat 0 = b then l.set a.toNat v else l
def doG (l:List Int) (k a b:Int):Int := if k = 0 then l.getD a.toNat 0 else if l.getD a.toNat 0 = b then 1 else 0
def tkC (ts:List Task) (c:Int):Task := ts.getD c.toNat ⟨0,[],[],false⟩
def stG (t:Task):GoR := goR t.stack t.got
def stX (cs:List Int) (t:Task):Int := doG cs (stG t).kind (stG t).a (stG t).b
def stCs (cs:List Int) (t:Task):List Int := doC cs (stG t).kind (stG t).a (stG t).b (stG t).v
def stE (cs:List Int) (t:Task):GoR := goR (stG t).st [stX cs t]
def stT (cs:List Int) (t:Task):Task := ⟨t.client,(stG t).st,[stX cs t],(stG t).over⟩
def Qr2 (cs:List Int) (t:Task) (now sure:List Sector):Prop :=
 okG t.client t.stack t.got = true /\ t.over = false /\ (stG t).is = true /\ OkDo cs (stG t).kind (stG t).a (stG t).b (stG t).v /\ cellsOK cs = true /\ diskOK now sure = true /\ goodL now = true /\ goodL sure = true /\ okG t.client (stG t).st [stX cs t] = true
instance instOkStep (cs:List Int) (t:Task) (now sure:List Sector):Decidable (Qr2 cs t now sure) := by unfold Qr2;infer_instance
def hnd (c n:Int):Int := (n % 1000 + 1) * 256 + c
structure GS where
 cs:List Int
 ts:List Task
 busy:List Bool
 n:Int
 has:List Int
 told:List Int
def Qr3 (s:GS) (c:Int):Bool := s.busy.getD c.toNat false
theorem mod4 (x:Int):Int.tmod (IntKind.i64.wrap (Int.tmod x 4 + 4)) 4 = x % 4 := by
 have h1:-4 < Int.tmod x 4 := Int.lt_tmod_of_pos _ (by decide)
 have h2:Int.tmod x 4 < 4 := Int.tmod_lt_of_pos _ (by decide)
 rw [Qb (by omega) (by omega),Int.tmod_eq_emod_of_nonneg (by omega)]
 have h3:x = 4 * (x.tdiv 4) + x.tmod 4 := (Int.mul_tdiv_add_tmod x 4).symm;omega
def wd (p:Int) (hs:List Int):Int := if p <= 0 then 0 else p * 1048576 + hs.getD (p - 1).toNat 0
structure RW (w:Int) (cs hs:List Int):Prop where
 w0:2 <= w
 w1:w <= 8
 lc:cs.length = 771
 fit:∀ i,-1152921504606846976 <= cs.getD i 0 /\ cs.getD i 0 <= 1152921504606846976
 q0:0 <= cs.getD 4 0
 qf:cs.getD 4 0 <= cs.getD 0 0
 fT:cs.getD 0 0 <= hs.length
 Tf:(hs.length:Int) <= cs.getD 0 0 + w
 Tt:(hs.length:Int) <= cs.getD 1 0
 tT:cs.getD 1 0 <= hs.length + 1
 t1:1 <= cs.getD 1 0
 hv:∀ d ∈ hs,256 <= d /\ d <= 262143
 Tk:(hs.length:Int) <= 100000
 TL:(hs.length:Int) - 32 <= cs.getD 4 0
 ring:∀ p:Int,hs.length - w < p -> p <= hs.length -> cs.getD (13 + p % w).toNat 0 = wd p hs
theorem QtE {l:List Int} {i:Nat} {d:Int} (h:i < l.length):l.getD i d = l[i] := by
 rw [List.getD_eq_getElem?_getD,List.getElem?_eq_getElem h];rfl
theorem Qd {l:List Int} {i:Nat} {x d:Int} (h:i < l.length):(l.set i x).getD i d = x := by
 rw [List.getD_eq_getElem?_getD,List.getElem?_set_self h];rfl
def MayA (k a b v g:Int) (tl al:Nat):Prop :=
 -1 <= b /\ b <= 1152921504606846976 /\ -1 <= v /\ v <= 1152921504606846976 /\ -1 <= g /\ g <= 1152921504606846976 /\ al <= 96 /\ tl <= 640 /\ 0 <= a /\ a <= 4095 /\
 (k = 0 /\ b = 0 /\ v = 0 /\ tl = 0 /\ al = 0 \/ k = 1 /\ b = 0 /\ tl = 0 /\ al = 0 \/ k = 2 /\ tl = 0 /\ al = 0 \/ k = 3 /\ b = 0 /\ g = 0 /\ tl = 0 /\ al = 0 \/ k = 4 /\ v = 0 /\ g = 0 /\ al = 0 \/
  k = 5 /\ a = 0 /\ b = 0 /\ v = 0 /\ g = 0 /\ tl = 0 /\ al = 0 \/ k = 6 /\ a <= 127 /\ b = 0 /\ v = 0 /\ g = 0 /\ tl = 0 \/ k = 7 /\ a = 0 /\ b = 0 /\ v = 0 /\ g = 0 /\ tl = 0)
instance instMayA (k a b v g:Int) (tl al:Nat):Decidable (MayA k a b v g tl al) := by unfold MayA;infer_instance
def ZR (k a b v g:Int) (tx:List UInt8) (ar:List Int):Bool := decide (MayA k a b v g tx.length ar.length)
theorem Qdl {C:Cdc} {k a b v g:Int} {tx:List UInt8} {ar:List Int} (h:MayA k a b v g tx.length ar.length):(some (D.bool true):Option (D C)) = some (.bool (ZR k a b v g tx ar)) := by rw [ZR,decide_eq_true h]
theorem Qdm {C:Cdc} {k a b v g:Int} {tx:List UInt8} {ar:List Int} (h:¬ MayA k a b v g tx.length ar.length):(some (D.bool false):Option (D C)) = some (.bool (ZR k a b v g tx ar)) := by rw [ZR,decide_eq_false h]
theorem MayA.k0 {a b v g:Int} {tl al:Nat}:MayA 0 a b v g tl al ↔ (-1 <= b /\ b <= 1152921504606846976 /\ -1 <= v /\ v <= 1152921504606846976 /\ -1 <= g /\ g <= 1152921504606846976 /\ al <= 96 /\ tl <= 640 /\ 0 <= a /\ a <= 4095) /\ b = 0 /\ v = 0 /\ tl = 0 /\ al = 0 := by
 unfold MayA;refine ⟨fun ⟨q1,q2,q3,q4,q5,q6,q7,q8,q9,q10,h⟩ => ⟨⟨q1,q2,q3,q4,q5,q6,q7,q8,q9,q10⟩,?_⟩,fun ⟨⟨q1,q2,q3,q4,q5,q6,q7,q8,q9,q10⟩,h⟩ => ⟨q1,q2,q3,q4,q5,q6,q7,q8,q9,q10,.inl ⟨rfl,h⟩⟩⟩;rcases h with ⟨e,h⟩ | ⟨e,h⟩ | ⟨e,h⟩ | ⟨e,h⟩ | ⟨e,h⟩ | ⟨e,h⟩ | ⟨e,h⟩ | ⟨e,h⟩
 · exact h
 · exact absurd e (by decide)
 · exact absurd e (by decide)
 · exact absurd e (by decide)
 · exact absurd e (by decide)
 · exact absurd e (by decide)
 · exact absurd e (by decide)
 · exact absurd e (by decide)
theorem MayA.k1 {a b v g:Int} {tl al:Nat}:MayA 1 a b v g tl al ↔ (-1 <= b /\ b <= 1152921504606846976 /\ -1 <= v /\ v <= 1152921504606846976 /\ -1 <= g /\ g <= 1152921504606846976 /\ al <= 96 /\ tl <= 640 /\ 0 <= a /\ a <= 4095) /\ b = 0 /\ tl = 0 /\ al = 0 := by
 unfold MayA;refine ⟨fun ⟨q1,q2,q3,q4,q5,q6,q7,q8,q9,q10,h⟩ => ⟨⟨q1,q2,q3,q4,q5,q6,q7,q8,q9,q10⟩,?_⟩,fun ⟨⟨q1,q2,q3,q4,q5,q6,q7,q8,q9,q10⟩,h⟩ => ⟨q1,q2,q3,q4,q5,q6,q7,q8,q9,q10,.inr (.inl ⟨rfl,h⟩)⟩⟩;rcases h with ⟨e,h⟩ | ⟨e,h⟩ | ⟨e,h⟩ | ⟨e,h⟩ | ⟨e,h⟩ | ⟨e,h⟩ | ⟨e,h⟩ | ⟨e,h⟩
 · exact absurd e (by decide)
 · exact h
 · exact absurd e (by decide)
 · exact absurd e (by decide)
 · exact absurd e (by decide)
 · exact absurd e (by decide)
 · exact absurd e (by decide)
 · exact absurd e (by decide)
theorem MayA.k2 {a b v g:Int} {tl al:Nat}:MayA 2 a b v g tl al ↔ (-1 <= b /\ b <= 1152921504606846976 /\ -1 <= v /\ v <= 1152921504606846976 /\ -1 <= g /\ g <= 1152921504606846976 /\ al <= 96 /\ tl <= 640 /\ 0 <= a /\ a <= 4095) /\ tl = 0 /\ al = 0 := by
 unfold MayA;refine ⟨fun ⟨q1,q2,q3,q4,q5,q6,q7,q8,q9,q10,h⟩ => ⟨⟨q1,q2,q3,q4,q5,q6,q7,q8,q9,q10⟩,?_⟩,fun ⟨⟨q1,q2,q3,q4,q5,q6,q7,q8,q9,q10⟩,h⟩ => ⟨q1,q2,q3,q4,q5,q6,q7,q8,q9,q10,.inr (.inr (.inl ⟨rfl,h⟩))⟩⟩;rcases h with ⟨e,h⟩ | ⟨e,h⟩ | ⟨e,h⟩ | ⟨e,h⟩ | ⟨e,h⟩ | ⟨e,h⟩ | ⟨e,h⟩ | ⟨e,h⟩
 · exact absurd e (by decide)
 · exact absurd e (by decide)
 · exact h
 · exact absurd e (by decide)
 · exact absurd e (by decide)
 · exact absurd e (by decide)
 · exact absurd e (by decide)
 · exact absurd e (by decide)
theorem MayA.k3 {a b v g:Int} {tl al:Nat}:MayA 3 a b v g tl al ↔ (-1 <= b /\ b <= 1152921504606846976 /\ -1 <= v /\ v <= 1152921504606846976 /\ -1 <= g /\ g <= 1152921504606846976 /\ al <= 96 /\ tl <= 640 /\ 0 <= a /\ a <= 4095) /\ b = 0 /\ g = 0 /\ tl = 0 /\ al = 0 := by
 unfold MayA;refine ⟨fun ⟨q1,q2,q3,q4,q5,q6,q7,q8,q9,q10,h⟩ => ⟨⟨q1,q2,q3,q4,q5,q6,q7,q8,q9,q10⟩,?_⟩,fun ⟨⟨q1,q2,q3,q4,q5,q6,q7,q8,q9,q10⟩,h⟩ => ⟨q1,q2,q3,q4,q5,q6,q7,q8,q9,q10,.inr (.inr (.inr (.inl ⟨rfl,h⟩)))⟩⟩;rcases h with ⟨e,h⟩ | ⟨e,h⟩ | ⟨e,h⟩ | ⟨e,h⟩ | ⟨e,h⟩ | ⟨e,h⟩ | ⟨e,h⟩ | ⟨e,h⟩
 · exact absurd e (by decide)
 · exact absurd e (by decide)
 · exact absurd e (by decide)
 · exact h
 · exact absurd e (by decide)
 · exact absurd e (by decide)
 · exact absurd e (by decide)
 · exact absurd e (by decide)
theorem MayA.k4 {a b v g:Int} {tl al:Nat}:MayA 4 a b v g tl al ↔ (-1 <= b /\ b <= 1152921504606846976 /\ -1 <= v /\ v <= 1152921504606846976 /\ -1 <= g /\ g <= 1152921504606846976 /\ al <= 96 /\ tl <= 640 /\ 0 <= a /\ a <= 4095) /\ v = 0 /\ g = 0 /\ al = 0 := by
 unfold MayA;refine ⟨fun ⟨q1,q2,q3,q4,q5,q6,q7,q8,q9,q10,h⟩ => ⟨⟨q1,q2,q3,q4,q5,q6,q7,q8,q9,q10⟩,?_⟩,fun ⟨⟨q1,q2,q3,q4,q5,q6,q7,q8,q9,q10⟩,h⟩ => ⟨q1,q2,q3,q4,q5,q6,q7,q8,q9,q10,.inr (.inr (.inr (.inr (.inl ⟨rfl,h⟩))))⟩⟩;rcases h with ⟨e,h⟩ | ⟨e,h⟩ | ⟨e,h⟩ | ⟨e,h⟩ | ⟨e,h⟩ | ⟨e,h⟩ | ⟨e,h⟩ | ⟨e,h⟩
 · exact absurd e (by decide)
 · exact absurd e (by decide)
 · exact absurd e (by decide)
 · exact absurd e (by decide)
 · exact h
 · exact absurd e (by decide)
 · exact absurd e (by decide)
 · exact absurd e (by decide)
theorem MayA.k5 {a b v g:Int} {tl al:Nat}:MayA 5 a b v g tl al ↔ (-1 <= b /\ b <= 1152921504606846976 /\ -1 <= v /\ v <= 1152921504606846976 /\ -1 <= g /\ g <= 1152921504606846976 /\ al <= 96 /\ tl <= 640 /\ 0 <= a /\ a <= 4095) /\ a = 0 /\ b = 0 /\ v = 0 /\ g = 0 /\ tl = 0 /\ al = 0 := by
 unfold MayA;refine ⟨fun ⟨q1,q2,q3,q4,q5,q6,q7,q8,q9,q10,h⟩ => ⟨⟨q1,q2,q3,q4,q5,q6,q7,q8,q9,q10⟩,?_⟩,fun ⟨⟨q1,q2,q3,q4,q5,q6,q7,q8,q9,q10⟩,h⟩ => ⟨q1,q2,q3,q4,q5,q6,q7,q8,q9,q10,.inr (.inr (.inr (.inr (.inr (.inl ⟨rfl,h⟩)))))⟩⟩;rcases h with ⟨e,h⟩ | ⟨e,h⟩ | ⟨e,h⟩ | ⟨e,h⟩ | ⟨e,h⟩ | ⟨e,h⟩ | ⟨e,h⟩ | ⟨e,h⟩
 · exact absurd e (by decide)
 · exact absurd e (by decide)
 · exact absurd e (by decide)
 · exact absurd e (by decide)
 · exact absurd e (by decide)
 · exact h
 · exact absurd e (by decide)
 · exact absurd e (by decide)
theorem MayA.k6 {a b v g:Int} {tl al:Nat}:MayA 6 a b v g tl al ↔ (-1 <= b /\ b <= 1152921504606846976 /\ -1 <= v /\ v <= 1152921504606846976 /\ -1 <= g /\ g <= 1152921504606846976 /\ al <= 96 /\ tl <= 640 /\ 0 <= a /\ a <= 4095) /\ a <= 127 /\ b = 0 /\ v = 0 /\ g = 0 /\ tl = 0 := by
 unfold MayA;refine ⟨fun ⟨q1,q2,q3,q4,q5,q6,q7,q8,q9,q10,h⟩ => ⟨⟨q1,q2,q3,q4,q5,q6,q7,q8,q9,q10⟩,?_⟩,fun ⟨⟨q1,q2,q3,q4,q5,q6,q7,q8,q9,q10⟩,h⟩ => ⟨q1,q2,q3,q4,q5,q6,q7,q8,q9,q10,.inr (.inr (.inr (.inr (.inr (.inr (.inl ⟨rfl,h⟩))))))⟩⟩;rcases h with ⟨e,h⟩ | ⟨e,h⟩ | ⟨e,h⟩ | ⟨e,h⟩ | ⟨e,h⟩ | ⟨e,h⟩ | ⟨e,h⟩ | ⟨e,h⟩
 · exact absurd e (by decide)
 · exact absurd e (by decide)
 · exact absurd e (by decide)
 · exact absurd e (by decide)
 · exact absurd e (by decide)
 · exact absurd e (by decide)
 · exact h
 · exact absurd e (by decide)
theorem MayA.k7 {a b v g:Int} {tl al:Nat}:MayA 7 a b v g tl al ↔ (-1 <= b /\ b <= 1152921504606846976 /\ -1 <= v /\ v <= 1152921504606846976 /\ -1 <= g /\ g <= 1152921504606846976 /\ al <= 96 /\ tl <= 640 /\ 0 <= a /\ a <= 4095) /\ a = 0 /\ b = 0 /\ v = 0 /\ g = 0 /\ tl = 0 := by
 unfold MayA;refine ⟨fun ⟨q1,q2,q3,q4,q5,q6,q7,q8,q9,q10,h⟩ => ⟨⟨q1,q2,q3,q4,q5,q6,q7,q8,q9,q10⟩,?_⟩,fun ⟨⟨q1,q2,q3,q4,q5,q6,q7,q8,q9,q10⟩,h⟩ => ⟨q1,q2,q3,q4,q5,q6,q7,q8,q9,q10,.inr (.inr (.inr (.inr (.inr (.inr (.inr (⟨rfl,h⟩)))))))⟩⟩;rcases h with ⟨e,h⟩ | ⟨e,h⟩ | ⟨e,h⟩ | ⟨e,h⟩ | ⟨e,h⟩ | ⟨e,h⟩ | ⟨e,h⟩ | ⟨e,h⟩
 · exact absurd e (by decide)
 · exact absurd e (by decide)
 · exact absurd e (by decide)
 · exact absurd e (by decide)
 · exact absurd e (by decide)
 · exact absurd e (by decide)
 · exact absurd e (by decide)
 · exact h
theorem cdD {α:Type} {p:Prop} [Decidable p] {x y z:α} (h1:p -> x = z) (h2:¬ p -> y = z):cond (decide p) x y = z := by
 by_cases h:p
 · rw [decide_eq_true h];exact h1 h
 · rw [decide_eq_false h];exact h2 h
theorem cdE {α:Type} {a b:Int} {x y z:α} (h1:a = b -> x = z) (h2:¬ a = b -> y = z):cond (a == b) x y = z := by
 by_cases h:a = b
 · rw [beq_iff_eq.2 h];exact h1 h
 · rw [beq_eq_false_iff_ne.2 h];exact h2 h
theorem cdS {α:Type} {t:List UInt8} {x y z:α} (h1:t.length = 0 -> x = z) (h2:¬ t.length = 0 -> y = z):cond (t == []) x y = z := by
 by_cases h:t = []
 · rw [beq_iff_eq.2 h];exact h1 (by rw [h];rfl)
 · rw [beq_eq_false_iff_ne.2 h];exact h2 (fun q => h (List.eq_nil_of_length_eq_zero q))
def Qk6 (l:List Int) (k a b v:Int):Prop := (k = 0 /\ b = 0 /\ v = 0 \/ k = 1 /\ b = 0 \/ k = 2 \/ k = 3 /\ b = 0) /\ 0 <= a /\ a < l.length /\ -1152921504606846976 <= b /\ b <= 1152921504606846976 /\ -1152921504606846976 <= v /\ v <= 1152921504606846976
instance instOkDo4 (l:List Int) (k a b v:Int):Decidable (Qk6 l k a b v) := by unfold Qk6;infer_instance
def addC (n v:Int):Int := max (min (n + v) 1152921504606846976) (-1152921504606846976)
def doC4 (l:List Int) (k a b v:Int):List Int := if k = 1 \/ k = 2 /\ l.getD a.toNat 0 = b then l.set a.toNat v else if k = 3 then l.set a.toNat (addC (l.getD a.toNat 0) v) else l
def doG4 (l:List Int) (k a b:Int):Int := if k = 0 \/ k = 3 then l.getD a.toNat 0 else if k = 2 /\ l.getD a.toNat 0 = b then 1 else 0
structure GoR4 where
 st:List Qe
 got:List Int
 over:Bool
 kind:Int
 a:Int
 b:Int
 v:Int
 g:Int
 is:Bool
def g4 (p n:Int) (r got:List Int) (kind a b v g:Int):GoR4 := ⟨[⟨p,n,r⟩],got,false,kind,a,b,v,g,true⟩
def Qpu (l:List Int):GoR4 := ⟨[],l,true,0,0,0,0,0,false⟩
def Za (ar:List Int):List Int := ar ++ List.replicate (96 - ar.length) 0
def flo:Int -> List Int -> Int
 | n,[] => n
 | n,s :: l => flo (if 0 < s /\ s - 1 < n then s - 1 else n) l
def oBeg (k:Int) (r got:List Int) (x:Int):GoR4 :=
 if k = 0 then g4 92 1 r got 0 0 0 0 0
 else if k = 1 then g4 92 2 (r.set 1 x) got 1 (lRow 9 (r.getD 0 0) 4) 0 (x + 1) 0
 else if k = 2 then g4 92 3 r got 0 3 0 0 0
 else if r.getD 1 0 < x then g4 92 1 r got 0 0 0 0 0 else Qpu [r.getD 1 0]
def QvH (k:Int) (r got:List Int) (x:Int):GoR4 :=
 if k = 0 then g4 93 1 r got 0 0 0 0 0
 else if k = 1 then g4 93 2 (r.set 0 x) got 0 3 0 0 0
 else if k = 2 then (if x < r.getD 0 0 then g4 93 3 r got 2 3 x (r.getD 0 0) 0 else g4 93 4 (r.set 1 0) got 0 9 0 0 0)
 else if k = 3 then (if x = 0 then g4 93 2 r got 0 3 0 0 0 else g4 93 4 (r.set 1 0) got 0 9 0 0 0)
 else if r.getD 1 0 = 3 then Qpu [flo (r.getD 0 0) [r.getD 2 0,r.getD 3 0,r.getD 4 0,x]]
 else g4 93 4 ((r.set (2 + (r.getD 1 0).toNat) x).set 1 (r.getD 1 0 + 1)) got 0 (10 + r.getD 1 0) 0 0 0
def QvI (k:Int) (r got:List Int) (x:Int):GoR4 :=
 if k = 0 then g4 93 1 r got 0 0 0 0 0
 else if k = 1 then g4 93 2 (r.set 0 x) got 0 3 0 0 0
 else if k = 2 then (if x < r.getD 0 0 then g4 93 3 (r.set 1 x) got 2 3 x (r.getD 0 0) 0 else g4 93 4 (r.set 2 0) got 0 9 0 0 0)
 else if k = 3 then (if x = 0 then g4 93 2 r got 0 3 0 0 0 else g4 93 4 (r.set 2 0) got 0 9 0 0 0)
 else if r.getD 2 0 = 3 then Qpu [flo (r.getD 0 0) [r.getD 3 0,r.getD 4 0,r.getD 5 0,x]]
 else g4 93 4 ((r.set (3 + (r.getD 2 0).toNat) x).set 2 (r.getD 2 0 + 1)) got 0 (10 + r.getD 2 0) 0 0 0
def goO (own:Bool) (st:List Qe) (got:List Int):GoR4 := match st with
 | [f] => if f.prog = 92 then oBeg f.at' f.r got (got.headD 0) else bif own then QvI f.at' f.r got (got.headD 0) else QvH f.at' f.r got (got.headD 0)
 | _ => Qpu []
def Qwx (k:Int) (r got:List Int):Prop :=
 k = 0 /\ got = [] \/ ∃ x,got = [x] /\ 1 <= k /\ k <= 3 /\ 0 <= x /\ x <= 1000000000 /\ 0 <= r.getD 0 0 /\ r.getD 0 0 <= 3
def QvJ (own:Bool) (k:Int) (r got:List Int):Prop :=
 k = 0 /\ got = [] \/ ∃ x,got = [x] /\ 1 <= k /\ k <= 4 /\ 0 <= x /\ x <= 1000000000 /\ (2 <= k -> 0 <= r.getD 0 0 /\ r.getD 0 0 <= 1000000000) /\
  (k = 4 -> bif own then 0 <= r.getD 2 0 /\ r.getD 2 0 <= 3 /\ (r.getD 2 0 = 3 -> r.getD 3 0 <= 1000000000 /\ r.getD 4 0 <= 1000000000 /\ r.getD 5 0 <= 1000000000)
   else 0 <= r.getD 1 0 /\ r.getD 1 0 <= 3 /\ (r.getD 1 0 = 3 -> r.getD 2 0 <= 1000000000 /\ r.getD 3 0 <= 1000000000 /\ r.getD 4 0 <= 1000000000))
def okO (own:Bool) (c:Int) (st:List Qe) (got:List Int):Prop :=
 0 <= c /\ c <= 3 /\ ∃ p k r,st = [⟨p,k,r⟩] /\ r.length = 96 /\ (p = 92 /\ Qwx k r got \/ p = 93 /\ QvJ own k r got)
def mkO (c p k:Int) (r got:List Int):Task := ⟨c,[⟨p,k,r⟩],got,false⟩
def QvK (A B:GoR4):Prop := A.is = B.is /\ A.kind = B.kind /\ A.a = B.a /\ A.b = B.b /\ A.v = B.v /\ A.g = B.g /\ A.got = B.got
def frC (cs:List Int):Int := cs.getD 0 0
def mkC (cs:List Int):Int := cs.getD 3 0
def scC (cs:List Int) (i:Nat):Int := cs.getD (9 + i) 0
def opB (opn:List Bool) (i:Nat):Bool := opn.getD i false
def stA (start:List Int) (i:Nat):Int := start.getD i 0
def QvL (opn:List Bool) (start:List Int) (w:Int) (i:Nat) (v:Int):Prop := opB opn i = true -> w <= stA start i \/ 0 < v /\ v - 1 <= stA start i
def JB (cs:List Int) (opn:List Bool) (c k:Int) (r got:List Int):Prop :=
 r.length = 96 /\ r.getD 0 0 = c /\ opB opn c.toNat = false /\
 (k = 0 /\ got = [] \/ ∃ x,got = [x] /\ 0 <= x /\ x <= frC cs /\ (k = 1 \/ 0 <= r.getD 1 0 /\ r.getD 1 0 <= frC cs /\ scC cs c.toNat = r.getD 1 0 + 1 /\ (k = 2 \/ k = 3)))
def JM4 (cs:List Int) (opn:List Bool) (start:List Int) (r q:List Int) (x:Int):Prop :=
 r.getD 0 0 <= mkC cs /\ ∃ j:Nat,j <= 3 /\ r.getD 1 0 = j /\ q.getD 2 0 = j /\ (∀ i,i < j -> r.getD (2 + i) 0 = q.getD (3 + i) 0 /\ 0 <= r.getD (2 + i) 0 /\ r.getD (2 + i) 0 <= frC cs + 1 /\ QvL opn start (r.getD 0 0) i (r.getD (2 + i) 0)) /\ QvL opn start (r.getD 0 0) j x
def JM (cs:List Int) (opn:List Bool) (start:List Int) (k:Int) (r q got:List Int):Prop :=
 r.length = 96 /\ q.length = 96 /\
 (k = 0 /\ got = [] \/ ∃ x,got = [x] /\ 0 <= x /\ x <= frC cs + 1 /\ (k = 1 /\ x <= frC cs \/ r.getD 0 0 = q.getD 0 0 /\ 0 <= r.getD 0 0 /\ r.getD 0 0 <= frC cs /\
  (k = 2 /\ x <= mkC cs \/ k = 3 /\ (x = 0 \/ r.getD 0 0 <= mkC cs) \/ k = 4 /\ JM4 cs opn start r q x)))
structure OCells (p:Int) (cs cs':List Int) (c:Nat):Prop where
 len:cs'.length = 771
 ok:cellsOK cs' = true
 fr:frC cs' = frC cs
 mr:mkC cs <= mkC cs' /\ mkC cs' <= frC cs
 sc:∀ i,i ≠ c \/ p = 93 -> scC cs' i = scC cs i
 sb:∀ i,i < 4 -> 0 <= scC cs' i /\ scC cs' i <= frC cs + 1
structure OC (cs:List Int):Prop where
 len:cs.length = 771
 ok:cellsOK cs = true
 mr:0 <= mkC cs /\ mkC cs <= frC cs
 fr:frC cs <= 1000000
 sb:∀ i,i < 4 -> 0 <= scC cs i /\ scC cs i <= frC cs + 1
section
variable {C:Cdc} {P:Program} {T:Tab C} {Φ:Fns C}
open Pg (Ex)
noncomputable def cdec (P:Prop):Bool := @decide P (Classical.propDecidable P)
theorem QP {P:Prop}:cdec P = true ↔ P := by
 unfold cdec;exact @decide_eq_true_iff P (Classical.propDecidable P)
theorem QD {P:Prop} (h:P):cdec P = true := QP.2 h
structure FunR (C:Cdc) (σ:Type) where
 k:Nat
 args:σ -> List (D C)
 objs:σ -> List (Obj C)
 fin:σ -> RT C
 Inv:σ -> Prop
def fnO (T:Tab C) (Φ:Fns C) (g n k:Nat) (args:List (D C)) (os:List (Obj C)):Option (D C × List (Option (Obj C))) :=
 (KQ T Φ (evC T Φ n) g args).run (0,0) (hpOf 0 os) k [] fun d h _ _ => some (d,QbH 0 k h)
def LedF {σ:Type} (S:FunR C σ) (s:σ) (r:D C × List (Option (Obj C))):Prop := ∃ os,(S.fin s).val = some ((.ret,[(0,r.1)]),os) /\ r.2 = os.map some
def resF {σ:Type} (S:FunR C σ) (d:Env C -> List (Obj C) -> Option (Bool × σ)) (env:Env C) (os:List (Obj C)):RT C := match d env os with
 | some (b,q) => .br b (S.fin q) .fail
 | none => .fail
def sumF (T:Tab C) (fs:List Fnd) (n:Nat) {σ:Type} (S:FunR C σ) (d:Env C -> List (Obj C) -> Option (Bool × σ)) (args:List (D C)):Pg C (D C) :=
 bif Nat.beq args.length n then .bind (sumO T fs (List.range n) (resF S d) (eargs 0 args)) fun r => .ret (eget r.2 0) else .fail
theorem Qu.args (K:Q5 P T) {X:Cx} {nx:Nat} {lim:Lim} {args:List (D C)} {vs:List Value} (h:RVs T X args vs) (hr:∀ a ∈ args,∀ id ∈ D.refs a,old nx lim id):Qu T X nx lim (eargs 0 args) (⟨vs⟩:Array Value) := by
 intro t;rw [K2];simp only [Nat.zero_le,if_true,Nat.sub_zero];refine ⟨?_,?_⟩
 · have := h.get t;have e:(⟨vs⟩:Array Value).getD t undef = vs.getD t undef := by simp [Array.getD_eq_getD_getElem?]
   rw [e];exact this
 · by_cases ht:t < args.length
   · exact hr _ (by simp [List.getD_eq_getElem?_getD,ht])
   · have:args.getD t .top = .top := by
      simp only [List.getD_eq_getElem?_getD];rw [List.getElem?_eq_none (by omega)];rfl
     rw [this];simp [D.refs]
theorem RVs.of_get {X:Cx}:∀ (args:List (D C)) (vs:List Value),args.length = vs.length -> (∀ i,i < args.length -> RV T X (args.getD i .top) (vs.getD i undef)) -> RVs T X args vs
 | [],[],_,_ => .nil
 | [],_ :: _,h,_ => by simp at h
 | _ :: _,[],h,_ => by simp at h
 | d :: ds,v :: vs,h,hg => .cons (by simpa using hg 0 (by simp)) (RVs.of_get ds vs (by simpa using h) fun i hi => by simpa using hg (i + 1) (by simpa using hi))
theorem RVs.of_env {X:Cx} {nx:Nat} {lim:Lim} {args:List (D C)} {vs:List Value} (hl:args.length = vs.length) (h:Qu T X nx lim (eargs 0 args) (⟨vs⟩:Array Value)):RVs T X args vs := by
 refine RVs.of_get args vs hl fun i hi => ?_;have := (h i).1;rw [K2] at this
 simpa [Array.getD_eq_getD_getElem?] using this
theorem Qdn:∀ (l:List (D C)) (n i:Nat) (h:i < l.length),(n + i,l[i]) ∈ eargs n l
 | [],_,_,h => by simp at h
 | d :: l,n,0,_ => by simp [eargs]
 | d :: l,n,i + 1,h => by
  have := Qdn l (n + 1) i (by simpa using h)
  simp only [eargs,List.mem_cons];right;rw [show n + (i + 1) = n + 1 + i by omega]
  simpa using this
theorem Qk7 (K:Q5 P T) {X X1:Cx} {h':Heap C} {k nx':Nat} (g1:G T X1 h' nx' (lim0 nx')) (s1:Step X k (lim0 nx') X1) (hle:k <= nx') {os:List (Obj C)} {d:D C} {v:Value} (q:Ql k [(0,d)] os)
 (hget:∀ j,j < k -> h'.get j = os[j]?) (rd:RO T X1 nx' (lim0 nx') d v):∃ X2,X2.w = X1.w /\ G T X2 (hpOf 0 os) k (lim0 k) /\ Step X k (lim0 k) X2 /\ RO T X2 k (lim0 k) d v := by
 obtain ⟨q1,q2,q3⟩ := q
 obtain ⟨X2,w2,g2,s2,hρ⟩ := G.drop K.base g1 (h' := hpOf 0 os) (fun id => by
  rw [QA]
  by_cases hid:id < k
  · exact .inl (hget id hid).symm
  · exact .inr (List.getElem?_eq_none (by omega)))
 have hnone:∀ id,¬ id < k -> X2.ρ id = none := fun id hid => by
  cases hq:X2.ρ id with
  | none => rfl
  | some l =>
   have := g2.dom id l hq;rw [QA,List.getElem?_eq_none (by omega)] at this
   cases this
 have s3 := s1.trans s2 hle;refine ⟨X2,w2,g2.relim2 (Jp q1 q3) (Nat.le_refl _) (Nat.zero_le _) (fun _ h => h),⟨s3.O,s3.os,s3.tape,s3.output,s3.size,fun id ho => ?_,s3.mine,s3.cell,s3.block,s3.frz⟩,?_⟩
 · by_cases hid:id < k
   · exact s3.ρ id ⟨.inl hid,fun h => h⟩
   · rw [hnone id hid];cases X.ρ id <;> simp [Qj]
 · have hrt:∀ r ∈ d.refs,r < k := q2 (0,d) (by simp)
   exact ⟨rd.1.mono T K.base.encOK s2.keeps fun r hh => s2.ρ r ⟨.inl (by have := hrt r hh;omega),fun h => h⟩,fun r hh => ⟨.inl (hrt r hh),fun h => h⟩⟩
theorem Qpv (K:Q5 P T) (F:Qh P T Φ) {g:Nat} {fs:List Fnd} {m n:Nat} {σ:Type} {S:FunR C σ}
 (hr:∀ q,S.Inv q -> Ql S.k (eargs 0 (S.args q)) (S.objs q) /\ (S.fin q).refsOK S.k /\ (S.args q).length = m /\ Leaf (fnO T Φ g n S.k (S.args q) (S.objs q)) (LedF S q))
 (d:Env C -> List (Obj C) -> Option (Bool × σ)) (hd:∀ env os b q,d env os = some (b,q) -> b = true -> S.Inv q /\ eargs 0 (S.args q) = env /\ S.objs q = os):Qjz P T g (sumF T fs m S d) := by
 intro args vs X h nx lim e dd h' nx' tr gg hargs hrefs hlim hx;unfold sumF at hx;cases hm:Nat.beq args.length m with
 | false => rw [hm] at hx;exact (Ex.fail hx).elim
 | true =>
 rw [hm] at hx;simp only [cond_true] at hx;have hm := Nat.eq_of_beq_eq_true hm;obtain ⟨⟨x,env'⟩,h9,n9,t8,t9,hx0,hret,_⟩ := Ex.bind hx;obtain ⟨hdd,e1h,e1n,_⟩ := Ex.ret hret;subst e1h;subst e1n;have he := Qu.args K hargs hrefs;unfold sumO at hx0;obtain ⟨X1,h1,nx1,env1,ids,tr1,w1,g1,s1,hn1,e1,hx1⟩ := Qfr K hlim fs X h nx _ _ [] gg he hx0;cases hnd:Kd ids with
 | false => rw [hnd] at hx1;exact (Ex.fail hx1).elim
 | true =>
 rw [hnd] at hx1;simp only [cond_true] at hx1;have hnodup := YT hnd;obtain ⟨os,tr2,hlen,hos,hx2⟩ := QbF ids _ _ hx1;cases hin:inB ids ((List.range m).flatMap fun t => (eget env1 t).refs) && inB ids (os.flatMap Obj.refs) with
 | false => rw [hin] at hx2;exact (Ex.fail hx2).elim
 | true =>
 rw [hin] at hx2;simp only [cond_true] at hx2;simp only [Bool.and_eq_true] at hin;have hin1 := VI hin.1;have hin2 := VI hin.2;obtain ⟨xx,ee,os',hq,hx3⟩ := RT.pg_ok _ _ hx2;unfold resF at hq
 split at hq
 · rename_i b q hdq;cases b with
   | false => simp [RT.val] at hq
   | true =>
   simp only [RT.val,cond_true] at hq;obtain ⟨hI,hcan,hobjs⟩ := hd _ _ _ _ hdq rfl;obtain ⟨hr1,hr2,hlenA,r,hr3,hr4⟩ := hr q hI;obtain ⟨h2,tr3,hl2,hw1,hw2,hx4⟩ := QbG ids _ h1 _ hnodup hx3;obtain ⟨hxx,eh,en,_⟩ := Ex.ret hx4;obtain ⟨rfl,rfl⟩ := Prod.mk.inj hxx;subst eh;subst en
   let f:Nat -> Nat := fun j => ids.getD j 0
   have hfj:∀ j,j < ids.length -> ids[j]? = some (f j) := fun j hj => by simp [f,hj]
   have hk0:ids.length = S.k := by rw [<- hr1.1,hobjs];simp [hlen]
   have hff:∀ r,r ∈ ids -> f (idx ids r) = r := fun r hr => by
    have := Kx ids r hr;simp only [f,List.getD_eq_getElem?_getD,this,Option.getD_some]
   have hlenO:(S.objs q).length = ids.length := by rw [hr1.1,hk0]
   have part:Part h1 (S.objs q) f := by
    refine ⟨fun j o ho => ?_,fun i j hi hj hij => ?_,fun o ho r hr => by rw [hr1.1];exact hr1.2.2 o ho r hr⟩
    · rw [hobjs,List.getElem?_map] at ho;cases hoj:os[j]? with
      | none => simp [hoj] at ho
      | some o0 =>
       simp only [hoj,Option.map_some,Option.some.injEq] at ho;have hj:j < ids.length := by rw [<- hlen];exact (List.getElem?_eq_some_iff.1 hoj).1
       rw [hos j (f j) o0 (hfj j hj) hoj,<- ho,Obj.ren_ren];intro id hid;exact hff id (hin2 id (List.mem_flatMap.2 ⟨o0,List.mem_of_getElem? hoj,hid⟩))
    · rw [hlenO] at hi hj;have := (List.getElem?_inj hi hnodup (j := j)).1 (by rw [hfj i hi,hfj j hj];simp only [f] at hij ⊢;rw [hij])
      exact this
   have g2 := Part.ctx K.base g1 part (S.objs q).length
   have e2:Qu T (X1.part (S.objs q).length f) (S.objs q).length (lim0 (S.objs q).length) (eargs 0 (S.args q)) (⟨vs⟩:Array Value) := by
    refine Qu.part K.base e1 part.inj (fun p hp => ?_) (fun p hp r hr => by rw [hr1.1];exact hr1.2.1 p hp r hr)
    rw [hcan] at hp;simp only [List.mem_map] at hp;obtain ⟨t,ht,rfl⟩ := hp;simp only;rw [D.ren_ren];intro id hid;exact hff id (hin1 id (List.mem_flatMap.2 ⟨t,ht,hid⟩))
   rw [hr1.1] at g2 e2;obtain ⟨d0,hh,nn,tt,hex,hsome⟩ := Pg.run_some hr3;simp only [Option.some.injEq] at hsome;subst hsome;obtain ⟨os2,hv2,hg2⟩ := hr4;rw [hq] at hv2;simp only [Option.some.injEq,Prod.mk.injEq] at hv2;obtain ⟨⟨rfl,rfl⟩,rfl⟩ := hv2;have hgets := Vi S.k 0 hh _ hg2;simp only [Nat.zero_add] at hgets;obtain ⟨x5,env5,os5,hv5,hok5⟩ := RT.refsOK_val hr2;rw [hq] at hv5;simp only [Option.some.injEq,Prod.mk.injEq] at hv5;obtain ⟨⟨rfl,rfl⟩,rfl⟩ := hv5;have hle:S.k <= nn := hex.le;have g0:G T (X1.part S.k f) (hpOf 0 (S.objs q)) S.k (lim0 nn) := g2.relim2 (Jp hr1.1 hr1.2.2) (Nat.le_refl _) (Nat.zero_le _) (fun _ h => h);have hvs:RVs T (X1.part S.k f) (S.args q) vs := RVs.of_env (by rw [hlenA,<- hm];exact RVs.length T hargs) e2
   have hrefs0:∀ a ∈ S.args q,∀ id ∈ D.refs a,old S.k (lim0 nn) id := fun a ha id hid => ⟨.inl (by
    obtain ⟨i,hi,hia⟩ := List.getElem_of_mem ha;refine hr1.2.1 (0 + i,a) ?_ id hid;rw [<- hia];exact Qdn _ _ _ hi),fun h => h⟩
   obtain ⟨c1,c2⟩ := Qfo K F n g (S.args q) vs (X1.part S.k f) (hpOf 0 (S.objs q)) S.k (lim0 nn) (0,0) d0 hh nn tt g0 hvs hrefs0 (Nat.le_refl _) hex;have hw:(X1.part S.k f).w = X.w := w1;rw [hw] at c1 c2;refine ⟨c1,c2.mono fun en w9 hp => ?_⟩;obtain ⟨v,X2,rfl,hX2,g3,s3,ro3⟩ := hp;obtain ⟨X3,w3,g4,s4,ro4⟩ := Qk7 K g3 s3 hle hok5 hgets ro3;have hlen':os'.length = (S.objs q).length := by rw [hok5.1,hr1.1]
   have hrefs':∀ o ∈ os',∀ r ∈ Obj.refs o,r < (S.objs q).length := fun o ho r hr => by rw [hr1.1];exact hok5.2.2 o ho r hr
   obtain ⟨X4,w4,g5,s5,hρ,hB2⟩ := Part.back K.base g1 part hlen' hrefs' (X1 := X3) (lim1 := lim0 S.k) (h' := h') (by rw [hr1.1];exact g4) (by rw [hr1.1];exact s4) (fun j o hj => by
    have hlt:j < ids.length := by rw [<- hlenO,<- hlen'];exact (List.getElem?_eq_some_iff.1 hj).1
    exact hw1 j (f j) _ (hfj j hlt) (by rw [List.getElem?_map,hj];rfl)) (fun id hid => by
    refine hw2 id fun hm => ?_;obtain ⟨j,hj,hjj⟩ := List.getElem_of_mem hm;refine hid j (by rw [hlenO];exact hj) ?_
    simp [f,hj,hjj])
   have hold:∀ j,j < S.k -> old nx' lim (f j) := fun j hj => by
    have hj':j < (S.objs q).length := by rw [hr1.1];exact hj
    exact (g1.nums _ _ (part.at' j (S.objs q)[j] (by simp [hj']))).1
   have e4:Qu T X3 S.k (lim0 S.k) [(0,d0)] (#[v]:Array Value) := fun t => by
    rw [Qs]
    by_cases ht:t = 0
    · subst ht;simpa using ro4
    · simp only [ht,if_false,eget];exact RO.mk (RV.top _ _ _) rfl
   have e5 := Qu.back (nx := nx') (lim := lim) (f := f) K.base e4 (fun p hp r hr => hok5.2.1 p hp r hr) (fun j hj => hρ j (by rw [hr1.1];exact hj)) ⟨hB2,fun l r h1 _ => ⟨by rw [w4];exact h1,fun o ho => g5.mine_loop ho (by rw [w4];exact h1)⟩⟩ hold
   have ro5 := e5 0;refine ⟨v,X4,rfl,by rw [w4,w3,hX2],g5,s1.trans s5 hn1,?_⟩
   rw [hdd];exact ro5
 · simp [RT.val] at hq
theorem Qh.addFun (K:Q5 P T) (F:Qh P T Φ) {g:Nat} {σ:Type} (S:FunR C σ) (n m:Nat) (fs:List Fnd) (d:Env C -> List (Obj C) -> Option (Bool × σ))
 (hr:∀ q,S.Inv q -> Ql S.k (eargs 0 (S.args q)) (S.objs q) /\ (S.fin q).refsOK S.k /\ (S.args q).length = m /\ Leaf (fnO T Φ g n S.k (S.args q) (S.objs q)) (LedF S q))
 (hd:∀ env os b q,d env os = some (b,q) -> b = true -> S.Inv q /\ eargs 0 (S.args q) = env /\ S.objs q = os):Qh P T (Φ.addObj g (sumF T fs m S d)) := F.addObj (Qpv K F hr d hd)
theorem QeB {σ:Type} {S:FunR C σ} {s:σ} {d:D C} {os:List (Option (Obj C))} (os':List (Obj C)) (h1:(S.fin s).val = some ((.ret,[(0,d)]),os')) (h2:os = os'.map some):Leaf (some (d,os)) (LedF S s) :=
 Jn.2 ⟨os',h1,h2⟩
end
structure NA where
 f:Qe
 a:Qf
 fl:Bool
def naLd (p n:Int) (r:List Int) (c g:Int):NA := ⟨⟨p,n,r⟩,⟨0,c,0,0,g,[],[]⟩,true⟩
def naCs (p n:Int) (r:List Int) (c b v g:Int):NA := ⟨⟨p,n,r⟩,⟨2,c,b,v,g,[],[]⟩,true⟩
def naPt (p n:Int) (r:List Int) (s b:Int) (t:List UInt8):NA := ⟨⟨p,n,r⟩,⟨4,s,b,0,0,t,[]⟩,true⟩
def naSy (p n:Int) (r:List Int):NA := ⟨⟨p,n,r⟩,⟨5,0,0,0,0,[],[]⟩,true⟩
def naCl (p n:Int) (r:List Int) (q:Int) (l:List Int):NA := ⟨⟨p,n,r⟩,⟨6,q,0,0,0,[],l⟩,true⟩
def naEn (p n:Int) (r:List Int) (l:List Int) (fl:Bool):NA := ⟨⟨p,n,r⟩,⟨7,0,0,0,0,[],l⟩,fl⟩
def mayN (a:Qf):Bool := ZR a.kind a.a a.b a.v a.gen a.text a.args
def frm0:Qe := ⟨0,0,List.replicate 96 0⟩
def act0:Qf := ⟨0,0,0,0,0,[],[]⟩
def topF (st:List Qe):Qe := st.getLastD frm0
def calF (a:Qf):Qe := ⟨a.a,0,Za a.args⟩
def tkSt (st:List Qe) (f:Qe) (a:Qf):List Qe := if a.kind < 6 then st.dropLast ++ [f] else if a.kind = 6 then st.dropLast ++ [f,calF a] else st.dropLast
def Vb (got:List Int) (a:Qf):List Int := if a.kind < 6 then got else if a.kind = 6 then [] else a.args
def tkFl (e:Bool) (a:Qf):Bool := if a.kind < 6 then e else decide (a.kind = 6)
structure GoM where
 st:List Qe
 got:List Int
 gf:Bool
 a:Qf
 af:Bool
 is:Bool
def goN (nx:Qe -> List Int -> NA):Nat -> List Qe -> List Int -> Bool -> GoM
 | 0,st,got,e => ⟨st,got,e,act0,true,false⟩
 | n + 1,st,got,e => if st = [] then ⟨[],got,e,act0,true,false⟩
  else if (nx (topF st) got).a.kind < 6 then ⟨tkSt st (nx (topF st) got).f (nx (topF st) got).a,got,e,(nx (topF st) got).a,(nx (topF st) got).fl,true⟩
  else goN nx n (tkSt st (nx (topF st) got).f (nx (topF st) got).a) (Vb got (nx (topF st) got).a) (tkFl e (nx (topF st) got).a)
def OkN (nx:Qe -> List Int -> NA) (ok:Qe -> List Int -> Prop):Nat -> List Qe -> List Int -> Prop
 | 0,_,_ => False
 | n + 1,st,got => st = [] \/ (st ≠ [] /\ st.length <= 6 /\ got.length <= 96 /\ ok (topF st) got /\ mayN (nx (topF st) got).a = true /\ 0 <= (nx (topF st) got).a.kind /\ (nx (topF st) got).a.kind <= 7 /\
  ((nx (topF st) got).a.kind < 6 \/ ((nx (topF st) got).a.kind = 6 -> st.length < 6) /\ OkN nx ok n (tkSt st (nx (topF st) got).f (nx (topF st) got).a) (Vb got (nx (topF st) got).a)))
open Go.Proofs
def QvM (n:Int) (a:Int) (b:Int):Option (Bool × D RC) := some (true,.bool (Qp n a b))
def Qr4:List (D RC) -> Option (Bool × D RC)
 | [.int .i64 n,.int .i64 a,.int .i64 b] => QvM n a b
 | _ => none
noncomputable def QvN (n:Int) (a:Int) (b:Int) := evF s25 uk_3 20 162 [.int .i64 n,.int .i64 a,.int .i64 b]
theorem QvO (n:Int) (a:Int) (b:Int):QvN n a b = (bif decide (a <= n) then some (D.bool (decide (n <= b))) else some (D.bool false)) := by kernel_rfl
theorem QvP (n:Int) (a:Int) (b:Int) (h:(true) = true):QvN n a b = some (.bool (Qp n a b)) := by
 rw [QvO];rw [Qp];cases decide (a <= n) <;> simp
noncomputable def ul_1 := uk_3.addSpec 162 Qr4
theorem Qk8:Qh Tryz.prog s25 ul_1 := Qk5.addEv Qa fun args d h => by
 unfold Qr4 at h
 split at h
 · unfold QvM at h;have h1 := congrArg Prod.fst (Option.some.inj h);obtain rfl:_ = d := congrArg Prod.snd (Option.some.inj h);exact ⟨by simp [D.refs],20,QvP _ _ _ h1⟩
 · cases h
def Qk9 (p:Int) (w:Int):Option (Bool × D RC) := some (true,.int .i64 (lRing p w))
def QfR:List (D RC) -> Option (Bool × D RC)
 | [.int .i64 p,.int .i64 w] => Qk9 p w
 | _ => none
noncomputable def Qla (p:Int) (w:Int) := evF s25 ul_1 20 129 [.int .i64 p,.int .i64 w]
theorem Qpw (p:Int) (w:Int):Qla p w = (let Z0:DO_ := some (D.int .i64 (-1:Int));bif decide (p < (0:Int)) then Z0 else bif !Qp w (2:Int) (8:Int) then Z0 else bif w == (0:Int) then none else some (D.int .i64 (IntKind.wrap .i64 ((13:Int) + Int.tmod p w)))) := by kernel_rfl
theorem Qpx (p:Int) (w:Int) (h:(true) = true):Qla p w = some (.int .i64 (lRing p w)) := by
 (rw [Qpw];conv => zeta)
 unfold lRing;refine Q4 (fun h0 => ?_) fun h0 => ?_ <;> simp only [decide_eq_true_eq,decide_eq_false_iff_not] at h0
 · rw [if_neg (by omega)]
 · cases h1:Qp w 2 8
   · have h2 := ZX h1;rw [if_neg (by omega)];rfl
   · rw [QB] at h1;have hw:(w == 0) = false := by simp;omega
     have hm := Qai (p := p) (w := w) (by omega)
     simp only [hw,Bool.not_true,cond_false];rw [YZ (by omega),Qb (by omega) (by omega),if_pos ⟨by omega,h1.1,h1.2⟩]
noncomputable def ul_2 := ul_1.addSpec 129 QfR
theorem Qlb:Qh Tryz.prog s25 ul_2 := Qk8.addEv Qa fun args d h => by
 unfold QfR at h
 split at h
 · unfold Qk9 at h;have h1 := congrArg Prod.fst (Option.some.inj h);obtain rfl:_ = d := congrArg Prod.snd (Option.some.inj h);exact ⟨by simp [D.refs],20,Qpx _ _ h1⟩
 · cases h
def Qlc (p:Int) (w:Int):Option (Bool × D RC) := some (true,.int .i64 (lRing p w))
def QfS:List (D RC) -> Option (Bool × D RC)
 | [.int .i64 p,.int .i64 w] => Qlc p w
 | _ => none
noncomputable def Qld (p:Int) (w:Int) := evF s25 ul_2 20 89 [.int .i64 p,.int .i64 w]
theorem Qpy (p:Int) (w:Int):Qld p w = (let Z0:DO_ := some (D.int .i64 (-1:Int));bif decide (p < (0:Int)) then Z0 else bif decide (w < (2:Int)) then Z0 else bif decide ((8:Int) < w) then Z0 else bif w == (0:Int) then none else some (D.int .i64 (IntKind.wrap .i64 ((13:Int) + Int.tmod p w)))) := by kernel_rfl
theorem Qpz (p:Int) (w:Int) (h:(true) = true):Qld p w = some (.int .i64 (lRing p w)) := by
 (rw [Qpy];conv => zeta)
 unfold lRing;refine Q4 (fun h0 => ?_) fun h0 => ?_ <;> simp only [decide_eq_true_eq,decide_eq_false_iff_not] at h0
 · rw [if_neg (by omega)]
 refine Q4 (fun h1 => ?_) fun h1 => ?_ <;> simp only [decide_eq_true_eq,decide_eq_false_iff_not] at h1
 · rw [if_neg (by omega)]
 refine Q4 (fun h2 => ?_) fun h2 => ?_ <;> simp only [decide_eq_true_eq,decide_eq_false_iff_not] at h2
 · rw [if_neg (by omega)]
 have hw:(w == 0) = false := by simp;omega
 have hm := Qai (p := p) (w := w) (by omega)
 simp only [hw,Bool.not_true,cond_false];rw [YZ (by omega),Qb (by omega) (by omega),if_pos ⟨by omega,by omega,by omega⟩]
noncomputable def ul_3 := ul_2.addSpec 89 QfS
theorem Qle:Qh Tryz.prog s25 ul_3 := Qlb.addEv Qa fun args d h => by
 unfold QfS at h
 split at h
 · unfold Qlc at h;have h1 := congrArg Prod.fst (Option.some.inj h);obtain rfl:_ = d := congrArg Prod.snd (Option.some.inj h);exact ⟨by simp [D.refs],20,Qpz _ _ h1⟩
 · cases h
def Qdo (q:Int) (o:Int):Option (Bool × D RC) := some (true,.int .i64 (lStream q o))
def Qbf:List (D RC) -> Option (Bool × D RC)
 | [.int .i64 q,.int .i64 o] => Qdo q o
 | _ => none
noncomputable def Qdp (q:Int) (o:Int) := evF s25 ul_3 20 245 [.int .i64 q,.int .i64 o]
theorem QhT (q:Int) (o:Int):Qdp q o = (let Z0:DO_ := some (D.int .i64 (-1:Int));bif !Qp q (0:Int) (2:Int) then Z0 else bif decide (o < (0:Int)) then Z0 else some (D.int .i64 (IntKind.wrap .i64 (IntKind.wrap .i64 ((51:Int) + IntKind.wrap .i64 ((16:Int) * q)) + Int.tmod o (16:Int))))) := by kernel_rfl
theorem QhU (q:Int) (o:Int) (h:(true) = true):Qdp q o = some (.int .i64 (lStream q o)) := by
 (rw [QhT];conv => zeta)
 unfold lStream;cases h1:Qp q 0 2
 · have h2 := ZX h1;rw [if_neg (by omega)];rfl
 · rw [QB] at h1;simp only [Bool.not_true,cond_false];refine Q4 (fun h0 => ?_) fun h0 => ?_ <;> simp only [decide_eq_true_eq,decide_eq_false_iff_not] at h0
   · rw [if_neg (by omega)]
   · rw [YZ (by omega),Qb (n := 16 * q) (by omega) (by omega),Qb (n := 51 + 16 * q) (by omega) (by omega),Qb (by omega) (by omega),if_pos ⟨h1.1,h1.2,by omega⟩]
noncomputable def ul_4 := ul_3.addSpec 245 Qbf
theorem Qlf:Qh Tryz.prog s25 ul_4 := Qle.addEv Qa fun args d h => by
 unfold Qbf at h
 split at h
 · unfold Qdo at h;have h1 := congrArg Prod.fst (Option.some.inj h);obtain rfl:_ = d := congrArg Prod.snd (Option.some.inj h);exact ⟨by simp [D.refs],20,QhU _ _ h1⟩
 · cases h
def Qdq (q:Int) (o:Int):Option (Bool × D RC) := some (true,.int .i64 (lStream q o))
def Qbg:List (D RC) -> Option (Bool × D RC)
 | [.int .i64 q,.int .i64 o] => Qdq q o
 | _ => none
noncomputable def Qdr (q:Int) (o:Int) := evF s25 ul_4 20 102 [.int .i64 q,.int .i64 o]
theorem QhV (q:Int) (o:Int):Qdr q o = (let Z0:DO_ := some (D.int .i64 (-1:Int));bif decide (q < (0:Int)) then Z0 else bif decide ((3:Int) <= q) then Z0 else bif decide (o < (0:Int)) then Z0 else some (D.int .i64 (IntKind.wrap .i64 (IntKind.wrap .i64 ((51:Int) + IntKind.wrap .i64 ((16:Int) * q)) + Int.tmod o (16:Int))))) := by kernel_rfl
theorem QhW (q:Int) (o:Int) (h:(true) = true):Qdr q o = some (.int .i64 (lStream q o)) := by
 (rw [QhV];conv => zeta)
 unfold lStream;refine Q4 (fun h0 => ?_) fun h0 => ?_ <;> simp only [decide_eq_true_eq,decide_eq_false_iff_not] at h0
 · rw [if_neg (by omega)]
 refine Q4 (fun h1 => ?_) fun h1 => ?_ <;> simp only [decide_eq_true_eq,decide_eq_false_iff_not] at h1
 · rw [if_neg (by omega)]
 refine Q4 (fun h2 => ?_) fun h2 => ?_ <;> simp only [decide_eq_true_eq,decide_eq_false_iff_not] at h2
 · rw [if_neg (by omega)]
 rw [YZ (by omega),Qb (n := 16 * q) (by omega) (by omega),Qb (n := 51 + 16 * q) (by omega) (by omega),Qb (by omega) (by omega),if_pos ⟨by omega,by omega,by omega⟩]
noncomputable def ul_5 := ul_4.addSpec 102 Qbg
theorem Qlg:Qh Tryz.prog s25 ul_5 := Qlf.addEv Qa fun args d h => by
 unfold Qbg at h
 split at h
 · unfold Qdq at h;have h1 := congrArg Prod.fst (Option.some.inj h);obtain rfl:_ = d := congrArg Prod.snd (Option.some.inj h);exact ⟨by simp [D.refs],20,QhW _ _ h1⟩
 · cases h
def Qlh (a:Int) (n:Int) (m:Int):Option (Bool × D RC) := some (true,.int .i64 (bif decide (0 <= n) && decide (n < m) then IntKind.i64.wrap (a + n) else -1))
def QfT:List (D RC) -> Option (Bool × D RC)
 | [.int .i64 a,.int .i64 n,.int .i64 m] => Qlh a n m
 | _ => none
noncomputable def Qli (a:Int) (n:Int) (m:Int) := evF s25 ul_5 20 199 [.int .i64 a,.int .i64 n,.int .i64 m]
theorem QpA (a:Int) (n:Int) (m:Int):Qli a n m = (let Z0:DO_ := some (D.int .i64 (-1:Int));bif decide (n < (0:Int)) then Z0 else bif decide (m <= n) then Z0 else some (D.int .i64 (IntKind.wrap .i64 (a + n)))) := by kernel_rfl
theorem QpB (a:Int) (n:Int) (m:Int) (h:(true) = true):Qli a n m = some (.int .i64 (bif decide (0 <= n) && decide (n < m) then IntKind.i64.wrap (a + n) else -1)) := by
 (rw [QpA];conv => zeta)
 refine Q4 (fun h0 => ?_) fun h0 => ?_ <;> simp only [decide_eq_true_eq,decide_eq_false_iff_not] at h0
 · rw [decide_eq_false (p := 0 <= n) (by omega)];rfl
 refine Q4 (fun h1 => ?_) fun h1 => ?_ <;> simp only [decide_eq_true_eq,decide_eq_false_iff_not] at h1
 · rw [decide_eq_false (p := n < m) (by omega),Bool.and_false];rfl
 · rw [decide_eq_true (p := 0 <= n) (by omega),decide_eq_true (p := n < m) (by omega)];rfl
noncomputable def ul_6 := ul_5.addSpec 199 QfT
theorem Qlj:Qh Tryz.prog s25 ul_6 := Qlg.addEv Qa fun args d h => by
 unfold QfT at h
 split at h
 · unfold Qlh at h;have h1 := congrArg Prod.fst (Option.some.inj h);obtain rfl:_ = d := congrArg Prod.snd (Option.some.inj h);exact ⟨by simp [D.refs],20,QpB _ _ _ h1⟩
 · cases h
def Qlk (a:Int) (s:Int) (n:Int) (m:Int):Option (Bool × D RC) := some (true,.int .i64 (bif decide (0 <= n) && decide (n < m) then IntKind.i64.wrap (a + IntKind.i64.wrap (s * n)) else -1))
def QfU:List (D RC) -> Option (Bool × D RC)
 | [.int .i64 a,.int .i64 s,.int .i64 n,.int .i64 m] => Qlk a s n m
 | _ => none
noncomputable def Qll (a:Int) (s:Int) (n:Int) (m:Int) := evF s25 ul_6 20 49 [.int .i64 a,.int .i64 s,.int .i64 n,.int .i64 m]
theorem QpC (a:Int) (s:Int) (n:Int) (m:Int):Qll a s n m = (let Z0:DO_ := some (D.int .i64 (-1:Int));bif decide (n < (0:Int)) then Z0 else bif decide (m <= n) then Z0 else some (D.int .i64 (IntKind.wrap .i64 (a + IntKind.wrap .i64 (s * n))))) := by kernel_rfl
theorem QpD (a:Int) (s:Int) (n:Int) (m:Int) (h:(true) = true):Qll a s n m = some (.int .i64 (bif decide (0 <= n) && decide (n < m) then IntKind.i64.wrap (a + IntKind.i64.wrap (s * n)) else -1)) := by
 (rw [QpC];conv => zeta)
 refine Q4 (fun h0 => ?_) fun h0 => ?_ <;> simp only [decide_eq_true_eq,decide_eq_false_iff_not] at h0
 · rw [decide_eq_false (p := 0 <= n) (by omega)];rfl
 refine Q4 (fun h1 => ?_) fun h1 => ?_ <;> simp only [decide_eq_true_eq,decide_eq_false_iff_not] at h1
 · rw [decide_eq_false (p := n < m) (by omega),Bool.and_false];rfl
 · rw [decide_eq_true (p := 0 <= n) (by omega),decide_eq_true (p := n < m) (by omega)];rfl
noncomputable def ul_7 := ul_6.addSpec 49 QfU
theorem Qlm:Qh Tryz.prog s25 ul_7 := Qlj.addEv Qa fun args d h => by
 unfold QfU at h
 split at h
 · unfold Qlk at h;have h1 := congrArg Prod.fst (Option.some.inj h);obtain rfl:_ = d := congrArg Prod.snd (Option.some.inj h);exact ⟨by simp [D.refs],20,QpD _ _ _ _ h1⟩
 · cases h
def Qln (n:Int):Option (Bool × D RC) := some (true,.int .i64 (lRow 5 n 4))
def QfV:List (D RC) -> Option (Bool × D RC)
 | [.int .i64 n] => Qln n
 | _ => none
noncomputable def Qlo (n:Int) := evF s25 ul_7 20 320 [.int .i64 n]
theorem QpE (n:Int):Qlo n = (some (D.int .i64 (bif decide ((0:Int) <= n) && decide (n < (4:Int)) then IntKind.wrap .i64 ((5:Int) + n) else (-1:Int)))) := by kernel_rfl
theorem QpF (n:Int) (h:(true) = true):Qlo n = some (.int .i64 (lRow 5 n 4)) := by
 rw [QpE]
 congr 2
 unfold lRow
 by_cases h0:0 <= n
 · by_cases h1:n < 4
   · simp (disch := omega) only [decide_eq_true h0,decide_eq_true h1,Bool.and_self,cond_true,VS];rw [if_pos ⟨h0,h1⟩]
   · simp only [decide_eq_false h1,Bool.and_false,cond_false];rw [if_neg (by omega)]
 · simp only [decide_eq_false h0,Bool.false_and,cond_false];rw [if_neg (by omega)]
noncomputable def ul_8 := ul_7.addSpec 320 QfV
theorem Qlp:Qh Tryz.prog s25 ul_8 := Qlm.addEv Qa fun args d h => by
 unfold QfV at h
 split at h
 · unfold Qln at h;have h1 := congrArg Prod.fst (Option.some.inj h);obtain rfl:_ = d := congrArg Prod.snd (Option.some.inj h);exact ⟨by simp [D.refs],20,QpF _ h1⟩
 · cases h
def Qlq (n:Int):Option (Bool × D RC) := some (true,.int .i64 (lRow 5 n 4))
def QfW:List (D RC) -> Option (Bool × D RC)
 | [.int .i64 n] => Qlq n
 | _ => none
noncomputable def Qlr (n:Int) := evF s25 ul_8 20 333 [.int .i64 n]
theorem QpG (n:Int):Qlr n = (some (D.int .i64 (bif decide ((0:Int) <= n) && decide (n < (4:Int)) then IntKind.wrap .i64 ((5:Int) + IntKind.wrap .i64 ((1:Int) * n)) else (-1:Int)))) := by kernel_rfl
theorem QpH (n:Int) (h:(true) = true):Qlr n = some (.int .i64 (lRow 5 n 4)) := by
 rw [QpG]
 congr 2
 unfold lRow
 by_cases h0:0 <= n
 · by_cases h1:n < 4
   · simp (disch := omega) only [decide_eq_true h0,decide_eq_true h1,Bool.and_self,cond_true,Int.one_mul,VS];rw [if_pos ⟨h0,h1⟩]
   · simp only [decide_eq_false h1,Bool.and_false,cond_false];rw [if_neg (by omega)]
 · simp only [decide_eq_false h0,Bool.false_and,cond_false];rw [if_neg (by omega)]
noncomputable def ul_9 := ul_8.addSpec 333 QfW
theorem Qls:Qh Tryz.prog s25 ul_9 := Qlp.addEv Qa fun args d h => by
 unfold QfW at h
 split at h
 · unfold Qlq at h;have h1 := congrArg Prod.fst (Option.some.inj h);obtain rfl:_ = d := congrArg Prod.snd (Option.some.inj h);exact ⟨by simp [D.refs],20,QpH _ h1⟩
 · cases h
def Qds (n:Int):Option (Bool × D RC) := some (true,.int .i64 (lRow 9 n 4))
def Qbh:List (D RC) -> Option (Bool × D RC)
 | [.int .i64 n] => Qds n
 | _ => none
noncomputable def Qdt (n:Int) := evF s25 ul_9 20 166 [.int .i64 n]
theorem QhX (n:Int):Qdt n = (some (D.int .i64 (bif decide ((0:Int) <= n) && decide (n < (4:Int)) then IntKind.wrap .i64 ((9:Int) + n) else (-1:Int)))) := by kernel_rfl
theorem QhY (n:Int) (h:(true) = true):Qdt n = some (.int .i64 (lRow 9 n 4)) := by
 rw [QhX]
 congr 2
 unfold lRow
 by_cases h0:0 <= n
 · by_cases h1:n < 4
   · simp (disch := omega) only [decide_eq_true h0,decide_eq_true h1,Bool.and_self,cond_true,VS];rw [if_pos ⟨h0,h1⟩]
   · simp only [decide_eq_false h1,Bool.and_false,cond_false];rw [if_neg (by omega)]
 · simp only [decide_eq_false h0,Bool.false_and,cond_false];rw [if_neg (by omega)]
noncomputable def QtF := ul_9.addSpec 166 Qbh
theorem QhZ:Qh Tryz.prog s25 QtF := Qls.addEv Qa fun args d h => by
 unfold Qbh at h
 split at h
 · unfold Qds at h;have h1 := congrArg Prod.fst (Option.some.inj h);obtain rfl:_ = d := congrArg Prod.snd (Option.some.inj h);exact ⟨by simp [D.refs],20,QhY _ h1⟩
 · cases h
def Qdu (n:Int):Option (Bool × D RC) := some (true,.int .i64 (lRow 9 n 4))
def Qbi:List (D RC) -> Option (Bool × D RC)
 | [.int .i64 n] => Qdu n
 | _ => none
noncomputable def Qdv (n:Int) := evF s25 QtF 20 267 [.int .i64 n]
theorem Qh0 (n:Int):Qdv n = (some (D.int .i64 (bif decide ((0:Int) <= n) && decide (n < (4:Int)) then IntKind.wrap .i64 ((9:Int) + IntKind.wrap .i64 ((1:Int) * n)) else (-1:Int)))) := by kernel_rfl
theorem Qh1 (n:Int) (h:(true) = true):Qdv n = some (.int .i64 (lRow 9 n 4)) := by
 rw [Qh0]
 congr 2
 unfold lRow
 by_cases h0:0 <= n
 · by_cases h1:n < 4
   · simp (disch := omega) only [decide_eq_true h0,decide_eq_true h1,Bool.and_self,cond_true,Int.one_mul,VS];rw [if_pos ⟨h0,h1⟩]
   · simp only [decide_eq_false h1,Bool.and_false,cond_false];rw [if_neg (by omega)]
 · simp only [decide_eq_false h0,Bool.false_and,cond_false];rw [if_neg (by omega)]
noncomputable def QtG := QtF.addSpec 267 Qbi
theorem Qh2:Qh Tryz.prog s25 QtG := QhZ.addEv Qa fun args d h => by
 unfold Qbi at h
 split at h
 · unfold Qdu at h;have h1 := congrArg Prod.fst (Option.some.inj h);obtain rfl:_ = d := congrArg Prod.snd (Option.some.inj h);exact ⟨by simp [D.refs],20,Qh1 _ h1⟩
 · cases h
def QfX (n:Int):Option (Bool × D RC) := some (true,.int .i64 (lRow 21 n 24))
def Qdw:List (D RC) -> Option (Bool × D RC)
 | [.int .i64 n] => QfX n
 | _ => none
noncomputable def QfY (n:Int) := evF s25 QtG 20 184 [.int .i64 n]
theorem Qlt (n:Int):QfY n = (some (D.int .i64 (bif decide ((0:Int) <= n) && decide (n < (24:Int)) then IntKind.wrap .i64 ((21:Int) + n) else (-1:Int)))) := by kernel_rfl
theorem Qlu (n:Int) (h:(true) = true):QfY n = some (.int .i64 (lRow 21 n 24)) := by
 rw [Qlt]
 congr 2
 unfold lRow
 by_cases h0:0 <= n
 · by_cases h1:n < 24
   · simp (disch := omega) only [decide_eq_true h0,decide_eq_true h1,Bool.and_self,cond_true,VS];rw [if_pos ⟨h0,h1⟩]
   · simp only [decide_eq_false h1,Bool.and_false,cond_false];rw [if_neg (by omega)]
 · simp only [decide_eq_false h0,Bool.false_and,cond_false];rw [if_neg (by omega)]
noncomputable def QtH := QtG.addSpec 184 Qdw
theorem Qh3:Qh Tryz.prog s25 QtH := Qh2.addEv Qa fun args d h => by
 unfold Qdw at h
 split at h
 · unfold QfX at h;have h1 := congrArg Prod.fst (Option.some.inj h);obtain rfl:_ = d := congrArg Prod.snd (Option.some.inj h);exact ⟨by simp [D.refs],20,Qlu _ h1⟩
 · cases h
def QfZ (n:Int):Option (Bool × D RC) := some (true,.int .i64 (lRow 21 n 24))
def Qdx:List (D RC) -> Option (Bool × D RC)
 | [.int .i64 n] => QfZ n
 | _ => none
noncomputable def Qf0 (n:Int) := evF s25 QtH 20 29 [.int .i64 n]
theorem Qlv (n:Int):Qf0 n = (some (D.int .i64 (bif decide ((0:Int) <= n) && decide (n < (24:Int)) then IntKind.wrap .i64 ((21:Int) + IntKind.wrap .i64 ((1:Int) * n)) else (-1:Int)))) := by kernel_rfl
theorem Qlw (n:Int) (h:(true) = true):Qf0 n = some (.int .i64 (lRow 21 n 24)) := by
 rw [Qlv]
 congr 2
 unfold lRow
 by_cases h0:0 <= n
 · by_cases h1:n < 24
   · simp (disch := omega) only [decide_eq_true h0,decide_eq_true h1,Bool.and_self,cond_true,Int.one_mul,VS];rw [if_pos ⟨h0,h1⟩]
   · simp only [decide_eq_false h1,Bool.and_false,cond_false];rw [if_neg (by omega)]
 · simp only [decide_eq_false h0,Bool.false_and,cond_false];rw [if_neg (by omega)]
noncomputable def QtI := QtH.addSpec 29 Qdx
theorem Qh4:Qh Tryz.prog s25 QtI := Qh3.addEv Qa fun args d h => by
 unfold Qdx at h
 split at h
 · unfold QfZ at h;have h1 := congrArg Prod.fst (Option.some.inj h);obtain rfl:_ = d := congrArg Prod.snd (Option.some.inj h);exact ⟨by simp [D.refs],20,Qlw _ h1⟩
 · cases h
def Qdy (n:Int):Option (Bool × D RC) := some (true,.int .i64 (lRow 45 n 3))
def Qbj:List (D RC) -> Option (Bool × D RC)
 | [.int .i64 n] => Qdy n
 | _ => none
noncomputable def Qdz (n:Int) := evF s25 QtI 20 203 [.int .i64 n]
theorem Qh5 (n:Int):Qdz n = (some (D.int .i64 (bif decide ((0:Int) <= n) && decide (n < (3:Int)) then IntKind.wrap .i64 ((45:Int) + n) else (-1:Int)))) := by kernel_rfl
theorem Qh6 (n:Int) (h:(true) = true):Qdz n = some (.int .i64 (lRow 45 n 3)) := by
 rw [Qh5]
 congr 2
 unfold lRow
 by_cases h0:0 <= n
 · by_cases h1:n < 3
   · simp (disch := omega) only [decide_eq_true h0,decide_eq_true h1,Bool.and_self,cond_true,VS];rw [if_pos ⟨h0,h1⟩]
   · simp only [decide_eq_false h1,Bool.and_false,cond_false];rw [if_neg (by omega)]
 · simp only [decide_eq_false h0,Bool.false_and,cond_false];rw [if_neg (by omega)]
noncomputable def QtJ := QtI.addSpec 203 Qbj
theorem Qh7:Qh Tryz.prog s25 QtJ := Qh4.addEv Qa fun args d h => by
 unfold Qbj at h
 split at h
 · unfold Qdy at h;have h1 := congrArg Prod.fst (Option.some.inj h);obtain rfl:_ = d := congrArg Prod.snd (Option.some.inj h);exact ⟨by simp [D.refs],20,Qh6 _ h1⟩
 · cases h
def QdA (n:Int):Option (Bool × D RC) := some (true,.int .i64 (lRow 45 n 3))
def Qbk:List (D RC) -> Option (Bool × D RC)
 | [.int .i64 n] => QdA n
 | _ => none
noncomputable def QdB (n:Int) := evF s25 QtJ 20 20 [.int .i64 n]
theorem Qh8 (n:Int):QdB n = (some (D.int .i64 (bif decide ((0:Int) <= n) && decide (n < (3:Int)) then IntKind.wrap .i64 ((45:Int) + IntKind.wrap .i64 ((1:Int) * n)) else (-1:Int)))) := by kernel_rfl
theorem Qh9 (n:Int) (h:(true) = true):QdB n = some (.int .i64 (lRow 45 n 3)) := by
 rw [Qh8]
 congr 2
 unfold lRow
 by_cases h0:0 <= n
 · by_cases h1:n < 3
   · simp (disch := omega) only [decide_eq_true h0,decide_eq_true h1,Bool.and_self,cond_true,Int.one_mul,VS];rw [if_pos ⟨h0,h1⟩]
   · simp only [decide_eq_false h1,Bool.and_false,cond_false];rw [if_neg (by omega)]
 · simp only [decide_eq_false h0,Bool.false_and,cond_false];rw [if_neg (by omega)]
noncomputable def QtK := QtJ.addSpec 20 Qbk
theorem Qia:Qh Tryz.prog s25 QtK := Qh7.addEv Qa fun args d h => by
 unfold Qbk at h
 split at h
 · unfold QdA at h;have h1 := congrArg Prod.fst (Option.some.inj h);obtain rfl:_ = d := congrArg Prod.snd (Option.some.inj h);exact ⟨by simp [D.refs],20,Qh9 _ h1⟩
 · cases h
def Qlx (n:Int):Option (Bool × D RC) := some (true,.int .i64 (lRow 48 n 3))
def Qf1:List (D RC) -> Option (Bool × D RC)
 | [.int .i64 n] => Qlx n
 | _ => none
noncomputable def Qly (n:Int) := evF s25 QtK 20 210 [.int .i64 n]
theorem QpI (n:Int):Qly n = (some (D.int .i64 (bif decide ((0:Int) <= n) && decide (n < (3:Int)) then IntKind.wrap .i64 ((48:Int) + n) else (-1:Int)))) := by kernel_rfl
theorem QpJ (n:Int) (h:(true) = true):Qly n = some (.int .i64 (lRow 48 n 3)) := by
 rw [QpI]
 congr 2
 unfold lRow
 by_cases h0:0 <= n
 · by_cases h1:n < 3
   · simp (disch := omega) only [decide_eq_true h0,decide_eq_true h1,Bool.and_self,cond_true,VS];rw [if_pos ⟨h0,h1⟩]
   · simp only [decide_eq_false h1,Bool.and_false,cond_false];rw [if_neg (by omega)]
 · simp only [decide_eq_false h0,Bool.false_and,cond_false];rw [if_neg (by omega)]
noncomputable def QtL := QtK.addSpec 210 Qf1
theorem Qib:Qh Tryz.prog s25 QtL := Qia.addEv Qa fun args d h => by
 unfold Qf1 at h
 split at h
 · unfold Qlx at h;have h1 := congrArg Prod.fst (Option.some.inj h);obtain rfl:_ = d := congrArg Prod.snd (Option.some.inj h);exact ⟨by simp [D.refs],20,QpJ _ h1⟩
 · cases h
def Qlz (n:Int):Option (Bool × D RC) := some (true,.int .i64 (lRow 48 n 3))
def Qf2:List (D RC) -> Option (Bool × D RC)
 | [.int .i64 n] => Qlz n
 | _ => none
noncomputable def QlA (n:Int) := evF s25 QtL 20 289 [.int .i64 n]
theorem QpK (n:Int):QlA n = (some (D.int .i64 (bif decide ((0:Int) <= n) && decide (n < (3:Int)) then IntKind.wrap .i64 ((48:Int) + IntKind.wrap .i64 ((1:Int) * n)) else (-1:Int)))) := by kernel_rfl
theorem QpL (n:Int) (h:(true) = true):QlA n = some (.int .i64 (lRow 48 n 3)) := by
 rw [QpK]
 congr 2
 unfold lRow
 by_cases h0:0 <= n
 · by_cases h1:n < 3
   · simp (disch := omega) only [decide_eq_true h0,decide_eq_true h1,Bool.and_self,cond_true,Int.one_mul,VS];rw [if_pos ⟨h0,h1⟩]
   · simp only [decide_eq_false h1,Bool.and_false,cond_false];rw [if_neg (by omega)]
 · simp only [decide_eq_false h0,Bool.false_and,cond_false];rw [if_neg (by omega)]
noncomputable def QtM := QtL.addSpec 289 Qf2
theorem Qic:Qh Tryz.prog s25 QtM := Qib.addEv Qa fun args d h => by
 unfold Qf2 at h
 split at h
 · unfold Qlz at h;have h1 := congrArg Prod.fst (Option.some.inj h);obtain rfl:_ = d := congrArg Prod.snd (Option.some.inj h);exact ⟨by simp [D.refs],20,QpL _ h1⟩
 · cases h
def QdC (a:Int) (s:Int) (f:Int) (m:Int) (k:Int):Option (Bool × D RC) := some (true,.int .i64 (bif Qp s 0 (IntKind.i64.wrap (m - 1)) && Qp f 0 (IntKind.i64.wrap (k - 1)) then IntKind.i64.wrap (IntKind.i64.wrap (a + IntKind.i64.wrap (s * k)) + f) else -1))
def Qbl:List (D RC) -> Option (Bool × D RC)
 | [.int .i64 a,.int .i64 s,.int .i64 f,.int .i64 m,.int .i64 k] => QdC a s f m k
 | _ => none
noncomputable def QdD (a:Int) (s:Int) (f:Int) (m:Int) (k:Int) := evF s25 QtM 20 113 [.int .i64 a,.int .i64 s,.int .i64 f,.int .i64 m,.int .i64 k]
theorem Qid (a:Int) (s:Int) (f:Int) (m:Int) (k:Int):QdD a s f m k = (let Z0:DO_ := some (D.int .i64 (-1:Int));bif !Qp s (0:Int) (IntKind.wrap .i64 (m - (1:Int))) then Z0 else bif !Qp f (0:Int) (IntKind.wrap .i64 (k - (1:Int))) then Z0 else some (D.int .i64 (IntKind.wrap .i64 (IntKind.wrap .i64 (a + IntKind.wrap .i64 (s * k)) + f)))) := by kernel_rfl
theorem Qie (a:Int) (s:Int) (f:Int) (m:Int) (k:Int) (h:(true) = true):QdD a s f m k = some (.int .i64 (bif Qp s 0 (IntKind.i64.wrap (m - 1)) && Qp f 0 (IntKind.i64.wrap (k - 1)) then IntKind.i64.wrap (IntKind.i64.wrap (a + IntKind.i64.wrap (s * k)) + f) else -1)) := by
 (rw [Qid];conv => zeta)
 cases Qp s 0 (IntKind.i64.wrap (m - 1)) <;> cases Qp f 0 (IntKind.i64.wrap (k - 1)) <;> rfl
noncomputable def QtN := QtM.addSpec 113 Qbl
theorem Qif:Qh Tryz.prog s25 QtN := Qic.addEv Qa fun args d h => by
 unfold Qbl at h
 split at h
 · unfold QdC at h;have h1 := congrArg Prod.fst (Option.some.inj h);obtain rfl:_ = d := congrArg Prod.snd (Option.some.inj h);exact ⟨by simp [D.refs],20,Qie _ _ _ _ _ h1⟩
 · cases h
def Qf3 (s:Int) (f:Int):Option (Bool × D RC) := some (true,.int .i64 (lField 99 s f 16 12))
def QdE:List (D RC) -> Option (Bool × D RC)
 | [.int .i64 s,.int .i64 f] => Qf3 s f
 | _ => none
noncomputable def Qf4 (s:Int) (f:Int) := evF s25 QtN 20 57 [.int .i64 s,.int .i64 f]
theorem QlB (s:Int) (f:Int):Qf4 s f = (some (D.int .i64 (bif Qp s (0:Int) (15:Int) && Qp f (0:Int) (11:Int) then IntKind.wrap .i64 (IntKind.wrap .i64 ((99:Int) + IntKind.wrap .i64 (s * (12:Int))) + f) else (-1:Int)))) := by kernel_rfl
theorem QlC (s:Int) (f:Int) (h:(true) = true):Qf4 s f = some (.int .i64 (lField 99 s f 16 12)) := by
 rw [QlB]
 congr 2
 unfold lField;cases h0:Qp s 0 15
 · have := ZX h0;rw [if_neg (by omega)];rfl
 cases h1:Qp f 0 11
 · have := ZX h1;rw [if_neg (by omega)];rfl
 rw [QB] at h0 h1;rw [if_pos (by omega)]
 simp (disch := omega) only [Bool.and_self,cond_true,VS]
noncomputable def QtO := QtN.addSpec 57 QdE
theorem Qig:Qh Tryz.prog s25 QtO := Qif.addEv Qa fun args d h => by
 unfold QdE at h
 split at h
 · unfold Qf3 at h;have h1 := congrArg Prod.fst (Option.some.inj h);obtain rfl:_ = d := congrArg Prod.snd (Option.some.inj h);exact ⟨by simp [D.refs],20,QlC _ _ h1⟩
 · cases h
def Qf5 (s:Int) (f:Int):Option (Bool × D RC) := some (true,.int .i64 (lField 99 s f 16 12))
def QdF:List (D RC) -> Option (Bool × D RC)
 | [.int .i64 s,.int .i64 f] => Qf5 s f
 | _ => none
noncomputable def Qf6 (s:Int) (f:Int) := evF s25 QtO 20 27 [.int .i64 s,.int .i64 f]
theorem QlD (s:Int) (f:Int):Qf6 s f = (let Z0:DO_ := some (D.int .i64 (-1:Int));let Z1:Int := bif decide ((0:Int) <= s) && decide (s < (16:Int)) then IntKind.wrap .i64 ((99:Int) + IntKind.wrap .i64 ((12:Int) * s)) else (-1:Int);bif decide (f < (0:Int)) then Z0 else bif decide ((11:Int) < f) then Z0 else bif decide (Z1 < (0:Int)) then Z0 else some (D.int .i64 (IntKind.wrap .i64 (Z1 + f)))) := by kernel_rfl
theorem QlE (s:Int) (f:Int) (h:(true) = true):Qf6 s f = some (.int .i64 (lField 99 s f 16 12)) := by
 (rw [QlD];conv => zeta)
 unfold lField;refine Q4 (fun h0 => ?_) fun h0 => ?_ <;> simp only [decide_eq_true_eq,decide_eq_false_iff_not] at h0
 · rw [if_neg (by omega)]
 refine Q4 (fun h1 => ?_) fun h1 => ?_ <;> simp only [decide_eq_true_eq,decide_eq_false_iff_not] at h1
 · rw [if_neg (by omega)]
 by_cases h2:0 <= s
 · by_cases h3:s < 16
   · simp (disch := omega) only [decide_eq_true h2,decide_eq_true h3,Bool.and_self,cond_true,VS];rw [decide_eq_false (by omega),if_pos (by omega)]
     simp (disch := omega) only [cond_false,VS]
     congr 2;omega
   · simp only [decide_eq_false h3,Bool.and_false,cond_false];rw [if_neg (by omega)];rfl
 · simp only [decide_eq_false h2,Bool.false_and,cond_false];rw [if_neg (by omega)];rfl
noncomputable def QtP := QtO.addSpec 27 QdF
theorem Qih:Qh Tryz.prog s25 QtP := Qig.addEv Qa fun args d h => by
 unfold QdF at h
 split at h
 · unfold Qf5 at h;have h1 := congrArg Prod.fst (Option.some.inj h);obtain rfl:_ = d := congrArg Prod.snd (Option.some.inj h);exact ⟨by simp [D.refs],20,QlE _ _ h1⟩
 · cases h
def Qf7 (s:Int) (f:Int):Option (Bool × D RC) := some (true,.int .i64 (lField 291 s f 160 3))
def QdG:List (D RC) -> Option (Bool × D RC)
 | [.int .i64 s,.int .i64 f] => Qf7 s f
 | _ => none
noncomputable def Qf8 (s:Int) (f:Int) := evF s25 QtP 20 274 [.int .i64 s,.int .i64 f]
theorem QlF (s:Int) (f:Int):Qf8 s f = (some (D.int .i64 (bif Qp s (0:Int) (159:Int) && Qp f (0:Int) (2:Int) then IntKind.wrap .i64 (IntKind.wrap .i64 ((291:Int) + IntKind.wrap .i64 (s * (3:Int))) + f) else (-1:Int)))) := by kernel_rfl
theorem QlG (s:Int) (f:Int) (h:(true) = true):Qf8 s f = some (.int .i64 (lField 291 s f 160 3)) := by
 rw [QlF]
 congr 2
 unfold lField;cases h0:Qp s 0 159
 · have := ZX h0;rw [if_neg (by omega)];rfl
 cases h1:Qp f 0 2
 · have := ZX h1;rw [if_neg (by omega)];rfl
 rw [QB] at h0 h1;rw [if_pos (by omega)]
 simp (disch := omega) only [Bool.and_self,cond_true,VS]
noncomputable def QtQ := QtP.addSpec 274 QdG
theorem Qii:Qh Tryz.prog s25 QtQ := Qih.addEv Qa fun args d h => by
 unfold QdG at h
 split at h
 · unfold Qf7 at h;have h1 := congrArg Prod.fst (Option.some.inj h);obtain rfl:_ = d := congrArg Prod.snd (Option.some.inj h);exact ⟨by simp [D.refs],20,QlG _ _ h1⟩
 · cases h
def Qf9 (s:Int) (f:Int):Option (Bool × D RC) := some (true,.int .i64 (lField 291 s f 160 3))
def QdH:List (D RC) -> Option (Bool × D RC)
 | [.int .i64 s,.int .i64 f] => Qf9 s f
 | _ => none
noncomputable def Qga (s:Int) (f:Int) := evF s25 QtQ 20 82 [.int .i64 s,.int .i64 f]
theorem QlH (s:Int) (f:Int):Qga s f = (let Z0:DO_ := some (D.int .i64 (-1:Int));let Z1:Int := bif decide ((0:Int) <= s) && decide (s < (160:Int)) then IntKind.wrap .i64 ((291:Int) + IntKind.wrap .i64 ((3:Int) * s)) else (-1:Int);bif decide (f < (0:Int)) then Z0 else bif decide ((2:Int) < f) then Z0 else bif decide (Z1 < (0:Int)) then Z0 else some (D.int .i64 (IntKind.wrap .i64 (Z1 + f)))) := by kernel_rfl
theorem QlI (s:Int) (f:Int) (h:(true) = true):Qga s f = some (.int .i64 (lField 291 s f 160 3)) := by
 (rw [QlH];conv => zeta)
 unfold lField;refine Q4 (fun h0 => ?_) fun h0 => ?_ <;> simp only [decide_eq_true_eq,decide_eq_false_iff_not] at h0
 · rw [if_neg (by omega)]
 refine Q4 (fun h1 => ?_) fun h1 => ?_ <;> simp only [decide_eq_true_eq,decide_eq_false_iff_not] at h1
 · rw [if_neg (by omega)]
 by_cases h2:0 <= s
 · by_cases h3:s < 160
   · simp (disch := omega) only [decide_eq_true h2,decide_eq_true h3,Bool.and_self,cond_true,VS];rw [decide_eq_false (by omega),if_pos (by omega)]
     simp (disch := omega) only [cond_false,VS]
     congr 2;omega
   · simp only [decide_eq_false h3,Bool.and_false,cond_false];rw [if_neg (by omega)];rfl
 · simp only [decide_eq_false h2,Bool.false_and,cond_false];rw [if_neg (by omega)];rfl
noncomputable def QtR := QtQ.addSpec 82 QdH
theorem Qij:Qh Tryz.prog s25 QtR := Qii.addEv Qa fun args d h => by
 unfold QdH at h
 split at h
 · unfold Qf9 at h;have h1 := congrArg Prod.fst (Option.some.inj h);obtain rfl:_ = d := congrArg Prod.snd (Option.some.inj h);exact ⟨by simp [D.refs],20,QlI _ _ h1⟩
 · cases h
open Go.Proofs
def Qr5 (w:Int):Option (Bool × D RC) := some (true,.int .i64 (plc w))
def QlJ:List (D RC) -> Option (Bool × D RC)
 | [.int .i64 w] => Qr5 w
 | _ => none
noncomputable def Qr6 (w:Int) := evF s25 QtR 20 131 [.int .i64 w]
theorem QtS (w:Int):Qr6 w = (let Z0:DO_ := some (D.int .i64 0);bif decide (w < (0:Int)) then Z0 else bif decide ((1099510841343:Int) < w) then Z0 else some (D.int .i64 (bits .i64 (fun (x:Nat) (u v:BitVec x) => u &&& v) (Int.fdiv w (1048576:Int)) (1099511627775:Int)))) := by kernel_rfl
theorem QtT (w:Int) (h:(true) = true):Qr6 w = some (.int .i64 (plc w)) := by
 (rw [QtS];conv => zeta)
 unfold plc;refine Q4 (fun h0 => ?_) fun h0 => Q4 (fun h1 => ?_) fun h1 => ?_ <;> simp only [decide_eq_true_eq,decide_eq_false_iff_not] at *
 · rw [Q2 (by omega)];rfl
 · rw [Q2 (by omega)];rfl
 · rw [Zm (by omega),Qr0 (by omega),Qww (by omega)]
noncomputable def um_1 := QtR.addSpec 131 QlJ
theorem QlK:Qh Tryz.prog s25 um_1 := Qij.addEv Qa fun args d h => by
 unfold QlJ at h
 split at h
 · unfold Qr5 at h;have h1 := congrArg Prod.fst (Option.some.inj h);obtain rfl:_ = d := congrArg Prod.snd (Option.some.inj h);exact ⟨by simp [D.refs],20,QtT _ h1⟩
 · cases h
def QlL (p:Int) (d:Int):Option (Bool × D RC) := some (true,.tup (.acons (.int .i64 (wordN p d)) (.acons (.int .i64 (Qdh p d)) .anil)))
def Qgb:List (D RC) -> Option (Bool × D RC)
 | [.int .i64 p,.int .i64 d] => QlL p d
 | _ => none
noncomputable def QlM (p:Int) (d:Int) := evF s25 um_1 20 253 [.int .i64 p,.int .i64 d]
theorem QpM (p:Int) (d:Int):QlM p d = (let Z0:Bool := decide (p < (0:Int));let Z1:D RC := D.int .i64 0;let Z2:DO_ := some (D.tup (D.acons Z1 (D.acons (D.int .i64 2) .anil)));let Z3:Bool := decide ((1048575:Int) < p);let Z4:DO_ := some (D.tup (D.acons (D.int .i64 (bits .i64 (fun (x:Nat) (u v:BitVec x) => u ||| v) (IntKind.wrap .i64 (p * (1048576:Int))) d)) (.acons Z1 .anil)));let Z5:DO_ := bif d != (0:Int) then Z2 else bif p != (0:Int) then Z2 else Z4;bif decide ((256:Int) <= d) then bif Z0 then Z2 else bif Z3 then Z2 else bif !decide (d <= (262143:Int)) then Z5 else Z4 else bif Z0 then Z2 else bif Z3 then Z2 else Z5) := by kernel_rfl
theorem QpN (p:Int) (d:Int) (h:(true) = true):QlM p d = some (.tup (.acons (.int .i64 (wordN p d)) (.acons (.int .i64 (Qdh p d)) .anil))) := by
 (rw [QpM];conv => zeta)
 have ww:0 <= p -> p <= 1048575 -> IntKind.i64.wrap (p * 1048576) = p * 1048576 := fun h1 h2 => Qb (by omega) (by omega)
 repeat' (refine Q4 (fun hc => ?_) fun hc => ?_)
 all_goals
  simp only [decide_eq_true_eq,decide_eq_false_iff_not,beq_iff_eq,bne_iff_ne,ne_eq,Bool.not_eq_true',Bool.not_eq_false',bne_eq_false_iff_eq,beq_eq_false_iff_ne] at *
  first
  | exact congrArg some (Qdk (by unfold OkWord;omega))
  | (rw [ww (by omega) (by omega),or20 (by omega) (by omega)];exact congrArg some (Qdj (by unfold OkWord;omega)))
noncomputable def um_2 := um_1.addSpec 253 Qgb
theorem QlN:Qh Tryz.prog s25 um_2 := QlK.addEv Qa fun args d h => by
 unfold Qgb at h
 split at h
 · unfold QlL at h;have h1 := congrArg Prod.fst (Option.some.inj h);obtain rfl:_ = d := congrArg Prod.snd (Option.some.inj h);exact ⟨by simp [D.refs],20,QpN _ _ h1⟩
 · cases h
def Qr7 (w:Int):Option (Bool × D RC) := some (true,.int .i64 (plc w))
def QlO:List (D RC) -> Option (Bool × D RC)
 | [.int .i64 w] => Qr7 w
 | _ => none
noncomputable def Qr8 (w:Int) := evF s25 um_2 20 28 [.int .i64 w]
theorem QtU (w:Int):Qr8 w = (let Z0:DO_ := some (D.int .i64 0);bif decide (w < (0:Int)) then Z0 else bif decide ((1099510841343:Int) < w) then Z0 else some (D.int .i64 (Int.fdiv w (1048576:Int)))) := by kernel_rfl
theorem QtV (w:Int) (h:(true) = true):Qr8 w = some (.int .i64 (plc w)) := by
 (rw [QtU];conv => zeta)
 unfold plc;refine Q4 (fun h0 => ?_) fun h0 => Q4 (fun h1 => ?_) fun h1 => ?_ <;> simp only [decide_eq_true_eq,decide_eq_false_iff_not] at *
 · rw [Q2 (by omega)];rfl
 · rw [Q2 (by omega)];rfl
 · rw [Zm (by omega),Qr0 (by omega)]
noncomputable def um_3 := um_2.addSpec 28 QlO
theorem QlP:Qh Tryz.prog s25 um_3 := QlN.addEv Qa fun args d h => by
 unfold QlO at h
 split at h
 · unfold Qr7 at h;have h1 := congrArg Prod.fst (Option.some.inj h);obtain rfl:_ = d := congrArg Prod.snd (Option.some.inj h);exact ⟨by simp [D.refs],20,QtV _ h1⟩
 · cases h
def QlQ (w:Int):Option (Bool × D RC) := some (true,.int .i64 (bare w))
def Qgc:List (D RC) -> Option (Bool × D RC)
 | [.int .i64 w] => QlQ w
 | _ => none
noncomputable def QlR (w:Int) := evF s25 um_3 20 90 [.int .i64 w]
theorem QpO (w:Int):QlR w = (let Z0:DO_ := some (D.int .i64 0);bif decide (w < (0:Int)) then Z0 else bif decide ((1099510841343:Int) < w) then Z0 else some (D.int .i64 (bits .i64 (fun (x:Nat) (u v:BitVec x) => u &&& v) w (1048575:Int)))) := by kernel_rfl
theorem QpP (w:Int) (h:(true) = true):QlR w = some (.int .i64 (bare w)) := by
 (rw [QpO];conv => zeta)
 unfold bare;refine Q4 (fun h0 => ?_) fun h0 => Q4 (fun h1 => ?_) fun h1 => ?_ <;> simp only [decide_eq_true_eq,decide_eq_false_iff_not] at *
 · rw [Q2 (by omega)];rfl
 · rw [Q2 (by omega)];rfl
 · rw [Zm (by omega),QvG]
noncomputable def um_4 := um_3.addSpec 90 Qgc
theorem QlS:Qh Tryz.prog s25 um_4 := QlP.addEv Qa fun args d h => by
 unfold Qgc at h
 split at h
 · unfold QlQ at h;have h1 := congrArg Prod.fst (Option.some.inj h);obtain rfl:_ = d := congrArg Prod.snd (Option.some.inj h);exact ⟨by simp [D.refs],20,QpP _ h1⟩
 · cases h
def QlT (p:Int) (d:Int):Option (Bool × D RC) := some (true,.tup (.acons (.int .i64 (wordN p d)) (.acons (.int .i64 (Qdh p d)) .anil)))
def Qgd:List (D RC) -> Option (Bool × D RC)
 | [.int .i64 p,.int .i64 d] => QlT p d
 | _ => none
noncomputable def QlU (p:Int) (d:Int) := evF s25 um_4 20 312 [.int .i64 p,.int .i64 d]
theorem QpQ (p:Int) (d:Int):QlU p d = (let Z0:D RC := D.int .i64 0;let Z1:DO_ := some (D.tup (D.acons Z0 (D.acons (D.int .i64 2) .anil)));let Z2:DO_ := some (D.tup (D.acons (D.int .i64 (IntKind.wrap .i64 (IntKind.wrap .i64 (p * (1048576:Int)) + d))) (.acons Z0 .anil)));let Z3:DO_ := bif d == (0:Int) then bif p != (0:Int) then Z1 else Z2 else Z2;bif decide (p < (0:Int)) then Z1 else bif decide ((1048575:Int) < p) then Z1 else bif d != (0:Int) then bif decide ((256:Int) <= d) then bif !decide (d <= (262143:Int)) then Z1 else Z3 else Z1 else Z3) := by kernel_rfl
theorem QpR (p:Int) (d:Int) (h:(true) = true):QlU p d = some (.tup (.acons (.int .i64 (wordN p d)) (.acons (.int .i64 (Qdh p d)) .anil))) := by
 (rw [QpQ];conv => zeta)
 have ww:0 <= p -> p <= 1048575 -> IntKind.i64.wrap (p * 1048576) = p * 1048576 := fun h1 h2 => Qb (by omega) (by omega)
 repeat' (refine Q4 (fun hc => ?_) fun hc => ?_)
 all_goals
  simp only [decide_eq_true_eq,decide_eq_false_iff_not,beq_iff_eq,bne_iff_ne,ne_eq,Bool.not_eq_true',Bool.not_eq_false',bne_eq_false_iff_eq,beq_eq_false_iff_ne] at *
  first
  | exact congrArg some (Qdk (by unfold OkWord;omega))
  | (rw [ww (by omega) (by omega),Qb (by omega) (by omega)];exact congrArg some (Qdj (by unfold OkWord;omega)))
noncomputable def um_5 := um_4.addSpec 312 Qgd
theorem QlV:Qh Tryz.prog s25 um_5 := QlS.addEv Qa fun args d h => by
 unfold Qgd at h
 split at h
 · unfold QlT at h;have h1 := congrArg Prod.fst (Option.some.inj h);obtain rfl:_ = d := congrArg Prod.snd (Option.some.inj h);exact ⟨by simp [D.refs],20,QpR _ _ h1⟩
 · cases h
def QlW (w:Int):Option (Bool × D RC) := some (true,.int .i64 (bare w))
def Qge:List (D RC) -> Option (Bool × D RC)
 | [.int .i64 w] => QlW w
 | _ => none
noncomputable def QlX (w:Int) := evF s25 um_5 20 132 [.int .i64 w]
theorem QpS (w:Int):QlX w = (let Z0:DO_ := some (D.int .i64 0);bif decide (w < (0:Int)) then Z0 else bif decide ((1099510841343:Int) < w) then Z0 else some (D.int .i64 (bits .i64 (fun (x:Nat) (u v:BitVec x) => u &&& v) (Int.fdiv w (1:Int)) (1048575:Int)))) := by kernel_rfl
theorem QpT (w:Int) (h:(true) = true):QlX w = some (.int .i64 (bare w)) := by
 (rw [QpS];conv => zeta)
 unfold bare;refine Q4 (fun h0 => ?_) fun h0 => Q4 (fun h1 => ?_) fun h1 => ?_ <;> simp only [decide_eq_true_eq,decide_eq_false_iff_not] at *
 · rw [Q2 (by omega)];rfl
 · rw [Q2 (by omega)];rfl
 · rw [Zm (by omega),Int.fdiv_one,QvG]
noncomputable def um_6 := um_5.addSpec 132 Qge
theorem QlY:Qh Tryz.prog s25 um_6 := QlV.addEv Qa fun args d h => by
 unfold Qge at h
 split at h
 · unfold QlW at h;have h1 := congrArg Prod.fst (Option.some.inj h);obtain rfl:_ = d := congrArg Prod.snd (Option.some.inj h);exact ⟨by simp [D.refs],20,QpT _ h1⟩
 · cases h
theorem and8 (n:Int):bits .i64 (fun _ u v => u &&& v) n 255 = n % 256 := by
 unfold bits;rw [BitVec.toNat_and,ZW,ZW];have e:((255:Int) % 18446744073709551616).toNat = 2 ^ 8 - 1 := by decide
 rw [e,Nat.and_two_pow_sub_one_eq_mod,Qb (by omega) (by omega)]
 omega
def Qr9 (w:Int):Option (Bool × D RC) := some (true,.int .i64 (inWord w % 256))
def QlZ:List (D RC) -> Option (Bool × D RC)
 | [.int .i64 w] => Qr9 w
 | _ => none
noncomputable def Qsa (w:Int) := evF s25 um_6 20 58 [.int .i64 w]
theorem QtW (w:Int):Qsa w = (let Z0:DO_ := some (D.int .i64 0);bif decide (w < (0:Int)) then Z0 else bif decide ((1099510841343:Int) < w) then Z0 else some (D.int .i64 (bits .i64 (fun (x:Nat) (u v:BitVec x) => u &&& v) (Int.fdiv w (1:Int)) (255:Int)))) := by kernel_rfl
theorem QtX (w:Int) (h:(true) = true):Qsa w = some (.int .i64 (inWord w % 256)) := by
 (rw [QtW];conv => zeta)
 refine Q4 (fun h0 => ?_) fun h0 => Q4 (fun h1 => ?_) fun h1 => ?_ <;> simp only [decide_eq_true_eq,decide_eq_false_iff_not] at *
 · rw [Q2 (by omega)];rfl
 · rw [Q2 (by omega)];rfl
 · rw [Zm (by omega),Int.fdiv_one,and8]
noncomputable def um_7 := um_6.addSpec 58 QlZ
theorem Ql0:Qh Tryz.prog s25 um_7 := QlY.addEv Qa fun args d h => by
 unfold QlZ at h
 split at h
 · unfold Qr9 at h;have h1 := congrArg Prod.fst (Option.some.inj h);obtain rfl:_ = d := congrArg Prod.snd (Option.some.inj h);exact ⟨by simp [D.refs],20,QtX _ h1⟩
 · cases h
def Qsb (w:Int):Option (Bool × D RC) := some (true,.int .i64 (inWord w % 256))
def Ql1:List (D RC) -> Option (Bool × D RC)
 | [.int .i64 w] => Qsb w
 | _ => none
noncomputable def Qsc (w:Int) := evF s25 um_7 20 115 [.int .i64 w]
theorem QtY (w:Int):Qsc w = (let Z0:DO_ := some (D.int .i64 0);bif decide (w < (0:Int)) then Z0 else bif decide ((1099510841343:Int) < w) then Z0 else some (D.int .i64 (bits .i64 (fun (x:Nat) (u v:BitVec x) => u &&& v) w (255:Int)))) := by kernel_rfl
theorem QtZ (w:Int) (h:(true) = true):Qsc w = some (.int .i64 (inWord w % 256)) := by
 (rw [QtY];conv => zeta)
 refine Q4 (fun h0 => ?_) fun h0 => Q4 (fun h1 => ?_) fun h1 => ?_ <;> simp only [decide_eq_true_eq,decide_eq_false_iff_not] at *
 · rw [Q2 (by omega)];rfl
 · rw [Q2 (by omega)];rfl
 · rw [Zm (by omega),and8]
noncomputable def um_8 := um_7.addSpec 115 Ql1
theorem Ql2:Qh Tryz.prog s25 um_8 := Ql0.addEv Qa fun args d h => by
 unfold Ql1 at h
 split at h
 · unfold Qsb at h;have h1 := congrArg Prod.fst (Option.some.inj h);obtain rfl:_ = d := congrArg Prod.snd (Option.some.inj h);exact ⟨by simp [D.refs],20,QtZ _ h1⟩
 · cases h
open Go.Proofs
def Qsd (k:Int) (a:Int) (b:Int) (v:Int) (g:Int) (tx:List UInt8) (c:Bool) (ar:List Int):Option (Bool × D RC) := some (decide (0 <= k /\ k <= 7) && (lenOK tx.length && lenOK ar.length),.bool (ZR k a b v g tx ar))
def Ql3:List (D RC) -> Option (Bool × D RC)
 | [.acons (.int .i8 k) (.acons (.int .i64 a) (.acons (.int .i64 b) (.acons (.int .i64 v) (.acons (.int .i64 g) (.acons (.str tx) (.acons (.sl .int c ar) .anil))))))] => Qsd k a b v g tx c ar
 | _ => none
noncomputable def ZK (k:Int) (a:Int) (b:Int) (v:Int) (g:Int) (tx:List UInt8) (c:Bool) (ar:List Int) := evF s25 um_8 100 188 [.acons (.int .i8 k) (.acons (.int .i64 a) (.acons (.int .i64 b) (.acons (.int .i64 v) (.acons (.int .i64 g) (.acons (.str tx) (.acons (.sl (C := RC) .int c ar) .anil))))))]
theorem QpU (a b v g:Int) (tx:List UInt8) (c:Bool) (ar:List Int):ZK 0 a b v g tx c ar = (let Z0:Int := (-1:Int);let Z1:DO_ := some (D.bool false);let Z2:Bool := lenOK ar.length;let Z3:Int := (↑ar.length:Int);let Z4:DO_ := bif tx == Array.toList #[] then bif Z2 then bif Z3 == (0:Int) then some (D.bool true) else Z1 else none else Z1;let Z5:DO_ := bif b == (0:Int) then bif v == (0:Int) then bif g == (0:Int) then Z4 else Z4 else Z1 else Z1;bif decide (b < Z0) then Z1 else bif decide ((1152921504606846976:Int) < b) then Z1 else bif decide (v < Z0) then Z1 else bif decide ((1152921504606846976:Int) < v) then Z1 else bif decide (g < Z0) then Z1 else bif decide ((1152921504606846976:Int) < g) then Z1 else bif Z2 then bif decide ((96:Int) < Z3) then Z1 else bif lenOK tx.length then bif decide ((640:Int) < (↑tx.length:Int)) then Z1 else bif decide (a < (0:Int)) then Z1 else bif decide ((4095:Int) < a) then Z1 else bif a == (0:Int) then Z5 else Z5 else none else none) := by kernel_rfl
theorem QpV (a b v g:Int) (tx:List UInt8) (c:Bool) (ar:List Int):ZK 1 a b v g tx c ar = (let Z0:Int := (-1:Int);let Z1:DO_ := some (D.bool false);let Z2:Bool := lenOK ar.length;let Z3:Int := (↑ar.length:Int);let Z4:DO_ := bif tx == Array.toList #[] then bif Z2 then bif Z3 == (0:Int) then some (D.bool true) else Z1 else none else Z1;let Z5:DO_ := bif g == (0:Int) then Z4 else Z4;let Z6:DO_ := bif b == (0:Int) then bif v == (0:Int) then Z5 else Z5 else Z1;bif decide (b < Z0) then Z1 else bif decide ((1152921504606846976:Int) < b) then Z1 else bif decide (v < Z0) then Z1 else bif decide ((1152921504606846976:Int) < v) then Z1 else bif decide (g < Z0) then Z1 else bif decide ((1152921504606846976:Int) < g) then Z1 else bif Z2 then bif decide ((96:Int) < Z3) then Z1 else bif lenOK tx.length then bif decide ((640:Int) < (↑tx.length:Int)) then Z1 else bif decide (a < (0:Int)) then Z1 else bif decide ((4095:Int) < a) then Z1 else bif a == (0:Int) then Z6 else Z6 else none else none) := by kernel_rfl
theorem QpW (a b v g:Int) (tx:List UInt8) (c:Bool) (ar:List Int):ZK 2 a b v g tx c ar = (let Z0:Int := (-1:Int);let Z1:DO_ := some (D.bool false);let Z2:Bool := lenOK ar.length;let Z3:Int := (↑ar.length:Int);let Z4:DO_ := bif tx == Array.toList #[] then bif Z2 then bif Z3 == (0:Int) then some (D.bool true) else Z1 else none else Z1;let Z5:DO_ := bif g == (0:Int) then Z4 else Z4;let Z6:DO_ := bif v == (0:Int) then Z5 else Z5;let Z7:DO_ := bif b == (0:Int) then Z6 else Z6;bif decide (b < Z0) then Z1 else bif decide ((1152921504606846976:Int) < b) then Z1 else bif decide (v < Z0) then Z1 else bif decide ((1152921504606846976:Int) < v) then Z1 else bif decide (g < Z0) then Z1 else bif decide ((1152921504606846976:Int) < g) then Z1 else bif Z2 then bif decide ((96:Int) < Z3) then Z1 else bif lenOK tx.length then bif decide ((640:Int) < (↑tx.length:Int)) then Z1 else bif decide (a < (0:Int)) then Z1 else bif decide ((4095:Int) < a) then Z1 else bif a == (0:Int) then Z7 else Z7 else none else none) := by kernel_rfl
theorem QpX (a b v g:Int) (tx:List UInt8) (c:Bool) (ar:List Int):ZK 3 a b v g tx c ar = (let Z0:Int := (-1:Int);let Z1:DO_ := some (D.bool false);let Z2:Bool := lenOK ar.length;let Z3:Int := (↑ar.length:Int);let Z4:DO_ := bif g == (0:Int) then bif tx == Array.toList #[] then bif Z2 then bif Z3 == (0:Int) then some (D.bool true) else Z1 else none else Z1 else Z1;let Z5:DO_ := bif b == (0:Int) then bif v == (0:Int) then Z4 else Z4 else Z1;bif decide (b < Z0) then Z1 else bif decide ((1152921504606846976:Int) < b) then Z1 else bif decide (v < Z0) then Z1 else bif decide ((1152921504606846976:Int) < v) then Z1 else bif decide (g < Z0) then Z1 else bif decide ((1152921504606846976:Int) < g) then Z1 else bif Z2 then bif decide ((96:Int) < Z3) then Z1 else bif lenOK tx.length then bif decide ((640:Int) < (↑tx.length:Int)) then Z1 else bif decide (a < (0:Int)) then Z1 else bif decide ((4095:Int) < a) then Z1 else bif a == (0:Int) then Z5 else Z5 else none else none) := by kernel_rfl
theorem QpY (a b v g:Int) (tx:List UInt8) (c:Bool) (ar:List Int):ZK 4 a b v g tx c ar = (let Z0:Int := (-1:Int);let Z1:DO_ := some (D.bool false);let Z2:Bool := lenOK ar.length;let Z3:Int := (↑ar.length:Int);let Z4:DO_ := bif Z2 then bif Z3 == (0:Int) then some (D.bool true) else Z1 else none;let Z5:DO_ := bif v == (0:Int) then bif g == (0:Int) then bif tx == Array.toList #[] then Z4 else Z4 else Z1 else Z1;let Z6:DO_ := bif b == (0:Int) then Z5 else Z5;bif decide (b < Z0) then Z1 else bif decide ((1152921504606846976:Int) < b) then Z1 else bif decide (v < Z0) then Z1 else bif decide ((1152921504606846976:Int) < v) then Z1 else bif decide (g < Z0) then Z1 else bif decide ((1152921504606846976:Int) < g) then Z1 else bif Z2 then bif decide ((96:Int) < Z3) then Z1 else bif lenOK tx.length then bif decide ((640:Int) < (↑tx.length:Int)) then Z1 else bif decide (a < (0:Int)) then Z1 else bif decide ((4095:Int) < a) then Z1 else bif a == (0:Int) then Z6 else Z6 else none else none) := by kernel_rfl
theorem QpZ (a b v g:Int) (tx:List UInt8) (c:Bool) (ar:List Int):ZK 5 a b v g tx c ar = (let Z0:Int := (-1:Int);let Z1:DO_ := some (D.bool false);let Z2:Bool := lenOK ar.length;let Z3:Int := (↑ar.length:Int);bif decide (b < Z0) then Z1 else bif decide ((1152921504606846976:Int) < b) then Z1 else bif decide (v < Z0) then Z1 else bif decide ((1152921504606846976:Int) < v) then Z1 else bif decide (g < Z0) then Z1 else bif decide ((1152921504606846976:Int) < g) then Z1 else bif Z2 then bif decide ((96:Int) < Z3) then Z1 else bif lenOK tx.length then bif decide ((640:Int) < (↑tx.length:Int)) then Z1 else bif decide (a < (0:Int)) then Z1 else bif decide ((4095:Int) < a) then Z1 else bif a == (0:Int) then bif b == (0:Int) then bif v == (0:Int) then bif g == (0:Int) then bif tx == Array.toList #[] then bif Z2 then bif Z3 == (0:Int) then some (D.bool true) else Z1 else none else Z1 else Z1 else Z1 else Z1 else Z1 else none else none) := by kernel_rfl
theorem Qp0 (a b v g:Int) (tx:List UInt8) (c:Bool) (ar:List Int):ZK 6 a b v g tx c ar = (let Z0:Int := (-1:Int);let Z1:DO_ := some (D.bool false);let Z2:Bool := lenOK ar.length;let Z3:Int := (↑ar.length:Int);let Z4:DO_ := bif b == (0:Int) then bif v == (0:Int) then bif g == (0:Int) then bif tx == Array.toList #[] then bif Z2 then bif Z3 == (0:Int) then some (D.bool true) else some (D.bool true) else none else Z1 else Z1 else Z1 else Z1;bif decide (b < Z0) then Z1 else bif decide ((1152921504606846976:Int) < b) then Z1 else bif decide (v < Z0) then Z1 else bif decide ((1152921504606846976:Int) < v) then Z1 else bif decide (g < Z0) then Z1 else bif decide ((1152921504606846976:Int) < g) then Z1 else bif Z2 then bif decide ((96:Int) < Z3) then Z1 else bif lenOK tx.length then bif decide ((640:Int) < (↑tx.length:Int)) then Z1 else bif decide (a < (0:Int)) then Z1 else bif decide ((4095:Int) < a) then Z1 else bif decide ((127:Int) < a) then Z1 else bif a == (0:Int) then Z4 else Z4 else none else none) := by kernel_rfl
theorem Qp1 (a b v g:Int) (tx:List UInt8) (c:Bool) (ar:List Int):ZK 7 a b v g tx c ar = (let Z0:Int := (-1:Int);let Z1:DO_ := some (D.bool false);let Z2:Bool := lenOK ar.length;let Z3:Int := (↑ar.length:Int);bif decide (b < Z0) then Z1 else bif decide ((1152921504606846976:Int) < b) then Z1 else bif decide (v < Z0) then Z1 else bif decide ((1152921504606846976:Int) < v) then Z1 else bif decide (g < Z0) then Z1 else bif decide ((1152921504606846976:Int) < g) then Z1 else bif Z2 then bif decide ((96:Int) < Z3) then Z1 else bif lenOK tx.length then bif decide ((640:Int) < (↑tx.length:Int)) then Z1 else bif decide (a < (0:Int)) then Z1 else bif decide ((4095:Int) < a) then Z1 else bif a == (0:Int) then bif b == (0:Int) then bif v == (0:Int) then bif g == (0:Int) then bif tx == Array.toList #[] then bif Z2 then bif Z3 == (0:Int) then some (D.bool true) else some (D.bool true) else none else Z1 else Z1 else Z1 else Z1 else Z1 else none else none) := by kernel_rfl
theorem Qt0 (a b v g:Int) (tx:List UInt8) (c:Bool) (ar:List Int) (h1:lenOK tx.length = true) (h2:lenOK ar.length = true):ZK 0 a b v g tx c ar = some (.bool (ZR 0 a b v g tx ar)) := by
 (rw [QpU];conv => zeta)
 simp only [h1,h2,cond_true];clear h1 h2
 repeat' (first | refine cdD (fun hc => ?_) fun hc => ?_ | refine cdE (fun hc => ?_) fun hc => ?_ | refine cdS (fun hc => ?_) fun hc => ?_)
 all_goals first | exact Qdl (MayA.k0.2 (by omega)) | exact Qdm (fun q => by have q := MayA.k0.1 q;omega)
theorem Qt1 (a b v g:Int) (tx:List UInt8) (c:Bool) (ar:List Int) (h1:lenOK tx.length = true) (h2:lenOK ar.length = true):ZK 1 a b v g tx c ar = some (.bool (ZR 1 a b v g tx ar)) := by
 (rw [QpV];conv => zeta)
 simp only [h1,h2,cond_true];clear h1 h2
 repeat' (first | refine cdD (fun hc => ?_) fun hc => ?_ | refine cdE (fun hc => ?_) fun hc => ?_ | refine cdS (fun hc => ?_) fun hc => ?_)
 all_goals first | exact Qdl (MayA.k1.2 (by omega)) | exact Qdm (fun q => by have q := MayA.k1.1 q;omega)
theorem Qt2 (a b v g:Int) (tx:List UInt8) (c:Bool) (ar:List Int) (h1:lenOK tx.length = true) (h2:lenOK ar.length = true):ZK 2 a b v g tx c ar = some (.bool (ZR 2 a b v g tx ar)) := by
 (rw [QpW];conv => zeta)
 simp only [h1,h2,cond_true];clear h1 h2
 repeat' (first | refine cdD (fun hc => ?_) fun hc => ?_ | refine cdE (fun hc => ?_) fun hc => ?_ | refine cdS (fun hc => ?_) fun hc => ?_)
 all_goals first | exact Qdl (MayA.k2.2 (by omega)) | exact Qdm (fun q => by have q := MayA.k2.1 q;omega)
theorem Qt3 (a b v g:Int) (tx:List UInt8) (c:Bool) (ar:List Int) (h1:lenOK tx.length = true) (h2:lenOK ar.length = true):ZK 3 a b v g tx c ar = some (.bool (ZR 3 a b v g tx ar)) := by
 (rw [QpX];conv => zeta)
 simp only [h1,h2,cond_true];clear h1 h2
 repeat' (first | refine cdD (fun hc => ?_) fun hc => ?_ | refine cdE (fun hc => ?_) fun hc => ?_ | refine cdS (fun hc => ?_) fun hc => ?_)
 all_goals first | exact Qdl (MayA.k3.2 (by omega)) | exact Qdm (fun q => by have q := MayA.k3.1 q;omega)
theorem Qt4 (a b v g:Int) (tx:List UInt8) (c:Bool) (ar:List Int) (h1:lenOK tx.length = true) (h2:lenOK ar.length = true):ZK 4 a b v g tx c ar = some (.bool (ZR 4 a b v g tx ar)) := by
 (rw [QpY];conv => zeta)
 simp only [h1,h2,cond_true];clear h1 h2
 repeat' (first | refine cdD (fun hc => ?_) fun hc => ?_ | refine cdE (fun hc => ?_) fun hc => ?_ | refine cdS (fun hc => ?_) fun hc => ?_)
 all_goals first | exact Qdl (MayA.k4.2 (by omega)) | exact Qdm (fun q => by have q := MayA.k4.1 q;omega)
theorem Qt5 (a b v g:Int) (tx:List UInt8) (c:Bool) (ar:List Int) (h1:lenOK tx.length = true) (h2:lenOK ar.length = true):ZK 5 a b v g tx c ar = some (.bool (ZR 5 a b v g tx ar)) := by
 (rw [QpZ];conv => zeta)
 simp only [h1,h2,cond_true];clear h1 h2
 repeat' (first | refine cdD (fun hc => ?_) fun hc => ?_ | refine cdE (fun hc => ?_) fun hc => ?_ | refine cdS (fun hc => ?_) fun hc => ?_)
 all_goals first | exact Qdl (MayA.k5.2 (by omega)) | exact Qdm (fun q => by have q := MayA.k5.1 q;omega)
theorem Qt6 (a b v g:Int) (tx:List UInt8) (c:Bool) (ar:List Int) (h1:lenOK tx.length = true) (h2:lenOK ar.length = true):ZK 6 a b v g tx c ar = some (.bool (ZR 6 a b v g tx ar)) := by
 (rw [Qp0];conv => zeta)
 simp only [h1,h2,cond_true];clear h1 h2
 repeat' (first | refine cdD (fun hc => ?_) fun hc => ?_ | refine cdE (fun hc => ?_) fun hc => ?_ | refine cdS (fun hc => ?_) fun hc => ?_)
 all_goals first | exact Qdl (MayA.k6.2 (by omega)) | exact Qdm (fun q => by have q := MayA.k6.1 q;omega)
theorem Qt7 (a b v g:Int) (tx:List UInt8) (c:Bool) (ar:List Int) (h1:lenOK tx.length = true) (h2:lenOK ar.length = true):ZK 7 a b v g tx c ar = some (.bool (ZR 7 a b v g tx ar)) := by
 (rw [Qp1];conv => zeta)
 simp only [h1,h2,cond_true];clear h1 h2
 repeat' (first | refine cdD (fun hc => ?_) fun hc => ?_ | refine cdE (fun hc => ?_) fun hc => ?_ | refine cdS (fun hc => ?_) fun hc => ?_)
 all_goals first | exact Qdl (MayA.k7.2 (by omega)) | exact Qdm (fun q => by have q := MayA.k7.1 q;omega)
theorem Qt8 (k:Int) (a:Int) (b:Int) (v:Int) (g:Int) (tx:List UInt8) (c:Bool) (ar:List Int) (h:(decide (0 <= k /\ k <= 7) && (lenOK tx.length && lenOK ar.length)) = true):ZK k a b v g tx c ar = some (.bool (ZR k a b v g tx ar)) := by
 rw [Bool.and_eq_true,Bool.and_eq_true,decide_eq_true_eq] at h;obtain ⟨h0,h1,h2⟩ := h;have hs:((((((k = 0 \/ k = 1) \/ k = 2) \/ k = 3) \/ k = 4) \/ k = 5) \/ k = 6) \/ k = 7 := by omega
 rcases hs with ((((((rfl | rfl) | rfl) | rfl) | rfl) | rfl) | rfl) | rfl
 · exact Qt0 a b v g tx c ar h1 h2
 · exact Qt1 a b v g tx c ar h1 h2
 · exact Qt2 a b v g tx c ar h1 h2
 · exact Qt3 a b v g tx c ar h1 h2
 · exact Qt4 a b v g tx c ar h1 h2
 · exact Qt5 a b v g tx c ar h1 h2
 · exact Qt6 a b v g tx c ar h1 h2
 · exact Qt7 a b v g tx c ar h1 h2
noncomputable def un_1 := um_8.addSpec 188 Ql3
theorem Ql4:Qh Tryz.prog s25 un_1 := Ql2.addEv Qa fun args d h => by
 unfold Ql3 at h
 split at h
 · unfold Qsd at h;have h1 := congrArg Prod.fst (Option.some.inj h);obtain rfl:_ = d := congrArg Prod.snd (Option.some.inj h);exact ⟨by simp [D.refs],100,Qt8 _ _ _ _ _ _ _ _ h1⟩
 · cases h
end Go.Ev
