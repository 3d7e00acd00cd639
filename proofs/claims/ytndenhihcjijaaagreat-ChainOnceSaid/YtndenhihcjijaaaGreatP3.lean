/-
  A part of the proof of a statement of this seat: the model is run over values by content, proved sound; what the functions come to. No condition beyond the given statements. (text 4)
-/
import Derived.Test.YtndenhihcjijaaaGreatP2
import Derived.KernelRfl
namespace Go.Ev
set_option linter.unusedVariables false
set_option linter.unusedSimpArgs false
def Zq (w:Int):Int := if 0 <= w /\ w <= 1099510841343 then w else 0
def plc (w:Int):Int := Zq w / 1048576
def bare (w:Int):Int := Zq w % 1048576
def OkWord (p h:Int):Prop := 0 <= p /\ p <= 1048575 /\ (256 <= h /\ h <= 262143 \/ h = 0 /\ p = 0)
instance instOkWord (p h:Int):Decidable (OkWord p h) := by unfold OkWord;infer_instance
def wordN (p h:Int):Int := if OkWord p h then p * 1048576 + h else 0
def Qcg (p h:Int):Int := if OkWord p h then 0 else 2
theorem Qch (w:Int):0 <= Zq w /\ Zq w <= 1099510841343 := by unfold Zq;split <;> omega
theorem Zf {w:Int} (h:¬ (0 <= w /\ w <= 1099510841343)):Zq w = 0 := if_neg h
theorem Q3 {w:Int} (h:0 <= w /\ w <= 1099510841343):Zq w = w := if_pos h
theorem Qny {w:Int} (h:0 <= w):w.fdiv 1048576 = w / 1048576 := Int.fdiv_eq_ediv_of_nonneg _ (by decide)
theorem QrC {n:Int} (h:0 <= n /\ n < 1099511627776):bits .i64 (fun _ u v => u &&& v) n 1099511627775 = n := by
 unfold bits;rw [BitVec.toNat_and,Zp,Zp];have e:((1099511627775:Int) % 18446744073709551616).toNat = 2 ^ 40 - 1 := by decide
 rw [e,Nat.and_two_pow_sub_one_eq_mod,Qr (by omega) (by omega)]
 omega
theorem QqI (n:Int):bits .i64 (fun _ u v => u &&& v) n 1048575 = n % 1048576 := by
 unfold bits;rw [BitVec.toNat_and,Zp,Zp];have e:((1048575:Int) % 18446744073709551616).toNat = 2 ^ 20 - 1 := by decide
 rw [e,Nat.and_two_pow_sub_one_eq_mod,Qr (by omega) (by omega)]
 omega
theorem or20 {p h:Int} (hp:0 <= p /\ p <= 1048575) (hh:0 <= h /\ h < 1048576):bits .i64 (fun _ u v => u ||| v) (p * 1048576) h = p * 1048576 + h := by
 obtain ⟨p,rfl⟩:∃ n:Nat,p = n := ⟨p.toNat,by omega⟩
 obtain ⟨h,rfl⟩:∃ n:Nat,h = n := ⟨h.toNat,by omega⟩
 unfold bits;have e:(p:Int) * 1048576 = ((p * 1048576:Nat):Int) := by simp
 rw [e]
 have h1:∀ x:Nat,x < 2 ^ 64 -> (BitVec.ofInt IntKind.i64.bits (x:Int)).toNat = x := by
  intro x hx;rw [BitVec.toNat_ofInt];simp only [IntKind.bits];omega
 rw [BitVec.toNat_or,h1 _ (by omega),h1 _ (by omega)]
 have h2:p * 1048576 ||| h = p * 1048576 + h := by
  rw [Nat.mul_comm p 1048576,show (1048576:Nat) = 2 ^ 20 from rfl,<- Nat.two_pow_add_eq_or_of_lt (by omega)]
 rw [h2,Qr (by omega) (by omega)]
 simp
theorem Qci {C:Cdc} {p h:Int} (hw:OkWord p h):(D.tup (.acons (.int .i64 (p * 1048576 + h)) (.acons (.int .i64 0) .anil)):D C) = .tup (.acons (.int .i64 (wordN p h)) (.acons (.int .i64 (Qcg p h)) .anil)) := by
 rw [wordN,Qcg,if_pos hw,if_pos hw]
theorem Qcj {C:Cdc} {p h:Int} (hw:¬ OkWord p h):(D.tup (.acons (.int .i64 0) (.acons (.int .i64 2) .anil)):D C) = .tup (.acons (.int .i64 (wordN p h)) (.acons (.int .i64 (Qcg p h)) .anil)) := by
 rw [wordN,Qcg,if_neg hw,if_neg hw]
def Qnz (k a b v g:Int) (tl al:Nat):Prop :=
 -1 <= b /\ b <= 1152921504606846976 /\ -1 <= v /\ v <= 1152921504606846976 /\ -1 <= g /\ g <= 1152921504606846976 /\ al <= 96 /\ tl <= 640 /\ 0 <= a /\ a <= 4095 /\
 (k = 0 /\ b = 0 /\ v = 0 /\ tl = 0 /\ al = 0 \/ k = 2 /\ tl = 0 /\ al = 0 \/ k = 7 /\ a = 0 /\ b = 0 /\ v = 0 /\ g = 0 /\ tl = 0)
instance instMayAct (k a b v g:Int) (tl al:Nat):Decidable (Qnz k a b v g tl al) := by unfold Qnz;infer_instance
structure GoR where
 st:List Frame
 got:List Int
 over:Bool
 kind:Int
 a:Int
 b:Int
 v:Int
 is:Bool
def gLoad (r got:List Int) (n cell:Int):GoR := ⟨[⟨68,n,r⟩],got,false,0,cell,0,0,true⟩
def gCas (r got:List Int) (n cell b v:Int):GoR := ⟨[⟨68,n,r⟩],got,false,2,cell,b,v,true⟩
def gEnd (l:List Int):GoR := ⟨[],l,true,0,0,0,0,false⟩
def goF (k:Int) (r got:List Int) (x:Int):GoR :=
 if k = 0 \/ k = 5 then gLoad r got 1 1
 else if k = 1 then gLoad (r.set 2 x) got 2 0
 else if k = 2 then (if x + r.getD 0 0 < r.getD 2 0 then gEnd [170] else if 1048575 < r.getD 2 0 then gEnd [172] else gLoad r got 3 4)
 else if k = 3 then (if x < r.getD 2 0 - 32 then gEnd [171] else gLoad r got 4 (lRing (r.getD 2 0) (r.getD 0 0)))
 else if k = 4 then (if plc x = r.getD 2 0 then gCas (r.set 3 x) got 5 1 (r.getD 2 0) (r.getD 2 0 + 1) else if r.getD 2 0 < plc x then gLoad (r.set 3 x) got 1 1
  else gCas (r.set 3 x) got 6 (lRing (r.getD 2 0) (r.getD 0 0)) x (wordN (r.getD 2 0) (r.getD 1 0)))
 else if k = 6 then (if x = 0 then gLoad r got 1 1 else gCas r got 7 1 (r.getD 2 0) (r.getD 2 0 + 1))
 else gEnd [0,r.getD 2 0]
def goR (st:List Frame) (got:List Int):GoR := match st with
 | [f] => goF f.at' f.r got (got.headD 0)
 | _ => gEnd []
def OkF (k:Int) (r:List Int) (x:Int):Prop := 1 <= k /\ k <= 7 /\ 0 <= x /\ x <= 1152921504606846976 /\ 2 <= r.getD 0 0 /\ r.getD 0 0 <= 8 /\ 0 <= r.getD 2 0 /\ r.getD 2 0 <= 1099511627776
instance instOkF (k:Int) (r:List Int) (x:Int):Decidable (OkF k r x) := by unfold OkF;infer_instance
def okFr (k:Int) (r got:List Int):Bool := match got with
 | [] => decide (k = 0)
 | [x] => decide (OkF k r x)
 | _ => false
def okG (c:Int) (st:List Frame) (got:List Int):Bool := match st with
 | [f] => decide (0 <= c /\ c <= 3 /\ f.prog = 68 /\ f.r.length = 96) && okFr f.at' f.r got
 | _ => false
theorem st2 (f:Frame) (l:List Frame):List.take (Int.toNat (IntKind.wrap IntKind.i64 (↑(List.length [f]) - 1))) l = [] := rfl
theorem Qa {l:List Int} {i j:Nat} {x d:Int} (h:i ≠ j):(l.set i x).getD j d = l.getD j d := by
 simp [List.getD_eq_getElem?_getD,List.getElem?_set_ne h]
theorem Qa5 {p w:Int} (hp:0 <= p) (hw:2 <= w /\ w <= 8):13 <= lRing p w /\ lRing p w < 13 + w := by
 have := Jf (p := p) (w := w) (by omega)
 rw [lRing,if_pos ⟨hp,hw.1,hw.2⟩];omega
theorem QlQ (p h:Int):0 <= wordN p h /\ wordN p h <= 1099510841343 := by
 unfold wordN
 split
 · rename_i hw;unfold OkWord at hw;omega
 · omega
theorem goF2 (r got:List Int) (x:Int):goF 2 r got x = if x + r.getD 0 0 < r.getD 2 0 then gEnd [170] else if 1048575 < r.getD 2 0 then gEnd [172] else gLoad r got 3 4 := rfl
theorem goF3 (r got:List Int) (x:Int):goF 3 r got x = if x < r.getD 2 0 - 32 then gEnd [171] else gLoad r got 4 (lRing (r.getD 2 0) (r.getD 0 0)) := rfl
theorem goF4 (r got:List Int) (x:Int):goF 4 r got x = if plc x = r.getD 2 0 then gCas (r.set 3 x) got 5 1 (r.getD 2 0) (r.getD 2 0 + 1) else if r.getD 2 0 < plc x then gLoad (r.set 3 x) got 1 1
 else gCas (r.set 3 x) got 6 (lRing (r.getD 2 0) (r.getD 0 0)) x (wordN (r.getD 2 0) (r.getD 1 0)) := rfl
def Kz (n:Int):Bool := decide (-1152921504606846976 <= n) && decide (n <= 1152921504606846976)
def cellsOK (l:List Int):Bool := decide (l.length <= 1024) && l.all Kz
def OkDo (l:List Int) (k a b v:Int):Prop := (k = 0 /\ b = 0 /\ v = 0 \/ k = 2) /\ 0 <= a /\ a < l.length /\ -1152921504606846976 <= b /\ b <= 1152921504606846976 /\ -1152921504606846976 <= v /\ v <= 1152921504606846976
instance instOkDo (l:List Int) (k a b v:Int):Decidable (OkDo l k a b v) := by unfold OkDo;infer_instance
def doC (l:List Int) (k a b v:Int):List Int := if k = 2 /\ l.getD a.toNat 0 = b then l.set a.toNat v else l
def doG (l:List Int) (k a b:Int):Int := if k = 0 then l.getD a.toNat 0 else if l.getD a.toNat 0 = b then 1 else 0
def tkC (ts:List Task) (c:Int):Task := ts.getD c.toNat ⟨0,[],[],false⟩
def stG (t:Task):GoR := goR t.stack t.got
def stX (cs:List Int) (t:Task):Int := doG cs (stG t).kind (stG t).a (stG t).b
def stCs (cs:List Int) (t:Task):List Int := doC cs (stG t).kind (stG t).a (stG t).b (stG t).v
def stE (cs:List Int) (t:Task):GoR := goR (stG t).st [stX cs t]
def stT (cs:List Int) (t:Task):Task := ⟨t.client,(stG t).st,[stX cs t],(stG t).over⟩
def Qeq (cs:List Int) (t:Task) (now sure:List Sector):Prop :=
 okG t.client t.stack t.got = true /\ t.over = false /\ (stG t).is = true /\ OkDo cs (stG t).kind (stG t).a (stG t).b (stG t).v /\ cellsOK cs = true /\ Qz now sure = true /\ Qv now = true /\ Qv sure = true /\ okG t.client (stG t).st [stX cs t] = true
instance instOkStep (cs:List Int) (t:Task) (now sure:List Sector):Decidable (Qeq cs t now sure) := by unfold Qeq;infer_instance
def regs' (w d:Int):List Int := w :: d :: List.replicate 94 0
def hnd (c n:Int):Int := (n % 1000 + 1) * 256 + c
structure GS where
 cs:List Int
 ts:List Task
 busy:List Bool
 n:Int
 has:List Int
 told:List Int
def Y2 (s:GS) (c:Int):Bool := s.busy.getD c.toNat false
def Qck (w:Int) (s:GS) (c h:Int):GS :=
 { s with ts := s.ts.set c.toNat ⟨c,[⟨68,0,regs' w h⟩],[],false⟩,busy := s.busy.set c.toNat true }
def QnA (w:Int) (s:GS) (c:Int):GS :=
 if Y2 s c then s else Qck w { s with n := s.n + 1,has := s.has.set c.toNat (hnd c (s.n + 1)) } c (hnd c (s.n + 1))
def QqJ (s:GS) (c:Int):GS :=
 { s with cs := stCs s.cs (tkC s.ts c),ts := s.ts.set c.toNat (stT s.cs (tkC s.ts c)),busy := bif (stE s.cs (tkC s.ts c)).is then s.busy else s.busy.set c.toNat false }
def VX (s:GS) (c:Int):List Int :=
 if (stE s.cs (tkC s.ts c)).is = false /\ (stE s.cs (tkC s.ts c)).got.length = 2 /\ (stE s.cs (tkC s.ts c)).got.getD 0 0 = 0 then [(stE s.cs (tkC s.ts c)).got.getD 1 0] else []
def Qdu (s:GS) (c:Int):GS := if Y2 s c then { QqJ s c with told := s.told ++ VX s c } else s
def frontG (s:GS):Int := s.cs.getD 0 0
def QqK (w:Int) (s:GS):GS :=
 if plc (s.cs.getD (lRing (frontG s + 1) w).toNat 0) = frontG s + 1 then { s with cs := s.cs.set 0 (frontG s + 1) } else s
def QrD (s:GS):GS := { s with cs := s.cs.set 4 (frontG s) }
def QoK (w:Int) (s:GS) (x dd:Int):GS :=
 if dd = 0 then QnA w s (x % 4) else if dd = 1 then Qdu s (x % 4) else if dd = 2 then QqK w s else if dd = 3 then QrD s else s
def QqL (w:Int) (s:GS) (now sure:List Sector) (c:Int):Prop :=
 2 <= w /\ w <= 8 /\ s.ts.length = 4 /\ s.busy.length = 4 /\ s.has.length = 4 /\ 0 <= s.n /\ s.n <= 1000000 /\ s.cs.length = 771 /\ 0 <= frontG s /\ frontG s <= 1000000000 /\ s.told.length <= 1000000 /\ (Y2 s c = true -> Qeq s.cs (tkC s.ts c) now sure)
theorem mod4 (x:Int):Int.tmod (IntKind.i64.wrap (Int.tmod x 4 + 4)) 4 = x % 4 := by
 have h1:-4 < Int.tmod x 4 := Int.lt_tmod_of_pos _ (by decide)
 have h2:Int.tmod x 4 < 4 := Int.tmod_lt_of_pos _ (by decide)
 rw [Qr (by omega) (by omega),Int.tmod_eq_emod_of_nonneg (by omega)]
 have h3:x = 4 * (x.tdiv 4) + x.tmod 4 := (Int.mul_tdiv_add_tmod x 4).symm;omega
def wd (p:Int) (hs:List Int):Int := if p <= 0 then 0 else p * 1048576 + hs.getD (p - 1).toNat 0
structure RW (w:Int) (cs hs:List Int):Prop where
 w0:2 <= w
 w1:w <= 8
 lc:cs.length = 771
 fit:∀ i,-1152921504606846976 <= cs.getD i 0 /\ cs.getD i 0 <= 1152921504606846976
 q0:0 <= cs.getD 4 0
 qf:cs.getD 4 0 <= cs.getD 0 0
 fT:cs.getD 0 0 <= hs.length
 Tf:(hs.length:Int) <= cs.getD 0 0 + w
 Tt:(hs.length:Int) <= cs.getD 1 0
 tT:cs.getD 1 0 <= hs.length + 1
 t1:1 <= cs.getD 1 0
 hv:∀ d ∈ hs,256 <= d /\ d <= 262143
 Tk:(hs.length:Int) <= 100000
 TL:(hs.length:Int) - 32 <= cs.getD 4 0
 ring:∀ p:Int,hs.length - w < p -> p <= hs.length -> cs.getD (13 + p % w).toNat 0 = wd p hs
theorem Qh5 {l:List Int} {i:Nat} {d:Int} (h:i < l.length):l.getD i d = l[i] := by
 rw [List.getD_eq_getElem?_getD,List.getElem?_eq_getElem h];rfl
theorem Qa6 {l m:List Int} {i:Nat} {d:Int} (h:i < l.length):(l ++ m).getD i d = l.getD i d := by
 rw [List.getD_eq_getElem?_getD,List.getD_eq_getElem?_getD,List.getElem?_append_left h]
theorem Qer {l:List Int} {x d:Int}:(l ++ [x]).getD l.length d = x := by
 rw [List.getD_eq_getElem?_getD];simp
theorem Qc {l:List Int} {i:Nat} {x d:Int} (h:i < l.length):(l.set i x).getD i d = x := by
 rw [List.getD_eq_getElem?_getD,List.getElem?_set_self h];rfl
theorem Yk (l:List Int) (i j:Nat) (x d:Int) (h:i < l.length):(l.set i x).getD j d = if i = j then x else l.getD j d := by
 by_cases e:i = j
 · subst e;rw [if_pos rfl];exact Qc h
 · rw [if_neg e];exact Qa e
theorem QrE {p:Int} {hs:List Int} (hv:∀ d ∈ hs,256 <= d /\ d <= 262143) (h1:1 <= p) (h2:p <= hs.length) (h3:(hs.length:Int) <= 100000) :
 wd p hs = p * 1048576 + hs.getD (p - 1).toNat 0 /\ 256 <= hs.getD (p - 1).toNat 0 /\ hs.getD (p - 1).toNat 0 <= 262143 := by
 have hlt:(p - 1).toNat < hs.length := by omega
 have e:hs.getD (p - 1).toNat 0 = hs[(p - 1).toNat] := Qh5 hlt;refine ⟨by rw [wd,if_neg (by omega)],?_⟩
 rw [e];exact hv _ (List.getElem_mem hlt)
theorem QlR {p d:Int} (h1:0 <= p) (h2:p <= 1048575) (h3:0 <= d) (h4:d <= 262143):plc (p * 1048576 + d) = p /\ bare (p * 1048576 + d) = d := by
 unfold plc bare;rw [Q3 (by omega)]
 omega
theorem Qh6 {p:Int} {hs:List Int} (hv:∀ d ∈ hs,256 <= d /\ d <= 262143) (h2:p <= hs.length) (h3:(hs.length:Int) <= 100000) (h1:0 <= p):plc (wd p hs) = p /\ 0 <= wd p hs /\ wd p hs <= 1099510841343 := by
 by_cases h:1 <= p
 · obtain ⟨e,a,b⟩ := QrE hv h h2 h3;rw [e];exact ⟨(QlR (by omega) (by omega) (by omega) (by omega)).1,by omega,by omega⟩
 · have:p = 0 := by omega
   subst this;rw [wd,if_pos (by decide)]
   exact ⟨by decide,by decide,by decide⟩
theorem QqM {p:Int} {hs:List Int} (h:p <= 0):wd p hs = 0 := by rw [wd,if_pos h]
theorem Qh7 {w T p:Int} (hw:0 < w):T - w < T - (T - p) % w /\ T - (T - p) % w <= T /\ (T - (T - p) % w) % w = p % w := by
 have h1:0 <= (T - p) % w := Int.emod_nonneg _ (by omega)
 have h2:(T - p) % w < w := Int.emod_lt_of_pos _ hw;refine ⟨by omega,by omega,?_⟩
 have e:T - (T - p) % w = p + w * ((T - p) / w) := by
  have := Int.mul_ediv_add_emod (T - p) w;omega
 rw [e,Int.add_mul_emod_self_left]
theorem RW.read {w:Int} {cs hs:List Int} (h:RW w cs hs) (p:Int):∃ p',hs.length - w < p' /\ p' <= hs.length /\ p' % w = p % w /\ cs.getD (13 + p % w).toNat 0 = wd p' hs := by
 have hw := h.w0;obtain ⟨a,b,c⟩ := Qh7 (w := w) (T := hs.length) (p := p) (by omega)
 exact ⟨_,a,b,c,by rw [<- c];exact h.ring _ a b⟩
theorem RW.read_le {w:Int} {cs hs:List Int} (h:RW w cs hs) (p:Int):0 <= cs.getD (13 + p % w).toNat 0 /\ cs.getD (13 + p % w).toNat 0 <= 1099510841343 /\ plc (cs.getD (13 + p % w).toNat 0) <= hs.length := by
 obtain ⟨p',a,b,c,e⟩ := h.read p;rw [e]
 by_cases h0:0 <= p'
 · obtain ⟨x,y,z⟩ := Qh6 h.hv b h.Tk h0;exact ⟨y,z,by rw [x];exact b⟩
 · rw [QqM (by omega)]
   refine ⟨by decide,by decide,?_⟩
   have:plc 0 = 0 := by decide
   omega
theorem RW.cell {w:Int} {cs hs:List Int} (h:RW w cs hs) (p:Int):(13 + p % w).toNat < 21 /\ 13 <= (13 + p % w).toNat /\ ((13 + p % w).toNat:Int) = 13 + p % w := by
 have hw := h.w0;have hw1 := h.w1;have := Jf (p := p) (w := w) (by omega)
 omega
theorem QlS {w T p p':Int} (hw:2 <= w) (h1:T - w < p) (h2:p <= T) (h3:T - w < p') (h4:p' <= T) (he:p % w = p' % w):p = p' := by
 have h5:(p - p') % w = 0 := Int.emod_eq_emod_iff_emod_sub_eq_zero.1 he;have h6:w ∣ (p - p') := Int.dvd_of_emod_eq_zero h5;obtain ⟨k,hk⟩ := h6
 have:k = 0 := by
  rcases Int.lt_trichotomy k 0 with h | h | h
  · have:w * k <= w * (-1) := Int.mul_le_mul_of_nonneg_left (by omega) (by omega)
    omega
  · exact h
  · have:w * 1 <= w * k := Int.mul_le_mul_of_nonneg_left (by omega) (by omega)
    omega
 subst this;omega
theorem RW.tail {w:Int} {cs hs:List Int} (h:RW w cs hs) {t0:Int} (h1:cs.getD 1 0 = t0) (h2:t0 <= hs.length):RW w (cs.set 1 (t0 + 1)) hs := by
 have hl := h.lc;have g:∀ j,(cs.set 1 (t0 + 1)).getD j 0 = if 1 = j then t0 + 1 else cs.getD j 0 := fun j => Yk cs 1 j _ _ (by omega)
 have hTk := h.Tk;have ht1 := h.t1;have hTt := h.Tt;refine ⟨h.w0,h.w1,by simpa using hl,fun i => ?_,by rw [g];exact h.q0,by rw [g,g];exact h.qf,by rw [g];exact h.fT,by rw [g];exact h.Tf,by rw [g,if_pos rfl];omega,by rw [g,if_pos rfl];omega,by rw [g,if_pos rfl];omega,h.hv,h.Tk,by rw [g];exact h.TL,fun p a b => ?_⟩
 · rw [g]
   split
   · omega
   · exact h.fit i
 · have hc := h.cell p;rw [g,if_neg (by omega)]
   exact h.ring p a b
theorem RW.give {w:Int} {cs hs:List Int} (h:RW w cs hs) {t0 d:Int} (h1:1 <= t0) (h2:t0 <= cs.getD 1 0) (h3:t0 <= cs.getD 0 0 + w) (h4:plc (cs.getD (13 + t0 % w).toNat 0) < t0) (hd:256 <= d /\ d <= 262143) (hk:(hs.length:Int) < 100000) (hL:t0 - 32 <= cs.getD 4 0) :
 t0 = hs.length + 1 /\ RW w (cs.set (13 + t0 % w).toNat (t0 * 1048576 + d)) (hs ++ [d]) := by
 have hl := h.lc;have hw := h.w0;have htT := h.tT;have hTf := h.Tf;have hTt := h.Tt;have hc := h.cell t0
 have ht0:t0 = hs.length + 1 := by
  by_cases hle:t0 <= hs.length
  · exfalso
    by_cases hf:hs.length - w < t0
    · have e := h.ring t0 hf hle;rw [e,(Qh6 h.hv hle h.Tk (by omega)).1] at h4
      omega
    · obtain ⟨p',a,b,c,e⟩ := h.read t0;have:0 <= p' := by omega
      rw [e,(Qh6 h.hv b h.Tk this).1] at h4;omega
  · omega
 have g:∀ j,(cs.set (13 + t0 % w).toNat (t0 * 1048576 + d)).getD j 0 = if (13 + t0 % w).toNat = j then t0 * 1048576 + d else cs.getD j 0 := fun j => Yk cs _ j _ _ (by omega)
 have hlen:((hs ++ [d]).length:Int) = hs.length + 1 := by simp
 refine ⟨ht0,h.w0,h.w1,by simpa using hl,fun i => ?_,?_,?_,?_,?_,?_,?_,?_,?_,?_,?_,fun p a b => ?_⟩
 · rw [g]
   split
   · omega
   · exact h.fit i
 · rw [g,if_neg (by omega)];exact h.q0
 · rw [g,g,if_neg (by omega),if_neg (by omega)];exact h.qf
 · rw [g,if_neg (by omega),hlen];have := h.fT;omega
 · rw [g,if_neg (by omega),hlen];omega
 · rw [g,if_neg (by omega),hlen];omega
 · rw [g,if_neg (by omega),hlen];omega
 · rw [g,if_neg (by omega)];exact h.t1
 · intro x hx;simp only [List.mem_append,List.mem_singleton] at hx;rcases hx with hx | rfl
   · exact h.hv x hx
   · exact hd
 · rw [hlen];omega
 · rw [g,if_neg (by omega),hlen];omega
 · rw [hlen] at a b;have hcp := h.cell p;rw [g]
   by_cases e:p = hs.length + 1
   · have e2:p = t0 := by omega
     subst e2;rw [if_pos rfl,wd,if_neg (by omega)]
     have:(p - 1).toNat = hs.length := by omega
     rw [this,Qer]
   · have hne:¬ (13 + t0 % w).toNat = (13 + p % w).toNat := fun q => by
      have q2:t0 % w = p % w := by omega
      have := QlS (w := w) (T := hs.length + 1) hw (by omega) (by omega) (p := t0) (p' := p) (by omega) (by omega) q2
      omega
     rw [if_neg hne,h.ring p (by omega) (by omega)]
     unfold wd
     by_cases hp:p <= 0
     · rw [if_pos hp,if_pos hp]
     · rw [if_neg hp,if_neg hp];have:(p - 1).toNat < hs.length := by omega
       rw [Qa6 this]
theorem RW.set_low {w:Int} {cs hs:List Int} (h:RW w cs hs) {i:Nat} {v:Int} (hi:i = 0 \/ i = 4) (hv:-1152921504606846976 <= v /\ v <= 1152921504606846976)
 (hq:0 <= (cs.set i v).getD 4 0 /\ (cs.set i v).getD 4 0 <= (cs.set i v).getD 0 0 /\ (cs.set i v).getD 0 0 <= hs.length /\ (hs.length:Int) <= (cs.set i v).getD 0 0 + w) (hL:cs.getD 4 0 <= (cs.set i v).getD 4 0):RW w (cs.set i v) hs := by
 have hl := h.lc;have g:∀ j,(cs.set i v).getD j 0 = if i = j then v else cs.getD j 0 := fun j => Yk cs i j _ _ (by omega)
 refine ⟨h.w0,h.w1,by simpa using hl,fun j => ?_,hq.1,hq.2.1,hq.2.2.1,hq.2.2.2,?_,?_,?_,h.hv,h.Tk,Int.le_trans h.TL hL,fun p a b => ?_⟩
 · rw [g]
   split
   · exact hv
   · exact h.fit j
 · rw [g,if_neg (by omega)];exact h.Tt
 · rw [g,if_neg (by omega)];exact h.tT
 · rw [g,if_neg (by omega)];exact h.t1
 · have hc := h.cell p;rw [g,if_neg (by omega)]
   exact h.ring p a b
theorem KA {p w:Int} (h0:0 <= p) (h1:2 <= w) (h2:w <= 8):lRing p w = 13 + p % w := by rw [lRing,if_pos ⟨h0,h1,h2⟩]
theorem RW.done {w:Int} {cs hs:List Int} (h:RW w cs hs) (hp:plc (cs.getD (lRing (cs.getD 0 0 + 1) w).toNat 0) = cs.getD 0 0 + 1):RW w (cs.set 0 (cs.getD 0 0 + 1)) hs := by
 have hl := h.lc;have hq0 := h.q0;have hqf := h.qf;have hfT := h.fT;have hTk := h.Tk;have hTf := h.Tf;have g0:(cs.set 0 (cs.getD 0 0 + 1)).getD 0 0 = cs.getD 0 0 + 1 := Qc (by omega)
 have g4:(cs.set 0 (cs.getD 0 0 + 1)).getD 4 0 = cs.getD 4 0 := Qa (by decide)
 rw [KA (by omega) h.w0 h.w1] at hp
 have := (h.read_le (cs.getD 0 0 + 1)).2.2;rw [hp] at this;exact h.set_low (.inl rfl) (by omega) (by rw [g0,g4];omega) (by rw [g4];omega)
theorem RW.ckpt {w:Int} {cs hs:List Int} (h:RW w cs hs):RW w (cs.set 4 (cs.getD 0 0)) hs := by
 have hl := h.lc;have hq0 := h.q0;have hqf := h.qf;have hfT := h.fT;have hTf := h.Tf;have hTk := h.Tk;have g4:(cs.set 4 (cs.getD 0 0)).getD 4 0 = cs.getD 0 0 := Qc (by omega)
 have g0:(cs.set 4 (cs.getD 0 0)).getD 0 0 = cs.getD 0 0 := Qa (by decide)
 exact h.set_low (.inr rfl) (by omega) (by rw [g0,g4];omega) (by rw [g4];omega)
theorem RW.cellsOK {w:Int} {cs hs:List Int} (h:RW w cs hs):cellsOK cs = true := by
 simp only [Go.Ev.cellsOK,Bool.and_eq_true,decide_eq_true_eq];refine ⟨by rw [h.lc];decide,List.all_eq_true.2 fun x hx => ?_⟩
 obtain ⟨i,hi,rfl⟩ := List.getElem_of_mem hx;have := h.fit i;have e:cs.getD i 0 = cs[i] := by simp [hi]
 rw [e] at this;simp only [Kz,Bool.and_eq_true,decide_eq_true_eq];exact this
def MayA (k a b v g:Int) (tl al:Nat):Prop :=
 -1 <= b /\ b <= 1152921504606846976 /\ -1 <= v /\ v <= 1152921504606846976 /\ -1 <= g /\ g <= 1152921504606846976 /\ al <= 96 /\ tl <= 640 /\ 0 <= a /\ a <= 4095 /\
 (k = 0 /\ b = 0 /\ v = 0 /\ tl = 0 /\ al = 0 \/ k = 1 /\ b = 0 /\ tl = 0 /\ al = 0 \/ k = 2 /\ tl = 0 /\ al = 0 \/ k = 3 /\ b = 0 /\ g = 0 /\ tl = 0 /\ al = 0 \/ k = 4 /\ v = 0 /\ g = 0 /\ al = 0 \/
  k = 5 /\ a = 0 /\ b = 0 /\ v = 0 /\ g = 0 /\ tl = 0 /\ al = 0 \/ k = 6 /\ a <= 127 /\ b = 0 /\ v = 0 /\ g = 0 /\ tl = 0 \/ k = 7 /\ a = 0 /\ b = 0 /\ v = 0 /\ g = 0 /\ tl = 0)
instance instMayA (k a b v g:Int) (tl al:Nat):Decidable (MayA k a b v g tl al) := by unfold MayA;infer_instance
def ZS (k a b v g:Int) (tx:List UInt8) (ar:List Int):Bool := decide (MayA k a b v g tx.length ar.length)
theorem Qcl {C:Cdc} {k a b v g:Int} {tx:List UInt8} {ar:List Int} (h:MayA k a b v g tx.length ar.length):(some (D.bool true):Option (D C)) = some (.bool (ZS k a b v g tx ar)) := by rw [ZS,decide_eq_true h]
theorem Qcm {C:Cdc} {k a b v g:Int} {tx:List UInt8} {ar:List Int} (h:¬ MayA k a b v g tx.length ar.length):(some (D.bool false):Option (D C)) = some (.bool (ZS k a b v g tx ar)) := by rw [ZS,decide_eq_false h]
theorem MayA.k0 {a b v g:Int} {tl al:Nat}:MayA 0 a b v g tl al ↔ (-1 <= b /\ b <= 1152921504606846976 /\ -1 <= v /\ v <= 1152921504606846976 /\ -1 <= g /\ g <= 1152921504606846976 /\ al <= 96 /\ tl <= 640 /\ 0 <= a /\ a <= 4095) /\ b = 0 /\ v = 0 /\ tl = 0 /\ al = 0 := by
 unfold MayA;refine ⟨fun ⟨q1,q2,q3,q4,q5,q6,q7,q8,q9,q10,h⟩ => ⟨⟨q1,q2,q3,q4,q5,q6,q7,q8,q9,q10⟩,?_⟩,fun ⟨⟨q1,q2,q3,q4,q5,q6,q7,q8,q9,q10⟩,h⟩ => ⟨q1,q2,q3,q4,q5,q6,q7,q8,q9,q10,.inl ⟨rfl,h⟩⟩⟩;rcases h with ⟨e,h⟩ | ⟨e,h⟩ | ⟨e,h⟩ | ⟨e,h⟩ | ⟨e,h⟩ | ⟨e,h⟩ | ⟨e,h⟩ | ⟨e,h⟩
 · exact h
 · exact absurd e (by decide)
 · exact absurd e (by decide)
 · exact absurd e (by decide)
 · exact absurd e (by decide)
 · exact absurd e (by decide)
 · exact absurd e (by decide)
 · exact absurd e (by decide)
theorem MayA.k1 {a b v g:Int} {tl al:Nat}:MayA 1 a b v g tl al ↔ (-1 <= b /\ b <= 1152921504606846976 /\ -1 <= v /\ v <= 1152921504606846976 /\ -1 <= g /\ g <= 1152921504606846976 /\ al <= 96 /\ tl <= 640 /\ 0 <= a /\ a <= 4095) /\ b = 0 /\ tl = 0 /\ al = 0 := by
 unfold MayA;refine ⟨fun ⟨q1,q2,q3,q4,q5,q6,q7,q8,q9,q10,h⟩ => ⟨⟨q1,q2,q3,q4,q5,q6,q7,q8,q9,q10⟩,?_⟩,fun ⟨⟨q1,q2,q3,q4,q5,q6,q7,q8,q9,q10⟩,h⟩ => ⟨q1,q2,q3,q4,q5,q6,q7,q8,q9,q10,.inr (.inl ⟨rfl,h⟩)⟩⟩;rcases h with ⟨e,h⟩ | ⟨e,h⟩ | ⟨e,h⟩ | ⟨e,h⟩ | ⟨e,h⟩ | ⟨e,h⟩ | ⟨e,h⟩ | ⟨e,h⟩
 · exact absurd e (by decide)
 · exact h
 · exact absurd e (by decide)
 · exact absurd e (by decide)
 · exact absurd e (by decide)
 · exact absurd e (by decide)
 · exact absurd e (by decide)
 · exact absurd e (by decide)
theorem MayA.k2 {a b v g:Int} {tl al:Nat}:MayA 2 a b v g tl al ↔ (-1 <= b /\ b <= 1152921504606846976 /\ -1 <= v /\ v <= 1152921504606846976 /\ -1 <= g /\ g <= 1152921504606846976 /\ al <= 96 /\ tl <= 640 /\ 0 <= a /\ a <= 4095) /\ tl = 0 /\ al = 0 := by
 unfold MayA;refine ⟨fun ⟨q1,q2,q3,q4,q5,q6,q7,q8,q9,q10,h⟩ => ⟨⟨q1,q2,q3,q4,q5,q6,q7,q8,q9,q10⟩,?_⟩,fun ⟨⟨q1,q2,q3,q4,q5,q6,q7,q8,q9,q10⟩,h⟩ => ⟨q1,q2,q3,q4,q5,q6,q7,q8,q9,q10,.inr (.inr (.inl ⟨rfl,h⟩))⟩⟩;rcases h with ⟨e,h⟩ | ⟨e,h⟩ | ⟨e,h⟩ | ⟨e,h⟩ | ⟨e,h⟩ | ⟨e,h⟩ | ⟨e,h⟩ | ⟨e,h⟩
 · exact absurd e (by decide)
 · exact absurd e (by decide)
 · exact h
 · exact absurd e (by decide)
 · exact absurd e (by decide)
 · exact absurd e (by decide)
 · exact absurd e (by decide)
 · exact absurd e (by decide)
theorem MayA.k3 {a b v g:Int} {tl al:Nat}:MayA 3 a b v g tl al ↔ (-1 <= b /\ b <= 1152921504606846976 /\ -1 <= v /\ v <= 1152921504606846976 /\ -1 <= g /\ g <= 1152921504606846976 /\ al <= 96 /\ tl <= 640 /\ 0 <= a /\ a <= 4095) /\ b = 0 /\ g = 0 /\ tl = 0 /\ al = 0 := by
 unfold MayA;refine ⟨fun ⟨q1,q2,q3,q4,q5,q6,q7,q8,q9,q10,h⟩ => ⟨⟨q1,q2,q3,q4,q5,q6,q7,q8,q9,q10⟩,?_⟩,fun ⟨⟨q1,q2,q3,q4,q5,q6,q7,q8,q9,q10⟩,h⟩ => ⟨q1,q2,q3,q4,q5,q6,q7,q8,q9,q10,.inr (.inr (.inr (.inl ⟨rfl,h⟩)))⟩⟩;rcases h with ⟨e,h⟩ | ⟨e,h⟩ | ⟨e,h⟩ | ⟨e,h⟩ | ⟨e,h⟩ | ⟨e,h⟩ | ⟨e,h⟩ | ⟨e,h⟩
 · exact absurd e (by decide)
 · exact absurd e (by decide)
 · exact absurd e (by decide)
 · exact h
 · exact absurd e (by decide)
 · exact absurd e (by decide)
 · exact absurd e (by decide)
 · exact absurd e (by decide)
theorem MayA.k4 {a b v g:Int} {tl al:Nat}:MayA 4 a b v g tl al ↔ (-1 <= b /\ b <= 1152921504606846976 /\ -1 <= v /\ v <= 1152921504606846976 /\ -1 <= g /\ g <= 1152921504606846976 /\ al <= 96 /\ tl <= 640 /\ 0 <= a /\ a <= 4095) /\ v = 0 /\ g = 0 /\ al = 0 := by
 unfold MayA;refine ⟨fun ⟨q1,q2,q3,q4,q5,q6,q7,q8,q9,q10,h⟩ => ⟨⟨q1,q2,q3,q4,q5,q6,q7,q8,q9,q10⟩,?_⟩,fun ⟨⟨q1,q2,q3,q4,q5,q6,q7,q8,q9,q10⟩,h⟩ => ⟨q1,q2,q3,q4,q5,q6,q7,q8,q9,q10,.inr (.inr (.inr (.inr (.inl ⟨rfl,h⟩))))⟩⟩;rcases h with ⟨e,h⟩ | ⟨e,h⟩ | ⟨e,h⟩ | ⟨e,h⟩ | ⟨e,h⟩ | ⟨e,h⟩ | ⟨e,h⟩ | ⟨e,h⟩
 · exact absurd e (by decide)
 · exact absurd e (by decide)
 · exact absurd e (by decide)
 · exact absurd e (by decide)
 · exact h
 · exact absurd e (by decide)
 · exact absurd e (by decide)
 · exact absurd e (by decide)
theorem MayA.k5 {a b v g:Int} {tl al:Nat}:MayA 5 a b v g tl al ↔ (-1 <= b /\ b <= 1152921504606846976 /\ -1 <= v /\ v <= 1152921504606846976 /\ -1 <= g /\ g <= 1152921504606846976 /\ al <= 96 /\ tl <= 640 /\ 0 <= a /\ a <= 4095) /\ a = 0 /\ b = 0 /\ v = 0 /\ g = 0 /\ tl = 0 /\ al = 0 := by
 unfold MayA;refine ⟨fun ⟨q1,q2,q3,q4,q5,q6,q7,q8,q9,q10,h⟩ => ⟨⟨q1,q2,q3,q4,q5,q6,q7,q8,q9,q10⟩,?_⟩,fun ⟨⟨q1,q2,q3,q4,q5,q6,q7,q8,q9,q10⟩,h⟩ => ⟨q1,q2,q3,q4,q5,q6,q7,q8,q9,q10,.inr (.inr (.inr (.inr (.inr (.inl ⟨rfl,h⟩)))))⟩⟩;rcases h with ⟨e,h⟩ | ⟨e,h⟩ | ⟨e,h⟩ | ⟨e,h⟩ | ⟨e,h⟩ | ⟨e,h⟩ | ⟨e,h⟩ | ⟨e,h⟩
 · exact absurd e (by decide)
 · exact absurd e (by decide)
 · exact absurd e (by decide)
 · exact absurd e (by decide)
 · exact absurd e (by decide)
 · exact h
 · exact absurd e (by decide)
 · exact absurd e (by decide)
theorem MayA.k6 {a b v g:Int} {tl al:Nat}:MayA 6 a b v g tl al ↔ (-1 <= b /\ b <= 1152921504606846976 /\ -1 <= v /\ v <= 1152921504606846976 /\ -1 <= g /\ g <= 1152921504606846976 /\ al <= 96 /\ tl <= 640 /\ 0 <= a /\ a <= 4095) /\ a <= 127 /\ b = 0 /\ v = 0 /\ g = 0 /\ tl = 0 := by
 unfold MayA;refine ⟨fun ⟨q1,q2,q3,q4,q5,q6,q7,q8,q9,q10,h⟩ => ⟨⟨q1,q2,q3,q4,q5,q6,q7,q8,q9,q10⟩,?_⟩,fun ⟨⟨q1,q2,q3,q4,q5,q6,q7,q8,q9,q10⟩,h⟩ => ⟨q1,q2,q3,q4,q5,q6,q7,q8,q9,q10,.inr (.inr (.inr (.inr (.inr (.inr (.inl ⟨rfl,h⟩))))))⟩⟩;rcases h with ⟨e,h⟩ | ⟨e,h⟩ | ⟨e,h⟩ | ⟨e,h⟩ | ⟨e,h⟩ | ⟨e,h⟩ | ⟨e,h⟩ | ⟨e,h⟩
 · exact absurd e (by decide)
 · exact absurd e (by decide)
 · exact absurd e (by decide)
 · exact absurd e (by decide)
 · exact absurd e (by decide)
 · exact absurd e (by decide)
 · exact h
 · exact absurd e (by decide)
theorem MayA.k7 {a b v g:Int} {tl al:Nat}:MayA 7 a b v g tl al ↔ (-1 <= b /\ b <= 1152921504606846976 /\ -1 <= v /\ v <= 1152921504606846976 /\ -1 <= g /\ g <= 1152921504606846976 /\ al <= 96 /\ tl <= 640 /\ 0 <= a /\ a <= 4095) /\ a = 0 /\ b = 0 /\ v = 0 /\ g = 0 /\ tl = 0 := by
 unfold MayA;refine ⟨fun ⟨q1,q2,q3,q4,q5,q6,q7,q8,q9,q10,h⟩ => ⟨⟨q1,q2,q3,q4,q5,q6,q7,q8,q9,q10⟩,?_⟩,fun ⟨⟨q1,q2,q3,q4,q5,q6,q7,q8,q9,q10⟩,h⟩ => ⟨q1,q2,q3,q4,q5,q6,q7,q8,q9,q10,.inr (.inr (.inr (.inr (.inr (.inr (.inr (⟨rfl,h⟩)))))))⟩⟩;rcases h with ⟨e,h⟩ | ⟨e,h⟩ | ⟨e,h⟩ | ⟨e,h⟩ | ⟨e,h⟩ | ⟨e,h⟩ | ⟨e,h⟩ | ⟨e,h⟩
 · exact absurd e (by decide)
 · exact absurd e (by decide)
 · exact absurd e (by decide)
 · exact absurd e (by decide)
 · exact absurd e (by decide)
 · exact absurd e (by decide)
 · exact absurd e (by decide)
 · exact h
theorem cdD {α:Type} {p:Prop} [Decidable p] {x y z:α} (h1:p -> x = z) (h2:¬ p -> y = z):cond (decide p) x y = z := by
 by_cases h:p
 · rw [decide_eq_true h];exact h1 h
 · rw [decide_eq_false h];exact h2 h
theorem cdE {α:Type} {a b:Int} {x y z:α} (h1:a = b -> x = z) (h2:¬ a = b -> y = z):cond (a == b) x y = z := by
 by_cases h:a = b
 · rw [beq_iff_eq.2 h];exact h1 h
 · rw [beq_eq_false_iff_ne.2 h];exact h2 h
theorem cdS {α:Type} {t:List UInt8} {x y z:α} (h1:t.length = 0 -> x = z) (h2:¬ t.length = 0 -> y = z):cond (t == []) x y = z := by
 by_cases h:t = []
 · rw [beq_iff_eq.2 h];exact h1 (by rw [h];rfl)
 · rw [beq_eq_false_iff_ne.2 h];exact h2 (fun q => h (List.eq_nil_of_length_eq_zero q))
def Y6 (l:List Int) (k a b v:Int):Prop := (k = 0 /\ b = 0 /\ v = 0 \/ k = 1 /\ b = 0 \/ k = 2 \/ k = 3 /\ b = 0) /\ 0 <= a /\ a < l.length /\ -1152921504606846976 <= b /\ b <= 1152921504606846976 /\ -1152921504606846976 <= v /\ v <= 1152921504606846976
instance instOkDo4 (l:List Int) (k a b v:Int):Decidable (Y6 l k a b v) := by unfold Y6;infer_instance
def addC (n v:Int):Int := max (min (n + v) 1152921504606846976) (-1152921504606846976)
def doC4 (l:List Int) (k a b v:Int):List Int := if k = 1 \/ k = 2 /\ l.getD a.toNat 0 = b then l.set a.toNat v else if k = 3 then l.set a.toNat (addC (l.getD a.toNat 0) v) else l
def doG4 (l:List Int) (k a b:Int):Int := if k = 0 \/ k = 3 then l.getD a.toNat 0 else if k = 2 /\ l.getD a.toNat 0 = b then 1 else 0
structure GoR4 where
 st:List Frame
 got:List Int
 over:Bool
 kind:Int
 a:Int
 b:Int
 v:Int
 g:Int
 is:Bool
def g4 (p n:Int) (r got:List Int) (kind a b v g:Int):GoR4 := ⟨[⟨p,n,r⟩],got,false,kind,a,b,v,g,true⟩
def KB (l:List Int):GoR4 := ⟨[],l,true,0,0,0,0,0,false⟩
def regs1 (ar:List Int):List Int := ar ++ List.replicate (96 - ar.length) 0
def Qf1 (l:Line):Bool := decide (0 <= l.offset /\ l.offset < 4194304 /\ 1 <= l.place /\ l.place <= 1048575 /\ 0 <= l.j /\ l.j <= 3 /\ 0 <= l.key /\ l.key <= 7 /\ 0 <= l.value /\ l.value <= 255)
def Qh8 (l:Line):Int := (l.offset + 1) * 8589934592 + l.place * 8192 + l.j * 2048 + l.key * 256 + l.value
def Qh9 (w:Int):Line := ⟨w / 8589934592 - 1,w / 8192 % 1048576,w / 2048 % 4,w / 256 % 8,w % 256⟩
def Qcn (w:Int):Option Line := if 0 <= w /\ Qf1 (Qh9 w) = true then some (Qh9 w) else none
def QlT (l:Line):Int := bif Qf1 l then Qh8 l else 0
theorem Qdv {w:Int} (h0:0 <= w):Qh8 (Qh9 w) = w := by
 unfold Qh9 Qh8;simp only;omega
theorem Qf2 {w:Int} {l:Line} (h:Qcn w = some l):Qf1 l = true /\ Qh8 l = w /\ l = Qh9 w /\ 0 <= w := by
 unfold Qcn at h
 split at h
 · rename_i q;cases h;exact ⟨q.2,Qdv q.1,rfl,q.1⟩
 · cases h
def Vh (w:Int):Line := (Qcn w).getD ⟨0,0,0,0,0⟩
def flo:Int -> List Int -> Int
 | n,[] => n
 | n,s :: l => flo (if 0 < s /\ s - 1 < n then s - 1 else n) l
def oBeg (k:Int) (r got:List Int) (x:Int):GoR4 :=
 if k = 0 then g4 92 1 r got 0 0 0 0 0
 else if k = 1 then g4 92 2 (r.set 1 x) got 1 (lRow 9 (r.getD 0 0) 4) 0 (x + 1) 0
 else if k = 2 then g4 92 3 r got 0 3 0 0 0
 else if r.getD 1 0 < x then g4 92 1 r got 0 0 0 0 0 else KB [r.getD 1 0]
def QqN (k:Int) (r got:List Int) (x:Int):GoR4 :=
 if k = 0 then g4 93 1 r got 0 0 0 0 0
 else if k = 1 then g4 93 2 (r.set 0 x) got 0 3 0 0 0
 else if k = 2 then (if x < r.getD 0 0 then g4 93 3 r got 2 3 x (r.getD 0 0) 0 else g4 93 4 (r.set 1 0) got 0 9 0 0 0)
 else if k = 3 then (if x = 0 then g4 93 2 r got 0 3 0 0 0 else g4 93 4 (r.set 1 0) got 0 9 0 0 0)
 else if r.getD 1 0 = 3 then KB [flo (r.getD 0 0) [r.getD 2 0,r.getD 3 0,r.getD 4 0,x]]
 else g4 93 4 ((r.set (2 + (r.getD 1 0).toNat) x).set 1 (r.getD 1 0 + 1)) got 0 (10 + r.getD 1 0) 0 0 0
def QqO (k:Int) (r got:List Int) (x:Int):GoR4 :=
 if k = 0 then g4 93 1 r got 0 0 0 0 0
 else if k = 1 then g4 93 2 (r.set 0 x) got 0 3 0 0 0
 else if k = 2 then (if x < r.getD 0 0 then g4 93 3 (r.set 1 x) got 2 3 x (r.getD 0 0) 0 else g4 93 4 (r.set 2 0) got 0 9 0 0 0)
 else if k = 3 then (if x = 0 then g4 93 2 r got 0 3 0 0 0 else g4 93 4 (r.set 2 0) got 0 9 0 0 0)
 else if r.getD 2 0 = 3 then KB [flo (r.getD 0 0) [r.getD 3 0,r.getD 4 0,r.getD 5 0,x]]
 else g4 93 4 ((r.set (3 + (r.getD 2 0).toNat) x).set 2 (r.getD 2 0 + 1)) got 0 (10 + r.getD 2 0) 0 0 0
def goO (own:Bool) (st:List Frame) (got:List Int):GoR4 := match st with
 | [f] => if f.prog = 92 then oBeg f.at' f.r got (got.headD 0) else bif own then QqO f.at' f.r got (got.headD 0) else QqN f.at' f.r got (got.headD 0)
 | _ => KB []
def okBeg (k:Int) (r got:List Int):Prop :=
 k = 0 /\ got = [] \/ ∃ x,got = [x] /\ 1 <= k /\ k <= 3 /\ 0 <= x /\ x <= 1000000000 /\ 0 <= r.getD 0 0 /\ r.getD 0 0 <= 3
def QqP (own:Bool) (k:Int) (r got:List Int):Prop :=
 k = 0 /\ got = [] \/ ∃ x,got = [x] /\ 1 <= k /\ k <= 4 /\ 0 <= x /\ x <= 1000000000 /\ (2 <= k -> 0 <= r.getD 0 0 /\ r.getD 0 0 <= 1000000000) /\
  (k = 4 -> bif own then 0 <= r.getD 2 0 /\ r.getD 2 0 <= 3 /\ (r.getD 2 0 = 3 -> r.getD 3 0 <= 1000000000 /\ r.getD 4 0 <= 1000000000 /\ r.getD 5 0 <= 1000000000)
   else 0 <= r.getD 1 0 /\ r.getD 1 0 <= 3 /\ (r.getD 1 0 = 3 -> r.getD 2 0 <= 1000000000 /\ r.getD 3 0 <= 1000000000 /\ r.getD 4 0 <= 1000000000))
def okO (own:Bool) (c:Int) (st:List Frame) (got:List Int):Prop :=
 0 <= c /\ c <= 3 /\ ∃ p k r,st = [⟨p,k,r⟩] /\ r.length = 96 /\ (p = 92 /\ okBeg k r got \/ p = 93 /\ QqP own k r got)
def mkO (c p k:Int) (r got:List Int):Task := ⟨c,[⟨p,k,r⟩],got,false⟩
def Qf3 (A B:GoR4):Prop := A.is = B.is /\ A.kind = B.kind /\ A.a = B.a /\ A.b = B.b /\ A.v = B.v /\ A.g = B.g /\ A.got = B.got
theorem VD {p n:Int} {r q got:List Int} {kd a b v g:Int}:Qf3 (g4 p n r got kd a b v g) (g4 p n q got kd a b v g) := ⟨rfl,rfl,rfl,rfl,rfl,rfl,rfl⟩
theorem Qia {l:List Int}:Qf3 (KB l) (KB l) := ⟨rfl,rfl,rfl,rfl,rfl,rfl,rfl⟩
theorem oB0 (own:Bool) (r got:List Int):goO own [⟨92,0,r⟩] got = g4 92 1 r got 0 0 0 0 0 := rfl
theorem oB1 (own:Bool) (r:List Int) (x:Int):goO own [⟨92,1,r⟩] [x] = g4 92 2 (r.set 1 x) [x] 1 (lRow 9 (r.getD 0 0) 4) 0 (x + 1) 0 := rfl
theorem oB2 (own:Bool) (r got:List Int):goO own [⟨92,2,r⟩] got = g4 92 3 r got 0 3 0 0 0 := rfl
theorem oB3 (own:Bool) (r:List Int) (x:Int):goO own [⟨92,3,r⟩] [x] = if r.getD 1 0 < x then g4 92 1 r [x] 0 0 0 0 0 else KB [r.getD 1 0] := rfl
theorem oM0 (own:Bool) (r got:List Int):goO own [⟨93,0,r⟩] got = g4 93 1 r got 0 0 0 0 0 := by cases own <;> rfl
theorem oM1 (own:Bool) (r:List Int) (x:Int):goO own [⟨93,1,r⟩] [x] = g4 93 2 (r.set 0 x) [x] 0 3 0 0 0 := by cases own <;> rfl
theorem oA2 (r:List Int) (x:Int):goO false [⟨93,2,r⟩] [x] = if x < r.getD 0 0 then g4 93 3 r [x] 2 3 x (r.getD 0 0) 0 else g4 93 4 (r.set 1 0) [x] 0 9 0 0 0 := rfl
theorem oC2 (r:List Int) (x:Int):goO true [⟨93,2,r⟩] [x] = if x < r.getD 0 0 then g4 93 3 (r.set 1 x) [x] 2 3 x (r.getD 0 0) 0 else g4 93 4 (r.set 2 0) [x] 0 9 0 0 0 := rfl
theorem oA3 (r:List Int) (x:Int):goO false [⟨93,3,r⟩] [x] = if x = 0 then g4 93 2 r [x] 0 3 0 0 0 else g4 93 4 (r.set 1 0) [x] 0 9 0 0 0 := rfl
theorem oC3 (r:List Int) (x:Int):goO true [⟨93,3,r⟩] [x] = if x = 0 then g4 93 2 r [x] 0 3 0 0 0 else g4 93 4 (r.set 2 0) [x] 0 9 0 0 0 := rfl
theorem oA4 (r:List Int) (x:Int):goO false [⟨93,4,r⟩] [x] = if r.getD 1 0 = 3 then KB [flo (r.getD 0 0) [r.getD 2 0,r.getD 3 0,r.getD 4 0,x]]
 else g4 93 4 ((r.set (2 + (r.getD 1 0).toNat) x).set 1 (r.getD 1 0 + 1)) [x] 0 (10 + r.getD 1 0) 0 0 0 := rfl
theorem oC4 (r:List Int) (x:Int):goO true [⟨93,4,r⟩] [x] = if r.getD 2 0 = 3 then KB [flo (r.getD 0 0) [r.getD 3 0,r.getD 4 0,r.getD 5 0,x]]
 else g4 93 4 ((r.set (3 + (r.getD 2 0).toNat) x).set 2 (r.getD 2 0 + 1)) [x] 0 (10 + r.getD 2 0) 0 0 0 := rfl
def frC (cs:List Int):Int := cs.getD 0 0
def mkC (cs:List Int):Int := cs.getD 3 0
def scC (cs:List Int) (i:Nat):Int := cs.getD (9 + i) 0
def opB (opn:List Bool) (i:Nat):Bool := opn.getD i false
def stA (start:List Int) (i:Nat):Int := start.getD i 0
def Qdw (opn:List Bool) (start:List Int) (w:Int) (i:Nat) (v:Int):Prop := opB opn i = true -> w <= stA start i \/ 0 < v /\ v - 1 <= stA start i
def JB (cs:List Int) (opn:List Bool) (c k:Int) (r got:List Int):Prop :=
 r.length = 96 /\ r.getD 0 0 = c /\ opB opn c.toNat = false /\
 (k = 0 /\ got = [] \/ ∃ x,got = [x] /\ 0 <= x /\ x <= frC cs /\ (k = 1 \/ 0 <= r.getD 1 0 /\ r.getD 1 0 <= frC cs /\ scC cs c.toNat = r.getD 1 0 + 1 /\ (k = 2 \/ k = 3)))
def JM4 (cs:List Int) (opn:List Bool) (start:List Int) (r q:List Int) (x:Int):Prop :=
 r.getD 0 0 <= mkC cs /\ ∃ j:Nat,j <= 3 /\ r.getD 1 0 = j /\ q.getD 2 0 = j /\ (∀ i,i < j -> r.getD (2 + i) 0 = q.getD (3 + i) 0 /\ 0 <= r.getD (2 + i) 0 /\ r.getD (2 + i) 0 <= frC cs + 1 /\ Qdw opn start (r.getD 0 0) i (r.getD (2 + i) 0)) /\ Qdw opn start (r.getD 0 0) j x
def JM (cs:List Int) (opn:List Bool) (start:List Int) (k:Int) (r q got:List Int):Prop :=
 r.length = 96 /\ q.length = 96 /\
 (k = 0 /\ got = [] \/ ∃ x,got = [x] /\ 0 <= x /\ x <= frC cs + 1 /\ (k = 1 /\ x <= frC cs \/ r.getD 0 0 = q.getD 0 0 /\ 0 <= r.getD 0 0 /\ r.getD 0 0 <= frC cs /\
  (k = 2 /\ x <= mkC cs \/ k = 3 /\ (x = 0 \/ r.getD 0 0 <= mkC cs) \/ k = 4 /\ JM4 cs opn start r q x)))
theorem JB.ok {cs:List Int} {opn:List Bool} {c k:Int} {r got:List Int} (h:JB cs opn c k r got) (hf:frC cs <= 1000000) (c0:0 <= c) (c3:c <= 3) (own:Bool):okO own c [⟨92,k,r⟩] got := by
 obtain ⟨h1,h2,_,h⟩ := h;refine ⟨c0,c3,92,k,r,rfl,h1,.inl ⟨rfl,?_⟩⟩;rcases h with h | ⟨x,e,x0,x1,h⟩
 · exact .inl h
 · refine .inr ⟨x,e,?_,?_,x0,by omega,by omega,by omega⟩
   · rcases h with h | ⟨_,_,_,h | h⟩ <;> omega
   · rcases h with h | ⟨_,_,_,h | h⟩ <;> omega
theorem JM.ok {cs:List Int} {opn:List Bool} {start:List Int} {k c:Int} {r q got:List Int} (h:JM cs opn start k r q got) (hf:frC cs <= 1000000) (c0:0 <= c) (c3:c <= 3) :
 okO false c [⟨93,k,r⟩] got /\ okO true c [⟨93,k,q⟩] got /\ Qf3 (goO false [⟨93,k,r⟩] got) (goO true [⟨93,k,q⟩] got) := by
 obtain ⟨h1,h2,h⟩ := h;rcases h with ⟨rfl,rfl⟩ | ⟨x,rfl,x0,x1,⟨rfl,x2⟩ | ⟨e,w0,w1,⟨rfl,x2⟩ | ⟨rfl,x2⟩ | ⟨rfl,h4⟩⟩⟩
 · exact ⟨⟨c0,c3,93,0,r,rfl,h1,.inr ⟨rfl,.inl ⟨rfl,rfl⟩⟩⟩,⟨c0,c3,93,0,q,rfl,h2,.inr ⟨rfl,.inl ⟨rfl,rfl⟩⟩⟩,by rw [oM0,oM0];exact VD⟩
 · exact ⟨⟨c0,c3,93,1,r,rfl,h1,.inr ⟨rfl,.inr ⟨x,rfl,by omega,by omega,x0,by omega,by omega,by omega⟩⟩⟩,⟨c0,c3,93,1,q,rfl,h2,.inr ⟨rfl,.inr ⟨x,rfl,by omega,by omega,x0,by omega,by omega,by omega⟩⟩⟩,by rw [oM1,oM1];exact VD⟩
 · refine ⟨⟨c0,c3,93,2,r,rfl,h1,.inr ⟨rfl,.inr ⟨x,rfl,by omega,by omega,x0,by omega,by omega,by omega⟩⟩⟩,⟨c0,c3,93,2,q,rfl,h2,.inr ⟨rfl,.inr ⟨x,rfl,by omega,by omega,x0,by omega,by omega,by omega⟩⟩⟩,?_⟩
   rw [oA2,oC2,<- e]
   split <;> exact VD
 · refine ⟨⟨c0,c3,93,3,r,rfl,h1,.inr ⟨rfl,.inr ⟨x,rfl,by omega,by omega,x0,by omega,by omega,by omega⟩⟩⟩,⟨c0,c3,93,3,q,rfl,h2,.inr ⟨rfl,.inr ⟨x,rfl,by omega,by omega,x0,by omega,by omega,by omega⟩⟩⟩,?_⟩
   rw [oA3,oC3]
   split <;> exact VD
 · obtain ⟨h5,j,j3,e1,e2,hj,_⟩ := h4;refine ⟨⟨c0,c3,93,4,r,rfl,h1,.inr ⟨rfl,.inr ⟨x,rfl,by omega,by omega,x0,by omega,by omega,fun _ => ?_⟩⟩⟩,⟨c0,c3,93,4,q,rfl,h2,.inr ⟨rfl,.inr ⟨x,rfl,by omega,by omega,x0,by omega,by omega,fun _ => ?_⟩⟩⟩,?_⟩
   · refine ⟨by omega,by omega,fun h3 => ?_⟩
     have a0:r.getD 2 0 <= frC cs + 1 := (hj 0 (by omega)).2.2.1
     have a1:r.getD 3 0 <= frC cs + 1 := (hj 1 (by omega)).2.2.1
     have a2:r.getD 4 0 <= frC cs + 1 := (hj 2 (by omega)).2.2.1
     exact ⟨by omega,by omega,by omega⟩
   · refine ⟨by omega,by omega,fun h3 => ?_⟩
     have a0:r.getD 2 0 = q.getD 3 0 /\ _ /\ r.getD 2 0 <= frC cs + 1 /\ _ := hj 0 (by omega)
     have a1:r.getD 3 0 = q.getD 4 0 /\ _ /\ r.getD 3 0 <= frC cs + 1 /\ _ := hj 1 (by omega)
     have a2:r.getD 4 0 = q.getD 5 0 /\ _ /\ r.getD 4 0 <= frC cs + 1 /\ _ := hj 2 (by omega)
     exact ⟨by omega,by omega,by omega⟩
   · rw [oA4,oC4,e1,e2]
     split
     · have a0:r.getD 2 0 = q.getD 3 0 := (hj 0 (by omega)).1
       have a1:r.getD 3 0 = q.getD 4 0 := (hj 1 (by omega)).1
       have a2:r.getD 4 0 = q.getD 5 0 := (hj 2 (by omega)).1
       rw [<- e,a0,a1,a2];exact Qia
     · exact VD
theorem JB.mono {cs cs':List Int} {opn opn':List Bool} {c k:Int} {r got:List Int} (h:JB cs opn c k r got) (hf:frC cs <= frC cs') (hs:scC cs' c.toNat = scC cs c.toNat) (ho:opB opn' c.toNat = opB opn c.toNat):JB cs' opn' c k r got := by
 obtain ⟨h1,h2,h3,h⟩ := h;refine ⟨h1,h2,by rw [ho];exact h3,?_⟩
 rcases h with h | ⟨x,e,x0,x1,h⟩
 · exact .inl h
 · refine .inr ⟨x,e,x0,by omega,?_⟩
   rcases h with h | ⟨a,b,d,h⟩
   · exact .inl h
   · exact .inr ⟨a,by omega,by omega,h⟩
theorem JM.mono {cs cs':List Int} {opn opn':List Bool} {start start':List Int} {k:Int} {r q got:List Int} (h:JM cs opn start k r q got) (hf:frC cs <= frC cs') (hm:mkC cs <= mkC cs')
 (ho:∀ i,opB opn' i = true -> opB opn i = true /\ stA start' i = stA start i \/ mkC cs <= stA start' i):JM cs' opn' start' k r q got := by
 obtain ⟨h1,h2,h⟩ := h;refine ⟨h1,h2,?_⟩;rcases h with h | ⟨x,e,x0,x1,h⟩
 · exact .inl h
 · refine .inr ⟨x,e,x0,by omega,?_⟩
   rcases h with h | ⟨e,w0,w1,h⟩
   · exact .inl ⟨h.1,by omega⟩
   refine .inr ⟨e,w0,by omega,?_⟩
   rcases h with h | h | ⟨hk,w2,j,j3,e1,e2,hj,hx⟩
   · exact .inl ⟨h.1,by omega⟩
   · exact .inr (.inl ⟨h.1,by omega⟩)
   · have saw:∀ i v,Qdw opn start (r.getD 0 0) i v -> Qdw opn' start' (r.getD 0 0) i v := fun i v hv ho' => by
      rcases ho i ho' with ⟨a,b⟩ | b
      · rw [b];exact hv a
      · exact .inl (by omega)
     refine .inr (.inr ⟨hk,by omega,j,j3,e1,e2,fun i hi => ?_,saw _ _ hx⟩)
     obtain ⟨a,b,d,f⟩ := hj i hi;exact ⟨a,b,by omega,saw _ _ f⟩
theorem doC4_load {l:List Int} {a b v:Int}:doC4 l 0 a b v = l := by simp [doC4]
theorem QK {l:List Int} {a b:Int}:doG4 l 0 a b = l.getD a.toNat 0 := by simp [doG4]
theorem Qal {l:List Int} {a b v:Int}:doC4 l 1 a b v = l.set a.toNat v := by simp [doC4]
theorem Qam {l:List Int} {a b:Int}:doG4 l 1 a b = 0 := by simp [doG4]
theorem Qes {l:List Int} {a b v:Int}:doC4 l 2 a b v = if l.getD a.toNat 0 = b then l.set a.toNat v else l := by simp [doC4]
theorem QlU {l:List Int} {a b:Int}:doG4 l 2 a b = if l.getD a.toNat 0 = b then 1 else 0 := by simp [doG4]
theorem Zm {l:List Int} {i:Nat} {v:Int} (h:cellsOK l = true) (hv:-1152921504606846976 <= v /\ v <= 1152921504606846976):cellsOK (l.set i v) = true := by
 unfold cellsOK at *
 simp only [Bool.and_eq_true,decide_eq_true_eq,List.length_set,List.all_eq_true] at *
 refine ⟨h.1,fun x hx => ?_⟩;rcases List.mem_or_eq_of_mem_set hx with hx | rfl
 · exact h.2 x hx
 · unfold Kz;rw [decide_eq_true hv.1,decide_eq_true hv.2];rfl
theorem Qet:∀ (l:List Int) (n:Int),flo n l <= n
 | [],n => Int.le_refl n
 | s :: l,n => by
  have := Qet l (if 0 < s /\ s - 1 < n then s - 1 else n)
  unfold flo
  split at this <;> rename_i h
  · rw [if_pos h];omega
  · rw [if_neg h];omega
theorem Qib:∀ (l:List Int) (n v:Int),v ∈ l -> 0 < v -> flo n l <= v - 1
 | s :: l,n,v,hv,h0 => by
  unfold flo;rcases List.mem_cons.1 hv with rfl | hv
  · have := Qet l (if 0 < v /\ v - 1 < n then v - 1 else n)
    split at this <;> rename_i h
    · rw [if_pos h];omega
    · rw [if_neg h];omega
  · exact Qib l _ v hv h0
structure Qan (p:Int) (cs cs':List Int) (c:Nat):Prop where
 len:cs'.length = 771
 ok:cellsOK cs' = true
 fr:frC cs' = frC cs
 mr:mkC cs <= mkC cs' /\ mkC cs' <= frC cs
 sc:∀ i,i ≠ c \/ p = 93 -> scC cs' i = scC cs i
 sb:∀ i,i < 4 -> 0 <= scC cs' i /\ scC cs' i <= frC cs + 1
structure OC (cs:List Int):Prop where
 len:cs.length = 771
 ok:cellsOK cs = true
 mr:0 <= mkC cs /\ mkC cs <= frC cs
 fr:frC cs <= 1000000
 sb:∀ i,i < 4 -> 0 <= scC cs i /\ scC cs i <= frC cs + 1
theorem OC.same {cs:List Int} (h:OC cs) (p:Int) (c:Nat):Qan p cs cs c := ⟨h.len,h.ok,rfl,⟨Int.le_refl _,h.mr.2⟩,fun _ _ => rfl,h.sb⟩
theorem Qan.next {p:Int} {cs cs':List Int} {c:Nat} (h:Qan p cs cs' c) (hc:OC cs):OC cs' :=
 ⟨h.len,h.ok,⟨by have := hc.mr;have := h.mr;omega,by rw [h.fr];exact h.mr.2⟩,by rw [h.fr];exact hc.fr,fun i hi => by rw [h.fr];exact h.sb i hi⟩
theorem JB.step {cs:List Int} {opn:List Bool} {c k:Int} {r got:List Int} (h:JB cs opn c k r got) (hc:OC cs) (c0:0 <= c) (c3:c <= 3) (hi:(goO false [⟨92,k,r⟩] got).is = true) :
 ∃ n r' kd a b v,(∀ own,goO own [⟨92,k,r⟩] got = g4 92 n r' got kd a b v 0) /\ Y6 cs kd a b v /\ Qan 92 cs (doC4 cs kd a b v) c.toNat /\ JB (doC4 cs kd a b v) opn c n r' [doG4 cs kd a b] /\
  ((goO false [⟨92,n,r'⟩] [doG4 cs kd a b]).is = false -> ∃ s,(goO false [⟨92,n,r'⟩] [doG4 cs kd a b]) = KB [s] /\ mkC (doC4 cs kd a b v) <= s /\ scC (doC4 cs kd a b v) c.toNat = s + 1 /\ s <= frC cs) := by
 obtain ⟨h1,h2,h3,h⟩ := h;have hl := hc.len;have hf := hc.fr;have hm := hc.mr;have hoL:∀ a:Int,0 <= a -> a < 771 -> Y6 cs 0 a 0 0 := fun a a0 a1 => ⟨.inl ⟨rfl,rfl,rfl⟩,a0,by rw [hl];exact a1,by decide,by decide,by decide,by decide⟩
 rcases h with ⟨rfl,rfl⟩ | ⟨x,rfl,x0,x1,rfl | ⟨s0,s1,s2,rfl | rfl⟩⟩
 · refine ⟨1,r,0,0,0,0,fun own => oB0 own r [],hoL 0 (by decide) (by decide),by rw [doC4_load];exact hc.same _ _,?_,fun q => by rw [QK,oB1] at q;cases q⟩
   rw [doC4_load,QK];exact ⟨h1,h2,h3,.inr ⟨_,rfl,by show 0 <= frC cs;omega,Int.le_refl _,.inl rfl⟩⟩
 · have ha:lRow 9 (r.getD 0 0) 4 = 9 + c := by rw [h2,lRow,if_pos ⟨c0,by omega⟩]
   have hn:(9 + c).toNat = 9 + c.toNat := by omega
   refine ⟨2,r.set 1 x,1,9 + c,0,x + 1,fun own => by rw [oB1,ha],⟨.inr (.inl ⟨rfl,rfl⟩),by omega,by omega,by decide,by decide,by omega,by omega⟩,?_,?_,fun q => by rw [Qam,oB2] at q;cases q⟩
   · rw [Qal,hn]
     have hsc:∀ i,scC (cs.set (9 + c.toNat) (x + 1)) i = if i = c.toNat then x + 1 else scC cs i := fun i => by
      unfold scC;rw [Yk _ _ _ _ _ (by omega)]
      by_cases e:i = c.toNat
      · rw [if_pos (by omega),if_pos e]
      · rw [if_neg (by omega),if_neg e]
     have hmk:mkC (cs.set (9 + c.toNat) (x + 1)) = mkC cs := by unfold mkC;rw [Qa (by omega)]
     have hfr:frC (cs.set (9 + c.toNat) (x + 1)) = frC cs := by unfold frC;rw [Qa (by omega)]
     refine ⟨by rw [List.length_set];exact hl,Zm hc.ok (by omega),hfr,by rw [hmk];omega,fun i hi => ?_,fun i hi => ?_⟩
     · rw [hsc,if_neg (by omega)]
     · rw [hsc]
       split
       · omega
       · exact hc.sb i hi
   · rw [Qal,Qam,hn];refine ⟨by rw [List.length_set];exact h1,by rw [Qa (by decide)];exact h2,h3,.inr ⟨0,rfl,Int.le_refl _,?_,.inr ⟨?_,?_,?_,.inl rfl⟩⟩⟩
     · unfold frC;rw [Qa (by omega)];have:frC cs = cs.getD 0 0 := rfl;omega
     · rw [Qc (by omega)];exact x0
     · rw [Qc (by omega)];unfold frC;rw [Qa (by omega)];exact x1
     · unfold scC;rw [Qc (by omega),Qc (by omega)]
 · refine ⟨3,r,0,3,0,0,fun own => oB2 own r [x],hoL 3 (by decide) (by decide),by rw [doC4_load];exact hc.same _ _,?_,fun q => ?_⟩
   · rw [doC4_load,QK];exact ⟨h1,h2,h3,.inr ⟨_,rfl,hm.1,hm.2,.inr ⟨s0,s1,s2,.inr rfl⟩⟩⟩
   · rw [QK,oB3] at q ⊢
     split at q
     · cases q
     · rename_i hlt;rw [if_neg hlt,doC4_load];have:mkC cs = cs.getD (Int.toNat 3) 0 := rfl;exact ⟨_,rfl,by omega,s2,s1⟩
 · rw [oB3] at hi
   split at hi
   · rename_i hlt;refine ⟨1,r,0,0,0,0,fun own => by rw [oB3,if_pos hlt],hoL 0 (by decide) (by decide),by rw [doC4_load];exact hc.same _ _,?_,fun q => by rw [QK,oB1] at q;cases q⟩
     rw [doC4_load,QK];exact ⟨h1,h2,h3,.inr ⟨_,rfl,by show 0 <= frC cs;omega,Int.le_refl _,.inl rfl⟩⟩
   · cases hi
theorem JM.look {cs:List Int} {opn:List Bool} {start:List Int} {r q:List Int} (h1:r.length = 96) (h2:q.length = 96) (e:r.getD 0 0 = q.getD 0 0) (w0:0 <= r.getD 0 0) (w1:r.getD 0 0 <= mkC cs) (hc:OC cs)
 (ho:∀ i,i < 4 -> opB opn i = true -> scC cs i = stA start i + 1 /\ 0 <= stA start i) :
 Y6 cs 0 9 0 0 /\ Qan 93 cs (doC4 cs 0 9 0 0) 0 /\ JM (doC4 cs 0 9 0 0) opn start 4 (r.set 1 0) (q.set 2 0) [doG4 cs 0 9 0] /\ (goO false [⟨93,4,r.set 1 0⟩] [doG4 cs 0 9 0]).is = true := by
 have hl := hc.len;have hm := hc.mr;have hs := hc.sb 0 (by decide)
 refine ⟨⟨.inl ⟨rfl,rfl,rfl⟩,by decide,by omega,by decide,by decide,by decide,by decide⟩,by rw [doC4_load];exact hc.same _ _,?_,?_⟩
 · rw [doC4_load,QK];have hx:cs.getD (Int.toNat 9) 0 = scC cs 0 := rfl;rw [hx];have er:(r.set 1 0).getD 0 0 = r.getD 0 0 := Qa (by decide)
   have eq:(q.set 2 0).getD 0 0 = q.getD 0 0 := Qa (by decide)
   refine ⟨by rw [List.length_set];exact h1,by rw [List.length_set];exact h2,.inr ⟨_,rfl,hs.1,hs.2,.inr ⟨by rw [er,eq];exact e,by rw [er];exact w0,by rw [er];omega,.inr (.inr ⟨rfl,by rw [er];exact w1,0,by decide,Qc (by omega),Qc (by omega),fun i hi => by omega,fun hop => ?_⟩)⟩⟩⟩
   have := ho 0 (by decide) hop
   exact .inr ⟨by omega,by omega⟩
 · rw [oA4,Qc (by omega),if_neg (by decide)];rfl
theorem JM.step {cs:List Int} {opn:List Bool} {start:List Int} {k:Int} {r q got:List Int} (h:JM cs opn start k r q got) (hc:OC cs) (ho:∀ i,i < 4 -> opB opn i = true -> scC cs i = stA start i + 1 /\ 0 <= stA start i)
 (hi:(goO false [⟨93,k,r⟩] got).is = true) :
 ∃ n r' q' kd a b v,goO false [⟨93,k,r⟩] got = g4 93 n r' got kd a b v 0 /\ goO true [⟨93,k,q⟩] got = g4 93 n q' got kd a b v 0 /\ Y6 cs kd a b v /\ Qan 93 cs (doC4 cs kd a b v) 0 /\ JM (doC4 cs kd a b v) opn start n r' q' [doG4 cs kd a b] /\
  ((goO false [⟨93,n,r'⟩] [doG4 cs kd a b]).is = false -> ∃ s,(goO false [⟨93,n,r'⟩] [doG4 cs kd a b]) = KB [s] /\ s <= mkC (doC4 cs kd a b v) /\ ∀ i,i < 4 -> opB opn i = true -> s <= stA start i) := by
 obtain ⟨h1,h2,h⟩ := h;have hl := hc.len;have hf := hc.fr;have hm := hc.mr;have hoL:∀ a:Int,0 <= a -> a < 771 -> Y6 cs 0 a 0 0 := fun a a0 a1 => ⟨.inl ⟨rfl,rfl,rfl⟩,a0,by rw [hl];exact a1,by decide,by decide,by decide,by decide⟩
 rcases h with ⟨rfl,rfl⟩ | ⟨x,rfl,x0,x1,⟨rfl,x2⟩ | ⟨e,w0,w1,⟨rfl,x2⟩ | ⟨rfl,x2⟩ | ⟨rfl,h4⟩⟩⟩
 · refine ⟨1,r,q,0,0,0,0,oM0 _ _ _,oM0 _ _ _,hoL 0 (by decide) (by decide),by rw [doC4_load];exact hc.same _ _,?_,fun q => by rw [QK,oM1] at q;cases q⟩
   rw [doC4_load,QK];have hx:cs.getD (Int.toNat 0) 0 = frC cs := rfl;rw [hx];exact ⟨h1,h2,.inr ⟨_,rfl,by omega,by omega,.inl ⟨rfl,Int.le_refl _⟩⟩⟩
 · refine ⟨2,r.set 0 x,q.set 0 x,0,3,0,0,oM1 _ _ _,oM1 _ _ _,hoL 3 (by decide) (by decide),by rw [doC4_load];exact hc.same _ _,?_,fun q => ?_⟩
   · rw [doC4_load,QK];have hx:cs.getD (Int.toNat 3) 0 = mkC cs := rfl;have er:(r.set 0 x).getD 0 0 = x := Qc (by omega)
     have eq:(q.set 0 x).getD 0 0 = x := Qc (by omega)
     rw [hx];exact ⟨by rw [List.length_set];exact h1,by rw [List.length_set];exact h2,.inr ⟨_,rfl,hm.1,by omega,.inr ⟨by rw [er,eq],by rw [er];exact x0,by rw [er];exact x2,.inl ⟨rfl,Int.le_refl _⟩⟩⟩⟩
   · rw [QK,oA2] at q
     split at q <;> cases q
 · by_cases hlt:x < r.getD 0 0
   · refine ⟨3,r,q.set 1 x,2,3,x,r.getD 0 0,by rw [oA2,if_pos hlt],by rw [oC2,<- e,if_pos hlt],⟨.inr (.inr (.inl rfl)),by decide,by omega,by omega,by omega,by omega,by omega⟩,?_,?_,fun q => ?_⟩
     · rw [Qes]
       split
       · rename_i hb;have hmk:mkC (cs.set (Int.toNat 3) (r.getD 0 0)) = r.getD 0 0 := Qc (by omega)
         have hfr:frC (cs.set (Int.toNat 3) (r.getD 0 0)) = frC cs := Qa (by decide)
         have hsc:∀ i,scC (cs.set (Int.toNat 3) (r.getD 0 0)) i = scC cs i := fun i => Qa (by omega)
         have hb:mkC cs = x := hb;exact ⟨by rw [List.length_set];exact hl,Zm hc.ok (by omega),hfr,by rw [hmk];omega,fun i _ => hsc i,fun i hi => by rw [hsc];exact hc.sb i hi⟩
       · exact hc.same _ _
     · rw [Qes,QlU];have eq:(q.set 1 x).getD 0 0 = q.getD 0 0 := Qa (by decide)
       split
       · have hmk:mkC (cs.set (Int.toNat 3) (r.getD 0 0)) = r.getD 0 0 := Qc (by omega)
         have hfr:frC (cs.set (Int.toNat 3) (r.getD 0 0)) = frC cs := Qa (by decide)
         exact ⟨h1,by rw [List.length_set];exact h2,.inr ⟨_,rfl,by decide,by omega,.inr ⟨by rw [eq];exact e,w0,by rw [hfr];exact w1,.inr (.inl ⟨rfl,.inr (by rw [hmk];exact Int.le_refl _)⟩)⟩⟩⟩
       · exact ⟨h1,by rw [List.length_set];exact h2,.inr ⟨_,rfl,by decide,by omega,.inr ⟨by rw [eq];exact e,w0,w1,.inr (.inl ⟨rfl,.inl rfl⟩)⟩⟩⟩
     · rw [oA3] at q
       split at q <;> cases q
   · obtain ⟨a1,a2,a3,a4⟩ := JM.look h1 h2 e w0 (by omega) hc ho
     refine ⟨4,r.set 1 0,q.set 2 0,0,9,0,0,by rw [oA2,if_neg hlt],by rw [oC2,<- e,if_neg hlt],a1,a2,a3,fun q => by rw [a4] at q;cases q⟩
 · by_cases hx:x = 0
   · refine ⟨2,r,q,0,3,0,0,by rw [oA3,if_pos hx],by rw [oC3,if_pos hx],hoL 3 (by decide) (by decide),by rw [doC4_load];exact hc.same _ _,?_,fun q => ?_⟩
     · rw [doC4_load,QK];have hx:cs.getD (Int.toNat 3) 0 = mkC cs := rfl;rw [hx];exact ⟨h1,h2,.inr ⟨_,rfl,hm.1,by omega,.inr ⟨e,w0,w1,.inl ⟨rfl,Int.le_refl _⟩⟩⟩⟩
     · rw [QK,oA2] at q
       split at q <;> cases q
   · obtain ⟨a1,a2,a3,a4⟩ := JM.look h1 h2 e w0 (by omega) hc ho
     exact ⟨4,r.set 1 0,q.set 2 0,0,9,0,0,by rw [oA3,if_neg hx],by rw [oC3,if_neg hx],a1,a2,a3,fun q => by rw [a4] at q;cases q⟩
 · obtain ⟨w2,j,j3,e1,e2,hj,hx⟩ := h4;rw [oA4] at hi
   split at hi
   · cases hi
   rename_i hne;have hj3:j <= 2 := by omega
   have t1:(r.getD 1 0).toNat = j := by omega
   have t2:(q.getD 2 0).toNat = j := by omega
   have hr0:((r.set (2 + j) x).set 1 ((j:Int) + 1)).getD 0 0 = r.getD 0 0 := by rw [Qa (by decide),Qa (by omega)]
   have hq0:((q.set (3 + j) x).set 2 ((j:Int) + 1)).getD 0 0 = q.getD 0 0 := by rw [Qa (by decide),Qa (by omega)]
   have hr1:((r.set (2 + j) x).set 1 ((j:Int) + 1)).getD 1 0 = j + 1 := Qc (by rw [List.length_set];omega)
   have hq2:((q.set (3 + j) x).set 2 ((j:Int) + 1)).getD 2 0 = j + 1 := Qc (by rw [List.length_set];omega)
   have hri:∀ i,((r.set (2 + j) x).set 1 ((j:Int) + 1)).getD (2 + i) 0 = if i = j then x else r.getD (2 + i) 0 := fun i => by
    rw [Qa (by omega),Yk _ _ _ _ _ (by omega)]
    by_cases e:i = j
    · rw [if_pos (by omega),if_pos e]
    · rw [if_neg (by omega),if_neg e]
   have hqi:∀ i,((q.set (3 + j) x).set 2 ((j:Int) + 1)).getD (3 + i) 0 = if i = j then x else q.getD (3 + i) 0 := fun i => by
    rw [Qa (by omega),Yk _ _ _ _ _ (by omega)]
    by_cases e:i = j
    · rw [if_pos (by omega),if_pos e]
    · rw [if_neg (by omega),if_neg e]
   have hsb := hc.sb (j + 1) (by omega)
   have hvx:cs.getD (10 + (j:Int)).toNat 0 = scC cs (j + 1) := by unfold scC;congr 1;omega
   have hsaw:∀ i,i < j + 1 -> Qdw opn start (r.getD 0 0) i (if i = j then x else r.getD (2 + i) 0) := fun i hi => by
    by_cases e:i = j
    · rw [if_pos e,e];exact hx
    · rw [if_neg e];exact (hj i (by omega)).2.2.2
   have hlast:Qdw opn start (r.getD 0 0) (j + 1) (scC cs (j + 1)) := fun hop => by
    have := ho (j + 1) (by omega) hop
    exact .inr ⟨by omega,by omega⟩
   refine ⟨4,(r.set (2 + j) x).set 1 (j + 1),(q.set (3 + j) x).set 2 (j + 1),0,10 + j,0,0,by rw [oA4,if_neg hne,t1,e1],by rw [oC4,if_neg (by omega),t2,e2],hoL _ (by omega) (by omega),by rw [doC4_load];exact hc.same _ _,?_,fun q => ?_⟩
   · rw [doC4_load,QK,hvx];refine ⟨by rw [List.length_set,List.length_set];exact h1,by rw [List.length_set,List.length_set];exact h2,.inr ⟨_,rfl,hsb.1,hsb.2,.inr ⟨by rw [hr0,hq0];exact e,by rw [hr0];exact w0,by rw [hr0];exact w1,.inr (.inr ⟨rfl,by rw [hr0];exact w2,j + 1,by omega,by rw [hr1];simp,by rw [hq2];simp,fun i hi => ?_,by rw [hr0];exact hlast⟩)⟩⟩⟩
     rw [hri,hqi,hr0];refine ⟨?_,?_,?_,hsaw i hi⟩
     · by_cases e:i = j
       · rw [if_pos e,if_pos e]
       · rw [if_neg e,if_neg e];exact (hj i (by omega)).1
     · by_cases e:i = j
       · rw [if_pos e];exact x0
       · rw [if_neg e];exact (hj i (by omega)).2.1
     · by_cases e:i = j
       · rw [if_pos e];exact x1
       · rw [if_neg e];exact (hj i (by omega)).2.2.1
   · rw [doC4_load];rw [QK,hvx,oA4,hr1,hr0] at q ⊢
     split at q
     · rename_i h3;rw [if_pos h3];have hjj:j = 2 := by omega
       refine ⟨_,rfl,Int.le_trans (Qet _ _) w2,fun i hi hop => ?_⟩;have k2:((r.set (2 + j) x).set 1 ((j:Int) + 1)).getD 2 0 = if (0:Nat) = j then x else r.getD 2 0 := hri 0
       have k3:((r.set (2 + j) x).set 1 ((j:Int) + 1)).getD 3 0 = if (1:Nat) = j then x else r.getD 3 0 := hri 1
       have k4:((r.set (2 + j) x).set 1 ((j:Int) + 1)).getD 4 0 = if (2:Nat) = j then x else r.getD 4 0 := hri 2
       have s:∃ v,v ∈ [((r.set (2 + j) x).set 1 ((j:Int) + 1)).getD 2 0,((r.set (2 + j) x).set 1 ((j:Int) + 1)).getD 3 0,((r.set (2 + j) x).set 1 ((j:Int) + 1)).getD 4 0,scC cs (j + 1)] /\ Qdw opn start (r.getD 0 0) i v := by
        rw [k2,k3,k4];obtain rfl | rfl | rfl | rfl:i = 0 \/ i = 1 \/ i = 2 \/ i = 3 := by omega
        · exact ⟨_,by simp,hsaw 0 (by omega)⟩
        · exact ⟨_,by simp,hsaw 1 (by omega)⟩
        · exact ⟨_,by simp,hsaw 2 (by omega)⟩
        · exact ⟨scC cs (j + 1),by simp,by have := hlast;rwa [hjj] at this ⊢⟩
       obtain ⟨v,hv,hs⟩ := s;rcases hs hop with h | ⟨v0,h⟩
       · exact Int.le_trans (Qet _ _) h
       · exact Int.le_trans (Qib _ _ v hv v0) h
     · cases q
section
variable {C:Cdc} {P:Program} {T:Tab C} {Φ:Fns C}
open Pg (Ex)
noncomputable def cdec (P:Prop):Bool := @decide P (Classical.propDecidable P)
theorem QI {P:Prop}:cdec P = true ↔ P := by
 unfold cdec;exact @decide_eq_true_iff P (Classical.propDecidable P)
theorem QG {P:Prop} (h:P):cdec P = true := QI.2 h
structure FunR (C:Cdc) (σ:Type) where
 k:Nat
 args:σ -> List (D C)
 objs:σ -> List (Obj C)
 fin:σ -> RT C
 Inv:σ -> Prop
def fnO (T:Tab C) (Φ:Fns C) (g n k:Nat) (args:List (D C)) (os:List (Obj C)):Option (D C × List (Option (Obj C))) :=
 (JI T Φ (evC T Φ n) g args).run (0,0) (hpOf 0 os) k [] fun d h _ _ => some (d,Qa1 0 k h)
def LedF {σ:Type} (S:FunR C σ) (s:σ) (r:D C × List (Option (Obj C))):Prop := ∃ os,(S.fin s).val = some ((.ret,[(0,r.1)]),os) /\ r.2 = os.map some
def resF {σ:Type} (S:FunR C σ) (d:Env C -> List (Obj C) -> Option (Bool × σ)) (env:Env C) (os:List (Obj C)):RT C := match d env os with
 | some (b,q) => .br b (S.fin q) .fail
 | none => .fail
def sumF (T:Tab C) (fs:List Fnd) (n:Nat) {σ:Type} (S:FunR C σ) (d:Env C -> List (Obj C) -> Option (Bool × σ)) (args:List (D C)):Pg C (D C) :=
 bif Nat.beq args.length n then .bind (sumO T fs (List.range n) (resF S d) (eargs 0 args)) fun r => .ret (eget r.2 0) else .fail
theorem Qh.args (K:QM P T) {X:Cx} {nx:Nat} {lim:Lim} {args:List (D C)} {vs:List Value} (h:RVs T X args vs) (hr:∀ a ∈ args,∀ id ∈ D.refs a,old nx lim id):Qh T X nx lim (eargs 0 args) (⟨vs⟩:Array Value) := by
 intro t;rw [Kq];simp only [Nat.zero_le,if_true,Nat.sub_zero];refine ⟨?_,?_⟩
 · have := h.get t;have e:(⟨vs⟩:Array Value).getD t undef = vs.getD t undef := by simp [Array.getD_eq_getD_getElem?]
   rw [e];exact this
 · by_cases ht:t < args.length
   · exact hr _ (by simp [List.getD_eq_getElem?_getD,ht])
   · have:args.getD t .top = .top := by
      simp only [List.getD_eq_getElem?_getD];rw [List.getElem?_eq_none (by omega)];rfl
     rw [this];simp [D.refs]
theorem RVs.of_get {X:Cx}:∀ (args:List (D C)) (vs:List Value),args.length = vs.length -> (∀ i,i < args.length -> RV T X (args.getD i .top) (vs.getD i undef)) -> RVs T X args vs
 | [],[],_,_ => .nil
 | [],_ :: _,h,_ => by simp at h
 | _ :: _,[],h,_ => by simp at h
 | d :: ds,v :: vs,h,hg => .cons (by simpa using hg 0 (by simp)) (RVs.of_get ds vs (by simpa using h) fun i hi => by simpa using hg (i + 1) (by simpa using hi))
theorem RVs.of_env {X:Cx} {nx:Nat} {lim:Lim} {args:List (D C)} {vs:List Value} (hl:args.length = vs.length) (h:Qh T X nx lim (eargs 0 args) (⟨vs⟩:Array Value)):RVs T X args vs := by
 refine RVs.of_get args vs hl fun i hi => ?_;have := (h i).1;rw [Kq] at this
 simpa [Array.getD_eq_getD_getElem?] using this
theorem KC:∀ (l:List (D C)) (n i:Nat) (h:i < l.length),(n + i,l[i]) ∈ eargs n l
 | [],_,_,h => by simp at h
 | d :: l,n,0,_ => by simp [eargs]
 | d :: l,n,i + 1,h => by
  have := KC l (n + 1) i (by simpa using h)
  simp only [eargs,List.mem_cons];right;rw [show n + (i + 1) = n + 1 + i by omega]
  simpa using this
theorem Qic (K:QM P T) {X X1:Cx} {h':Heap C} {k nx':Nat} (g1:G T X1 h' nx' (lim0 nx')) (s1:Step X k (lim0 nx') X1) (hle:k <= nx') {os:List (Obj C)} {d:D C} {v:Value} (q:Ql k [(0,d)] os)
 (hget:∀ j,j < k -> h'.get j = os[j]?) (rd:RO T X1 nx' (lim0 nx') d v):∃ X2,X2.w = X1.w /\ G T X2 (hpOf 0 os) k (lim0 k) /\ Step X k (lim0 k) X2 /\ RO T X2 k (lim0 k) d v := by
 obtain ⟨q1,q2,q3⟩ := q
 obtain ⟨X2,w2,g2,s2,hρ⟩ := G.drop K.base g1 (h' := hpOf 0 os) (fun id => by
  rw [Qt]
  by_cases hid:id < k
  · exact .inl (hget id hid).symm
  · exact .inr (List.getElem?_eq_none (by omega)))
 have hnone:∀ id,¬ id < k -> X2.ρ id = none := fun id hid => by
  cases hq:X2.ρ id with
  | none => rfl
  | some l =>
   have := g2.dom id l hq;rw [Qt,List.getElem?_eq_none (by omega)] at this
   cases this
 have s3 := s1.trans s2 hle;refine ⟨X2,w2,g2.relim2 (Yv q1 q3) (Nat.le_refl _) (Nat.zero_le _) (fun _ h => h),⟨s3.O,s3.os,s3.tape,s3.output,s3.size,fun id ho => ?_,s3.mine,s3.cell,s3.block,s3.frz⟩,?_⟩
 · by_cases hid:id < k
   · exact s3.ρ id ⟨.inl hid,fun h => h⟩
   · rw [hnone id hid];cases X.ρ id <;> simp [Qf]
 · have hrt:∀ r ∈ d.refs,r < k := q2 (0,d) (by simp)
   exact ⟨rd.1.mono T K.base.encOK s2.keeps fun r hh => s2.ρ r ⟨.inl (by have := hrt r hh;omega),fun h => h⟩,fun r hh => ⟨.inl (hrt r hh),fun h => h⟩⟩
theorem QlV (K:QM P T) (F:Qg P T Φ) {g:Nat} {fs:List Fnd} {m n:Nat} {σ:Type} {S:FunR C σ}
 (hr:∀ q,S.Inv q -> Ql S.k (eargs 0 (S.args q)) (S.objs q) /\ (S.fin q).refsOK S.k /\ (S.args q).length = m /\ Leaf (fnO T Φ g n S.k (S.args q) (S.objs q)) (LedF S q))
 (d:Env C -> List (Obj C) -> Option (Bool × σ)) (hd:∀ env os b q,d env os = some (b,q) -> b = true -> S.Inv q /\ eargs 0 (S.args q) = env /\ S.objs q = os):Qdn P T g (sumF T fs m S d) := by
 intro args vs X h nx lim e dd h' nx' tr gg hargs hrefs hlim hx;unfold sumF at hx;cases hm:Nat.beq args.length m with
 | false => rw [hm] at hx;exact (Ex.fail hx).elim
 | true =>
 rw [hm] at hx;simp only [cond_true] at hx;have hm := Nat.eq_of_beq_eq_true hm;obtain ⟨⟨x,env'⟩,h9,n9,t8,t9,hx0,hret,_⟩ := Ex.bind hx;obtain ⟨hdd,e1h,e1n,_⟩ := Ex.ret hret;subst e1h;subst e1n;have he := Qh.args K hargs hrefs;unfold sumO at hx0;obtain ⟨X1,h1,nx1,env1,ids,tr1,w1,g1,s1,hn1,e1,hx1⟩ := JZ K hlim fs X h nx _ _ [] gg he hx0;cases hnd:Yw ids with
 | false => rw [hnd] at hx1;exact (Ex.fail hx1).elim
 | true =>
 rw [hnd] at hx1;simp only [cond_true] at hx1;have hnodup := Zl hnd;obtain ⟨os,tr2,hlen,hos,hx2⟩ := Je ids _ _ hx1;cases hin:inB ids ((List.range m).flatMap fun t => (eget env1 t).refs) && inB ids (os.flatMap Obj.refs) with
 | false => rw [hin] at hx2;exact (Ex.fail hx2).elim
 | true =>
 rw [hin] at hx2;simp only [cond_true] at hx2;simp only [Bool.and_eq_true] at hin;have hin1 := Zi hin.1;have hin2 := Zi hin.2;obtain ⟨xx,ee,os',hq,hx3⟩ := RT.pg_ok _ _ hx2;unfold resF at hq
 split at hq
 · rename_i b q hdq;cases b with
   | false => simp [RT.val] at hq
   | true =>
   simp only [RT.val,cond_true] at hq;obtain ⟨hI,hcan,hobjs⟩ := hd _ _ _ _ hdq rfl;obtain ⟨hr1,hr2,hlenA,r,hr3,hr4⟩ := hr q hI;obtain ⟨h2,tr3,hl2,hw1,hw2,hx4⟩ := J0 ids _ h1 _ hnodup hx3;obtain ⟨hxx,eh,en,_⟩ := Ex.ret hx4;obtain ⟨rfl,rfl⟩ := Prod.mk.inj hxx;subst eh;subst en
   let f:Nat -> Nat := fun j => ids.getD j 0
   have hfj:∀ j,j < ids.length -> ids[j]? = some (f j) := fun j hj => by simp [f,hj]
   have hk0:ids.length = S.k := by rw [<- hr1.1,hobjs];simp [hlen]
   have hff:∀ r,r ∈ ids -> f (idx ids r) = r := fun r hr => by
    have := Yj ids r hr;simp only [f,List.getD_eq_getElem?_getD,this,Option.getD_some]
   have hlenO:(S.objs q).length = ids.length := by rw [hr1.1,hk0]
   have part:Part h1 (S.objs q) f := by
    refine ⟨fun j o ho => ?_,fun i j hi hj hij => ?_,fun o ho r hr => by rw [hr1.1];exact hr1.2.2 o ho r hr⟩
    · rw [hobjs,List.getElem?_map] at ho;cases hoj:os[j]? with
      | none => simp [hoj] at ho
      | some o0 =>
       simp only [hoj,Option.map_some,Option.some.injEq] at ho;have hj:j < ids.length := by rw [<- hlen];exact (List.getElem?_eq_some_iff.1 hoj).1
       rw [hos j (f j) o0 (hfj j hj) hoj,<- ho,Obj.ren_ren];intro id hid;exact hff id (hin2 id (List.mem_flatMap.2 ⟨o0,List.mem_of_getElem? hoj,hid⟩))
    · rw [hlenO] at hi hj;have := (List.getElem?_inj hi hnodup (j := j)).1 (by rw [hfj i hi,hfj j hj];simp only [f] at hij ⊢;rw [hij])
      exact this
   have g2 := Part.ctx K.base g1 part (S.objs q).length
   have e2:Qh T (X1.part (S.objs q).length f) (S.objs q).length (lim0 (S.objs q).length) (eargs 0 (S.args q)) (⟨vs⟩:Array Value) := by
    refine Qh.part K.base e1 part.inj (fun p hp => ?_) (fun p hp r hr => by rw [hr1.1];exact hr1.2.1 p hp r hr)
    rw [hcan] at hp;simp only [List.mem_map] at hp;obtain ⟨t,ht,rfl⟩ := hp;simp only;rw [D.ren_ren];intro id hid;exact hff id (hin1 id (List.mem_flatMap.2 ⟨t,ht,hid⟩))
   rw [hr1.1] at g2 e2;obtain ⟨d0,hh,nn,tt,hex,hsome⟩ := Pg.run_some hr3;simp only [Option.some.injEq] at hsome;subst hsome;obtain ⟨os2,hv2,hg2⟩ := hr4;rw [hq] at hv2;simp only [Option.some.injEq,Prod.mk.injEq] at hv2;obtain ⟨⟨rfl,rfl⟩,rfl⟩ := hv2;have hgets := Ve S.k 0 hh _ hg2;simp only [Nat.zero_add] at hgets;obtain ⟨x5,env5,os5,hv5,hok5⟩ := RT.refsOK_val hr2;rw [hq] at hv5;simp only [Option.some.injEq,Prod.mk.injEq] at hv5;obtain ⟨⟨rfl,rfl⟩,rfl⟩ := hv5;have hle:S.k <= nn := hex.le;have g0:G T (X1.part S.k f) (hpOf 0 (S.objs q)) S.k (lim0 nn) := g2.relim2 (Yv hr1.1 hr1.2.2) (Nat.le_refl _) (Nat.zero_le _) (fun _ h => h);have hvs:RVs T (X1.part S.k f) (S.args q) vs := RVs.of_env (by rw [hlenA,<- hm];exact RVs.length T hargs) e2
   have hrefs0:∀ a ∈ S.args q,∀ id ∈ D.refs a,old S.k (lim0 nn) id := fun a ha id hid => ⟨.inl (by
    obtain ⟨i,hi,hia⟩ := List.getElem_of_mem ha;refine hr1.2.1 (0 + i,a) ?_ id hid;rw [<- hia];exact KC _ _ _ hi),fun h => h⟩
   obtain ⟨c1,c2⟩ := QaY K F n g (S.args q) vs (X1.part S.k f) (hpOf 0 (S.objs q)) S.k (lim0 nn) (0,0) d0 hh nn tt g0 hvs hrefs0 (Nat.le_refl _) hex;have hw:(X1.part S.k f).w = X.w := w1;rw [hw] at c1 c2;refine ⟨c1,c2.mono fun en w9 hp => ?_⟩;obtain ⟨v,X2,rfl,hX2,g3,s3,ro3⟩ := hp;obtain ⟨X3,w3,g4,s4,ro4⟩ := Qic K g3 s3 hle hok5 hgets ro3;have hlen':os'.length = (S.objs q).length := by rw [hok5.1,hr1.1]
   have hrefs':∀ o ∈ os',∀ r ∈ Obj.refs o,r < (S.objs q).length := fun o ho r hr => by rw [hr1.1];exact hok5.2.2 o ho r hr
   obtain ⟨X4,w4,g5,s5,hρ,hB2⟩ := Part.back K.base g1 part hlen' hrefs' (X1 := X3) (lim1 := lim0 S.k) (h' := h') (by rw [hr1.1];exact g4) (by rw [hr1.1];exact s4) (fun j o hj => by
    have hlt:j < ids.length := by rw [<- hlenO,<- hlen'];exact (List.getElem?_eq_some_iff.1 hj).1
    exact hw1 j (f j) _ (hfj j hlt) (by rw [List.getElem?_map,hj];rfl)) (fun id hid => by
    refine hw2 id fun hm => ?_;obtain ⟨j,hj,hjj⟩ := List.getElem_of_mem hm;refine hid j (by rw [hlenO];exact hj) ?_
    simp [f,hj,hjj])
   have hold:∀ j,j < S.k -> old nx' lim (f j) := fun j hj => by
    have hj':j < (S.objs q).length := by rw [hr1.1];exact hj
    exact (g1.nums _ _ (part.at' j (S.objs q)[j] (by simp [hj']))).1
   have e4:Qh T X3 S.k (lim0 S.k) [(0,d0)] (#[v]:Array Value) := fun t => by
    rw [Qk]
    by_cases ht:t = 0
    · subst ht;simpa using ro4
    · simp only [ht,if_false,eget];exact RO.mk (RV.top _ _ _) rfl
   have e5 := Qh.back (nx := nx') (lim := lim) (f := f) K.base e4 (fun p hp r hr => hok5.2.1 p hp r hr) (fun j hj => hρ j (by rw [hr1.1];exact hj)) ⟨hB2,fun l r h1 _ => ⟨by rw [w4];exact h1,fun o ho => g5.mine_loop ho (by rw [w4];exact h1)⟩⟩ hold
   have ro5 := e5 0;refine ⟨v,X4,rfl,by rw [w4,w3,hX2],g5,s1.trans s5 hn1,?_⟩
   rw [hdd];exact ro5
 · simp [RT.val] at hq
theorem Qg.addFun (K:QM P T) (F:Qg P T Φ) {g:Nat} {σ:Type} (S:FunR C σ) (n m:Nat) (fs:List Fnd) (d:Env C -> List (Obj C) -> Option (Bool × σ))
 (hr:∀ q,S.Inv q -> Ql S.k (eargs 0 (S.args q)) (S.objs q) /\ (S.fin q).refsOK S.k /\ (S.args q).length = m /\ Leaf (fnO T Φ g n S.k (S.args q) (S.objs q)) (LedF S q))
 (hd:∀ env os b q,d env os = some (b,q) -> b = true -> S.Inv q /\ eargs 0 (S.args q) = env /\ S.objs q = os):Qg P T (Φ.addObj g (sumF T fs m S d)) := F.addObj (QlV K F hr d hd)
theorem Qco {σ:Type} {S:FunR C σ} {s:σ} {d:D C} {os:List (Option (Obj C))} (os':List (Obj C)) (h1:(S.fin s).val = some ((.ret,[(0,d)]),os')) (h2:os = os'.map some):Leaf (some (d,os)) (LedF S s) :=
 Jc.2 ⟨os',h1,h2⟩
end
structure NA where
 f:Frame
 a:Qb
 fl:Bool
def naLd (p n:Int) (r:List Int) (c g:Int):NA := ⟨⟨p,n,r⟩,⟨0,c,0,0,g,[],[]⟩,true⟩
def naCs (p n:Int) (r:List Int) (c b v g:Int):NA := ⟨⟨p,n,r⟩,⟨2,c,b,v,g,[],[]⟩,true⟩
def naPt (p n:Int) (r:List Int) (s b:Int) (t:List UInt8):NA := ⟨⟨p,n,r⟩,⟨4,s,b,0,0,t,[]⟩,true⟩
def naSy (p n:Int) (r:List Int):NA := ⟨⟨p,n,r⟩,⟨5,0,0,0,0,[],[]⟩,true⟩
def naCl (p n:Int) (r:List Int) (q:Int) (l:List Int):NA := ⟨⟨p,n,r⟩,⟨6,q,0,0,0,[],l⟩,true⟩
def naEn (p n:Int) (r:List Int) (l:List Int) (fl:Bool):NA := ⟨⟨p,n,r⟩,⟨7,0,0,0,0,[],l⟩,fl⟩
def mayN (a:Qb):Bool := ZS a.kind a.a a.b a.v a.gen a.text a.args
def frm0:Frame := ⟨0,0,List.replicate 96 0⟩
def act0:Qb := ⟨0,0,0,0,0,[],[]⟩
def topF (st:List Frame):Frame := st.getLastD frm0
def calF (a:Qb):Frame := ⟨a.a,0,regs1 a.args⟩
def tkSt (st:List Frame) (f:Frame) (a:Qb):List Frame := if a.kind < 6 then st.dropLast ++ [f] else if a.kind = 6 then st.dropLast ++ [f,calF a] else st.dropLast
def Y7 (got:List Int) (a:Qb):List Int := if a.kind < 6 then got else if a.kind = 6 then [] else a.args
def tkFl (e:Bool) (a:Qb):Bool := if a.kind < 6 then e else decide (a.kind = 6)
structure GoM where
 st:List Frame
 got:List Int
 gf:Bool
 a:Qb
 af:Bool
 is:Bool
def goN (nx:Frame -> List Int -> NA):Nat -> List Frame -> List Int -> Bool -> GoM
 | 0,st,got,e => ⟨st,got,e,act0,true,false⟩
 | n + 1,st,got,e => if st = [] then ⟨[],got,e,act0,true,false⟩
  else if (nx (topF st) got).a.kind < 6 then ⟨tkSt st (nx (topF st) got).f (nx (topF st) got).a,got,e,(nx (topF st) got).a,(nx (topF st) got).fl,true⟩
  else goN nx n (tkSt st (nx (topF st) got).f (nx (topF st) got).a) (Y7 got (nx (topF st) got).a) (tkFl e (nx (topF st) got).a)
def OkN (nx:Frame -> List Int -> NA) (ok:Frame -> List Int -> Prop):Nat -> List Frame -> List Int -> Prop
 | 0,_,_ => False
 | n + 1,st,got => st = [] \/ (st ≠ [] /\ st.length <= 6 /\ got.length <= 96 /\ ok (topF st) got /\ mayN (nx (topF st) got).a = true /\ 0 <= (nx (topF st) got).a.kind /\ (nx (topF st) got).a.kind <= 7 /\
  ((nx (topF st) got).a.kind < 6 \/ ((nx (topF st) got).a.kind = 6 -> st.length < 6) /\ OkN nx ok n (tkSt st (nx (topF st) got).f (nx (topF st) got).a) (Y7 got (nx (topF st) got).a)))
def cellO (h f:Int) (nd:Bool):Int := if h < 0 then -1 else bif nd then lField 291 (h % 256) f 160 3 else lField 99 (h % 256) f 16 12
def wh (x:Int):Int := if x < 0 then 0 else x
def Q7 (own:Bool) (p k:Int) (r l:List Int):NA := naEn p (bif own then 99 else k) r l true
def QB (own:Bool) (p:Int) (r:List Int) (key:Int):NA := if 0 <= lRow 21 key 24 then naLd p 1 r (lRow 21 key 24) 0 else Q7 own p 0 r []
def Q8 (own:Bool) (k:Int) (r:List Int) (x:Int):NA :=
 if k = 0 then QB own 72 r (r.getD 1 0)
 else if r.getD 0 0 < plc (wh x) /\ 0 <= cellO (bare (wh x)) 1 true then naLd 72 1 r (cellO (bare (wh x)) 1 true) (bare (wh x)) else Q7 own 72 k r [wh x]
def QV (own:Bool) (k:Int) (r:List Int) (x:Int):NA :=
 if k = 0 then QB own 73 r (r.getD 2 0)
 else if k = 1 then (if cellO (r.getD 1 0) 1 true < 0 \/ r.getD 0 0 <= plc (wh x) then Q7 own 73 1 (r.set 3 (wh x)) [] else naCs 73 2 (r.set 3 (wh x)) (cellO (r.getD 1 0) 1 true) (-1) (wh x) (r.getD 1 0))
 else if k = 2 then naCs 73 3 r (lRow 21 (r.getD 2 0) 24) (r.getD 3 0) (wordN (r.getD 0 0) (r.getD 1 0)) 0
 else Q7 own 73 k r []
def Q9 (own:Bool) (k:Int) (r:List Int) (x:Int):NA :=
 if wh x = 0 \/ cellO (bare (wh x)) 1 true < 0 then Q7 own 74 k (r.set 2 (wh x)) [0,0] else naLd 74 2 (r.set 2 (wh x)) (cellO (bare (wh x)) 1 true) (bare (wh x))
def QH (own:Bool) (k:Int) (r:List Int) (x:Int):NA :=
 if x <= 0 \/ cellO (bare x) 1 true < 0 then Q7 own 74 k (bif own && decide (0 < x) then r.set 3 x else r) [0,0] else naLd 74 3 (r.set 3 x) (cellO (bare x) 1 true) (bare x)
def QQ (own:Bool) (k:Int) (r:List Int) (x:Int):NA :=
 if k = 0 then QB own 74 r (r.getD 1 0)
 else if k = 1 then Q9 own 1 r x
 else if k = 2 then (if r.getD 0 0 < plc (r.getD 2 0) then Q9 own 2 r x else QH own 2 r x)
 else if k = 3 then (if 0 < x then QH own 3 (r.set 2 (r.getD 3 0)) x else naCs 74 4 r (cellO (bare (r.getD 2 0)) 1 true) (r.getD 3 0) 0 (bare (r.getD 2 0)))
 else if k = 4 then (if x = 0 then Q7 own 74 4 r [0,0] else naLd 74 5 r 2 0)
 else Q7 own 74 5 r [r.getD 3 0,x]
def nCh (own:Bool) (f:Frame) (got:List Int):NA :=
 if f.prog = 72 then Q8 own f.at' f.r (got.headD 0) else if f.prog = 73 then QV own f.at' f.r (got.headD 0) else QQ own f.at' f.r (got.headD 0)
def okCh (own:Bool) (f:Frame) (got:List Int):Prop :=
 f.r.length = 96 /\ (f.at' = 0 /\ got = [] \/ ∃ x,got = [x] /\ 1 <= f.at') /\
  (f.prog = 72 /\ f.at' <= 1 \/ f.prog = 73 /\ f.at' <= 3 \/ f.prog = 74 /\ f.at' <= 5 /\ (f.at' = 3 -> plc (f.r.getD 3 0) <= f.r.getD 0 0))
open Go.Proofs
abbrev RO_:Type := Option ((X × Env RC) × List (Option (Obj RC)))
abbrev DO_:Type := Option (D RC)
set_option maxRecDepth 100000
noncomputable def p0:Fns RC := QfU Tryz.prog 160 (fun f => Nat.beq f 79 || Nat.beq f 26 || Nat.beq f 9 || Nat.beq f 16 || Nat.beq f 6 || Nat.beq f 53) (fun f => []) (fun f => false) (fun f => Nat.beq f 76 || Nat.beq f 10)
theorem QoL:Qg Tryz.prog s18 p0 := QfV (by kernel_rfl)
def QqQ (n:Int) (a:Int) (b:Int):Option (Bool × D RC) := some (true,.bool (Qw n a b))
def QnB:List (D RC) -> Option (Bool × D RC)
 | [.int .i64 n,.int .i64 a,.int .i64 b] => QqQ n a b
 | _ => none
noncomputable def QqR (n:Int) (a:Int) (b:Int) := evF s18 p0 20 109 [.int .i64 n,.int .i64 a,.int .i64 b]
theorem QqS (n:Int) (a:Int) (b:Int):QqR n a b = (bif decide (a <= n) then some (D.bool (decide (n <= b))) else some (D.bool false)) := by kernel_rfl
theorem QqT (n:Int) (a:Int) (b:Int) (h:(true) = true):QqR n a b = some (.bool (Qw n a b)) := by
 rw [QqS];rw [Qw];cases decide (a <= n) <;> simp
noncomputable def ua_1 := p0.addSpec 109 QnB
theorem Qid:Qg Tryz.prog s18 ua_1 := QoL.addEv Qe fun args d h => by
 unfold QnB at h
 split at h
 · unfold QqQ at h;have h1 := congrArg Prod.fst (Option.some.inj h);obtain rfl:_ = d := congrArg Prod.snd (Option.some.inj h);exact ⟨by simp [D.refs],20,QqT _ _ _ h1⟩
 · cases h
def Qie (p:Int) (w:Int):Option (Bool × D RC) := some (true,.int .i64 (lRing p w))
def Qeu:List (D RC) -> Option (Bool × D RC)
 | [.int .i64 p,.int .i64 w] => Qie p w
 | _ => none
noncomputable def Qif (p:Int) (w:Int) := evF s18 ua_1 20 150 [.int .i64 p,.int .i64 w]
theorem QlW (p:Int) (w:Int):Qif p w = (let Z0:DO_ := some (D.int .i64 (-1:Int));bif decide (p < (0:Int)) then Z0 else bif !Qw w (2:Int) (8:Int) then Z0 else bif w == (0:Int) then none else some (D.int .i64 (IntKind.wrap .i64 ((13:Int) + Int.tmod p w)))) := by kernel_rfl
theorem QlX (p:Int) (w:Int) (h:(true) = true):Qif p w = some (.int .i64 (lRing p w)) := by
 (rw [QlW];conv => zeta)
 unfold lRing;refine Ze (fun h0 => ?_) fun h0 => ?_ <;> simp only [decide_eq_true_eq,decide_eq_false_iff_not] at h0
 · rw [if_neg (by omega)]
 · cases h1:Qw w 2 8
   · have h2 := Yx h1;rw [if_neg (by omega)];rfl
   · rw [Q2] at h1;have hw:(w == 0) = false := by simp;omega
     have hm := Jf (p := p) (w := w) (by omega)
     simp only [hw,Bool.not_true,cond_false];rw [Qds (by omega),Qr (by omega) (by omega),if_pos ⟨by omega,h1.1,h1.2⟩]
noncomputable def ua_2 := ua_1.addSpec 150 Qeu
theorem Qig:Qg Tryz.prog s18 ua_2 := Qid.addEv Qe fun args d h => by
 unfold Qeu at h
 split at h
 · unfold Qie at h;have h1 := congrArg Prod.fst (Option.some.inj h);obtain rfl:_ = d := congrArg Prod.snd (Option.some.inj h);exact ⟨by simp [D.refs],20,QlX _ _ h1⟩
 · cases h
def Qih (p:Int) (w:Int):Option (Bool × D RC) := some (true,.int .i64 (lRing p w))
def Qev:List (D RC) -> Option (Bool × D RC)
 | [.int .i64 p,.int .i64 w] => Qih p w
 | _ => none
noncomputable def Qii (p:Int) (w:Int) := evF s18 ua_2 20 115 [.int .i64 p,.int .i64 w]
theorem QlY (p:Int) (w:Int):Qii p w = (let Z0:DO_ := some (D.int .i64 (-1:Int));bif decide (p < (0:Int)) then Z0 else bif decide (w < (2:Int)) then Z0 else bif decide ((8:Int) < w) then Z0 else bif w == (0:Int) then none else some (D.int .i64 (IntKind.wrap .i64 ((13:Int) + Int.tmod p w)))) := by kernel_rfl
theorem QlZ (p:Int) (w:Int) (h:(true) = true):Qii p w = some (.int .i64 (lRing p w)) := by
 (rw [QlY];conv => zeta)
 unfold lRing;refine Ze (fun h0 => ?_) fun h0 => ?_ <;> simp only [decide_eq_true_eq,decide_eq_false_iff_not] at h0
 · rw [if_neg (by omega)]
 refine Ze (fun h1 => ?_) fun h1 => ?_ <;> simp only [decide_eq_true_eq,decide_eq_false_iff_not] at h1
 · rw [if_neg (by omega)]
 refine Ze (fun h2 => ?_) fun h2 => ?_ <;> simp only [decide_eq_true_eq,decide_eq_false_iff_not] at h2
 · rw [if_neg (by omega)]
 have hw:(w == 0) = false := by simp;omega
 have hm := Jf (p := p) (w := w) (by omega)
 simp only [hw,Bool.not_true,cond_false];rw [Qds (by omega),Qr (by omega) (by omega),if_pos ⟨by omega,by omega,by omega⟩]
noncomputable def ua_3 := ua_2.addSpec 115 Qev
theorem Qij:Qg Tryz.prog s18 ua_3 := Qig.addEv Qe fun args d h => by
 unfold Qev at h
 split at h
 · unfold Qih at h;have h1 := congrArg Prod.fst (Option.some.inj h);obtain rfl:_ = d := congrArg Prod.snd (Option.some.inj h);exact ⟨by simp [D.refs],20,QlZ _ _ h1⟩
 · cases h
def Qik (a:Int) (n:Int) (m:Int):Option (Bool × D RC) := some (true,.int .i64 (bif decide (0 <= n) && decide (n < m) then IntKind.i64.wrap (a + n) else -1))
def Qew:List (D RC) -> Option (Bool × D RC)
 | [.int .i64 a,.int .i64 n,.int .i64 m] => Qik a n m
 | _ => none
noncomputable def Qil (a:Int) (n:Int) (m:Int) := evF s18 ua_3 20 48 [.int .i64 a,.int .i64 n,.int .i64 m]
theorem Ql0 (a:Int) (n:Int) (m:Int):Qil a n m = (let Z0:DO_ := some (D.int .i64 (-1:Int));bif decide (n < (0:Int)) then Z0 else bif decide (m <= n) then Z0 else some (D.int .i64 (IntKind.wrap .i64 (a + n)))) := by kernel_rfl
theorem Ql1 (a:Int) (n:Int) (m:Int) (h:(true) = true):Qil a n m = some (.int .i64 (bif decide (0 <= n) && decide (n < m) then IntKind.i64.wrap (a + n) else -1)) := by
 (rw [Ql0];conv => zeta)
 refine Ze (fun h0 => ?_) fun h0 => ?_ <;> simp only [decide_eq_true_eq,decide_eq_false_iff_not] at h0
 · rw [decide_eq_false (p := 0 <= n) (by omega)];rfl
 refine Ze (fun h1 => ?_) fun h1 => ?_ <;> simp only [decide_eq_true_eq,decide_eq_false_iff_not] at h1
 · rw [decide_eq_false (p := n < m) (by omega),Bool.and_false];rfl
 · rw [decide_eq_true (p := 0 <= n) (by omega),decide_eq_true (p := n < m) (by omega)];rfl
noncomputable def ua_4 := ua_3.addSpec 48 Qew
theorem Qim:Qg Tryz.prog s18 ua_4 := Qij.addEv Qe fun args d h => by
 unfold Qew at h
 split at h
 · unfold Qik at h;have h1 := congrArg Prod.fst (Option.some.inj h);obtain rfl:_ = d := congrArg Prod.snd (Option.some.inj h);exact ⟨by simp [D.refs],20,Ql1 _ _ _ h1⟩
 · cases h
def Qin (a:Int) (s:Int) (n:Int) (m:Int):Option (Bool × D RC) := some (true,.int .i64 (bif decide (0 <= n) && decide (n < m) then IntKind.i64.wrap (a + IntKind.i64.wrap (s * n)) else -1))
def Qex:List (D RC) -> Option (Bool × D RC)
 | [.int .i64 a,.int .i64 s,.int .i64 n,.int .i64 m] => Qin a s n m
 | _ => none
noncomputable def Qio (a:Int) (s:Int) (n:Int) (m:Int) := evF s18 ua_4 20 38 [.int .i64 a,.int .i64 s,.int .i64 n,.int .i64 m]
theorem Ql2 (a:Int) (s:Int) (n:Int) (m:Int):Qio a s n m = (let Z0:DO_ := some (D.int .i64 (-1:Int));bif decide (n < (0:Int)) then Z0 else bif decide (m <= n) then Z0 else some (D.int .i64 (IntKind.wrap .i64 (a + IntKind.wrap .i64 (s * n))))) := by kernel_rfl
theorem Ql3 (a:Int) (s:Int) (n:Int) (m:Int) (h:(true) = true):Qio a s n m = some (.int .i64 (bif decide (0 <= n) && decide (n < m) then IntKind.i64.wrap (a + IntKind.i64.wrap (s * n)) else -1)) := by
 (rw [Ql2];conv => zeta)
 refine Ze (fun h0 => ?_) fun h0 => ?_ <;> simp only [decide_eq_true_eq,decide_eq_false_iff_not] at h0
 · rw [decide_eq_false (p := 0 <= n) (by omega)];rfl
 refine Ze (fun h1 => ?_) fun h1 => ?_ <;> simp only [decide_eq_true_eq,decide_eq_false_iff_not] at h1
 · rw [decide_eq_false (p := n < m) (by omega),Bool.and_false];rfl
 · rw [decide_eq_true (p := 0 <= n) (by omega),decide_eq_true (p := n < m) (by omega)];rfl
noncomputable def ua_5 := ua_4.addSpec 38 Qex
theorem Qip:Qg Tryz.prog s18 ua_5 := Qim.addEv Qe fun args d h => by
 unfold Qex at h
 split at h
 · unfold Qin at h;have h1 := congrArg Prod.fst (Option.some.inj h);obtain rfl:_ = d := congrArg Prod.snd (Option.some.inj h);exact ⟨by simp [D.refs],20,Ql3 _ _ _ _ h1⟩
 · cases h
def Qiq (n:Int):Option (Bool × D RC) := some (true,.int .i64 (lRow 5 n 4))
def Qey:List (D RC) -> Option (Bool × D RC)
 | [.int .i64 n] => Qiq n
 | _ => none
noncomputable def Qir (n:Int) := evF s18 ua_5 20 156 [.int .i64 n]
theorem Ql4 (n:Int):Qir n = (some (D.int .i64 (bif decide ((0:Int) <= n) && decide (n < (4:Int)) then IntKind.wrap .i64 ((5:Int) + n) else (-1:Int)))) := by kernel_rfl
theorem Ql5 (n:Int) (h:(true) = true):Qir n = some (.int .i64 (lRow 5 n 4)) := by
 rw [Ql4]
 congr 2
 unfold lRow
 by_cases h0:0 <= n
 · by_cases h1:n < 4
   · simp (disch := omega) only [decide_eq_true h0,decide_eq_true h1,Bool.and_self,cond_true,K0];rw [if_pos ⟨h0,h1⟩]
   · simp only [decide_eq_false h1,Bool.and_false,cond_false];rw [if_neg (by omega)]
 · simp only [decide_eq_false h0,Bool.false_and,cond_false];rw [if_neg (by omega)]
noncomputable def ua_6 := ua_5.addSpec 156 Qey
theorem Qis:Qg Tryz.prog s18 ua_6 := Qip.addEv Qe fun args d h => by
 unfold Qey at h
 split at h
 · unfold Qiq at h;have h1 := congrArg Prod.fst (Option.some.inj h);obtain rfl:_ = d := congrArg Prod.snd (Option.some.inj h);exact ⟨by simp [D.refs],20,Ql5 _ h1⟩
 · cases h
def Qit (n:Int):Option (Bool × D RC) := some (true,.int .i64 (lRow 5 n 4))
def Qez:List (D RC) -> Option (Bool × D RC)
 | [.int .i64 n] => Qit n
 | _ => none
noncomputable def Qiu (n:Int) := evF s18 ua_6 20 152 [.int .i64 n]
theorem Ql6 (n:Int):Qiu n = (some (D.int .i64 (bif decide ((0:Int) <= n) && decide (n < (4:Int)) then IntKind.wrap .i64 ((5:Int) + IntKind.wrap .i64 ((1:Int) * n)) else (-1:Int)))) := by kernel_rfl
theorem Ql7 (n:Int) (h:(true) = true):Qiu n = some (.int .i64 (lRow 5 n 4)) := by
 rw [Ql6]
 congr 2
 unfold lRow
 by_cases h0:0 <= n
 · by_cases h1:n < 4
   · simp (disch := omega) only [decide_eq_true h0,decide_eq_true h1,Bool.and_self,cond_true,Int.one_mul,K0];rw [if_pos ⟨h0,h1⟩]
   · simp only [decide_eq_false h1,Bool.and_false,cond_false];rw [if_neg (by omega)]
 · simp only [decide_eq_false h0,Bool.false_and,cond_false];rw [if_neg (by omega)]
noncomputable def ua_7 := ua_6.addSpec 152 Qez
theorem Qiv:Qg Tryz.prog s18 ua_7 := Qis.addEv Qe fun args d h => by
 unfold Qez at h
 split at h
 · unfold Qit at h;have h1 := congrArg Prod.fst (Option.some.inj h);obtain rfl:_ = d := congrArg Prod.snd (Option.some.inj h);exact ⟨by simp [D.refs],20,Ql7 _ h1⟩
 · cases h
def QeA (n:Int):Option (Bool × D RC) := some (true,.int .i64 (lRow 21 n 24))
def Qcp:List (D RC) -> Option (Bool × D RC)
 | [.int .i64 n] => QeA n
 | _ => none
noncomputable def QeB (n:Int) := evF s18 ua_7 20 28 [.int .i64 n]
theorem Qiw (n:Int):QeB n = (some (D.int .i64 (bif decide ((0:Int) <= n) && decide (n < (24:Int)) then IntKind.wrap .i64 ((21:Int) + n) else (-1:Int)))) := by kernel_rfl
theorem Qix (n:Int) (h:(true) = true):QeB n = some (.int .i64 (lRow 21 n 24)) := by
 rw [Qiw]
 congr 2
 unfold lRow
 by_cases h0:0 <= n
 · by_cases h1:n < 24
   · simp (disch := omega) only [decide_eq_true h0,decide_eq_true h1,Bool.and_self,cond_true,K0];rw [if_pos ⟨h0,h1⟩]
   · simp only [decide_eq_false h1,Bool.and_false,cond_false];rw [if_neg (by omega)]
 · simp only [decide_eq_false h0,Bool.false_and,cond_false];rw [if_neg (by omega)]
noncomputable def ua_8 := ua_7.addSpec 28 Qcp
theorem Qiy:Qg Tryz.prog s18 ua_8 := Qiv.addEv Qe fun args d h => by
 unfold Qcp at h
 split at h
 · unfold QeA at h;have h1 := congrArg Prod.fst (Option.some.inj h);obtain rfl:_ = d := congrArg Prod.snd (Option.some.inj h);exact ⟨by simp [D.refs],20,Qix _ h1⟩
 · cases h
def QeC (n:Int):Option (Bool × D RC) := some (true,.int .i64 (lRow 21 n 24))
def Qcq:List (D RC) -> Option (Bool × D RC)
 | [.int .i64 n] => QeC n
 | _ => none
noncomputable def QeD (n:Int) := evF s18 ua_8 20 19 [.int .i64 n]
theorem Qiz (n:Int):QeD n = (some (D.int .i64 (bif decide ((0:Int) <= n) && decide (n < (24:Int)) then IntKind.wrap .i64 ((21:Int) + IntKind.wrap .i64 ((1:Int) * n)) else (-1:Int)))) := by kernel_rfl
theorem QiA (n:Int) (h:(true) = true):QeD n = some (.int .i64 (lRow 21 n 24)) := by
 rw [Qiz]
 congr 2
 unfold lRow
 by_cases h0:0 <= n
 · by_cases h1:n < 24
   · simp (disch := omega) only [decide_eq_true h0,decide_eq_true h1,Bool.and_self,cond_true,Int.one_mul,K0];rw [if_pos ⟨h0,h1⟩]
   · simp only [decide_eq_false h1,Bool.and_false,cond_false];rw [if_neg (by omega)]
 · simp only [decide_eq_false h0,Bool.false_and,cond_false];rw [if_neg (by omega)]
noncomputable def ua_9 := ua_8.addSpec 19 Qcq
theorem QiB:Qg Tryz.prog s18 ua_9 := Qiy.addEv Qe fun args d h => by
 unfold Qcq at h
 split at h
 · unfold QeC at h;have h1 := congrArg Prod.fst (Option.some.inj h);obtain rfl:_ = d := congrArg Prod.snd (Option.some.inj h);exact ⟨by simp [D.refs],20,QiA _ h1⟩
 · cases h
def Qcr (a:Int) (s:Int) (f:Int) (m:Int) (k:Int):Option (Bool × D RC) := some (true,.int .i64 (bif Qw s 0 (IntKind.i64.wrap (m - 1)) && Qw f 0 (IntKind.i64.wrap (k - 1)) then IntKind.i64.wrap (IntKind.i64.wrap (a + IntKind.i64.wrap (s * k)) + f) else -1))
def Qao:List (D RC) -> Option (Bool × D RC)
 | [.int .i64 a,.int .i64 s,.int .i64 f,.int .i64 m,.int .i64 k] => Qcr a s f m k
 | _ => none
noncomputable def Qcs (a:Int) (s:Int) (f:Int) (m:Int) (k:Int) := evF s18 ua_9 20 80 [.int .i64 a,.int .i64 s,.int .i64 f,.int .i64 m,.int .i64 k]
theorem Qf4 (a:Int) (s:Int) (f:Int) (m:Int) (k:Int):Qcs a s f m k = (let Z0:DO_ := some (D.int .i64 (-1:Int));bif !Qw s (0:Int) (IntKind.wrap .i64 (m - (1:Int))) then Z0 else bif !Qw f (0:Int) (IntKind.wrap .i64 (k - (1:Int))) then Z0 else some (D.int .i64 (IntKind.wrap .i64 (IntKind.wrap .i64 (a + IntKind.wrap .i64 (s * k)) + f)))) := by kernel_rfl
theorem Qf5 (a:Int) (s:Int) (f:Int) (m:Int) (k:Int) (h:(true) = true):Qcs a s f m k = some (.int .i64 (bif Qw s 0 (IntKind.i64.wrap (m - 1)) && Qw f 0 (IntKind.i64.wrap (k - 1)) then IntKind.i64.wrap (IntKind.i64.wrap (a + IntKind.i64.wrap (s * k)) + f) else -1)) := by
 (rw [Qf4];conv => zeta)
 cases Qw s 0 (IntKind.i64.wrap (m - 1)) <;> cases Qw f 0 (IntKind.i64.wrap (k - 1)) <;> rfl
noncomputable def QoM := ua_9.addSpec 80 Qao
theorem Qf6:Qg Tryz.prog s18 QoM := QiB.addEv Qe fun args d h => by
 unfold Qao at h
 split at h
 · unfold Qcr at h;have h1 := congrArg Prod.fst (Option.some.inj h);obtain rfl:_ = d := congrArg Prod.snd (Option.some.inj h);exact ⟨by simp [D.refs],20,Qf5 _ _ _ _ _ h1⟩
 · cases h
def QeE (s:Int) (f:Int):Option (Bool × D RC) := some (true,.int .i64 (lField 99 s f 16 12))
def Qct:List (D RC) -> Option (Bool × D RC)
 | [.int .i64 s,.int .i64 f] => QeE s f
 | _ => none
noncomputable def QeF (s:Int) (f:Int) := evF s18 QoM 20 52 [.int .i64 s,.int .i64 f]
theorem QiC (s:Int) (f:Int):QeF s f = (some (D.int .i64 (bif Qw s (0:Int) (15:Int) && Qw f (0:Int) (11:Int) then IntKind.wrap .i64 (IntKind.wrap .i64 ((99:Int) + IntKind.wrap .i64 (s * (12:Int))) + f) else (-1:Int)))) := by kernel_rfl
theorem QiD (s:Int) (f:Int) (h:(true) = true):QeF s f = some (.int .i64 (lField 99 s f 16 12)) := by
 rw [QiC]
 congr 2
 unfold lField;cases h0:Qw s 0 15
 · have := Yx h0;rw [if_neg (by omega)];rfl
 cases h1:Qw f 0 11
 · have := Yx h1;rw [if_neg (by omega)];rfl
 rw [Q2] at h0 h1;rw [if_pos (by omega)]
 simp (disch := omega) only [Bool.and_self,cond_true,K0]
noncomputable def QoN := QoM.addSpec 52 Qct
theorem Qf7:Qg Tryz.prog s18 QoN := Qf6.addEv Qe fun args d h => by
 unfold Qct at h
 split at h
 · unfold QeE at h;have h1 := congrArg Prod.fst (Option.some.inj h);obtain rfl:_ = d := congrArg Prod.snd (Option.some.inj h);exact ⟨by simp [D.refs],20,QiD _ _ h1⟩
 · cases h
def QeG (s:Int) (f:Int):Option (Bool × D RC) := some (true,.int .i64 (lField 99 s f 16 12))
def Qcu:List (D RC) -> Option (Bool × D RC)
 | [.int .i64 s,.int .i64 f] => QeG s f
 | _ => none
noncomputable def QeH (s:Int) (f:Int) := evF s18 QoN 20 111 [.int .i64 s,.int .i64 f]
theorem QiE (s:Int) (f:Int):QeH s f = (let Z0:DO_ := some (D.int .i64 (-1:Int));let Z1:Int := bif decide ((0:Int) <= s) && decide (s < (16:Int)) then IntKind.wrap .i64 ((99:Int) + IntKind.wrap .i64 ((12:Int) * s)) else (-1:Int);bif decide (f < (0:Int)) then Z0 else bif decide ((11:Int) < f) then Z0 else bif decide (Z1 < (0:Int)) then Z0 else some (D.int .i64 (IntKind.wrap .i64 (Z1 + f)))) := by kernel_rfl
theorem QiF (s:Int) (f:Int) (h:(true) = true):QeH s f = some (.int .i64 (lField 99 s f 16 12)) := by
 (rw [QiE];conv => zeta)
 unfold lField;refine Ze (fun h0 => ?_) fun h0 => ?_ <;> simp only [decide_eq_true_eq,decide_eq_false_iff_not] at h0
 · rw [if_neg (by omega)]
 refine Ze (fun h1 => ?_) fun h1 => ?_ <;> simp only [decide_eq_true_eq,decide_eq_false_iff_not] at h1
 · rw [if_neg (by omega)]
 by_cases h2:0 <= s
 · by_cases h3:s < 16
   · simp (disch := omega) only [decide_eq_true h2,decide_eq_true h3,Bool.and_self,cond_true,K0];rw [decide_eq_false (by omega),if_pos (by omega)]
     simp (disch := omega) only [cond_false,K0]
     congr 2;omega
   · simp only [decide_eq_false h3,Bool.and_false,cond_false];rw [if_neg (by omega)];rfl
 · simp only [decide_eq_false h2,Bool.false_and,cond_false];rw [if_neg (by omega)];rfl
noncomputable def QoO := QoN.addSpec 111 Qcu
theorem Qf8:Qg Tryz.prog s18 QoO := Qf7.addEv Qe fun args d h => by
 unfold Qcu at h
 split at h
 · unfold QeG at h;have h1 := congrArg Prod.fst (Option.some.inj h);obtain rfl:_ = d := congrArg Prod.snd (Option.some.inj h);exact ⟨by simp [D.refs],20,QiF _ _ h1⟩
 · cases h
def QeI (s:Int) (f:Int):Option (Bool × D RC) := some (true,.int .i64 (lField 291 s f 160 3))
def Qcv:List (D RC) -> Option (Bool × D RC)
 | [.int .i64 s,.int .i64 f] => QeI s f
 | _ => none
noncomputable def QeJ (s:Int) (f:Int) := evF s18 QoO 20 51 [.int .i64 s,.int .i64 f]
theorem QiG (s:Int) (f:Int):QeJ s f = (some (D.int .i64 (bif Qw s (0:Int) (159:Int) && Qw f (0:Int) (2:Int) then IntKind.wrap .i64 (IntKind.wrap .i64 ((291:Int) + IntKind.wrap .i64 (s * (3:Int))) + f) else (-1:Int)))) := by kernel_rfl
theorem QiH (s:Int) (f:Int) (h:(true) = true):QeJ s f = some (.int .i64 (lField 291 s f 160 3)) := by
 rw [QiG]
 congr 2
 unfold lField;cases h0:Qw s 0 159
 · have := Yx h0;rw [if_neg (by omega)];rfl
 cases h1:Qw f 0 2
 · have := Yx h1;rw [if_neg (by omega)];rfl
 rw [Q2] at h0 h1;rw [if_pos (by omega)]
 simp (disch := omega) only [Bool.and_self,cond_true,K0]
noncomputable def QoP := QoO.addSpec 51 Qcv
theorem Qf9:Qg Tryz.prog s18 QoP := Qf8.addEv Qe fun args d h => by
 unfold Qcv at h
 split at h
 · unfold QeI at h;have h1 := congrArg Prod.fst (Option.some.inj h);obtain rfl:_ = d := congrArg Prod.snd (Option.some.inj h);exact ⟨by simp [D.refs],20,QiH _ _ h1⟩
 · cases h
def QeK (s:Int) (f:Int):Option (Bool × D RC) := some (true,.int .i64 (lField 291 s f 160 3))
def Qcw:List (D RC) -> Option (Bool × D RC)
 | [.int .i64 s,.int .i64 f] => QeK s f
 | _ => none
noncomputable def QeL (s:Int) (f:Int) := evF s18 QoP 20 18 [.int .i64 s,.int .i64 f]
theorem QiI (s:Int) (f:Int):QeL s f = (let Z0:DO_ := some (D.int .i64 (-1:Int));let Z1:Int := bif decide ((0:Int) <= s) && decide (s < (160:Int)) then IntKind.wrap .i64 ((291:Int) + IntKind.wrap .i64 ((3:Int) * s)) else (-1:Int);bif decide (f < (0:Int)) then Z0 else bif decide ((2:Int) < f) then Z0 else bif decide (Z1 < (0:Int)) then Z0 else some (D.int .i64 (IntKind.wrap .i64 (Z1 + f)))) := by kernel_rfl
theorem QiJ (s:Int) (f:Int) (h:(true) = true):QeL s f = some (.int .i64 (lField 291 s f 160 3)) := by
 (rw [QiI];conv => zeta)
 unfold lField;refine Ze (fun h0 => ?_) fun h0 => ?_ <;> simp only [decide_eq_true_eq,decide_eq_false_iff_not] at h0
 · rw [if_neg (by omega)]
 refine Ze (fun h1 => ?_) fun h1 => ?_ <;> simp only [decide_eq_true_eq,decide_eq_false_iff_not] at h1
 · rw [if_neg (by omega)]
 by_cases h2:0 <= s
 · by_cases h3:s < 160
   · simp (disch := omega) only [decide_eq_true h2,decide_eq_true h3,Bool.and_self,cond_true,K0];rw [decide_eq_false (by omega),if_pos (by omega)]
     simp (disch := omega) only [cond_false,K0]
     congr 2;omega
   · simp only [decide_eq_false h3,Bool.and_false,cond_false];rw [if_neg (by omega)];rfl
 · simp only [decide_eq_false h2,Bool.false_and,cond_false];rw [if_neg (by omega)];rfl
noncomputable def QoQ := QoP.addSpec 18 Qcw
theorem Qga:Qg Tryz.prog s18 QoQ := Qf9.addEv Qe fun args d h => by
 unfold Qcw at h
 split at h
 · unfold QeK at h;have h1 := congrArg Prod.fst (Option.some.inj h);obtain rfl:_ = d := congrArg Prod.snd (Option.some.inj h);exact ⟨by simp [D.refs],20,QiJ _ _ h1⟩
 · cases h
def QnC (w:Int):Option (Bool × D RC) := some (true,.int .i64 (plc w))
def QiK:List (D RC) -> Option (Bool × D RC)
 | [.int .i64 w] => QnC w
 | _ => none
noncomputable def QnD (w:Int) := evF s18 QoQ 20 29 [.int .i64 w]
theorem QoR (w:Int):QnD w = (let Z0:DO_ := some (D.int .i64 0);bif decide (w < (0:Int)) then Z0 else bif decide ((1099510841343:Int) < w) then Z0 else some (D.int .i64 (bits .i64 (fun (x:Nat) (u v:BitVec x) => u &&& v) (Int.fdiv w (1048576:Int)) (1099511627775:Int)))) := by kernel_rfl
theorem QoS (w:Int) (h:(true) = true):QnD w = some (.int .i64 (plc w)) := by
 (rw [QoR];conv => zeta)
 unfold plc;refine Ze (fun h0 => ?_) fun h0 => Ze (fun h1 => ?_) fun h1 => ?_ <;> simp only [decide_eq_true_eq,decide_eq_false_iff_not] at *
 · rw [Zf (by omega)];rfl
 · rw [Zf (by omega)];rfl
 · rw [Q3 (by omega),Qny (by omega),QrC (by omega)]
noncomputable def QoT := QoQ.addSpec 29 QiK
theorem Qgb:Qg Tryz.prog s18 QoT := Qga.addEv Qe fun args d h => by
 unfold QiK at h
 split at h
 · unfold QnC at h;have h1 := congrArg Prod.fst (Option.some.inj h);obtain rfl:_ = d := congrArg Prod.snd (Option.some.inj h);exact ⟨by simp [D.refs],20,QoS _ h1⟩
 · cases h
def QiL (p:Int) (d:Int):Option (Bool × D RC) := some (true,.tup (.acons (.int .i64 (wordN p d)) (.acons (.int .i64 (Qcg p d)) .anil)))
def QeM:List (D RC) -> Option (Bool × D RC)
 | [.int .i64 p,.int .i64 d] => QiL p d
 | _ => none
noncomputable def QiM (p:Int) (d:Int) := evF s18 QoT 20 96 [.int .i64 p,.int .i64 d]
theorem Ql8 (p:Int) (d:Int):QiM p d = (let Z0:Bool := decide (p < (0:Int));let Z1:D RC := D.int .i64 0;let Z2:DO_ := some (D.tup (D.acons Z1 (D.acons (D.int .i64 2) .anil)));let Z3:Bool := decide ((1048575:Int) < p);let Z4:DO_ := some (D.tup (D.acons (D.int .i64 (bits .i64 (fun (x:Nat) (u v:BitVec x) => u ||| v) (IntKind.wrap .i64 (p * (1048576:Int))) d)) (.acons Z1 .anil)));let Z5:DO_ := bif d != (0:Int) then Z2 else bif p != (0:Int) then Z2 else Z4;bif decide ((256:Int) <= d) then bif Z0 then Z2 else bif Z3 then Z2 else bif !decide (d <= (262143:Int)) then Z5 else Z4 else bif Z0 then Z2 else bif Z3 then Z2 else Z5) := by kernel_rfl
theorem Ql9 (p:Int) (d:Int) (h:(true) = true):QiM p d = some (.tup (.acons (.int .i64 (wordN p d)) (.acons (.int .i64 (Qcg p d)) .anil))) := by
 (rw [Ql8];conv => zeta)
 have ww:0 <= p -> p <= 1048575 -> IntKind.i64.wrap (p * 1048576) = p * 1048576 := fun h1 h2 => Qr (by omega) (by omega)
 repeat' (refine Ze (fun hc => ?_) fun hc => ?_)
 all_goals
  simp only [decide_eq_true_eq,decide_eq_false_iff_not,beq_iff_eq,bne_iff_ne,ne_eq,Bool.not_eq_true',Bool.not_eq_false',bne_eq_false_iff_eq,beq_eq_false_iff_ne] at *
  first
  | exact congrArg some (Qcj (by unfold OkWord;omega))
  | (rw [ww (by omega) (by omega),or20 (by omega) (by omega)];exact congrArg some (Qci (by unfold OkWord;omega)))
noncomputable def QoU := QoT.addSpec 96 QeM
theorem Qgc:Qg Tryz.prog s18 QoU := Qgb.addEv Qe fun args d h => by
 unfold QeM at h
 split at h
 · unfold QiL at h;have h1 := congrArg Prod.fst (Option.some.inj h);obtain rfl:_ = d := congrArg Prod.snd (Option.some.inj h);exact ⟨by simp [D.refs],20,Ql9 _ _ h1⟩
 · cases h
def QnE (w:Int):Option (Bool × D RC) := some (true,.int .i64 (plc w))
def QiN:List (D RC) -> Option (Bool × D RC)
 | [.int .i64 w] => QnE w
 | _ => none
noncomputable def QnF (w:Int) := evF s18 QoU 20 13 [.int .i64 w]
theorem QoV (w:Int):QnF w = (let Z0:DO_ := some (D.int .i64 0);bif decide (w < (0:Int)) then Z0 else bif decide ((1099510841343:Int) < w) then Z0 else some (D.int .i64 (Int.fdiv w (1048576:Int)))) := by kernel_rfl
theorem QoW (w:Int) (h:(true) = true):QnF w = some (.int .i64 (plc w)) := by
 (rw [QoV];conv => zeta)
 unfold plc;refine Ze (fun h0 => ?_) fun h0 => Ze (fun h1 => ?_) fun h1 => ?_ <;> simp only [decide_eq_true_eq,decide_eq_false_iff_not] at *
 · rw [Zf (by omega)];rfl
 · rw [Zf (by omega)];rfl
 · rw [Q3 (by omega),Qny (by omega)]
noncomputable def QoX := QoU.addSpec 13 QiN
theorem Qgd:Qg Tryz.prog s18 QoX := Qgc.addEv Qe fun args d h => by
 unfold QiN at h
 split at h
 · unfold QnE at h;have h1 := congrArg Prod.fst (Option.some.inj h);obtain rfl:_ = d := congrArg Prod.snd (Option.some.inj h);exact ⟨by simp [D.refs],20,QoW _ h1⟩
 · cases h
def QiO (w:Int):Option (Bool × D RC) := some (true,.int .i64 (bare w))
def QeN:List (D RC) -> Option (Bool × D RC)
 | [.int .i64 w] => QiO w
 | _ => none
noncomputable def QiP (w:Int) := evF s18 QoX 20 110 [.int .i64 w]
theorem Qma (w:Int):QiP w = (let Z0:DO_ := some (D.int .i64 0);bif decide (w < (0:Int)) then Z0 else bif decide ((1099510841343:Int) < w) then Z0 else some (D.int .i64 (bits .i64 (fun (x:Nat) (u v:BitVec x) => u &&& v) w (1048575:Int)))) := by kernel_rfl
theorem Qmb (w:Int) (h:(true) = true):QiP w = some (.int .i64 (bare w)) := by
 (rw [Qma];conv => zeta)
 unfold bare;refine Ze (fun h0 => ?_) fun h0 => Ze (fun h1 => ?_) fun h1 => ?_ <;> simp only [decide_eq_true_eq,decide_eq_false_iff_not] at *
 · rw [Zf (by omega)];rfl
 · rw [Zf (by omega)];rfl
 · rw [Q3 (by omega),QqI]
noncomputable def QoY := QoX.addSpec 110 QeN
theorem Qge:Qg Tryz.prog s18 QoY := Qgd.addEv Qe fun args d h => by
 unfold QeN at h
 split at h
 · unfold QiO at h;have h1 := congrArg Prod.fst (Option.some.inj h);obtain rfl:_ = d := congrArg Prod.snd (Option.some.inj h);exact ⟨by simp [D.refs],20,Qmb _ h1⟩
 · cases h
def QiQ (p:Int) (d:Int):Option (Bool × D RC) := some (true,.tup (.acons (.int .i64 (wordN p d)) (.acons (.int .i64 (Qcg p d)) .anil)))
def QeO:List (D RC) -> Option (Bool × D RC)
 | [.int .i64 p,.int .i64 d] => QiQ p d
 | _ => none
noncomputable def QiR (p:Int) (d:Int) := evF s18 QoY 20 17 [.int .i64 p,.int .i64 d]
theorem Qmc (p:Int) (d:Int):QiR p d = (let Z0:D RC := D.int .i64 0;let Z1:DO_ := some (D.tup (D.acons Z0 (D.acons (D.int .i64 2) .anil)));let Z2:DO_ := some (D.tup (D.acons (D.int .i64 (IntKind.wrap .i64 (IntKind.wrap .i64 (p * (1048576:Int)) + d))) (.acons Z0 .anil)));let Z3:DO_ := bif d == (0:Int) then bif p != (0:Int) then Z1 else Z2 else Z2;bif decide (p < (0:Int)) then Z1 else bif decide ((1048575:Int) < p) then Z1 else bif d != (0:Int) then bif decide ((256:Int) <= d) then bif !decide (d <= (262143:Int)) then Z1 else Z3 else Z1 else Z3) := by kernel_rfl
theorem Qmd (p:Int) (d:Int) (h:(true) = true):QiR p d = some (.tup (.acons (.int .i64 (wordN p d)) (.acons (.int .i64 (Qcg p d)) .anil))) := by
 (rw [Qmc];conv => zeta)
 have ww:0 <= p -> p <= 1048575 -> IntKind.i64.wrap (p * 1048576) = p * 1048576 := fun h1 h2 => Qr (by omega) (by omega)
 repeat' (refine Ze (fun hc => ?_) fun hc => ?_)
 all_goals
  simp only [decide_eq_true_eq,decide_eq_false_iff_not,beq_iff_eq,bne_iff_ne,ne_eq,Bool.not_eq_true',Bool.not_eq_false',bne_eq_false_iff_eq,beq_eq_false_iff_ne] at *
  first
  | exact congrArg some (Qcj (by unfold OkWord;omega))
  | (rw [ww (by omega) (by omega),Qr (by omega) (by omega)];exact congrArg some (Qci (by unfold OkWord;omega)))
noncomputable def QoZ := QoY.addSpec 17 QeO
theorem Qgf:Qg Tryz.prog s18 QoZ := Qge.addEv Qe fun args d h => by
 unfold QeO at h
 split at h
 · unfold QiQ at h;have h1 := congrArg Prod.fst (Option.some.inj h);obtain rfl:_ = d := congrArg Prod.snd (Option.some.inj h);exact ⟨by simp [D.refs],20,Qmd _ _ h1⟩
 · cases h
def QiS (w:Int):Option (Bool × D RC) := some (true,.int .i64 (bare w))
def QeP:List (D RC) -> Option (Bool × D RC)
 | [.int .i64 w] => QiS w
 | _ => none
noncomputable def QiT (w:Int) := evF s18 QoZ 20 30 [.int .i64 w]
theorem Qme (w:Int):QiT w = (let Z0:DO_ := some (D.int .i64 0);bif decide (w < (0:Int)) then Z0 else bif decide ((1099510841343:Int) < w) then Z0 else some (D.int .i64 (bits .i64 (fun (x:Nat) (u v:BitVec x) => u &&& v) (Int.fdiv w (1:Int)) (1048575:Int)))) := by kernel_rfl
theorem Qmf (w:Int) (h:(true) = true):QiT w = some (.int .i64 (bare w)) := by
 (rw [Qme];conv => zeta)
 unfold bare;refine Ze (fun h0 => ?_) fun h0 => Ze (fun h1 => ?_) fun h1 => ?_ <;> simp only [decide_eq_true_eq,decide_eq_false_iff_not] at *
 · rw [Zf (by omega)];rfl
 · rw [Zf (by omega)];rfl
 · rw [Q3 (by omega),Int.fdiv_one,QqI]
noncomputable def Qo0 := QoZ.addSpec 30 QeP
theorem Qgg:Qg Tryz.prog s18 Qo0 := Qgf.addEv Qe fun args d h => by
 unfold QeP at h
 split at h
 · unfold QiS at h;have h1 := congrArg Prod.fst (Option.some.inj h);obtain rfl:_ = d := congrArg Prod.snd (Option.some.inj h);exact ⟨by simp [D.refs],20,Qmf _ h1⟩
 · cases h
theorem and8 (n:Int):bits .i64 (fun _ u v => u &&& v) n 255 = n % 256 := by
 unfold bits;rw [BitVec.toNat_and,Zp,Zp];have e:((255:Int) % 18446744073709551616).toNat = 2 ^ 8 - 1 := by decide
 rw [e,Nat.and_two_pow_sub_one_eq_mod,Qr (by omega) (by omega)]
 omega
def QnG (w:Int):Option (Bool × D RC) := some (true,.int .i64 (Zq w % 256))
def QiU:List (D RC) -> Option (Bool × D RC)
 | [.int .i64 w] => QnG w
 | _ => none
noncomputable def QnH (w:Int) := evF s18 Qo0 20 32 [.int .i64 w]
theorem Qo1 (w:Int):QnH w = (let Z0:DO_ := some (D.int .i64 0);bif decide (w < (0:Int)) then Z0 else bif decide ((1099510841343:Int) < w) then Z0 else some (D.int .i64 (bits .i64 (fun (x:Nat) (u v:BitVec x) => u &&& v) (Int.fdiv w (1:Int)) (255:Int)))) := by kernel_rfl
theorem Qo2 (w:Int) (h:(true) = true):QnH w = some (.int .i64 (Zq w % 256)) := by
 (rw [Qo1];conv => zeta)
 refine Ze (fun h0 => ?_) fun h0 => Ze (fun h1 => ?_) fun h1 => ?_ <;> simp only [decide_eq_true_eq,decide_eq_false_iff_not] at *
 · rw [Zf (by omega)];rfl
 · rw [Zf (by omega)];rfl
 · rw [Q3 (by omega),Int.fdiv_one,and8]
noncomputable def Qo3 := Qo0.addSpec 32 QiU
theorem Qgh:Qg Tryz.prog s18 Qo3 := Qgg.addEv Qe fun args d h => by
 unfold QiU at h
 split at h
 · unfold QnG at h;have h1 := congrArg Prod.fst (Option.some.inj h);obtain rfl:_ = d := congrArg Prod.snd (Option.some.inj h);exact ⟨by simp [D.refs],20,Qo2 _ h1⟩
 · cases h
def Qcx (a:Int) (f:Int) (nd:Bool):Option (Bool × D RC) := some (true,.int .i64 (cellO a f nd))
def Qap:List (D RC) -> Option (Bool × D RC)
 | [.int .i64 a,.int .i64 f,.bool nd] => Qcx a f nd
 | _ => none
noncomputable def Qcy (a:Int) (f:Int) (nd:Bool) := evF s18 Qo3 20 33 [.int .i64 a,.int .i64 f,.bool nd]
theorem Qgi (a:Int) (f:Int) (nd:Bool):Qcy a f nd = (let Z0:Int := bits .i64 (fun (x:Nat) (u v:BitVec x) => u &&& v) a (255:Int);bif decide (a < (0:Int)) then some (D.int .i64 (-1:Int)) else bif nd then some (D.int .i64 (lField (291:Int) Z0 f (160:Int) (3:Int))) else some (D.int .i64 (lField (99:Int) Z0 f (16:Int) (12:Int)))) := by kernel_rfl
theorem Qgj (a:Int) (f:Int) (nd:Bool) (h:(true) = true):Qcy a f nd = some (.int .i64 (cellO a f nd)) := by
 (rw [Qgi];conv => zeta)
 unfold cellO;rw [and8];refine Ze (fun h0 => ?_) fun h0 => ?_ <;> simp only [decide_eq_true_eq,decide_eq_false_iff_not] at h0
 · rw [if_pos h0]
 · rw [if_neg h0];cases nd <;> rfl
noncomputable def Qo4 := Qo3.addSpec 33 Qap
theorem Qgk:Qg Tryz.prog s18 Qo4 := Qgh.addEv Qe fun args d h => by
 unfold Qap at h
 split at h
 · unfold Qcx at h;have h1 := congrArg Prod.fst (Option.some.inj h);obtain rfl:_ = d := congrArg Prod.snd (Option.some.inj h);exact ⟨by simp [D.refs],20,Qgj _ _ _ h1⟩
 · cases h
def Qcz (a:Int) (f:Int) (nd:Bool):Option (Bool × D RC) := some (true,.int .i64 (cellO a f nd))
def Qaq:List (D RC) -> Option (Bool × D RC)
 | [.int .i64 a,.int .i64 f,.bool nd] => Qcz a f nd
 | _ => none
noncomputable def QcA (a:Int) (f:Int) (nd:Bool) := evF s18 Qo4 20 86 [.int .i64 a,.int .i64 f,.bool nd]
theorem Qgl (a:Int) (f:Int) (nd:Bool):QcA a f nd = (let Z0:Int := Int.tmod a (256:Int);bif decide (a < (0:Int)) then some (D.int .i64 (-1:Int)) else bif nd then some (D.int .i64 (lField (291:Int) Z0 f (160:Int) (3:Int))) else some (D.int .i64 (lField (99:Int) Z0 f (16:Int) (12:Int)))) := by kernel_rfl
theorem Qgm (a:Int) (f:Int) (nd:Bool) (h:(true) = true):QcA a f nd = some (.int .i64 (cellO a f nd)) := by
 (rw [Qgl];conv => zeta)
 unfold cellO;refine Ze (fun h0 => ?_) fun h0 => ?_ <;> simp only [decide_eq_true_eq,decide_eq_false_iff_not] at h0
 · rw [if_pos h0]
 · rw [if_neg h0,Qds (by omega)]
   cases nd <;> rfl
noncomputable def Qo5 := Qo4.addSpec 86 Qaq
theorem Qgn:Qg Tryz.prog s18 Qo5 := Qgk.addEv Qe fun args d h => by
 unfold Qaq at h
 split at h
 · unfold Qcz at h;have h1 := congrArg Prod.fst (Option.some.inj h);obtain rfl:_ = d := congrArg Prod.snd (Option.some.inj h);exact ⟨by simp [D.refs],20,Qgm _ _ _ h1⟩
 · cases h
open Go.Proofs
def QcB :Option (Bool × D RC) := some (true,.bool true)
def Qar:List (D RC) -> Option (Bool × D RC)
 | [] => QcB 
 | _ => none
noncomputable def QiV  := evF s18 Qo5 400 5 []
theorem Qgo  (h:(true) = true):QiV  = some (.bool true) := by
 kernel_rfl
noncomputable def uw_1 := Qo5.addSpec 5 Qar
theorem QiW:Qg Tryz.prog s18 uw_1 := Qgn.addEv Qe fun args d h => by
 unfold Qar at h
 split at h
 · unfold QcB at h;have h1 := congrArg Prod.fst (Option.some.inj h);obtain rfl:_ = d := congrArg Prod.snd (Option.some.inj h);exact ⟨by simp [D.refs],400,Qgo  h1⟩
 · cases h
open Go.Proofs
def QnI (k:Int) (a:Int) (b:Int) (v:Int) (g:Int) (tx:List UInt8) (c:Bool) (ar:List Int):Option (Bool × D RC) := some (decide (0 <= k /\ k <= 7) && (Qd tx.length && Qd ar.length),.bool (ZS k a b v g tx ar))
def QiX:List (D RC) -> Option (Bool × D RC)
 | [.acons (.int .i8 k) (.acons (.int .i64 a) (.acons (.int .i64 b) (.acons (.int .i64 v) (.acons (.int .i64 g) (.acons (.str tx) (.acons (.sl .int c ar) .anil))))))] => QnI k a b v g tx c ar
 | _ => none
noncomputable def ZN (k:Int) (a:Int) (b:Int) (v:Int) (g:Int) (tx:List UInt8) (c:Bool) (ar:List Int) := evF s18 uw_1 100 74 [.acons (.int .i8 k) (.acons (.int .i64 a) (.acons (.int .i64 b) (.acons (.int .i64 v) (.acons (.int .i64 g) (.acons (.str tx) (.acons (.sl (C := RC) .int c ar) .anil))))))]
theorem Qmg (a b v g:Int) (tx:List UInt8) (c:Bool) (ar:List Int):ZN 0 a b v g tx c ar = (let Z0:Int := (-1:Int);let Z1:DO_ := some (D.bool false);let Z2:Bool := Qd ar.length;let Z3:Int := (↑ar.length:Int);let Z4:DO_ := bif tx == Array.toList #[] then bif Z2 then bif Z3 == (0:Int) then some (D.bool true) else Z1 else none else Z1;let Z5:DO_ := bif b == (0:Int) then bif v == (0:Int) then bif g == (0:Int) then Z4 else Z4 else Z1 else Z1;bif decide (b < Z0) then Z1 else bif decide ((1152921504606846976:Int) < b) then Z1 else bif decide (v < Z0) then Z1 else bif decide ((1152921504606846976:Int) < v) then Z1 else bif decide (g < Z0) then Z1 else bif decide ((1152921504606846976:Int) < g) then Z1 else bif Z2 then bif decide ((96:Int) < Z3) then Z1 else bif Qd tx.length then bif decide ((640:Int) < (↑tx.length:Int)) then Z1 else bif decide (a < (0:Int)) then Z1 else bif decide ((4095:Int) < a) then Z1 else bif a == (0:Int) then Z5 else Z5 else none else none) := by kernel_rfl
theorem Qmh (a b v g:Int) (tx:List UInt8) (c:Bool) (ar:List Int):ZN 1 a b v g tx c ar = (let Z0:Int := (-1:Int);let Z1:DO_ := some (D.bool false);let Z2:Bool := Qd ar.length;let Z3:Int := (↑ar.length:Int);let Z4:DO_ := bif tx == Array.toList #[] then bif Z2 then bif Z3 == (0:Int) then some (D.bool true) else Z1 else none else Z1;let Z5:DO_ := bif g == (0:Int) then Z4 else Z4;let Z6:DO_ := bif b == (0:Int) then bif v == (0:Int) then Z5 else Z5 else Z1;bif decide (b < Z0) then Z1 else bif decide ((1152921504606846976:Int) < b) then Z1 else bif decide (v < Z0) then Z1 else bif decide ((1152921504606846976:Int) < v) then Z1 else bif decide (g < Z0) then Z1 else bif decide ((1152921504606846976:Int) < g) then Z1 else bif Z2 then bif decide ((96:Int) < Z3) then Z1 else bif Qd tx.length then bif decide ((640:Int) < (↑tx.length:Int)) then Z1 else bif decide (a < (0:Int)) then Z1 else bif decide ((4095:Int) < a) then Z1 else bif a == (0:Int) then Z6 else Z6 else none else none) := by kernel_rfl
theorem Qmi (a b v g:Int) (tx:List UInt8) (c:Bool) (ar:List Int):ZN 2 a b v g tx c ar = (let Z0:Int := (-1:Int);let Z1:DO_ := some (D.bool false);let Z2:Bool := Qd ar.length;let Z3:Int := (↑ar.length:Int);let Z4:DO_ := bif tx == Array.toList #[] then bif Z2 then bif Z3 == (0:Int) then some (D.bool true) else Z1 else none else Z1;let Z5:DO_ := bif g == (0:Int) then Z4 else Z4;let Z6:DO_ := bif v == (0:Int) then Z5 else Z5;let Z7:DO_ := bif b == (0:Int) then Z6 else Z6;bif decide (b < Z0) then Z1 else bif decide ((1152921504606846976:Int) < b) then Z1 else bif decide (v < Z0) then Z1 else bif decide ((1152921504606846976:Int) < v) then Z1 else bif decide (g < Z0) then Z1 else bif decide ((1152921504606846976:Int) < g) then Z1 else bif Z2 then bif decide ((96:Int) < Z3) then Z1 else bif Qd tx.length then bif decide ((640:Int) < (↑tx.length:Int)) then Z1 else bif decide (a < (0:Int)) then Z1 else bif decide ((4095:Int) < a) then Z1 else bif a == (0:Int) then Z7 else Z7 else none else none) := by kernel_rfl
theorem Qmj (a b v g:Int) (tx:List UInt8) (c:Bool) (ar:List Int):ZN 3 a b v g tx c ar = (let Z0:Int := (-1:Int);let Z1:DO_ := some (D.bool false);let Z2:Bool := Qd ar.length;let Z3:Int := (↑ar.length:Int);let Z4:DO_ := bif g == (0:Int) then bif tx == Array.toList #[] then bif Z2 then bif Z3 == (0:Int) then some (D.bool true) else Z1 else none else Z1 else Z1;let Z5:DO_ := bif b == (0:Int) then bif v == (0:Int) then Z4 else Z4 else Z1;bif decide (b < Z0) then Z1 else bif decide ((1152921504606846976:Int) < b) then Z1 else bif decide (v < Z0) then Z1 else bif decide ((1152921504606846976:Int) < v) then Z1 else bif decide (g < Z0) then Z1 else bif decide ((1152921504606846976:Int) < g) then Z1 else bif Z2 then bif decide ((96:Int) < Z3) then Z1 else bif Qd tx.length then bif decide ((640:Int) < (↑tx.length:Int)) then Z1 else bif decide (a < (0:Int)) then Z1 else bif decide ((4095:Int) < a) then Z1 else bif a == (0:Int) then Z5 else Z5 else none else none) := by kernel_rfl
theorem Qmk (a b v g:Int) (tx:List UInt8) (c:Bool) (ar:List Int):ZN 4 a b v g tx c ar = (let Z0:Int := (-1:Int);let Z1:DO_ := some (D.bool false);let Z2:Bool := Qd ar.length;let Z3:Int := (↑ar.length:Int);let Z4:DO_ := bif Z2 then bif Z3 == (0:Int) then some (D.bool true) else Z1 else none;let Z5:DO_ := bif v == (0:Int) then bif g == (0:Int) then bif tx == Array.toList #[] then Z4 else Z4 else Z1 else Z1;let Z6:DO_ := bif b == (0:Int) then Z5 else Z5;bif decide (b < Z0) then Z1 else bif decide ((1152921504606846976:Int) < b) then Z1 else bif decide (v < Z0) then Z1 else bif decide ((1152921504606846976:Int) < v) then Z1 else bif decide (g < Z0) then Z1 else bif decide ((1152921504606846976:Int) < g) then Z1 else bif Z2 then bif decide ((96:Int) < Z3) then Z1 else bif Qd tx.length then bif decide ((640:Int) < (↑tx.length:Int)) then Z1 else bif decide (a < (0:Int)) then Z1 else bif decide ((4095:Int) < a) then Z1 else bif a == (0:Int) then Z6 else Z6 else none else none) := by kernel_rfl
theorem Qml (a b v g:Int) (tx:List UInt8) (c:Bool) (ar:List Int):ZN 5 a b v g tx c ar = (let Z0:Int := (-1:Int);let Z1:DO_ := some (D.bool false);let Z2:Bool := Qd ar.length;let Z3:Int := (↑ar.length:Int);bif decide (b < Z0) then Z1 else bif decide ((1152921504606846976:Int) < b) then Z1 else bif decide (v < Z0) then Z1 else bif decide ((1152921504606846976:Int) < v) then Z1 else bif decide (g < Z0) then Z1 else bif decide ((1152921504606846976:Int) < g) then Z1 else bif Z2 then bif decide ((96:Int) < Z3) then Z1 else bif Qd tx.length then bif decide ((640:Int) < (↑tx.length:Int)) then Z1 else bif decide (a < (0:Int)) then Z1 else bif decide ((4095:Int) < a) then Z1 else bif a == (0:Int) then bif b == (0:Int) then bif v == (0:Int) then bif g == (0:Int) then bif tx == Array.toList #[] then bif Z2 then bif Z3 == (0:Int) then some (D.bool true) else Z1 else none else Z1 else Z1 else Z1 else Z1 else Z1 else none else none) := by kernel_rfl
theorem Qmm (a b v g:Int) (tx:List UInt8) (c:Bool) (ar:List Int):ZN 6 a b v g tx c ar = (let Z0:Int := (-1:Int);let Z1:DO_ := some (D.bool false);let Z2:Bool := Qd ar.length;let Z3:Int := (↑ar.length:Int);let Z4:DO_ := bif b == (0:Int) then bif v == (0:Int) then bif g == (0:Int) then bif tx == Array.toList #[] then bif Z2 then bif Z3 == (0:Int) then some (D.bool true) else some (D.bool true) else none else Z1 else Z1 else Z1 else Z1;bif decide (b < Z0) then Z1 else bif decide ((1152921504606846976:Int) < b) then Z1 else bif decide (v < Z0) then Z1 else bif decide ((1152921504606846976:Int) < v) then Z1 else bif decide (g < Z0) then Z1 else bif decide ((1152921504606846976:Int) < g) then Z1 else bif Z2 then bif decide ((96:Int) < Z3) then Z1 else bif Qd tx.length then bif decide ((640:Int) < (↑tx.length:Int)) then Z1 else bif decide (a < (0:Int)) then Z1 else bif decide ((4095:Int) < a) then Z1 else bif decide ((127:Int) < a) then Z1 else bif a == (0:Int) then Z4 else Z4 else none else none) := by kernel_rfl
theorem Qmn (a b v g:Int) (tx:List UInt8) (c:Bool) (ar:List Int):ZN 7 a b v g tx c ar = (let Z0:Int := (-1:Int);let Z1:DO_ := some (D.bool false);let Z2:Bool := Qd ar.length;let Z3:Int := (↑ar.length:Int);bif decide (b < Z0) then Z1 else bif decide ((1152921504606846976:Int) < b) then Z1 else bif decide (v < Z0) then Z1 else bif decide ((1152921504606846976:Int) < v) then Z1 else bif decide (g < Z0) then Z1 else bif decide ((1152921504606846976:Int) < g) then Z1 else bif Z2 then bif decide ((96:Int) < Z3) then Z1 else bif Qd tx.length then bif decide ((640:Int) < (↑tx.length:Int)) then Z1 else bif decide (a < (0:Int)) then Z1 else bif decide ((4095:Int) < a) then Z1 else bif a == (0:Int) then bif b == (0:Int) then bif v == (0:Int) then bif g == (0:Int) then bif tx == Array.toList #[] then bif Z2 then bif Z3 == (0:Int) then some (D.bool true) else some (D.bool true) else none else Z1 else Z1 else Z1 else Z1 else Z1 else none else none) := by kernel_rfl
theorem Qo6 (a b v g:Int) (tx:List UInt8) (c:Bool) (ar:List Int) (h1:Qd tx.length = true) (h2:Qd ar.length = true):ZN 0 a b v g tx c ar = some (.bool (ZS 0 a b v g tx ar)) := by
 (rw [Qmg];conv => zeta)
 simp only [h1,h2,cond_true];clear h1 h2
 repeat' (first | refine cdD (fun hc => ?_) fun hc => ?_ | refine cdE (fun hc => ?_) fun hc => ?_ | refine cdS (fun hc => ?_) fun hc => ?_)
 all_goals first | exact Qcl (MayA.k0.2 (by omega)) | exact Qcm (fun q => by have q := MayA.k0.1 q;omega)
theorem Qo7 (a b v g:Int) (tx:List UInt8) (c:Bool) (ar:List Int) (h1:Qd tx.length = true) (h2:Qd ar.length = true):ZN 1 a b v g tx c ar = some (.bool (ZS 1 a b v g tx ar)) := by
 (rw [Qmh];conv => zeta)
 simp only [h1,h2,cond_true];clear h1 h2
 repeat' (first | refine cdD (fun hc => ?_) fun hc => ?_ | refine cdE (fun hc => ?_) fun hc => ?_ | refine cdS (fun hc => ?_) fun hc => ?_)
 all_goals first | exact Qcl (MayA.k1.2 (by omega)) | exact Qcm (fun q => by have q := MayA.k1.1 q;omega)
theorem Qo8 (a b v g:Int) (tx:List UInt8) (c:Bool) (ar:List Int) (h1:Qd tx.length = true) (h2:Qd ar.length = true):ZN 2 a b v g tx c ar = some (.bool (ZS 2 a b v g tx ar)) := by
 (rw [Qmi];conv => zeta)
 simp only [h1,h2,cond_true];clear h1 h2
 repeat' (first | refine cdD (fun hc => ?_) fun hc => ?_ | refine cdE (fun hc => ?_) fun hc => ?_ | refine cdS (fun hc => ?_) fun hc => ?_)
 all_goals first | exact Qcl (MayA.k2.2 (by omega)) | exact Qcm (fun q => by have q := MayA.k2.1 q;omega)
theorem Qo9 (a b v g:Int) (tx:List UInt8) (c:Bool) (ar:List Int) (h1:Qd tx.length = true) (h2:Qd ar.length = true):ZN 3 a b v g tx c ar = some (.bool (ZS 3 a b v g tx ar)) := by
 (rw [Qmj];conv => zeta)
 simp only [h1,h2,cond_true];clear h1 h2
 repeat' (first | refine cdD (fun hc => ?_) fun hc => ?_ | refine cdE (fun hc => ?_) fun hc => ?_ | refine cdS (fun hc => ?_) fun hc => ?_)
 all_goals first | exact Qcl (MayA.k3.2 (by omega)) | exact Qcm (fun q => by have q := MayA.k3.1 q;omega)
theorem Qpa (a b v g:Int) (tx:List UInt8) (c:Bool) (ar:List Int) (h1:Qd tx.length = true) (h2:Qd ar.length = true):ZN 4 a b v g tx c ar = some (.bool (ZS 4 a b v g tx ar)) := by
 (rw [Qmk];conv => zeta)
 simp only [h1,h2,cond_true];clear h1 h2
 repeat' (first | refine cdD (fun hc => ?_) fun hc => ?_ | refine cdE (fun hc => ?_) fun hc => ?_ | refine cdS (fun hc => ?_) fun hc => ?_)
 all_goals first | exact Qcl (MayA.k4.2 (by omega)) | exact Qcm (fun q => by have q := MayA.k4.1 q;omega)
theorem Qpb (a b v g:Int) (tx:List UInt8) (c:Bool) (ar:List Int) (h1:Qd tx.length = true) (h2:Qd ar.length = true):ZN 5 a b v g tx c ar = some (.bool (ZS 5 a b v g tx ar)) := by
 (rw [Qml];conv => zeta)
 simp only [h1,h2,cond_true];clear h1 h2
 repeat' (first | refine cdD (fun hc => ?_) fun hc => ?_ | refine cdE (fun hc => ?_) fun hc => ?_ | refine cdS (fun hc => ?_) fun hc => ?_)
 all_goals first | exact Qcl (MayA.k5.2 (by omega)) | exact Qcm (fun q => by have q := MayA.k5.1 q;omega)
theorem Qpc (a b v g:Int) (tx:List UInt8) (c:Bool) (ar:List Int) (h1:Qd tx.length = true) (h2:Qd ar.length = true):ZN 6 a b v g tx c ar = some (.bool (ZS 6 a b v g tx ar)) := by
 (rw [Qmm];conv => zeta)
 simp only [h1,h2,cond_true];clear h1 h2
 repeat' (first | refine cdD (fun hc => ?_) fun hc => ?_ | refine cdE (fun hc => ?_) fun hc => ?_ | refine cdS (fun hc => ?_) fun hc => ?_)
 all_goals first | exact Qcl (MayA.k6.2 (by omega)) | exact Qcm (fun q => by have q := MayA.k6.1 q;omega)
theorem Qpd (a b v g:Int) (tx:List UInt8) (c:Bool) (ar:List Int) (h1:Qd tx.length = true) (h2:Qd ar.length = true):ZN 7 a b v g tx c ar = some (.bool (ZS 7 a b v g tx ar)) := by
 (rw [Qmn];conv => zeta)
 simp only [h1,h2,cond_true];clear h1 h2
 repeat' (first | refine cdD (fun hc => ?_) fun hc => ?_ | refine cdE (fun hc => ?_) fun hc => ?_ | refine cdS (fun hc => ?_) fun hc => ?_)
 all_goals first | exact Qcl (MayA.k7.2 (by omega)) | exact Qcm (fun q => by have q := MayA.k7.1 q;omega)
theorem Qpe (k:Int) (a:Int) (b:Int) (v:Int) (g:Int) (tx:List UInt8) (c:Bool) (ar:List Int) (h:(decide (0 <= k /\ k <= 7) && (Qd tx.length && Qd ar.length)) = true):ZN k a b v g tx c ar = some (.bool (ZS k a b v g tx ar)) := by
 rw [Bool.and_eq_true,Bool.and_eq_true,decide_eq_true_eq] at h;obtain ⟨h0,h1,h2⟩ := h;have hs:((((((k = 0 \/ k = 1) \/ k = 2) \/ k = 3) \/ k = 4) \/ k = 5) \/ k = 6) \/ k = 7 := by omega
 rcases hs with ((((((rfl | rfl) | rfl) | rfl) | rfl) | rfl) | rfl) | rfl
 · exact Qo6 a b v g tx c ar h1 h2
 · exact Qo7 a b v g tx c ar h1 h2
 · exact Qo8 a b v g tx c ar h1 h2
 · exact Qo9 a b v g tx c ar h1 h2
 · exact Qpa a b v g tx c ar h1 h2
 · exact Qpb a b v g tx c ar h1 h2
 · exact Qpc a b v g tx c ar h1 h2
 · exact Qpd a b v g tx c ar h1 h2
noncomputable def ub_1 := uw_1.addSpec 74 QiX
theorem QiY:Qg Tryz.prog s18 ub_1 := QiW.addEv Qe fun args d h => by
 unfold QiX at h
 split at h
 · unfold QnI at h;have h1 := congrArg Prod.fst (Option.some.inj h);obtain rfl:_ = d := congrArg Prod.snd (Option.some.inj h);exact ⟨by simp [D.refs],100,Qpe _ _ _ _ _ _ _ _ h1⟩
 · cases h
open Go.Proofs
def Jg (l:List Int) (i:Nat):List Int := l.take i ++ List.replicate (96 - i) 0
theorem JC {l:List Int} {i:Nat} (h:i <= l.length) (h2:l.length <= 96):(Jg l i).length = 96 := by
 simp only [Jg,List.length_append,List.length_take,List.length_replicate];omega
theorem Qgp {l:List Int} {i:Nat} (h:i < l.length) (h2:l.length <= 96) (d:Int):(Jg l i).set i (l.getD i d) = Jg l (i + 1) := by
 apply List.ext_getElem
 · rw [List.length_set,JC (by omega) h2,JC (by omega) h2]
 · intro n h3 h4;rw [JC (by omega) h2] at h4
   rw [List.getElem_set];have e:l.getD i d = l[i] := by simp [h]
   simp only [Jg,List.getElem_append,List.length_take,List.getElem_take,List.getElem_replicate]
   split
   · rename_i q;subst q;rw [e,dif_pos (by omega)]
   · split <;> split <;> first | rfl | omega
theorem Qgq {l:List Int}:Jg l l.length = regs1 l := by
 unfold Jg regs1;rw [List.take_length]
structure QcC where
 c:Bool
 l:List Int
 p:Int
 r:List Int
 i:Nat
def Qa7 (c:Bool) (l:List Int) (p:Int) (r:List Int) (i:Nat):Env RC := [(1,.sl (C := RC) .int c l),(5,.ptr 0 []),(6,.int .i64 (i:Int))]
def VE (c:Bool) (l:List Int) (p:Int) (r:List Int) (i:Nat):List (Obj RC) := [.var 92 (.acons (.int .i8 p) (.acons (.int .i64 0) (.acons (.arr (C := RC) .int 96 r) .anil)))]
noncomputable def QeQ (c:Bool) (l:List Int) (p:Int) (r:List Int) (i:Nat) := rndO s18 ub_1 54 3 40 1 [1,5,6] [] [.slot 5 0] (Qa7 c l p r i) (VE c l p r i)
theorem QiZ (c:Bool) (l:List Int) (p:Int) (r:List Int) (i:Nat):QeQ c l p r i = (let Z0:Int := (↑i:Int);let Z1:D RC := D.int .i64 0;bif Qd l.length then bif decide (Z0 < (↑l.length:Int)) then bif decide ((0:Int) <= Z0 /\ Z0 < (↑l.length:Int)) then bif decide ((0:Int) <= Z0 /\ Z0 < (96:Int)) then some ((X.normal,[(1,D.sl RTy.int c l),(5,D.ptr 0 []),(6,D.int .i64 (IntKind.wrap .i64 (Z0 + (1:Int))))]),[some (Obj.var 92 (.acons (D.int IntKind.i8 p) (.acons Z1 (D.acons (D.arr RTy.int (96:Nat) (List.set r Z0.toNat (List.getD l Z0.toNat (0:Int)))) .anil))))]) else none else none else some ((X.exit (0:Nat),[]),[some (Obj.var 92 (.acons (D.int IntKind.i8 p) (.acons Z1 (D.acons (D.arr RTy.int (96:Nat) r) .anil))))]) else none) := by kernel_rfl
def Qas (c:Bool) (l:List Int) (p:Int) (r:List Int) (i:Nat):RT RC := .leaf (.exit 0) [] (VE c l p (regs1 l) i)
def Yz (c:Bool) (l:List Int) (p:Int) (r:List Int) (i:Nat):Prop := i <= l.length /\ l.length <= 96 /\ r = Jg l i
def YW:QU RC QcC where
 k := 1
 canon q := Qa7 q.c q.l q.p q.r q.i
 objs q := VE q.c q.l q.p q.r q.i
 fin q := Qas q.c q.l q.p q.r q.i
 Inv q := Yz q.c q.l q.p q.r q.i
 μ q := q.l.length - q.i
theorem QcD (c:Bool) (l:List Int) (p:Int) (r:List Int) (i:Nat) (hI:Yz c l p r i):Leaf (QeQ c l p r i) (LedR YW ⟨c,l,p,r,i⟩) := by
 (rw [QiZ];conv => zeta)
 unfold Yz at hI;obtain ⟨h1,h2,rfl⟩ := hI;have hlk := Qq (n := l.length) (by omega)
 by_cases hlt:i < l.length
 · have w_succ:IntKind.i64.wrap ((i:Int) + 1) = ((i + 1:Nat):Int) := by rw [Qr (by omega) (by omega)];simp
   have d_lt:decide ((i:Int) < l.length) = true := by simp;omega
   have d_in:decide (0 <= (i:Int) /\ (i:Int) < l.length) = true := by simp;omega
   have t_nat:((i:Int)).toNat = i := by simp
   simp only [w_succ,d_lt,d_in,t_nat,cond_true];have d1:decide (0 <= (i:Int) /\ (i:Int) < 96) = true := decide_eq_true ⟨by omega,by omega⟩
   simp only [hlk,d1,cond_true,Qgp hlt h2];exact QP (S := YW) ⟨c,l,p,Jg l (i + 1),i + 1⟩ ⟨hlt,h2,rfl⟩ (by simp only [YW];omega) rfl rfl rfl
 · have hi:i = l.length := by omega
   have c1:decide ((i:Int) < l.length) = false := by simp;omega
   rw [hlk,c1];simp only [cond_true,cond_false];exact QC (VE c l p (regs1 l) i) rfl (by rw [hi,Qgq];rfl)
def Qa8 (env:Env RC) (os:List (Obj RC)):Option (Bool × QcC) := match env,os with
 | [(1,.sl .int c l),(5,.ptr 0 []),(6,.int .i64 x0)],[.var 92 (.acons (.int .i8 p) (.acons (.int .i64 0) (.acons (.arr .int 96 r) .anil)))] => QN (true) (decide (x0 = 0) && decide (l.length <= 96) && decide (r = List.replicate 96 0),⟨c,l,p,r,0⟩)
 | _,_ => none
noncomputable def uc_1 := ub_1.addLoop 54 3 (sumR s18 [.slot 5 0] [1,5,6] YW Qa8)
theorem Qi0:Qg Tryz.prog s18 uc_1 := by
 refine QiY.addRoundsR Qe (by kernel_rfl) YW 40 [1,5,6] [] [.slot 5 0] [1,5,6] Qa8 (fun q hI => ?_) ?_
 · obtain ⟨c,l,p,r,i⟩ := q;refine ⟨?_,?_,QcD c l p r i hI⟩
   · simp_all [Ql,YW,Qa7,VE,Yz,D.refs,Obj.refs,rEnc]
   · simp_all [YW,Qas,VE,Yz,RT.refsOK,Ql,D.refs,Obj.refs,rEnc]
 · intro env os b q hd_ hb;unfold Qa8 at hd_
   split at hd_
   · obtain ⟨hs,hd_⟩ := Qi hd_;cases hd_;simp only [Bool.and_eq_true,decide_eq_true_eq] at hb;obtain ⟨⟨e0,e1⟩,e2⟩ := hb;subst e0;exact ⟨⟨Nat.zero_le _,e1,e2⟩,rfl,rfl⟩
   · cases hd_
def Qi1 (p:Int) (c:Bool) (l:List Int):Option (Bool × D RC) := some (decide (l.length <= 96),.acons (.int .i8 p) (.acons (.int .i64 0) (.acons (.arr (C := RC) .int 96 (regs1 l)) .anil)))
def QeR:List (D RC) -> Option (Bool × D RC)
 | [.int .i8 p,.sl .int c l] => Qi1 p c l
 | _ => none
noncomputable def Qi2 (p:Int) (c:Bool) (l:List Int) := evF s18 uc_1 60 54 [.int .i8 p,.sl (C := RC) .int c l]
theorem Qmo (p:Int) (c:Bool) (l:List Int):Qi2 p c l = (bif decide (List.length l <= (96:Nat)) && true then some (D.acons (D.int IntKind.i8 p) (.acons (D.int .i64 0) (.acons (D.arr RTy.int (96:Nat) (regs1 l)) .anil))) else none) := by kernel_rfl
theorem Qmp (p:Int) (c:Bool) (l:List Int) (h:(decide (l.length <= 96)) = true):Qi2 p c l = some (.acons (.int .i8 p) (.acons (.int .i64 0) (.acons (.arr (C := RC) .int 96 (regs1 l)) .anil))) := by
 rw [Qmo];simp only [h,decide_true,Bool.and_self,cond_true]
noncomputable def uc_2 := uc_1.addSpec 54 QeR
theorem Qi3:Qg Tryz.prog s18 uc_2 := Qi0.addEv Qe fun args d h => by
 unfold QeR at h
 split at h
 · unfold Qi1 at h;have h1 := congrArg Prod.fst (Option.some.inj h);obtain rfl:_ = d := congrArg Prod.snd (Option.some.inj h);exact ⟨by simp [D.refs],60,Qmp _ _ _ h1⟩
 · cases h
def frmR (f:Frame):D RC := .acons (.int .i8 f.prog) (.acons (.int .i64 f.at') (.acons (.arr (C := RC) .int 96 f.r) .anil))
def actR (a:Qb) (fl:Bool):D RC := .acons (.int .i8 a.kind) (.acons (.int .i64 a.a) (.acons (.int .i64 a.b) (.acons (.int .i64 a.v) (.acons (.int .i64 a.gen) (.acons (.str a.text) (.acons (.sl (C := RC) .int fl a.args) .anil))))))
def QnJ (c:Int) (p:Int) (ca:Bool) (l:List Int):Option (Bool × D RC) := some (decide (0 <= c /\ c <= 3 /\ 0 <= p /\ l.length <= 96),.tup (.acons (.acons (.int .i64 c) (.acons (.sl (C := RC) .frame true [⟨p,0,regs1 l⟩]) (.acons (.sl (C := RC) .int true []) (.acons (.bool false) .anil)))) (.acons (.int .i64 0) .anil)))
def Qi4:List (D RC) -> Option (Bool × D RC)
 | [.int .i64 c,.int .i8 p,.sl .int ca l] => QnJ c p ca l
 | _ => none
noncomputable def QnK (c:Int) (p:Int) (ca:Bool) (l:List Int) := evF s18 uc_2 60 36 [.int .i64 c,.int .i8 p,.sl (C := RC) .int ca l]
theorem Qpf (c:Int) (p:Int) (ca:Bool) (l:List Int):QnK c p ca l = (let Z0:D RC := D.int .i64 0;let Z1:D RC := D.acons (D.sl RTy.int true []) (.acons (D.bool false) .anil);let Z2:DO_ := some (D.tup (D.acons (D.acons Z0 (D.acons (D.sl RTy.frame true []) Z1)) (.acons (D.int .i64 2) .anil)));let Z3:Nat := List.length l;bif decide (c < (0:Int)) then Z2 else bif decide ((4:Int) <= c) then Z2 else bif decide (p < (0:Int)) then Z2 else bif Qd Z3 then bif decide ((96:Int) < (↑Z3:Int)) then Z2 else bif decide (Z3 <= (96:Nat)) then some (D.tup (D.acons (D.acons (D.int .i64 c) (.acons (D.sl RTy.frame true [Frame.mk p (0:Int) (regs1 l)]) Z1)) (.acons Z0 .anil))) else none else none) := by kernel_rfl
theorem Qpg (c:Int) (p:Int) (ca:Bool) (l:List Int) (h:(decide (0 <= c /\ c <= 3 /\ 0 <= p /\ l.length <= 96)) = true):QnK c p ca l = some (.tup (.acons (.acons (.int .i64 c) (.acons (.sl (C := RC) .frame true [⟨p,0,regs1 l⟩]) (.acons (.sl (C := RC) .int true []) (.acons (.bool false) .anil)))) (.acons (.int .i64 0) .anil))) := by
 (rw [Qpf];conv => zeta)
 rw [decide_eq_true_eq] at h;have c1:decide (c < 0) = false := decide_eq_false (by omega)
 have c2:decide (4 <= c) = false := decide_eq_false (by omega)
 have c3:decide (p < 0) = false := decide_eq_false (by omega)
 have c4:decide ((96:Int) < (l.length:Int)) = false := decide_eq_false (by omega)
 have c5:Qd l.length = true := Qq (by omega)
 have c6:decide (l.length <= 96) = true := decide_eq_true (by omega)
 simp only [c1,c2,c3,c4,c5,c6,cond_true,cond_false]
noncomputable def uc_3 := uc_2.addSpec 36 Qi4
theorem Qi5:Qg Tryz.prog s18 uc_3 := Qi3.addEv Qe fun args d h => by
 unfold Qi4 at h
 split at h
 · unfold QnJ at h;have h1 := congrArg Prod.fst (Option.some.inj h);obtain rfl:_ = d := congrArg Prod.snd (Option.some.inj h);exact ⟨by simp [D.refs],60,Qpg _ _ _ _ h1⟩
 · cases h
def QnL (c:Int) (fs:Bool) (st:List Frame) (e:Bool) (got:List Int) (over:Bool):Option (Bool × D RC) := some (Qd st.length,.tup (.acons (.acons (.int .i8 (topF st).prog) (.acons (.int .i64 (topF st).at') (.acons (.arr (C := RC) .int 96 (topF st).r) .anil))) (.acons (.bool (decide (st ≠ []))) .anil)))
def Qi6:List (D RC) -> Option (Bool × D RC)
 | [.acons (.int .i64 c) (.acons (.sl .frame fs st) (.acons (.sl .int e got) (.acons (.bool over) .anil)))] => QnL c fs st e got over
 | _ => none
noncomputable def QnM (c:Int) (fs:Bool) (st:List Frame) (e:Bool) (got:List Int) (over:Bool) := evF s18 uc_3 40 39 [.acons (.int .i64 c) (.acons (.sl (C := RC) .frame fs st) (.acons (.sl (C := RC) .int e got) (.acons (.bool over) .anil)))]
theorem Qph (c:Int) (fs:Bool) (st:List Frame) (e:Bool) (got:List Int) (over:Bool):QnM c fs st e got over = (let Z0:Bool := Qd st.length;let Z1:Int := (↑st.length:Int);let Z2:List Int := List.replicate (96:Nat) (0:Int);let Z3:Int := IntKind.wrap .i64 (Z1 - (1:Int));let Z4:Frame := List.getD st Z3.toNat (Frame.mk (0:Int) (0:Int) Z2);bif Z0 then bif Z1 == (0:Int) then some (D.tup (D.acons (D.acons (D.int IntKind.i8 (0:Int)) (.acons (D.int .i64 0) (.acons (D.arr RTy.int (96:Nat) Z2) .anil))) (.acons (D.bool false) .anil))) else bif Z0 then bif decide ((0:Int) <= Z3 /\ Z3 < Z1) then some (D.tup (D.acons (D.acons (D.int IntKind.i8 (Frame.prog Z4)) (.acons (D.int .i64 (Frame.at' Z4)) (.acons (D.arr RTy.int (96:Nat) (Frame.r Z4)) .anil))) (.acons (D.bool true) .anil))) else none else none else none) := by kernel_rfl
theorem Qpi (c:Int) (fs:Bool) (st:List Frame) (e:Bool) (got:List Int) (over:Bool) (h:(Qd st.length) = true):QnM c fs st e got over = some (.tup (.acons (.acons (.int .i8 (topF st).prog) (.acons (.int .i64 (topF st).at') (.acons (.arr (C := RC) .int 96 (topF st).r) .anil))) (.acons (.bool (decide (st ≠ []))) .anil))) := by
 (rw [Qph];conv => zeta)
 simp only [h,cond_true]
 by_cases e:st = []
 · subst e;rfl
 · have l0:1 <= st.length := List.length_pos_iff.2 e;have l1:st.length <= 9223372036854775807 := V6 h;have c1:(((st.length:Nat):Int) == 0) = false := QoF (by omega)
   have w1:IntKind.i64.wrap ((st.length:Int) - 1) = (st.length:Int) - 1 := Qr (by omega) (by omega)
   have t1:((st.length:Int) - 1).toNat = st.length - 1 := by omega
   have d1:decide (0 <= (st.length:Int) - 1 /\ (st.length:Int) - 1 < (st.length:Int)) = true := decide_eq_true ⟨by omega,by omega⟩
   have e1:st.getD (st.length - 1) ⟨0,0,List.replicate 96 0⟩ = topF st := by
    unfold topF frm0;rw [List.getLastD_eq_getLast?,List.getLast?_eq_getElem?,List.getD_eq_getElem?_getD]
   simp only [c1,w1,t1,d1,e1,cond_true,cond_false,decide_eq_true (show st ≠ [] from e)]
noncomputable def uc_4 := uc_3.addSpec 39 Qi6
theorem Qi7:Qg Tryz.prog s18 uc_4 := Qi5.addEv Qe fun args d h => by
 unfold Qi6 at h
 split at h
 · unfold QnL at h;have h1 := congrArg Prod.fst (Option.some.inj h);obtain rfl:_ = d := congrArg Prod.snd (Option.some.inj h);exact ⟨by simp [D.refs],40,Qpi _ _ _ _ _ _ h1⟩
 · cases h
theorem Qpj {n:Int} (h1:0 <= n) (h2:n <= 127):IntKind.i8.wrap n = n := by
 simp only [IntKind.wrap,IntKind.bits,IntKind.signed];simp;omega
def OkTk (c:Int) (st:List Frame) (got:List Int) (a:Qb):Prop := 0 <= c /\ c <= 3 /\ got.length <= 96 /\ 1 <= st.length /\ st.length <= 6 /\ mayN a = true /\ 0 <= a.kind /\ a.kind <= 7 /\ (a.kind = 6 -> st.length < 6)
theorem Qmq {a:Qb} (h:mayN a = true):a.text.length <= 640 /\ a.args.length <= 96 /\ 0 <= a.a /\ a.a <= 4095 /\ (a.kind = 6 -> a.a <= 127) := by
 have h := of_decide_eq_true h;have h2 := h;obtain ⟨_,_,_,_,_,_,h3,h4,h5,h6,h7⟩ := h;refine ⟨h4,h3,h5,h6,fun e => ?_⟩;rw [e] at h2;exact (MayA.k6.1 h2).2.1
noncomputable def Qi8 (c:Int) (fs:Bool) (st:List Frame) (e:Bool) (got:List Int) (over:Bool) (p:Int) (at':Int) (r:List Int) (k:Int) (a:Int) (b:Int) (v:Int) (g:Int) (tx:List UInt8) (ca:Bool) (ar:List Int):Option (Bool × D RC) := some (cdec (OkTk c st got ⟨k,a,b,v,g,tx,ar⟩) && !over,.tup (.acons (.acons (.int .i64 c) (.acons (.sl (C := RC) .frame false (tkSt st ⟨p,at',r⟩ ⟨k,a,b,v,g,tx,ar⟩)) (.acons (.sl (C := RC) .int (tkFl e ⟨k,a,b,v,g,tx,ar⟩) (Y7 got ⟨k,a,b,v,g,tx,ar⟩)) (.acons (.bool (decide (tkSt st ⟨p,at',r⟩ ⟨k,a,b,v,g,tx,ar⟩ = []))) .anil)))) (.acons (.bool (decide (k < 6))) (.acons (.int .i64 0) .anil))))
noncomputable def QeS:List (D RC) -> Option (Bool × D RC)
 | [.acons (.int .i64 c) (.acons (.sl .frame fs st) (.acons (.sl .int e got) (.acons (.bool over) .anil))),.acons (.int .i8 p) (.acons (.int .i64 at') (.acons (.arr .int 96 r) .anil)),.acons (.int .i8 k) (.acons (.int .i64 a) (.acons (.int .i64 b) (.acons (.int .i64 v) (.acons (.int .i64 g) (.acons (.str tx) (.acons (.sl .int ca ar) .anil))))))] => Qi8 c fs st e got over p at' r k a b v g tx ca ar
 | _ => none
noncomputable def YX (c:Int) (fs:Bool) (st:List Frame) (e:Bool) (got:List Int) (over:Bool) (p:Int) (at':Int) (r:List Int) (k:Int) (a:Int) (b:Int) (v:Int) (g:Int) (tx:List UInt8) (ca:Bool) (ar:List Int) := evF s18 uc_4 60 42 [.acons (.int .i64 c) (.acons (.sl (C := RC) .frame fs st) (.acons (.sl (C := RC) .int e got) (.acons (.bool over) .anil))),.acons (.int .i8 p) (.acons (.int .i64 at') (.acons (.arr (C := RC) .int 96 r) .anil)),.acons (.int .i8 k) (.acons (.int .i64 a) (.acons (.int .i64 b) (.acons (.int .i64 v) (.acons (.int .i64 g) (.acons (.str tx) (.acons (.sl (C := RC) .int ca ar) .anil))))))]
theorem Qpk (c:Int) (fs:Bool) (st:List Frame) (e:Bool) (got:List Int) (p at':Int) (r:List Int) (a b v g:Int) (tx:List UInt8) (ca:Bool) (ar:List Int):YX c fs st e got false p at' r 0 a b v g tx ca ar = (let Z0:D RC := D.int .i64 0;let Z1:D RC := D.bool false;let Z2:DO_ := some (D.tup (D.acons (D.acons Z0 (D.acons (D.sl RTy.frame true []) (.acons (D.sl RTy.int true []) (.acons Z1 .anil)))) (.acons Z1 (D.acons (D.int .i64 2) .anil))));let Z3:Bool := Qd st.length;let Z4:Int := (↑st.length:Int);let Z5:Bool := Qd tx.length && Qd ar.length;let Z6:Bool := ZS (0:Int) a b v g tx ar;let Z7:Int := IntKind.wrap .i64 (Z4 - (1:Int));let Z8:List Frame := List.drop (0:Nat) (List.take Z7.toNat st);let Z9:Nat := (0:Nat) + List.length Z8;let Z10:Nat := List.length [Frame.mk p at' r];let Z11:List Frame := [] ++ Z8 ++ [Frame.mk p at' r];let Z12:Bool := Nat.beq (List.length ([] ++ Z8) + Z10) Z11.length;let Z13:DO_ := none;let Z14:Nat := (0:Nat) + List.length ar;bif decide (c < (0:Int)) then Z2 else bif decide ((4:Int) <= c) then Z2 else bif Qd got.length then bif decide ((96:Int) < (↑got.length:Int)) then Z2 else bif Z3 then bif decide ((1:Int) <= Z4) then bif Z3 then bif !decide (Z4 <= (6:Int)) then Z2 else bif Z5 then bif !Z6 then Z2 else bif Z3 then bif decide ((0:Int) <= (0:Int) /\ (0:Int) <= Z7 /\ Z7 <= Z4) then bif Qo Z9 (784:Nat) then bif Nat.beq Z9 ([] ++ Z8).length && Qo (Z9 + Z10) (784:Nat) then bif Z5 then bif Z6 then bif Z12 then some (D.tup (D.acons (D.acons (D.int .i64 c) (.acons (D.sl RTy.frame false Z11) (.acons (D.sl RTy.int e got) (.acons Z1 .anil)))) (.acons (D.bool true) (.acons Z0 .anil)))) else Z13 else bif Z12 then bif decide ((0:Int) <= (0:Int) /\ (0:Int) <= Z7 /\ Z7 <= (↑Z11.length:Int)) then bif Qo Z14 (8:Nat) then bif Nat.beq Z14 ([] ++ ar).length then some (D.tup (D.acons (D.acons (D.int .i64 c) (.acons (D.sl RTy.frame false (List.drop (0:Nat) (List.take Z7.toNat Z11))) (.acons (D.sl RTy.int false ([] ++ ar)) (.acons (D.bool (Z7 == (0:Int))) .anil)))) (.acons Z1 (D.acons Z0 .anil)))) else Z13 else Z13 else Z13 else Z13 else Z13 else Z13 else Z13 else Z13 else Z13 else Z13 else Z13 else Z2 else Z13 else Z13) := by kernel_rfl
theorem Qpl (c:Int) (fs:Bool) (st:List Frame) (e:Bool) (got:List Int) (p at':Int) (r:List Int) (a b v g:Int) (tx:List UInt8) (ca:Bool) (ar:List Int):YX c fs st e got false p at' r 1 a b v g tx ca ar = (let Z0:D RC := D.int .i64 0;let Z1:D RC := D.bool false;let Z2:DO_ := some (D.tup (D.acons (D.acons Z0 (D.acons (D.sl RTy.frame true []) (.acons (D.sl RTy.int true []) (.acons Z1 .anil)))) (.acons Z1 (D.acons (D.int .i64 2) .anil))));let Z3:Bool := Qd st.length;let Z4:Int := (↑st.length:Int);let Z5:Bool := Qd tx.length && Qd ar.length;let Z6:Bool := ZS (1:Int) a b v g tx ar;let Z7:Int := IntKind.wrap .i64 (Z4 - (1:Int));let Z8:List Frame := List.drop (0:Nat) (List.take Z7.toNat st);let Z9:Nat := (0:Nat) + List.length Z8;let Z10:Nat := List.length [Frame.mk p at' r];let Z11:List Frame := [] ++ Z8 ++ [Frame.mk p at' r];let Z12:Bool := Nat.beq (List.length ([] ++ Z8) + Z10) Z11.length;let Z13:DO_ := none;let Z14:Nat := (0:Nat) + List.length ar;bif decide (c < (0:Int)) then Z2 else bif decide ((4:Int) <= c) then Z2 else bif Qd got.length then bif decide ((96:Int) < (↑got.length:Int)) then Z2 else bif Z3 then bif decide ((1:Int) <= Z4) then bif Z3 then bif !decide (Z4 <= (6:Int)) then Z2 else bif Z5 then bif !Z6 then Z2 else bif Z3 then bif decide ((0:Int) <= (0:Int) /\ (0:Int) <= Z7 /\ Z7 <= Z4) then bif Qo Z9 (784:Nat) then bif Nat.beq Z9 ([] ++ Z8).length && Qo (Z9 + Z10) (784:Nat) then bif Z5 then bif Z6 then bif Z12 then some (D.tup (D.acons (D.acons (D.int .i64 c) (.acons (D.sl RTy.frame false Z11) (.acons (D.sl RTy.int e got) (.acons Z1 .anil)))) (.acons (D.bool true) (.acons Z0 .anil)))) else Z13 else bif Z12 then bif decide ((0:Int) <= (0:Int) /\ (0:Int) <= Z7 /\ Z7 <= (↑Z11.length:Int)) then bif Qo Z14 (8:Nat) then bif Nat.beq Z14 ([] ++ ar).length then some (D.tup (D.acons (D.acons (D.int .i64 c) (.acons (D.sl RTy.frame false (List.drop (0:Nat) (List.take Z7.toNat Z11))) (.acons (D.sl RTy.int false ([] ++ ar)) (.acons (D.bool (Z7 == (0:Int))) .anil)))) (.acons Z1 (D.acons Z0 .anil)))) else Z13 else Z13 else Z13 else Z13 else Z13 else Z13 else Z13 else Z13 else Z13 else Z13 else Z13 else Z2 else Z13 else Z13) := by kernel_rfl
theorem Qpm (c:Int) (fs:Bool) (st:List Frame) (e:Bool) (got:List Int) (p at':Int) (r:List Int) (a b v g:Int) (tx:List UInt8) (ca:Bool) (ar:List Int):YX c fs st e got false p at' r 2 a b v g tx ca ar = (let Z0:D RC := D.int .i64 0;let Z1:D RC := D.bool false;let Z2:DO_ := some (D.tup (D.acons (D.acons Z0 (D.acons (D.sl RTy.frame true []) (.acons (D.sl RTy.int true []) (.acons Z1 .anil)))) (.acons Z1 (D.acons (D.int .i64 2) .anil))));let Z3:Bool := Qd st.length;let Z4:Int := (↑st.length:Int);let Z5:Bool := Qd tx.length && Qd ar.length;let Z6:Bool := ZS (2:Int) a b v g tx ar;let Z7:Int := IntKind.wrap .i64 (Z4 - (1:Int));let Z8:List Frame := List.drop (0:Nat) (List.take Z7.toNat st);let Z9:Nat := (0:Nat) + List.length Z8;let Z10:Nat := List.length [Frame.mk p at' r];let Z11:List Frame := [] ++ Z8 ++ [Frame.mk p at' r];let Z12:Bool := Nat.beq (List.length ([] ++ Z8) + Z10) Z11.length;let Z13:DO_ := none;let Z14:Nat := (0:Nat) + List.length ar;bif decide (c < (0:Int)) then Z2 else bif decide ((4:Int) <= c) then Z2 else bif Qd got.length then bif decide ((96:Int) < (↑got.length:Int)) then Z2 else bif Z3 then bif decide ((1:Int) <= Z4) then bif Z3 then bif !decide (Z4 <= (6:Int)) then Z2 else bif Z5 then bif !Z6 then Z2 else bif Z3 then bif decide ((0:Int) <= (0:Int) /\ (0:Int) <= Z7 /\ Z7 <= Z4) then bif Qo Z9 (784:Nat) then bif Nat.beq Z9 ([] ++ Z8).length && Qo (Z9 + Z10) (784:Nat) then bif Z5 then bif Z6 then bif Z12 then some (D.tup (D.acons (D.acons (D.int .i64 c) (.acons (D.sl RTy.frame false Z11) (.acons (D.sl RTy.int e got) (.acons Z1 .anil)))) (.acons (D.bool true) (.acons Z0 .anil)))) else Z13 else bif Z12 then bif decide ((0:Int) <= (0:Int) /\ (0:Int) <= Z7 /\ Z7 <= (↑Z11.length:Int)) then bif Qo Z14 (8:Nat) then bif Nat.beq Z14 ([] ++ ar).length then some (D.tup (D.acons (D.acons (D.int .i64 c) (.acons (D.sl RTy.frame false (List.drop (0:Nat) (List.take Z7.toNat Z11))) (.acons (D.sl RTy.int false ([] ++ ar)) (.acons (D.bool (Z7 == (0:Int))) .anil)))) (.acons Z1 (D.acons Z0 .anil)))) else Z13 else Z13 else Z13 else Z13 else Z13 else Z13 else Z13 else Z13 else Z13 else Z13 else Z13 else Z2 else Z13 else Z13) := by kernel_rfl
theorem Qpn (c:Int) (fs:Bool) (st:List Frame) (e:Bool) (got:List Int) (p at':Int) (r:List Int) (a b v g:Int) (tx:List UInt8) (ca:Bool) (ar:List Int):YX c fs st e got false p at' r 3 a b v g tx ca ar = (let Z0:D RC := D.int .i64 0;let Z1:D RC := D.bool false;let Z2:DO_ := some (D.tup (D.acons (D.acons Z0 (D.acons (D.sl RTy.frame true []) (.acons (D.sl RTy.int true []) (.acons Z1 .anil)))) (.acons Z1 (D.acons (D.int .i64 2) .anil))));let Z3:Bool := Qd st.length;let Z4:Int := (↑st.length:Int);let Z5:Bool := Qd tx.length && Qd ar.length;let Z6:Bool := ZS (3:Int) a b v g tx ar;let Z7:Int := IntKind.wrap .i64 (Z4 - (1:Int));let Z8:List Frame := List.drop (0:Nat) (List.take Z7.toNat st);let Z9:Nat := (0:Nat) + List.length Z8;let Z10:Nat := List.length [Frame.mk p at' r];let Z11:List Frame := [] ++ Z8 ++ [Frame.mk p at' r];let Z12:Bool := Nat.beq (List.length ([] ++ Z8) + Z10) Z11.length;let Z13:DO_ := none;let Z14:Nat := (0:Nat) + List.length ar;bif decide (c < (0:Int)) then Z2 else bif decide ((4:Int) <= c) then Z2 else bif Qd got.length then bif decide ((96:Int) < (↑got.length:Int)) then Z2 else bif Z3 then bif decide ((1:Int) <= Z4) then bif Z3 then bif !decide (Z4 <= (6:Int)) then Z2 else bif Z5 then bif !Z6 then Z2 else bif Z3 then bif decide ((0:Int) <= (0:Int) /\ (0:Int) <= Z7 /\ Z7 <= Z4) then bif Qo Z9 (784:Nat) then bif Nat.beq Z9 ([] ++ Z8).length && Qo (Z9 + Z10) (784:Nat) then bif Z5 then bif Z6 then bif Z12 then some (D.tup (D.acons (D.acons (D.int .i64 c) (.acons (D.sl RTy.frame false Z11) (.acons (D.sl RTy.int e got) (.acons Z1 .anil)))) (.acons (D.bool true) (.acons Z0 .anil)))) else Z13 else bif Z12 then bif decide ((0:Int) <= (0:Int) /\ (0:Int) <= Z7 /\ Z7 <= (↑Z11.length:Int)) then bif Qo Z14 (8:Nat) then bif Nat.beq Z14 ([] ++ ar).length then some (D.tup (D.acons (D.acons (D.int .i64 c) (.acons (D.sl RTy.frame false (List.drop (0:Nat) (List.take Z7.toNat Z11))) (.acons (D.sl RTy.int false ([] ++ ar)) (.acons (D.bool (Z7 == (0:Int))) .anil)))) (.acons Z1 (D.acons Z0 .anil)))) else Z13 else Z13 else Z13 else Z13 else Z13 else Z13 else Z13 else Z13 else Z13 else Z13 else Z13 else Z2 else Z13 else Z13) := by kernel_rfl
theorem Qpo (c:Int) (fs:Bool) (st:List Frame) (e:Bool) (got:List Int) (p at':Int) (r:List Int) (a b v g:Int) (tx:List UInt8) (ca:Bool) (ar:List Int):YX c fs st e got false p at' r 4 a b v g tx ca ar = (let Z0:D RC := D.int .i64 0;let Z1:D RC := D.bool false;let Z2:DO_ := some (D.tup (D.acons (D.acons Z0 (D.acons (D.sl RTy.frame true []) (.acons (D.sl RTy.int true []) (.acons Z1 .anil)))) (.acons Z1 (D.acons (D.int .i64 2) .anil))));let Z3:Bool := Qd st.length;let Z4:Int := (↑st.length:Int);let Z5:Bool := Qd tx.length && Qd ar.length;let Z6:Bool := ZS (4:Int) a b v g tx ar;let Z7:Int := IntKind.wrap .i64 (Z4 - (1:Int));let Z8:List Frame := List.drop (0:Nat) (List.take Z7.toNat st);let Z9:Nat := (0:Nat) + List.length Z8;let Z10:Nat := List.length [Frame.mk p at' r];let Z11:List Frame := [] ++ Z8 ++ [Frame.mk p at' r];let Z12:Bool := Nat.beq (List.length ([] ++ Z8) + Z10) Z11.length;let Z13:DO_ := none;let Z14:Nat := (0:Nat) + List.length ar;bif decide (c < (0:Int)) then Z2 else bif decide ((4:Int) <= c) then Z2 else bif Qd got.length then bif decide ((96:Int) < (↑got.length:Int)) then Z2 else bif Z3 then bif decide ((1:Int) <= Z4) then bif Z3 then bif !decide (Z4 <= (6:Int)) then Z2 else bif Z5 then bif !Z6 then Z2 else bif Z3 then bif decide ((0:Int) <= (0:Int) /\ (0:Int) <= Z7 /\ Z7 <= Z4) then bif Qo Z9 (784:Nat) then bif Nat.beq Z9 ([] ++ Z8).length && Qo (Z9 + Z10) (784:Nat) then bif Z5 then bif Z6 then bif Z12 then some (D.tup (D.acons (D.acons (D.int .i64 c) (.acons (D.sl RTy.frame false Z11) (.acons (D.sl RTy.int e got) (.acons Z1 .anil)))) (.acons (D.bool true) (.acons Z0 .anil)))) else Z13 else bif Z12 then bif decide ((0:Int) <= (0:Int) /\ (0:Int) <= Z7 /\ Z7 <= (↑Z11.length:Int)) then bif Qo Z14 (8:Nat) then bif Nat.beq Z14 ([] ++ ar).length then some (D.tup (D.acons (D.acons (D.int .i64 c) (.acons (D.sl RTy.frame false (List.drop (0:Nat) (List.take Z7.toNat Z11))) (.acons (D.sl RTy.int false ([] ++ ar)) (.acons (D.bool (Z7 == (0:Int))) .anil)))) (.acons Z1 (D.acons Z0 .anil)))) else Z13 else Z13 else Z13 else Z13 else Z13 else Z13 else Z13 else Z13 else Z13 else Z13 else Z13 else Z2 else Z13 else Z13) := by kernel_rfl
theorem Qpp (c:Int) (fs:Bool) (st:List Frame) (e:Bool) (got:List Int) (p at':Int) (r:List Int) (a b v g:Int) (tx:List UInt8) (ca:Bool) (ar:List Int):YX c fs st e got false p at' r 5 a b v g tx ca ar = (let Z0:D RC := D.int .i64 0;let Z1:D RC := D.bool false;let Z2:DO_ := some (D.tup (D.acons (D.acons Z0 (D.acons (D.sl RTy.frame true []) (.acons (D.sl RTy.int true []) (.acons Z1 .anil)))) (.acons Z1 (D.acons (D.int .i64 2) .anil))));let Z3:Bool := Qd st.length;let Z4:Int := (↑st.length:Int);let Z5:Bool := Qd tx.length && Qd ar.length;let Z6:Bool := ZS (5:Int) a b v g tx ar;let Z7:Int := IntKind.wrap .i64 (Z4 - (1:Int));let Z8:List Frame := List.drop (0:Nat) (List.take Z7.toNat st);let Z9:Nat := (0:Nat) + List.length Z8;let Z10:Nat := List.length [Frame.mk p at' r];let Z11:List Frame := [] ++ Z8 ++ [Frame.mk p at' r];let Z12:Bool := Nat.beq (List.length ([] ++ Z8) + Z10) Z11.length;let Z13:DO_ := none;let Z14:Nat := (0:Nat) + List.length ar;bif decide (c < (0:Int)) then Z2 else bif decide ((4:Int) <= c) then Z2 else bif Qd got.length then bif decide ((96:Int) < (↑got.length:Int)) then Z2 else bif Z3 then bif decide ((1:Int) <= Z4) then bif Z3 then bif !decide (Z4 <= (6:Int)) then Z2 else bif Z5 then bif !Z6 then Z2 else bif Z3 then bif decide ((0:Int) <= (0:Int) /\ (0:Int) <= Z7 /\ Z7 <= Z4) then bif Qo Z9 (784:Nat) then bif Nat.beq Z9 ([] ++ Z8).length && Qo (Z9 + Z10) (784:Nat) then bif Z5 then bif Z6 then bif Z12 then some (D.tup (D.acons (D.acons (D.int .i64 c) (.acons (D.sl RTy.frame false Z11) (.acons (D.sl RTy.int e got) (.acons Z1 .anil)))) (.acons (D.bool true) (.acons Z0 .anil)))) else Z13 else bif Z12 then bif decide ((0:Int) <= (0:Int) /\ (0:Int) <= Z7 /\ Z7 <= (↑Z11.length:Int)) then bif Qo Z14 (8:Nat) then bif Nat.beq Z14 ([] ++ ar).length then some (D.tup (D.acons (D.acons (D.int .i64 c) (.acons (D.sl RTy.frame false (List.drop (0:Nat) (List.take Z7.toNat Z11))) (.acons (D.sl RTy.int false ([] ++ ar)) (.acons (D.bool (Z7 == (0:Int))) .anil)))) (.acons Z1 (D.acons Z0 .anil)))) else Z13 else Z13 else Z13 else Z13 else Z13 else Z13 else Z13 else Z13 else Z13 else Z13 else Z13 else Z2 else Z13 else Z13) := by kernel_rfl
theorem Qpq (c:Int) (fs:Bool) (st:List Frame) (e:Bool) (got:List Int) (p at':Int) (r:List Int) (a b v g:Int) (tx:List UInt8) (ca:Bool) (ar:List Int):YX c fs st e got false p at' r 6 a b v g tx ca ar = (let Z0:D RC := D.int .i64 0;let Z1:D RC := D.bool false;let Z2:D RC := D.acons (D.sl RTy.int true []) (.acons Z1 .anil);let Z3:D RC := D.acons Z0 (D.acons (D.sl RTy.frame true []) Z2);let Z4:DO_ := some (D.tup (D.acons Z3 (D.acons Z1 (D.acons (D.int .i64 2) .anil))));let Z5:Bool := Qd st.length;let Z6:Int := (↑st.length:Int);let Z7:Bool := Qd tx.length && Qd ar.length;let Z8:Bool := ZS (6:Int) a b v g tx ar;let Z9:Int := IntKind.wrap .i64 (Z6 - (1:Int));let Z10:List Frame := List.drop (0:Nat) (List.take Z9.toNat st);let Z11:Nat := (0:Nat) + List.length Z10;let Z12:Nat := List.length ([] ++ Z10);let Z13:Nat := List.length [Frame.mk p at' r];let Z14:Nat := Z12 + Z13;let Z15:List Frame := [] ++ Z10 ++ [Frame.mk p at' r];let Z16:List Frame := [Frame.mk (IntKind.wrap IntKind.i8 a) (0:Int) (regs1 ar)];let Z17:DO_ := none;let Z18:DO_ := bif Qd Z14 then bif decide ((6:Int) <= (↑Z14:Int)) then some (D.tup (D.acons Z3 (D.acons Z1 (D.acons (D.int .i64 3) .anil)))) else bif decide (List.length ar <= (96:Nat)) then bif Nat.beq Z14 Z15.length && Qo (Z14 + List.length Z16) (784:Nat) then bif Nat.beq (List.length Z15 + List.length Z16) (Z15 ++ Z16).length then some (D.tup (D.acons (D.acons (D.int .i64 c) (.acons (D.sl RTy.frame false (Z15 ++ Z16)) Z2)) (.acons Z1 (D.acons Z0 .anil)))) else Z17 else Z17 else Z17 else Z17;bif decide (c < (0:Int)) then Z4 else bif decide ((4:Int) <= c) then Z4 else bif Qd got.length then bif decide ((96:Int) < (↑got.length:Int)) then Z4 else bif Z5 then bif decide ((1:Int) <= Z6) then bif Z5 then bif !decide (Z6 <= (6:Int)) then Z4 else bif Z7 then bif !Z8 then Z4 else bif Z5 then bif decide ((0:Int) <= (0:Int) /\ (0:Int) <= Z9 /\ Z9 <= Z6) then bif Qo Z11 (784:Nat) then bif Nat.beq Z11 Z12 && Qo (Z11 + Z13) (784:Nat) then bif Z7 then bif Z8 then Z18 else Z18 else Z17 else Z17 else Z17 else Z17 else Z17 else Z17 else Z17 else Z4 else Z17 else Z17) := by kernel_rfl
theorem Qpr (c:Int) (fs:Bool) (st:List Frame) (e:Bool) (got:List Int) (p at':Int) (r:List Int) (a b v g:Int) (tx:List UInt8) (ca:Bool) (ar:List Int):YX c fs st e got false p at' r 7 a b v g tx ca ar = (let Z0:D RC := D.int .i64 0;let Z1:D RC := D.bool false;let Z2:DO_ := some (D.tup (D.acons (D.acons Z0 (D.acons (D.sl RTy.frame true []) (.acons (D.sl RTy.int true []) (.acons Z1 .anil)))) (.acons Z1 (D.acons (D.int .i64 2) .anil))));let Z3:Bool := Qd st.length;let Z4:Int := (↑st.length:Int);let Z5:Bool := Qd tx.length && Qd ar.length;let Z6:Bool := ZS (7:Int) a b v g tx ar;let Z7:Int := IntKind.wrap .i64 (Z4 - (1:Int));let Z8:List Frame := List.drop (0:Nat) (List.take Z7.toNat st);let Z9:Nat := (0:Nat) + List.length Z8;let Z10:Nat := List.length [Frame.mk p at' r];let Z11:List Frame := [] ++ Z8 ++ [Frame.mk p at' r];let Z12:Nat := (0:Nat) + List.length ar;let Z13:DO_ := none;let Z14:DO_ := bif Nat.beq (List.length ([] ++ Z8) + Z10) Z11.length then bif decide ((0:Int) <= (0:Int) /\ (0:Int) <= Z7 /\ Z7 <= (↑Z11.length:Int)) then bif Qo Z12 (8:Nat) then bif Nat.beq Z12 ([] ++ ar).length then some (D.tup (D.acons (D.acons (D.int .i64 c) (.acons (D.sl RTy.frame false (List.drop (0:Nat) (List.take Z7.toNat Z11))) (.acons (D.sl RTy.int false ([] ++ ar)) (.acons (D.bool (Z7 == (0:Int))) .anil)))) (.acons Z1 (D.acons Z0 .anil)))) else Z13 else Z13 else Z13 else Z13;bif decide (c < (0:Int)) then Z2 else bif decide ((4:Int) <= c) then Z2 else bif Qd got.length then bif decide ((96:Int) < (↑got.length:Int)) then Z2 else bif Z3 then bif decide ((1:Int) <= Z4) then bif Z3 then bif !decide (Z4 <= (6:Int)) then Z2 else bif Z5 then bif !Z6 then Z2 else bif Z3 then bif decide ((0:Int) <= (0:Int) /\ (0:Int) <= Z7 /\ Z7 <= Z4) then bif Qo Z9 (784:Nat) then bif Nat.beq Z9 ([] ++ Z8).length && Qo (Z9 + Z10) (784:Nat) then bif Z5 then bif Z6 then Z14 else Z14 else Z13 else Z13 else Z13 else Z13 else Z13 else Z13 else Z13 else Z2 else Z13 else Z13) := by kernel_rfl
theorem Qmr (c:Int) (fs:Bool) (st:List Frame) (e:Bool) (got:List Int) (over:Bool) (p:Int) (at':Int) (r:List Int) (k:Int) (a:Int) (b:Int) (v:Int) (g:Int) (tx:List UInt8) (ca:Bool) (ar:List Int) (h:(cdec (OkTk c st got ⟨k,a,b,v,g,tx,ar⟩) && !over) = true):YX c fs st e got over p at' r k a b v g tx ca ar = some (.tup (.acons (.acons (.int .i64 c) (.acons (.sl (C := RC) .frame false (tkSt st ⟨p,at',r⟩ ⟨k,a,b,v,g,tx,ar⟩)) (.acons (.sl (C := RC) .int (tkFl e ⟨k,a,b,v,g,tx,ar⟩) (Y7 got ⟨k,a,b,v,g,tx,ar⟩)) (.acons (.bool (decide (tkSt st ⟨p,at',r⟩ ⟨k,a,b,v,g,tx,ar⟩ = []))) .anil)))) (.acons (.bool (decide (k < 6))) (.acons (.int .i64 0) .anil)))) := by
 rw [Bool.and_eq_true,Bool.not_eq_true'] at h;obtain ⟨h,rfl⟩ := h;obtain ⟨h1,h2,h3,h4,h5,h6,h7,h8,h9⟩ := QI.1 h;have m1:ZS k a b v g tx ar = true := h6;obtain ⟨n1,n2,n3,n4,n5⟩ := Qmq h6;simp only at n1 n2 n3 n4 n5 h7 h8 h9;have c1:decide (c < 0) = false := decide_eq_false (by omega)
 have c2:decide (4 <= c) = false := decide_eq_false (by omega)
 have c3:decide ((96:Int) < (got.length:Int)) = false := decide_eq_false (by omega)
 have c4:Qd got.length = true := Qq (by omega)
 have c5:Qd st.length = true := Qq (by omega)
 have c6:decide ((1:Int) <= (st.length:Int)) = true := decide_eq_true (by omega)
 have c7:decide ((st.length:Int) <= 6) = true := decide_eq_true (by omega)
 have c8:Qd tx.length = true := Qq (by omega)
 have c9:Qd ar.length = true := Qq (by omega)
 have w1:IntKind.i64.wrap ((st.length:Int) - 1) = (st.length:Int) - 1 := Qr (by omega) (by omega)
 have t1:((st.length:Int) - 1).toNat = st.length - 1 := by omega
 have e0:List.take (st.length - 1) st = st.dropLast := (List.dropLast_eq_take ..).symm;have e1:st.dropLast.length = st.length - 1 := List.length_dropLast;have e2:∀ x:Frame,List.take (st.length - 1) (st.dropLast ++ [x]) = st.dropLast := fun x => by rw [<- e1,List.take_left]
 have f1:decide ((0:Int) <= 0 /\ 0 <= (st.length:Int) - 1 /\ (st.length:Int) - 1 <= (st.length:Int)) = true := decide_eq_true ⟨by omega,by omega,by omega⟩
 have f2:Qo (0 + st.dropLast.length) 784 = true := QhY (by omega)
 have f3:Nat.beq (0 + st.dropLast.length) st.dropLast.length = true := Qa4 (by omega)
 have f4:∀ x:Frame,Qo (0 + st.dropLast.length + [x].length) 784 = true := fun x => QhY (by simp only [List.length_cons,List.length_nil];omega)
 have f5:∀ x:Frame,Nat.beq (st.dropLast.length + [x].length) (st.dropLast ++ [x]).length = true := fun x => Qa4 (by simp)
 have f6:∀ x:Frame,decide ((0:Int) <= 0 /\ 0 <= (st.length:Int) - 1 /\ (st.length:Int) - 1 <= ((st.dropLast ++ [x]).length:Int)) = true := fun x => decide_eq_true ⟨by omega,by omega,by simp only [List.length_append,List.length_cons,List.length_nil,e1];omega⟩
 have f7:Qo (0 + ar.length) 8 = true := QhY (by omega)
 have f8:Nat.beq (0 + ar.length) ar.length = true := Qa4 (by omega)
 have f9:∀ x:Frame,Qd (st.dropLast.length + [x].length) = true := fun x => Qq (by simp only [List.length_cons,List.length_nil];omega)
 have g1:decide (ar.length <= 96) = true := decide_eq_true n2;have g2:∀ x y:Frame,Qo (st.dropLast.length + [x].length + [y].length) 784 = true := fun x y => QhY (by simp only [List.length_cons,List.length_nil];omega)
 have g3:∀ x y:Frame,Nat.beq ((st.dropLast ++ [x]).length + [y].length) (st.dropLast ++ [x] ++ [y]).length = true := fun x y => Qa4 (by simp)
 have g4:decide ((st.dropLast:List Frame) = []) = ((st.length:Int) - 1 == 0) := by
  by_cases q:st.length = 1
  · rw [decide_eq_true (List.eq_nil_of_length_eq_zero (by omega)),QqF (by omega)]
  · rw [decide_eq_false (fun e => q (by have := congrArg List.length e;simp only [e1,List.length_nil] at this;omega)),QoF (by omega)]
 have g5:∀ x:Frame,decide (st.dropLast ++ [x] = []) = false := fun x => decide_eq_false (by simp)
 have g6:∀ x y:Frame,decide (st.dropLast ++ [x,y] = []) = false := fun x y => decide_eq_false (by simp)
 have hs:k = 0 \/ k = 1 \/ k = 2 \/ k = 3 \/ k = 4 \/ k = 5 \/ k = 6 \/ k = 7 := by omega
 rcases hs with rfl | rfl | rfl | rfl | rfl | rfl | rfl | rfl
 · (rw [Qpk];conv => zeta)
   simp only [c1,c2,c3,c4,c5,c6,c7,c8,c9,w1,t1,m1,List.drop_zero,List.nil_append,e0,f1,f2,f3,f4,f5,cond_true,cond_false,Bool.not_true,Bool.and_self];rw [show tkSt st ⟨p,at',r⟩ ⟨0,a,b,v,g,tx,ar⟩ = st.dropLast ++ [⟨p,at',r⟩] from rfl,g5];rfl
 · (rw [Qpl];conv => zeta)
   simp only [c1,c2,c3,c4,c5,c6,c7,c8,c9,w1,t1,m1,List.drop_zero,List.nil_append,e0,f1,f2,f3,f4,f5,cond_true,cond_false,Bool.not_true,Bool.and_self];rw [show tkSt st ⟨p,at',r⟩ ⟨1,a,b,v,g,tx,ar⟩ = st.dropLast ++ [⟨p,at',r⟩] from rfl,g5];rfl
 · (rw [Qpm];conv => zeta)
   simp only [c1,c2,c3,c4,c5,c6,c7,c8,c9,w1,t1,m1,List.drop_zero,List.nil_append,e0,f1,f2,f3,f4,f5,cond_true,cond_false,Bool.not_true,Bool.and_self];rw [show tkSt st ⟨p,at',r⟩ ⟨2,a,b,v,g,tx,ar⟩ = st.dropLast ++ [⟨p,at',r⟩] from rfl,g5];rfl
 · (rw [Qpn];conv => zeta)
   simp only [c1,c2,c3,c4,c5,c6,c7,c8,c9,w1,t1,m1,List.drop_zero,List.nil_append,e0,f1,f2,f3,f4,f5,cond_true,cond_false,Bool.not_true,Bool.and_self];rw [show tkSt st ⟨p,at',r⟩ ⟨3,a,b,v,g,tx,ar⟩ = st.dropLast ++ [⟨p,at',r⟩] from rfl,g5];rfl
 · (rw [Qpo];conv => zeta)
   simp only [c1,c2,c3,c4,c5,c6,c7,c8,c9,w1,t1,m1,List.drop_zero,List.nil_append,e0,f1,f2,f3,f4,f5,cond_true,cond_false,Bool.not_true,Bool.and_self];rw [show tkSt st ⟨p,at',r⟩ ⟨4,a,b,v,g,tx,ar⟩ = st.dropLast ++ [⟨p,at',r⟩] from rfl,g5];rfl
 · (rw [Qpp];conv => zeta)
   simp only [c1,c2,c3,c4,c5,c6,c7,c8,c9,w1,t1,m1,List.drop_zero,List.nil_append,e0,f1,f2,f3,f4,f5,cond_true,cond_false,Bool.not_true,Bool.and_self];rw [show tkSt st ⟨p,at',r⟩ ⟨5,a,b,v,g,tx,ar⟩ = st.dropLast ++ [⟨p,at',r⟩] from rfl,g5];rfl
 · have h9 := h9 rfl;have n5 := n5 rfl;have g7:∀ x:Frame,decide ((6:Int) <= ((st.dropLast.length + [x].length:Nat):Int)) = false := fun x => decide_eq_false (by simp only [List.length_cons,List.length_nil,e1];omega)
   have g8:IntKind.i8.wrap a = a := Qpj n3 n5
   (rw [Qpq];conv => zeta)
   simp only [c1,c2,c3,c4,c5,c6,c7,c8,c9,w1,t1,m1,List.drop_zero,List.nil_append,e0,f1,f2,f3,f4,f5,f9,g1,g2,g3,g7,g8,cond_true,cond_false,Bool.not_true,Bool.and_self];rw [show tkSt st ⟨p,at',r⟩ ⟨6,a,b,v,g,tx,ar⟩ = st.dropLast ++ [⟨p,at',r⟩,⟨a,0,regs1 ar⟩] from rfl,g6,List.append_assoc];rfl
 · (rw [Qpr];conv => zeta)
   simp only [c1,c2,c3,c4,c5,c6,c7,c8,c9,w1,t1,m1,List.drop_zero,List.nil_append,e0,e2,f1,f2,f3,f4,f5,f6,f7,f8,cond_true,cond_false,Bool.not_true,Bool.and_self];rw [show tkSt st ⟨p,at',r⟩ ⟨7,a,b,v,g,tx,ar⟩ = st.dropLast from rfl,g4];rfl
noncomputable def uc_5 := uc_4.addSpec 42 QeS
theorem Qi9:Qg Tryz.prog s18 uc_5 := Qi7.addEv Qe fun args d h => by
 unfold QeS at h
 split at h
 · unfold Qi8 at h;have h1 := congrArg Prod.fst (Option.some.inj h);obtain rfl:_ = d := congrArg Prod.snd (Option.some.inj h);exact ⟨by simp [D.refs],60,Qmr _ _ _ _ _ _ _ _ _ _ _ _ _ _ _ _ _ h1⟩
 · cases h
structure QcE where
 c:Bool
 l:List Int
 d:Bool
 m:List Int
 i:Nat
def Qa9 (c:Bool) (l:List Int) (d:Bool) (m:List Int) (i:Nat):Env RC := [(0,.sl (C := RC) .int c l),(1,.sl (C := RC) .int d m),(4,.bool false),(5,.int .i64 (i:Int))]
def J1 (c:Bool) (l:List Int) (d:Bool) (m:List Int) (i:Nat):List (Obj RC) := []
noncomputable def QeT (c:Bool) (l:List Int) (d:Bool) (m:List Int) (i:Nat) := rndO s18 uc_5 43 4 40 0 [0,1,4,5] [4] [] (Qa9 c l d m i) (J1 c l d m i)
theorem Qja (c:Bool) (l:List Int) (d:Bool) (m:List Int) (i:Nat):QeT c l d m i = (let Z0:Int := (↑i:Int);bif Qd l.length then bif decide (Z0 < (↑l.length:Int)) then bif decide ((0:Int) <= Z0 /\ Z0 < (↑l.length:Int)) then bif decide ((0:Int) <= Z0 /\ Z0 < (↑m.length:Int)) then bif List.getD l Z0.toNat (0:Int) != List.getD m Z0.toNat (0:Int) then some ((X.ret,[(4,D.bool false)]),[]) else some ((X.normal,[(0,D.sl RTy.int c l),(1,D.sl RTy.int d m),(4,D.bool false),(5,D.int .i64 (IntKind.wrap .i64 (Z0 + (1:Int))))]),[]) else none else none else some ((X.exit (0:Nat),[(4,D.bool false)]),[]) else none) := by kernel_rfl
def YA (c:Bool) (l:List Int) (d:Bool) (m:List Int) (i:Nat):RT RC := .br (decide (l.drop i = m.drop i)) (.leaf (.exit 0) [(4,.bool false)] []) (.leaf .ret [(4,.bool false)] [])
def YB (c:Bool) (l:List Int) (d:Bool) (m:List Int) (i:Nat):Prop := i <= l.length /\ l.length <= 9223372036854775807 /\ l.length = m.length
def ZT:QU RC QcE where
 k := 0
 canon q := Qa9 q.c q.l q.d q.m q.i
 objs q := J1 q.c q.l q.d q.m q.i
 fin q := YA q.c q.l q.d q.m q.i
 Inv q := YB q.c q.l q.d q.m q.i
 μ q := q.l.length - q.i
theorem QcF (c:Bool) (l:List Int) (d:Bool) (m:List Int) (i:Nat) (hI:YB c l d m i):Leaf (QeT c l d m i) (LedR ZT ⟨c,l,d,m,i⟩) := by
 (rw [Qja];conv => zeta)
 unfold YB at hI;obtain ⟨h1,h2,h3⟩ := hI;have hlk := Qq h2;rw [hlk];simp only [cond_true]
 by_cases hlt:i < l.length
 · have w_succ:IntKind.i64.wrap ((i:Int) + 1) = ((i + 1:Nat):Int) := by rw [Qr (by omega) (by omega)];simp
   have d_lt:decide ((i:Int) < l.length) = true := by simp;omega
   have d_in:decide (0 <= (i:Int) /\ (i:Int) < l.length) = true := by simp;omega
   have t_nat:((i:Int)).toNat = i := by simp
   simp only [w_succ,d_lt,d_in,t_nat,cond_true];have hlt':i < m.length := by omega
   have d_in':decide (0 <= (i:Int) /\ (i:Int) < m.length) = true := by simp;omega
   have hst := Qaj l m i (0:Int) hlt h3;simp only [d_in',cond_true];generalize l.getD i (0:Int) = x at hst ⊢;generalize m.getD i (0:Int) = y at hst ⊢
   by_cases hxy:x = y
   · simp only [QhX hxy,cond_false];exact QP ⟨c,l,d,m,i + 1⟩ ⟨hlt,h2,h3⟩ (by simp only [ZT];omega) (by simp only [ZT,YA,hst,hxy,decide_true,Bool.true_and]) rfl rfl
   · simp only [QlM hxy,cond_true];exact Zd [] (by simp [ZT,YA,hst,hxy,RT.val]) rfl
 · have hi:i = l.length := by omega
   have c1:decide ((i:Int) < l.length) = false := by simp;omega
   simp only [c1,cond_false];exact QC [] (by simp only [ZT,YA,Qce l m i (by omega) (by omega),RT.val,cond_true]) rfl
def Qba (env:Env RC) (os:List (Obj RC)):Option (Bool × QcE) := match env,os with
 | [(0,.sl .int c l),(1,.sl .int d m),(4,.bool false),(5,.int .i64 x0)],[] => QN (true) (decide (x0 = 0) && decide (l.length <= 9223372036854775807 /\ l.length = m.length),⟨c,l,d,m,0⟩)
 | _,_ => none
noncomputable def uc_6 := uc_5.addLoop 43 4 (sumR s18 [] [0,1,4,5] ZT Qba)
theorem Qjb:Qg Tryz.prog s18 uc_6 := by
 refine Qi9.addRoundsR Qe (by kernel_rfl) ZT 40 [0,1,4,5] [4] [] [0,1,4,5] Qba (fun q hI => ?_) ?_
 · obtain ⟨c,l,d,m,i⟩ := q;refine ⟨?_,?_,QcF c l d m i hI⟩
   · simp_all [Ql,ZT,Qa9,J1,YB,D.refs,Obj.refs,rEnc]
   · simp_all [ZT,YA,J1,YB,RT.refsOK,Ql,D.refs,Obj.refs,rEnc]
 · intro env os b q hd_ hb;unfold Qba at hd_
   split at hd_
   · obtain ⟨hs,hd_⟩ := Qi hd_;cases hd_;simp only [Bool.and_eq_true,decide_eq_true_eq] at hb;obtain ⟨⟨rfl,rfl⟩,hl⟩ := hb;exact ⟨⟨Nat.zero_le _,hl.1,hl.2⟩,rfl,rfl⟩
   · cases hd_
def Qjc (c:Bool) (l:List Int) (d:Bool) (m:List Int):Option (Bool × D RC) := some (Qd l.length && Qd m.length,.bool (decide (l = m)))
def QeU:List (D RC) -> Option (Bool × D RC)
 | [.sl .int c l,.sl .int d m] => Qjc c l d m
 | _ => none
noncomputable def Qjd (c:Bool) (l:List Int) (d:Bool) (m:List Int) := evF s18 uc_6 40 43 [.sl (C := RC) .int c l,.sl (C := RC) .int d m]
theorem Qms (c:Bool) (l:List Int) (d:Bool) (m:List Int):Qjd c l d m = (let Z0:Nat := List.length l;let Z1:Nat := List.length m;bif Qd Z0 then bif Qd Z1 then bif (↑Z0:Int) != (↑Z1:Int) then some (D.bool false) else bif decide (Z0 <= (9223372036854775807:Nat) /\ Z0 = Z1) then bif decide (List.drop (0:Nat) l = List.drop (0:Nat) m) then some (D.bool true) else some (D.bool false) else none else none else none) := by kernel_rfl
theorem Qmt (c:Bool) (l:List Int) (d:Bool) (m:List Int) (h:(Qd l.length && Qd m.length) = true):Qjd c l d m = some (.bool (decide (l = m))) := by
 (rw [Qms];conv => zeta)
 simp only [Bool.and_eq_true] at h;have h1:l.length <= 9223372036854775807 := V6 h.1;simp only [h.1,h.2,cond_true]
 by_cases hl:l.length = m.length
 · have e1:((l.length:Int) != (m.length:Int)) = false := by simp [hl]
   have e2:(l.length <= 9223372036854775807 /\ l.length = m.length) := ⟨h1,hl⟩;rw [e1,decide_eq_true e2];simp only [cond_true,cond_false,List.drop_zero];cases decide (l = m) <;> rfl
 · have e1:((l.length:Int) != (m.length:Int)) = true := by simp;omega
   have:¬ l = m := fun e => hl (by rw [e])
   simp [e1,this]
noncomputable def uc_7 := uc_6.addSpec 43 QeU
theorem Qje:Qg Tryz.prog s18 uc_7 := Qjb.addEv Qe fun args d h => by
 unfold QeU at h
 split at h
 · unfold Qjc at h;have h1 := congrArg Prod.fst (Option.some.inj h);obtain rfl:_ = d := congrArg Prod.snd (Option.some.inj h);exact ⟨by simp [D.refs],40,Qmt _ _ _ _ h1⟩
 · cases h
def QnN (c:Int) (f:Bool) (st:List Frame) (e:Bool) (got:List Int) (over:Bool) (x:Int):Option (Bool × D RC) := some (decide (0 <= c /\ c <= 3 /\ got.length <= 96 /\ 1 <= st.length /\ st.length <= 6) && !over,.tup (.acons (.acons (.int .i64 c) (.acons (.sl (C := RC) .frame f st) (.acons (.sl (C := RC) .int true [x]) (.acons (.bool over) .anil)))) (.acons (.int .i64 0) .anil)))
def Qjf:List (D RC) -> Option (Bool × D RC)
 | [.acons (.int .i64 c) (.acons (.sl .frame f st) (.acons (.sl .int e got) (.acons (.bool over) .anil))),.int .i64 x] => QnN c f st e got over x
 | _ => none
noncomputable def QnO (c:Int) (f:Bool) (st:List Frame) (e:Bool) (got:List Int) (over:Bool) (x:Int) := evF s18 uc_7 40 27 [.acons (.int .i64 c) (.acons (.sl (C := RC) .frame f st) (.acons (.sl (C := RC) .int e got) (.acons (.bool over) .anil))),.int .i64 x]
theorem Qps (c:Int) (f:Bool) (st:List Frame) (e:Bool) (got:List Int) (over:Bool) (x:Int):QnO c f st e got over x = (let Z0:D RC := D.int .i64 0;let Z1:DO_ := some (D.tup (D.acons (D.acons Z0 (D.acons (D.sl RTy.frame true []) (.acons (D.sl RTy.int true []) (.acons (D.bool false) .anil)))) (.acons (D.int .i64 2) .anil)));let Z2:Bool := Qd st.length;let Z3:Int := (↑st.length:Int);let Z4:DO_ := bif over then Z1 else some (D.tup (D.acons (D.acons (D.int .i64 c) (.acons (D.sl RTy.frame f st) (.acons (D.sl RTy.int true [x]) (.acons (D.bool over) .anil)))) (.acons Z0 .anil)));bif decide (c < (0:Int)) then Z1 else bif decide ((4:Int) <= c) then Z1 else bif Qd got.length then bif decide ((96:Int) < (↑got.length:Int)) then Z1 else bif over then bif Z2 then bif !Z3 == (0:Int) then Z1 else Z4 else none else bif Z2 then bif decide ((1:Int) <= Z3) then bif Z2 then bif !decide (Z3 <= (6:Int)) then Z1 else Z4 else none else Z1 else none else none) := by kernel_rfl
theorem Qpt (c:Int) (f:Bool) (st:List Frame) (e:Bool) (got:List Int) (over:Bool) (x:Int) (h:(decide (0 <= c /\ c <= 3 /\ got.length <= 96 /\ 1 <= st.length /\ st.length <= 6) && !over) = true):QnO c f st e got over x = some (.tup (.acons (.acons (.int .i64 c) (.acons (.sl (C := RC) .frame f st) (.acons (.sl (C := RC) .int true [x]) (.acons (.bool over) .anil)))) (.acons (.int .i64 0) .anil))) := by
 (rw [Qps];conv => zeta)
 simp only [Bool.and_eq_true,decide_eq_true_eq,Bool.not_eq_true'] at h;obtain ⟨⟨h1,h2,h3,h4,h5⟩,rfl⟩ := h;have c1:decide (c < 0) = false := by simp;omega
 have c2:decide (4 <= c) = false := by simp;omega
 have c3:decide ((96:Int) < got.length) = false := by simp;omega
 have c4:Qd got.length = true := Qq (by omega)
 have c5:Qd st.length = true := Qq (by omega)
 have c6:decide ((1:Int) <= st.length) = true := by simp;omega
 have c7:decide ((st.length:Int) <= 6) = true := by simp;omega
 simp only [c1,c2,c3,c4,c5,c6,c7,cond_true,cond_false,Bool.not_true]
noncomputable def uc_8 := uc_7.addSpec 27 Qjf
theorem Qjg:Qg Tryz.prog s18 uc_8 := Qje.addEv Qe fun args d h => by
 unfold Qjf at h
 split at h
 · unfold QnN at h;have h1 := congrArg Prod.fst (Option.some.inj h);obtain rfl:_ = d := congrArg Prod.snd (Option.some.inj h);exact ⟨by simp [D.refs],40,Qpt _ _ _ _ _ _ _ h1⟩
 · cases h
noncomputable def QeV (k:Int) (a:Int) (b:Int) (v:Int) (g:Int) (tx:List UInt8) (ca:Bool) (ar:List Int) (k2:Int) (a2:Int) (b2:Int) (v2:Int) (g2:Int) (tx2:List UInt8) (cb:Bool) (ar2:List Int):Option (Bool × D RC) := some (Qd ar.length && Qd ar2.length,.bool (decide ((⟨k,a,b,v,g,tx,ar⟩:Qb) = ⟨k2,a2,b2,v2,g2,tx2,ar2⟩)))
noncomputable def QcG:List (D RC) -> Option (Bool × D RC)
 | [.acons (.int .i8 k) (.acons (.int .i64 a) (.acons (.int .i64 b) (.acons (.int .i64 v) (.acons (.int .i64 g) (.acons (.str tx) (.acons (.sl .int ca ar) .anil)))))),.acons (.int .i8 k2) (.acons (.int .i64 a2) (.acons (.int .i64 b2) (.acons (.int .i64 v2) (.acons (.int .i64 g2) (.acons (.str tx2) (.acons (.sl .int cb ar2) .anil))))))] => QeV k a b v g tx ca ar k2 a2 b2 v2 g2 tx2 cb ar2
 | _ => none
noncomputable def QeW (k:Int) (a:Int) (b:Int) (v:Int) (g:Int) (tx:List UInt8) (ca:Bool) (ar:List Int) (k2:Int) (a2:Int) (b2:Int) (v2:Int) (g2:Int) (tx2:List UInt8) (cb:Bool) (ar2:List Int) := evF s18 uc_8 60 24 [.acons (.int .i8 k) (.acons (.int .i64 a) (.acons (.int .i64 b) (.acons (.int .i64 v) (.acons (.int .i64 g) (.acons (.str tx) (.acons (.sl (C := RC) .int ca ar) .anil)))))),.acons (.int .i8 k2) (.acons (.int .i64 a2) (.acons (.int .i64 b2) (.acons (.int .i64 v2) (.acons (.int .i64 g2) (.acons (.str tx2) (.acons (.sl (C := RC) .int cb ar2) .anil))))))]
theorem Qjh (k:Int) (a:Int) (b:Int) (v:Int) (g:Int) (tx:List UInt8) (ca:Bool) (ar:List Int) (k2:Int) (a2:Int) (b2:Int) (v2:Int) (g2:Int) (tx2:List UInt8) (cb:Bool) (ar2:List Int):QeW k a b v g tx ca ar k2 a2 b2 v2 g2 tx2 cb ar2 = (let Z0:DO_ := some (D.bool false);bif k == k2 then bif a == a2 then bif b == b2 then bif v == v2 then bif g == g2 then bif tx == tx2 then bif Qd ar.length && Qd ar2.length then some (D.bool (decide (ar = ar2))) else none else Z0 else Z0 else Z0 else Z0 else Z0 else Z0) := by kernel_rfl
theorem Qji (k:Int) (a:Int) (b:Int) (v:Int) (g:Int) (tx:List UInt8) (ca:Bool) (ar:List Int) (k2:Int) (a2:Int) (b2:Int) (v2:Int) (g2:Int) (tx2:List UInt8) (cb:Bool) (ar2:List Int) (h:(Qd ar.length && Qd ar2.length) = true):QeW k a b v g tx ca ar k2 a2 b2 v2 g2 tx2 cb ar2 = some (.bool (decide ((⟨k,a,b,v,g,tx,ar⟩:Qb) = ⟨k2,a2,b2,v2,g2,tx2,ar2⟩))) := by
 (rw [Qjh];conv => zeta)
 rw [Bool.and_eq_true] at h;obtain ⟨h1,h2⟩ := h;have no:¬ ((⟨k,a,b,v,g,tx,ar⟩:Qb) = ⟨k2,a2,b2,v2,g2,tx2,ar2⟩) -> some (D.bool (C := RC) false) = some (.bool (decide ((⟨k,a,b,v,g,tx,ar⟩:Qb) = ⟨k2,a2,b2,v2,g2,tx2,ar2⟩))) := fun q => by rw [decide_eq_false q]
 simp only [Qb.mk.injEq] at no ⊢;refine Ze (fun q1 => ?_) fun q => no (fun e => by rw [e.1] at q;simp at q)
 refine Ze (fun q2 => ?_) fun q => no (fun e => by rw [e.2.1] at q;simp at q)
 refine Ze (fun q3 => ?_) fun q => no (fun e => by rw [e.2.2.1] at q;simp at q)
 refine Ze (fun q4 => ?_) fun q => no (fun e => by rw [e.2.2.2.1] at q;simp at q)
 refine Ze (fun q5 => ?_) fun q => no (fun e => by rw [e.2.2.2.2.1] at q;simp at q)
 refine Ze (fun q6 => ?_) fun q => no (fun e => by rw [e.2.2.2.2.2.1] at q;simp at q)
 simp only [h1,h2,Bool.and_self,cond_true];have q1 := eq_of_beq q1;have q2 := eq_of_beq q2;have q3 := eq_of_beq q3;have q4 := eq_of_beq q4;have q5 := eq_of_beq q5;have q6 := eq_of_beq q6;simp only [q1,q2,q3,q4,q5,q6,true_and]
noncomputable def uc_9 := uc_8.addSpec 24 QcG
theorem Qjj:Qg Tryz.prog s18 uc_9 := Qjg.addEv Qe fun args d h => by
 unfold QcG at h
 split at h
 · unfold QeV at h;have h1 := congrArg Prod.fst (Option.some.inj h);obtain rfl:_ = d := congrArg Prod.snd (Option.some.inj h);exact ⟨by simp [D.refs],60,Qji _ _ _ _ _ _ _ _ _ _ _ _ _ _ _ _ h1⟩
 · cases h
open Go.Proofs
def naR (n:NA):D RC := .tup (.acons (frmR n.f) (.acons (actR n.a n.fl) .anil))
theorem QeX (n:NA):(naR n).refs = [] := rfl
theorem chS {α:Type} {p:Prop} [inst:Decidable p] {x y z:α} (h1:p -> x = z) (h2:¬ p -> y = z):cond (@decide p inst) x y = z := by by_cases h:p <;> simp only [h,decide_true,decide_false,cond_true,cond_false] <;> first | exact h1 h | exact h2 h
theorem chB {α:Type} {a b:Int} {x y z:α} (h1:a = b -> x = z) (h2:¬ a = b -> y = z):cond (a == b) x y = z := by by_cases h:a = b <;> simp only [h,QqF,QoF,cond_true,cond_false,not_false_eq_true] <;> first | exact h1 h | exact h2 h
theorem chN {α:Type} {a b:Int} {x y z:α} (h1:¬ a = b -> x = z) (h2:a = b -> y = z):cond (a != b) x y = z := by by_cases h:a = b <;> simp only [h,QlM,QhX,cond_true,cond_false,not_false_eq_true] <;> first | exact h1 h | exact h2 h
theorem maxW (x:Int):(if x < 0 then (0:Int) else x) = wh x := rfl
noncomputable def Qjk (p:Int) (k:Int) (r:List Int) (gc:Bool) (got:List Int):Option (Bool × D RC) := some (cdec (okCh false ⟨p,k,r⟩ got),naR (nCh false ⟨p,k,r⟩ got))
noncomputable def QeY:List (D RC) -> Option (Bool × D RC)
 | [.acons (.int .i8 p) (.acons (.int .i64 k) (.acons (.arr .int 96 r) .anil)),.sl .int gc got] => Qjk p k r gc got
 | _ => none
noncomputable def ZD (p:Int) (k:Int) (r:List Int) (gc:Bool) (got:List Int) := evF s18 uc_9 120 41 [.acons (.int .i8 p) (.acons (.int .i64 k) (.acons (.arr (C := RC) .int 96 r) .anil)),.sl (C := RC) .int gc got]
theorem Qgr (r:List Int) (gc:Bool):ZD 72 0 r gc [] = (let Z0:Int := lRow (21:Int) (List.getD r (1:Nat) (0:Int)) (24:Int);let Z1:D RC := D.int IntKind.i8 (72:Int);let Z2:D RC := D.acons (D.arr RTy.int (96:Nat) r) .anil;let Z3:D RC := D.int .i64 0;let Z4:D RC := D.acons Z3 (D.acons Z3 (D.acons Z3 (D.acons (D.str []) (.acons (D.sl RTy.int true []) .anil))));bif decide ((0:Int) <= Z0) then some (D.tup (D.acons (D.acons Z1 (D.acons (D.int .i64 1) Z2)) (.acons (D.acons (D.int IntKind.i8 (0:Int)) (.acons (D.int .i64 Z0) Z4)) .anil))) else some (D.tup (D.acons (D.acons Z1 (D.acons Z3 Z2)) (.acons (D.acons (D.int IntKind.i8 (7:Int)) (.acons Z3 Z4)) .anil)))) := by kernel_rfl
theorem Qgs (x:Int) (r:List Int) (gc:Bool):ZD 72 1 r gc [x] = (let Z0:Int := if x < (0:Int) then (0:Int) else x;let Z1:Int := cellO (bare Z0) (1:Int) true;let Z2:D RC := .anil;let Z3:D RC := D.acons (D.int IntKind.i8 (72:Int)) (.acons (D.int .i64 1) (.acons (D.arr RTy.int (96:Nat) r) Z2));let Z4:D RC := D.int .i64 0;let Z5:DO_ := some (D.tup (D.acons Z3 (D.acons (D.acons (D.int IntKind.i8 (7:Int)) (.acons Z4 (D.acons Z4 (D.acons Z4 (D.acons Z4 (D.acons (D.str []) (.acons (D.sl RTy.int true [Z0]) Z2))))))) Z2)));bif decide (List.getD r (0:Nat) (0:Int) < plc Z0) then bif decide ((0:Int) <= Z1) then some (D.tup (D.acons Z3 (D.acons (D.acons (D.int IntKind.i8 (0:Int)) (.acons (D.int .i64 Z1) (.acons Z4 (D.acons Z4 (D.acons (D.int .i64 (bare Z0)) (.acons (D.str []) (.acons (D.sl RTy.int true []) Z2))))))) Z2))) else Z5 else Z5) := by kernel_rfl
theorem Qgt (r:List Int) (gc:Bool):ZD 73 0 r gc [] = (let Z0:Int := lRow (21:Int) (List.getD r (2:Nat) (0:Int)) (24:Int);let Z1:D RC := D.int IntKind.i8 (73:Int);let Z2:D RC := D.acons (D.arr RTy.int (96:Nat) r) .anil;let Z3:D RC := D.int .i64 0;let Z4:D RC := D.acons Z3 (D.acons Z3 (D.acons Z3 (D.acons (D.str []) (.acons (D.sl RTy.int true []) .anil))));bif decide ((0:Int) <= Z0) then some (D.tup (D.acons (D.acons Z1 (D.acons (D.int .i64 1) Z2)) (.acons (D.acons (D.int IntKind.i8 (0:Int)) (.acons (D.int .i64 Z0) Z4)) .anil))) else some (D.tup (D.acons (D.acons Z1 (D.acons Z3 Z2)) (.acons (D.acons (D.int IntKind.i8 (7:Int)) (.acons Z3 Z4)) .anil)))) := by kernel_rfl
theorem Qgu (x:Int) (r:List Int) (gc:Bool):ZD 73 1 r gc [x] = (let Z0:List Int := List.set r (3:Nat) (if x < (0:Int) then (0:Int) else x);let Z1:Int := List.getD Z0 (1:Nat) (0:Int);let Z2:Int := cellO Z1 (1:Int) true;let Z3:D RC := D.int IntKind.i8 (73:Int);let Z4:D RC := D.acons (D.arr RTy.int (96:Nat) Z0) .anil;let Z5:D RC := D.int .i64 0;let Z6:D RC := D.acons (D.str []) (.acons (D.sl RTy.int true []) .anil);let Z7:DO_ := some (D.tup (D.acons (D.acons Z3 (D.acons (D.int .i64 1) Z4)) (.acons (D.acons (D.int IntKind.i8 (7:Int)) (.acons Z5 (D.acons Z5 (D.acons Z5 (D.acons Z5 Z6))))) .anil)));let Z8:Int := List.getD Z0 (3:Nat) (0:Int);bif decide (Z2 < (0:Int)) then Z7 else bif decide (List.getD Z0 (0:Nat) (0:Int) <= plc Z8) then Z7 else some (D.tup (D.acons (D.acons Z3 (D.acons (D.int .i64 2) Z4)) (.acons (D.acons (D.int IntKind.i8 (2:Int)) (.acons (D.int .i64 Z2) (.acons (D.int .i64 (-1:Int)) (.acons (D.int .i64 Z8) (.acons (D.int .i64 Z1) Z6))))) .anil)))) := by kernel_rfl
theorem Qgv (x:Int) (r:List Int) (gc:Bool):ZD 73 2 r gc [x] = (some (D.tup (D.acons (D.acons (D.int IntKind.i8 (73:Int)) (.acons (D.int .i64 3) (.acons (D.arr RTy.int (96:Nat) r) .anil))) (.acons (D.acons (D.int IntKind.i8 (2:Int)) (.acons (D.int .i64 (lRow (21:Int) (List.getD r (2:Nat) (0:Int)) (24:Int))) (.acons (D.int .i64 (List.getD r (3:Nat) (0:Int))) (.acons (D.int .i64 (wordN (List.getD r (0:Nat) (0:Int)) (List.getD r (1:Nat) (0:Int)))) (.acons (D.int .i64 0) (.acons (D.str []) (.acons (D.sl RTy.int true []) .anil))))))) .anil)))) := by kernel_rfl
theorem Qgw (x:Int) (r:List Int) (gc:Bool):ZD 73 3 r gc [x] = (let Z0:D RC := D.int .i64 0;some (D.tup (D.acons (D.acons (D.int IntKind.i8 (73:Int)) (.acons (D.int .i64 3) (.acons (D.arr RTy.int (96:Nat) r) .anil))) (.acons (D.acons (D.int IntKind.i8 (7:Int)) (.acons Z0 (D.acons Z0 (D.acons Z0 (D.acons Z0 (D.acons (D.str []) (.acons (D.sl RTy.int true []) .anil))))))) .anil)))) := by kernel_rfl
theorem Qgx (r:List Int) (gc:Bool):ZD 74 0 r gc [] = (let Z0:Int := lRow (21:Int) (List.getD r (1:Nat) (0:Int)) (24:Int);let Z1:D RC := D.int IntKind.i8 (74:Int);let Z2:D RC := D.acons (D.arr RTy.int (96:Nat) r) .anil;let Z3:D RC := D.int .i64 0;let Z4:D RC := D.acons Z3 (D.acons Z3 (D.acons Z3 (D.acons (D.str []) (.acons (D.sl RTy.int true []) .anil))));bif decide ((0:Int) <= Z0) then some (D.tup (D.acons (D.acons Z1 (D.acons (D.int .i64 1) Z2)) (.acons (D.acons (D.int IntKind.i8 (0:Int)) (.acons (D.int .i64 Z0) Z4)) .anil))) else some (D.tup (D.acons (D.acons Z1 (D.acons Z3 Z2)) (.acons (D.acons (D.int IntKind.i8 (7:Int)) (.acons Z3 Z4)) .anil)))) := by kernel_rfl
theorem Qgy (x:Int) (r:List Int) (gc:Bool):ZD 74 1 r gc [x] = (let Z0:List Int := List.set r (2:Nat) (if x < (0:Int) then (0:Int) else x);let Z1:Int := List.getD Z0 (2:Nat) (0:Int);let Z2:Int := cellO (bare Z1) (1:Int) true;let Z3:D RC := D.int IntKind.i8 (74:Int);let Z4:D RC := .anil;let Z5:D RC := D.acons (D.arr RTy.int (96:Nat) Z0) Z4;let Z6:D RC := D.int .i64 0;let Z7:DO_ := some (D.tup (D.acons (D.acons Z3 (D.acons (D.int .i64 1) Z5)) (.acons (D.acons (D.int IntKind.i8 (7:Int)) (.acons Z6 (D.acons Z6 (D.acons Z6 (D.acons Z6 (D.acons (D.str []) (.acons (D.sl RTy.int true [(0:Int),(0:Int)]) Z4))))))) Z4)));bif decide (Z2 < (0:Int)) then Z7 else bif Z1 == (0:Int) then Z7 else some (D.tup (D.acons (D.acons Z3 (D.acons (D.int .i64 2) Z5)) (.acons (D.acons (D.int IntKind.i8 (0:Int)) (.acons (D.int .i64 Z2) (.acons Z6 (D.acons Z6 (D.acons (D.int .i64 (bare Z1)) (.acons (D.str []) (.acons (D.sl RTy.int true []) Z4))))))) Z4)))) := by kernel_rfl
theorem Qgz (x:Int) (r:List Int) (gc:Bool):ZD 74 2 r gc [x] = (let Z0:List Int := List.set r (2:Nat) (if x < (0:Int) then (0:Int) else x);let Z1:Int := List.getD Z0 (2:Nat) (0:Int);let Z2:Int := cellO (bare Z1) (1:Int) true;let Z3:D RC := D.int IntKind.i8 (74:Int);let Z4:D RC := D.int .i64 2;let Z5:D RC := .anil;let Z6:D RC := D.acons Z3 (D.acons Z4 (D.acons (D.arr RTy.int (96:Nat) Z0) Z5));let Z7:D RC := D.int .i64 0;let Z8:D RC := D.acons (D.acons (D.int IntKind.i8 (7:Int)) (.acons Z7 (D.acons Z7 (D.acons Z7 (D.acons Z7 (D.acons (D.str []) (.acons (D.sl RTy.int true [(0:Int),(0:Int)]) Z5))))))) Z5;let Z9:D RC := D.int IntKind.i8 (0:Int);let Z10:D RC := D.acons (D.str []) (.acons (D.sl RTy.int true []) Z5);let Z11:DO_ := some (D.tup (D.acons (D.acons Z3 (D.acons Z4 (D.acons (D.arr RTy.int (96:Nat) r) Z5))) Z8));let Z12:Int := cellO (bare x) (1:Int) true;bif decide (List.getD r (0:Nat) (0:Int) < plc (List.getD r (2:Nat) (0:Int))) then bif decide (Z2 < (0:Int)) then some (D.tup (D.acons Z6 Z8)) else bif Z1 == (0:Int) then some (D.tup (D.acons Z6 Z8)) else some (D.tup (D.acons Z6 (D.acons (D.acons Z9 (D.acons (D.int .i64 Z2) (.acons Z7 (D.acons Z7 (D.acons (D.int .i64 (bare Z1)) Z10))))) Z5))) else bif decide (x <= (0:Int)) then Z11 else bif decide (Z12 < (0:Int)) then Z11 else some (D.tup (D.acons (D.acons Z3 (D.acons (D.int .i64 3) (.acons (D.arr RTy.int (96:Nat) (List.set r (3:Nat) x)) Z5))) (.acons (D.acons Z9 (D.acons (D.int .i64 Z12) (.acons Z7 (D.acons Z7 (D.acons (D.int .i64 (bare x)) Z10))))) Z5)))) := by kernel_rfl
theorem QgA (x:Int) (r:List Int) (gc:Bool):ZD 74 3 r gc [x] = (let Z0:Int := List.getD r (3:Nat) (0:Int);let Z1:List Int := List.set r (2:Nat) Z0;let Z2:List Int := List.set Z1 (2:Nat) (if x < (0:Int) then (0:Int) else x);let Z3:Int := List.getD Z2 (2:Nat) (0:Int);let Z4:Int := cellO (bare Z3) (1:Int) true;let Z5:D RC := D.int IntKind.i8 (74:Int);let Z6:D RC := D.int .i64 3;let Z7:D RC := .anil;let Z8:D RC := D.acons (D.arr RTy.int (96:Nat) Z2) Z7;let Z9:D RC := D.int .i64 0;let Z10:D RC := D.acons (D.acons (D.int IntKind.i8 (7:Int)) (.acons Z9 (D.acons Z9 (D.acons Z9 (D.acons Z9 (D.acons (D.str []) (.acons (D.sl RTy.int true [(0:Int),(0:Int)]) Z7))))))) Z7;let Z11:DO_ := some (D.tup (D.acons (D.acons Z5 (D.acons Z6 Z8)) Z10));let Z12:D RC := D.int IntKind.i8 (0:Int);let Z13:D RC := D.acons (D.str []) (.acons (D.sl RTy.int true []) Z7);let Z14:DO_ := some (D.tup (D.acons (D.acons Z5 (D.acons Z6 (D.acons (D.arr RTy.int (96:Nat) Z1) Z7))) Z10));let Z15:Int := cellO (bare x) (1:Int) true;let Z16:Int := bare (List.getD r (2:Nat) (0:Int));bif decide ((0:Int) < x) then bif decide (List.getD Z1 (0:Nat) (0:Int) < plc (List.getD Z1 (2:Nat) (0:Int))) then bif decide (Z4 < (0:Int)) then Z11 else bif Z3 == (0:Int) then Z11 else some (D.tup (D.acons (D.acons Z5 (D.acons (D.int .i64 2) Z8)) (.acons (D.acons Z12 (D.acons (D.int .i64 Z4) (.acons Z9 (D.acons Z9 (D.acons (D.int .i64 (bare Z3)) Z13))))) Z7))) else bif decide (x <= (0:Int)) then Z14 else bif decide (Z15 < (0:Int)) then Z14 else some (D.tup (D.acons (D.acons Z5 (D.acons Z6 (D.acons (D.arr RTy.int (96:Nat) (List.set Z1 (3:Nat) x)) Z7))) (.acons (D.acons Z12 (D.acons (D.int .i64 Z15) (.acons Z9 (D.acons Z9 (D.acons (D.int .i64 (bare x)) Z13))))) Z7))) else some (D.tup (D.acons (D.acons Z5 (D.acons (D.int .i64 4) (.acons (D.arr RTy.int (96:Nat) r) Z7))) (.acons (D.acons (D.int IntKind.i8 (2:Int)) (.acons (D.int .i64 (cellO Z16 (1:Int) true)) (.acons (D.int .i64 Z0) (.acons Z9 (D.acons (D.int .i64 Z16) Z13))))) Z7)))) := by kernel_rfl
theorem QgB (x:Int) (r:List Int) (gc:Bool):ZD 74 4 r gc [x] = (let Z0:D RC := D.int IntKind.i8 (74:Int);let Z1:D RC := .anil;let Z2:D RC := D.acons (D.arr RTy.int (96:Nat) r) Z1;let Z3:D RC := D.int .i64 0;bif x == (0:Int) then some (D.tup (D.acons (D.acons Z0 (D.acons (D.int .i64 4) Z2)) (.acons (D.acons (D.int IntKind.i8 (7:Int)) (.acons Z3 (D.acons Z3 (D.acons Z3 (D.acons Z3 (D.acons (D.str []) (.acons (D.sl RTy.int true [(0:Int),(0:Int)]) Z1))))))) Z1))) else some (D.tup (D.acons (D.acons Z0 (D.acons (D.int .i64 5) Z2)) (.acons (D.acons (D.int IntKind.i8 (0:Int)) (.acons (D.int .i64 2) (.acons Z3 (D.acons Z3 (D.acons Z3 (D.acons (D.str []) (.acons (D.sl RTy.int true []) Z1))))))) Z1)))) := by kernel_rfl
theorem QgC (x:Int) (r:List Int) (gc:Bool):ZD 74 5 r gc [x] = (let Z0:D RC := D.int .i64 0;some (D.tup (D.acons (D.acons (D.int IntKind.i8 (74:Int)) (.acons (D.int .i64 5) (.acons (D.arr RTy.int (96:Nat) r) .anil))) (.acons (D.acons (D.int IntKind.i8 (7:Int)) (.acons Z0 (D.acons Z0 (D.acons Z0 (D.acons Z0 (D.acons (D.str []) (.acons (D.sl RTy.int true [List.getD r (3:Nat) (0:Int),x]) .anil))))))) .anil)))) := by kernel_rfl
theorem Qmu (p:Int) (k:Int) (r:List Int) (gc:Bool) (got:List Int) (h:(cdec (okCh false ⟨p,k,r⟩ got)) = true):ZD p k r gc got = some (naR (nCh false ⟨p,k,r⟩ got)) := by
 obtain ⟨hr,hk,hp⟩ := QI.1 h;simp only at hr hk hp;have a22:∀ v:Int,(r.set 2 v).getD 2 0 = v := fun v => Qc (by omega)
 have a20:∀ v:Int,(r.set 2 v).getD 0 0 = r.getD 0 0 := fun v => Qa (by decide)
 have a33:∀ v:Int,(r.set 3 v).getD 3 0 = v := fun v => Qc (by omega)
 have a30:∀ v:Int,(r.set 3 v).getD 0 0 = r.getD 0 0 := fun v => Qa (by decide)
 have a31:∀ v:Int,(r.set 3 v).getD 1 0 = r.getD 1 0 := fun v => Qa (by decide)
 rcases hp with ⟨rfl,hk1⟩ | ⟨rfl,hk1⟩ | ⟨rfl,hk1,hk3⟩
 · rcases hk with ⟨rfl,rfl⟩ | ⟨x,rfl,k0⟩
   · clear hk1;have hq:nCh false ⟨72,0,r⟩ [] = QB false 72 r (r.getD 1 0) := rfl;rw [Qgr,hq];clear hq h
     try simp only [maxW,a22,a20,a33,a30,a31,List.set_set]
     repeat' (first | refine chS (fun hc => ?_) (fun hc => ?_) | refine chB (fun hc => ?_) (fun hc => ?_) | refine chN (fun hc => ?_) (fun hc => ?_))
     all_goals
      simp only [QB,Q8,QV,Q9,QH,QQ,Q7,show ¬ (1:Int) = 0 by decide,show ¬ (2:Int) = 0 by decide,show ¬ (2:Int) = 1 by decide,show ¬ (3:Int) = 0 by decide,show ¬ (3:Int) = 1 by decide,show ¬ (3:Int) = 2 by decide,show ¬ (4:Int) = 0 by decide,show ¬ (4:Int) = 1 by decide,show ¬ (4:Int) = 2 by decide,show ¬ (4:Int) = 3 by decide,show ¬ (5:Int) = 0 by decide,show ¬ (5:Int) = 1 by decide,show ¬ (5:Int) = 2 by decide,show ¬ (5:Int) = 3 by decide,show ¬ (5:Int) = 4 by decide,if_true,if_false,cond_true,cond_false,Bool.true_and,Bool.false_and]
      repeat' split
      all_goals first | rfl | (exfalso;omega) | (exfalso;simp_all;done)
   · have ks:k = 1 := by omega
     subst ks;have hq:nCh false ⟨72,1,r⟩ [x] = Q8 false 1 r x := rfl;rw [Qgs,hq];clear hq h
     try simp only [maxW,a22,a20,a33,a30,a31,List.set_set]
     repeat' (first | refine chS (fun hc => ?_) (fun hc => ?_) | refine chB (fun hc => ?_) (fun hc => ?_) | refine chN (fun hc => ?_) (fun hc => ?_))
     all_goals
      simp only [QB,Q8,QV,Q9,QH,QQ,Q7,show ¬ (1:Int) = 0 by decide,show ¬ (2:Int) = 0 by decide,show ¬ (2:Int) = 1 by decide,show ¬ (3:Int) = 0 by decide,show ¬ (3:Int) = 1 by decide,show ¬ (3:Int) = 2 by decide,show ¬ (4:Int) = 0 by decide,show ¬ (4:Int) = 1 by decide,show ¬ (4:Int) = 2 by decide,show ¬ (4:Int) = 3 by decide,show ¬ (5:Int) = 0 by decide,show ¬ (5:Int) = 1 by decide,show ¬ (5:Int) = 2 by decide,show ¬ (5:Int) = 3 by decide,show ¬ (5:Int) = 4 by decide,if_true,if_false,cond_true,cond_false,Bool.true_and,Bool.false_and]
      repeat' split
      all_goals first | rfl | (exfalso;omega) | (exfalso;simp_all;done)
 · rcases hk with ⟨rfl,rfl⟩ | ⟨x,rfl,k0⟩
   · clear hk1;have hq:nCh false ⟨73,0,r⟩ [] = QB false 73 r (r.getD 2 0) := rfl;rw [Qgt,hq];clear hq h
     try simp only [maxW,a22,a20,a33,a30,a31,List.set_set]
     repeat' (first | refine chS (fun hc => ?_) (fun hc => ?_) | refine chB (fun hc => ?_) (fun hc => ?_) | refine chN (fun hc => ?_) (fun hc => ?_))
     all_goals
      simp only [QB,Q8,QV,Q9,QH,QQ,Q7,show ¬ (1:Int) = 0 by decide,show ¬ (2:Int) = 0 by decide,show ¬ (2:Int) = 1 by decide,show ¬ (3:Int) = 0 by decide,show ¬ (3:Int) = 1 by decide,show ¬ (3:Int) = 2 by decide,show ¬ (4:Int) = 0 by decide,show ¬ (4:Int) = 1 by decide,show ¬ (4:Int) = 2 by decide,show ¬ (4:Int) = 3 by decide,show ¬ (5:Int) = 0 by decide,show ¬ (5:Int) = 1 by decide,show ¬ (5:Int) = 2 by decide,show ¬ (5:Int) = 3 by decide,show ¬ (5:Int) = 4 by decide,if_true,if_false,cond_true,cond_false,Bool.true_and,Bool.false_and]
      repeat' split
      all_goals first | rfl | (exfalso;omega) | (exfalso;simp_all;done)
   · have ks:k = 1 \/ k = 2 \/ k = 3 := by omega
     rcases ks with rfl | rfl | rfl
     · skip
       have hq:nCh false ⟨73,1,r⟩ [x] = QV false 1 r x := rfl;rw [Qgu,hq];clear hq h
       try simp only [maxW,a22,a20,a33,a30,a31,List.set_set]
       repeat' (first | refine chS (fun hc => ?_) (fun hc => ?_) | refine chB (fun hc => ?_) (fun hc => ?_) | refine chN (fun hc => ?_) (fun hc => ?_))
       all_goals
        simp only [QB,Q8,QV,Q9,QH,QQ,Q7,show ¬ (1:Int) = 0 by decide,show ¬ (2:Int) = 0 by decide,show ¬ (2:Int) = 1 by decide,show ¬ (3:Int) = 0 by decide,show ¬ (3:Int) = 1 by decide,show ¬ (3:Int) = 2 by decide,show ¬ (4:Int) = 0 by decide,show ¬ (4:Int) = 1 by decide,show ¬ (4:Int) = 2 by decide,show ¬ (4:Int) = 3 by decide,show ¬ (5:Int) = 0 by decide,show ¬ (5:Int) = 1 by decide,show ¬ (5:Int) = 2 by decide,show ¬ (5:Int) = 3 by decide,show ¬ (5:Int) = 4 by decide,if_true,if_false,cond_true,cond_false,Bool.true_and,Bool.false_and]
        repeat' split
        all_goals first | rfl | (exfalso;omega) | (exfalso;simp_all;done)
     · skip
       have hq:nCh false ⟨73,2,r⟩ [x] = QV false 2 r x := rfl;rw [Qgv,hq];clear hq h
       try simp only [maxW,a22,a20,a33,a30,a31,List.set_set]
       repeat' (first | refine chS (fun hc => ?_) (fun hc => ?_) | refine chB (fun hc => ?_) (fun hc => ?_) | refine chN (fun hc => ?_) (fun hc => ?_))
       all_goals
        simp only [QB,Q8,QV,Q9,QH,QQ,Q7,show ¬ (1:Int) = 0 by decide,show ¬ (2:Int) = 0 by decide,show ¬ (2:Int) = 1 by decide,show ¬ (3:Int) = 0 by decide,show ¬ (3:Int) = 1 by decide,show ¬ (3:Int) = 2 by decide,show ¬ (4:Int) = 0 by decide,show ¬ (4:Int) = 1 by decide,show ¬ (4:Int) = 2 by decide,show ¬ (4:Int) = 3 by decide,show ¬ (5:Int) = 0 by decide,show ¬ (5:Int) = 1 by decide,show ¬ (5:Int) = 2 by decide,show ¬ (5:Int) = 3 by decide,show ¬ (5:Int) = 4 by decide,if_true,if_false,cond_true,cond_false,Bool.true_and,Bool.false_and]
        repeat' split
        all_goals first | rfl | (exfalso;omega) | (exfalso;simp_all;done)
     · skip
       have hq:nCh false ⟨73,3,r⟩ [x] = QV false 3 r x := rfl;rw [Qgw,hq];clear hq h
       try simp only [maxW,a22,a20,a33,a30,a31,List.set_set]
       repeat' (first | refine chS (fun hc => ?_) (fun hc => ?_) | refine chB (fun hc => ?_) (fun hc => ?_) | refine chN (fun hc => ?_) (fun hc => ?_))
       all_goals
        simp only [QB,Q8,QV,Q9,QH,QQ,Q7,show ¬ (1:Int) = 0 by decide,show ¬ (2:Int) = 0 by decide,show ¬ (2:Int) = 1 by decide,show ¬ (3:Int) = 0 by decide,show ¬ (3:Int) = 1 by decide,show ¬ (3:Int) = 2 by decide,show ¬ (4:Int) = 0 by decide,show ¬ (4:Int) = 1 by decide,show ¬ (4:Int) = 2 by decide,show ¬ (4:Int) = 3 by decide,show ¬ (5:Int) = 0 by decide,show ¬ (5:Int) = 1 by decide,show ¬ (5:Int) = 2 by decide,show ¬ (5:Int) = 3 by decide,show ¬ (5:Int) = 4 by decide,if_true,if_false,cond_true,cond_false,Bool.true_and,Bool.false_and]
        repeat' split
        all_goals first | rfl | (exfalso;omega) | (exfalso;simp_all;done)
 · rcases hk with ⟨rfl,rfl⟩ | ⟨x,rfl,k0⟩
   · clear hk1 hk3;have hq:nCh false ⟨74,0,r⟩ [] = QB false 74 r (r.getD 1 0) := rfl;rw [Qgx,hq];clear hq h
     try simp only [maxW,a22,a20,a33,a30,a31,List.set_set]
     repeat' (first | refine chS (fun hc => ?_) (fun hc => ?_) | refine chB (fun hc => ?_) (fun hc => ?_) | refine chN (fun hc => ?_) (fun hc => ?_))
     all_goals
      simp only [QB,Q8,QV,Q9,QH,QQ,Q7,show ¬ (1:Int) = 0 by decide,show ¬ (2:Int) = 0 by decide,show ¬ (2:Int) = 1 by decide,show ¬ (3:Int) = 0 by decide,show ¬ (3:Int) = 1 by decide,show ¬ (3:Int) = 2 by decide,show ¬ (4:Int) = 0 by decide,show ¬ (4:Int) = 1 by decide,show ¬ (4:Int) = 2 by decide,show ¬ (4:Int) = 3 by decide,show ¬ (5:Int) = 0 by decide,show ¬ (5:Int) = 1 by decide,show ¬ (5:Int) = 2 by decide,show ¬ (5:Int) = 3 by decide,show ¬ (5:Int) = 4 by decide,if_true,if_false,cond_true,cond_false,Bool.true_and,Bool.false_and]
      repeat' split
      all_goals first | rfl | (exfalso;omega) | (exfalso;simp_all;done)
   · have ks:k = 1 \/ k = 2 \/ k = 3 \/ k = 4 \/ k = 5 := by omega
     rcases ks with rfl | rfl | rfl | rfl | rfl
     · skip
       have hq:nCh false ⟨74,1,r⟩ [x] = Q9 false 1 r x := rfl;rw [Qgy,hq];clear hq h
       try simp only [maxW,a22,a20,a33,a30,a31,List.set_set]
       repeat' (first | refine chS (fun hc => ?_) (fun hc => ?_) | refine chB (fun hc => ?_) (fun hc => ?_) | refine chN (fun hc => ?_) (fun hc => ?_))
       all_goals
        simp only [QB,Q8,QV,Q9,QH,QQ,Q7,show ¬ (1:Int) = 0 by decide,show ¬ (2:Int) = 0 by decide,show ¬ (2:Int) = 1 by decide,show ¬ (3:Int) = 0 by decide,show ¬ (3:Int) = 1 by decide,show ¬ (3:Int) = 2 by decide,show ¬ (4:Int) = 0 by decide,show ¬ (4:Int) = 1 by decide,show ¬ (4:Int) = 2 by decide,show ¬ (4:Int) = 3 by decide,show ¬ (5:Int) = 0 by decide,show ¬ (5:Int) = 1 by decide,show ¬ (5:Int) = 2 by decide,show ¬ (5:Int) = 3 by decide,show ¬ (5:Int) = 4 by decide,if_true,if_false,cond_true,cond_false,Bool.true_and,Bool.false_and]
        repeat' split
        all_goals first | rfl | (exfalso;omega) | (exfalso;simp_all;done)
     · skip
       have hq:nCh false ⟨74,2,r⟩ [x] = QQ false 2 r x := rfl;rw [Qgz,hq];clear hq h
       try simp only [maxW,a22,a20,a33,a30,a31,List.set_set]
       repeat' (first | refine chS (fun hc => ?_) (fun hc => ?_) | refine chB (fun hc => ?_) (fun hc => ?_) | refine chN (fun hc => ?_) (fun hc => ?_))
       all_goals
        simp only [QB,Q8,QV,Q9,QH,QQ,Q7,show ¬ (1:Int) = 0 by decide,show ¬ (2:Int) = 0 by decide,show ¬ (2:Int) = 1 by decide,show ¬ (3:Int) = 0 by decide,show ¬ (3:Int) = 1 by decide,show ¬ (3:Int) = 2 by decide,show ¬ (4:Int) = 0 by decide,show ¬ (4:Int) = 1 by decide,show ¬ (4:Int) = 2 by decide,show ¬ (4:Int) = 3 by decide,show ¬ (5:Int) = 0 by decide,show ¬ (5:Int) = 1 by decide,show ¬ (5:Int) = 2 by decide,show ¬ (5:Int) = 3 by decide,show ¬ (5:Int) = 4 by decide,if_true,if_false,cond_true,cond_false,Bool.true_and,Bool.false_and]
        repeat' split
        all_goals first | rfl | (exfalso;omega) | (exfalso;simp_all;done)
     · skip
       have hq:nCh false ⟨74,3,r⟩ [x] = QQ false 3 r x := rfl;rw [QgA,hq];clear hq h
       try simp only [maxW,a22,a20,a33,a30,a31,List.set_set]
       repeat' (first | refine chS (fun hc => ?_) (fun hc => ?_) | refine chB (fun hc => ?_) (fun hc => ?_) | refine chN (fun hc => ?_) (fun hc => ?_))
       all_goals
        simp only [QB,Q8,QV,Q9,QH,QQ,Q7,show ¬ (1:Int) = 0 by decide,show ¬ (2:Int) = 0 by decide,show ¬ (2:Int) = 1 by decide,show ¬ (3:Int) = 0 by decide,show ¬ (3:Int) = 1 by decide,show ¬ (3:Int) = 2 by decide,show ¬ (4:Int) = 0 by decide,show ¬ (4:Int) = 1 by decide,show ¬ (4:Int) = 2 by decide,show ¬ (4:Int) = 3 by decide,show ¬ (5:Int) = 0 by decide,show ¬ (5:Int) = 1 by decide,show ¬ (5:Int) = 2 by decide,show ¬ (5:Int) = 3 by decide,show ¬ (5:Int) = 4 by decide,if_true,if_false,cond_true,cond_false,Bool.true_and,Bool.false_and]
        repeat' split
        all_goals first | rfl | (exfalso;omega) | (exfalso;simp_all;done)
     · skip
       have hq:nCh false ⟨74,4,r⟩ [x] = QQ false 4 r x := rfl;rw [QgB,hq];clear hq h
       try simp only [maxW,a22,a20,a33,a30,a31,List.set_set]
       repeat' (first | refine chS (fun hc => ?_) (fun hc => ?_) | refine chB (fun hc => ?_) (fun hc => ?_) | refine chN (fun hc => ?_) (fun hc => ?_))
       all_goals
        simp only [QB,Q8,QV,Q9,QH,QQ,Q7,show ¬ (1:Int) = 0 by decide,show ¬ (2:Int) = 0 by decide,show ¬ (2:Int) = 1 by decide,show ¬ (3:Int) = 0 by decide,show ¬ (3:Int) = 1 by decide,show ¬ (3:Int) = 2 by decide,show ¬ (4:Int) = 0 by decide,show ¬ (4:Int) = 1 by decide,show ¬ (4:Int) = 2 by decide,show ¬ (4:Int) = 3 by decide,show ¬ (5:Int) = 0 by decide,show ¬ (5:Int) = 1 by decide,show ¬ (5:Int) = 2 by decide,show ¬ (5:Int) = 3 by decide,show ¬ (5:Int) = 4 by decide,if_true,if_false,cond_true,cond_false,Bool.true_and,Bool.false_and]
        repeat' split
        all_goals first | rfl | (exfalso;omega) | (exfalso;simp_all;done)
     · skip
       have hq:nCh false ⟨74,5,r⟩ [x] = QQ false 5 r x := rfl;rw [QgC,hq];clear hq h
       try simp only [maxW,a22,a20,a33,a30,a31,List.set_set]
       repeat' (first | refine chS (fun hc => ?_) (fun hc => ?_) | refine chB (fun hc => ?_) (fun hc => ?_) | refine chN (fun hc => ?_) (fun hc => ?_))
       all_goals
        simp only [QB,Q8,QV,Q9,QH,QQ,Q7,show ¬ (1:Int) = 0 by decide,show ¬ (2:Int) = 0 by decide,show ¬ (2:Int) = 1 by decide,show ¬ (3:Int) = 0 by decide,show ¬ (3:Int) = 1 by decide,show ¬ (3:Int) = 2 by decide,show ¬ (4:Int) = 0 by decide,show ¬ (4:Int) = 1 by decide,show ¬ (4:Int) = 2 by decide,show ¬ (4:Int) = 3 by decide,show ¬ (5:Int) = 0 by decide,show ¬ (5:Int) = 1 by decide,show ¬ (5:Int) = 2 by decide,show ¬ (5:Int) = 3 by decide,show ¬ (5:Int) = 4 by decide,if_true,if_false,cond_true,cond_false,Bool.true_and,Bool.false_and]
        repeat' split
        all_goals first | rfl | (exfalso;omega) | (exfalso;simp_all;done)
noncomputable def ud_1 := uc_9.addSpec 41 QeY
theorem Qjl:Qg Tryz.prog s18 ud_1 := Qjj.addEv Qe fun args d h => by
 unfold QeY at h
 split at h
 · unfold Qjk at h;have h1 := congrArg Prod.fst (Option.some.inj h);obtain rfl:_ = d := congrArg Prod.snd (Option.some.inj h);exact ⟨by simp [D.refs,QeX],120,Qmu _ _ _ _ _ h1⟩
 · cases h
noncomputable def Qjm (p:Int) (k:Int) (r:List Int) (gc:Bool) (got:List Int):Option (Bool × D RC) := some (cdec (okCh true ⟨p,k,r⟩ got),naR (nCh true ⟨p,k,r⟩ got))
noncomputable def QeZ:List (D RC) -> Option (Bool × D RC)
 | [.acons (.int .i8 p) (.acons (.int .i64 k) (.acons (.arr .int 96 r) .anil)),.sl .int gc got] => Qjm p k r gc got
 | _ => none
noncomputable def ZE (p:Int) (k:Int) (r:List Int) (gc:Bool) (got:List Int) := evF s18 ud_1 120 40 [.acons (.int .i8 p) (.acons (.int .i64 k) (.acons (.arr (C := RC) .int 96 r) .anil)),.sl (C := RC) .int gc got]
theorem QgD (r:List Int) (gc:Bool):ZE 72 0 r gc [] = (let Z0:Int := lRow (21:Int) (List.getD r (1:Nat) (0:Int)) (24:Int);let Z1:D RC := D.int IntKind.i8 (72:Int);let Z2:D RC := D.acons (D.arr RTy.int (96:Nat) r) .anil;let Z3:D RC := D.int .i64 0;let Z4:D RC := D.acons Z3 (D.acons Z3 (D.acons Z3 (D.acons (D.str []) (.acons (D.sl RTy.int true []) .anil))));bif decide (Z0 < (0:Int)) then some (D.tup (D.acons (D.acons Z1 (D.acons (D.int .i64 99) Z2)) (.acons (D.acons (D.int IntKind.i8 (7:Int)) (.acons Z3 Z4)) .anil))) else some (D.tup (D.acons (D.acons Z1 (D.acons (D.int .i64 1) Z2)) (.acons (D.acons (D.int IntKind.i8 (0:Int)) (.acons (D.int .i64 Z0) Z4)) .anil)))) := by kernel_rfl
theorem QgE (x:Int) (r:List Int) (gc:Bool):ZE 72 1 r gc [x] = (let Z0:Int := if x < (0:Int) then (0:Int) else x;let Z1:Int := cellO (bare Z0) (1:Int) true;let Z2:D RC := D.int IntKind.i8 (72:Int);let Z3:D RC := .anil;let Z4:D RC := D.acons (D.arr RTy.int (96:Nat) r) Z3;let Z5:D RC := D.int .i64 0;let Z6:DO_ := some (D.tup (D.acons (D.acons Z2 (D.acons (D.int .i64 99) Z4)) (.acons (D.acons (D.int IntKind.i8 (7:Int)) (.acons Z5 (D.acons Z5 (D.acons Z5 (D.acons Z5 (D.acons (D.str []) (.acons (D.sl RTy.int true [Z0]) Z3))))))) Z3)));bif decide ((0:Int) <= Z1) then bif decide (List.getD r (0:Nat) (0:Int) < plc Z0) then some (D.tup (D.acons (D.acons Z2 (D.acons (D.int .i64 1) Z4)) (.acons (D.acons (D.int IntKind.i8 (0:Int)) (.acons (D.int .i64 Z1) (.acons Z5 (D.acons Z5 (D.acons (D.int .i64 (bare Z0)) (.acons (D.str []) (.acons (D.sl RTy.int true []) Z3))))))) Z3))) else Z6 else Z6) := by kernel_rfl
theorem QgF (r:List Int) (gc:Bool):ZE 73 0 r gc [] = (let Z0:Int := lRow (21:Int) (List.getD r (2:Nat) (0:Int)) (24:Int);let Z1:D RC := D.int IntKind.i8 (73:Int);let Z2:D RC := D.acons (D.arr RTy.int (96:Nat) r) .anil;let Z3:D RC := D.int .i64 0;let Z4:D RC := D.acons Z3 (D.acons Z3 (D.acons Z3 (D.acons (D.str []) (.acons (D.sl RTy.int true []) .anil))));bif decide (Z0 < (0:Int)) then some (D.tup (D.acons (D.acons Z1 (D.acons (D.int .i64 99) Z2)) (.acons (D.acons (D.int IntKind.i8 (7:Int)) (.acons Z3 Z4)) .anil))) else some (D.tup (D.acons (D.acons Z1 (D.acons (D.int .i64 1) Z2)) (.acons (D.acons (D.int IntKind.i8 (0:Int)) (.acons (D.int .i64 Z0) Z4)) .anil)))) := by kernel_rfl
theorem QgG (x:Int) (r:List Int) (gc:Bool):ZE 73 1 r gc [x] = (let Z0:List Int := List.set r (3:Nat) (if x < (0:Int) then (0:Int) else x);let Z1:Int := List.getD Z0 (1:Nat) (0:Int);let Z2:Int := cellO Z1 (1:Int) true;let Z3:D RC := D.int IntKind.i8 (73:Int);let Z4:D RC := D.acons (D.arr RTy.int (96:Nat) Z0) .anil;let Z5:D RC := D.int .i64 0;let Z6:D RC := D.acons (D.str []) (.acons (D.sl RTy.int true []) .anil);let Z7:DO_ := some (D.tup (D.acons (D.acons Z3 (D.acons (D.int .i64 99) Z4)) (.acons (D.acons (D.int IntKind.i8 (7:Int)) (.acons Z5 (D.acons Z5 (D.acons Z5 (D.acons Z5 Z6))))) .anil)));let Z8:Int := List.getD Z0 (3:Nat) (0:Int);bif decide (Z2 < (0:Int)) then Z7 else bif decide (List.getD Z0 (0:Nat) (0:Int) <= plc Z8) then Z7 else some (D.tup (D.acons (D.acons Z3 (D.acons (D.int .i64 2) Z4)) (.acons (D.acons (D.int IntKind.i8 (2:Int)) (.acons (D.int .i64 Z2) (.acons (D.int .i64 (-1:Int)) (.acons (D.int .i64 Z8) (.acons (D.int .i64 Z1) Z6))))) .anil)))) := by kernel_rfl
theorem QgH (x:Int) (r:List Int) (gc:Bool):ZE 73 2 r gc [x] = (some (D.tup (D.acons (D.acons (D.int IntKind.i8 (73:Int)) (.acons (D.int .i64 3) (.acons (D.arr RTy.int (96:Nat) r) .anil))) (.acons (D.acons (D.int IntKind.i8 (2:Int)) (.acons (D.int .i64 (lRow (21:Int) (List.getD r (2:Nat) (0:Int)) (24:Int))) (.acons (D.int .i64 (List.getD r (3:Nat) (0:Int))) (.acons (D.int .i64 (wordN (List.getD r (0:Nat) (0:Int)) (List.getD r (1:Nat) (0:Int)))) (.acons (D.int .i64 0) (.acons (D.str []) (.acons (D.sl RTy.int true []) .anil))))))) .anil)))) := by kernel_rfl
theorem QgI (x:Int) (r:List Int) (gc:Bool):ZE 73 3 r gc [x] = (let Z0:D RC := D.int .i64 0;some (D.tup (D.acons (D.acons (D.int IntKind.i8 (73:Int)) (.acons (D.int .i64 99) (.acons (D.arr RTy.int (96:Nat) r) .anil))) (.acons (D.acons (D.int IntKind.i8 (7:Int)) (.acons Z0 (D.acons Z0 (D.acons Z0 (D.acons Z0 (D.acons (D.str []) (.acons (D.sl RTy.int true []) .anil))))))) .anil)))) := by kernel_rfl
theorem QgJ (r:List Int) (gc:Bool):ZE 74 0 r gc [] = (let Z0:Int := lRow (21:Int) (List.getD r (1:Nat) (0:Int)) (24:Int);let Z1:D RC := D.int IntKind.i8 (74:Int);let Z2:D RC := D.acons (D.arr RTy.int (96:Nat) r) .anil;let Z3:D RC := D.int .i64 0;let Z4:D RC := D.acons Z3 (D.acons Z3 (D.acons Z3 (D.acons (D.str []) (.acons (D.sl RTy.int true []) .anil))));bif decide (Z0 < (0:Int)) then some (D.tup (D.acons (D.acons Z1 (D.acons (D.int .i64 99) Z2)) (.acons (D.acons (D.int IntKind.i8 (7:Int)) (.acons Z3 Z4)) .anil))) else some (D.tup (D.acons (D.acons Z1 (D.acons (D.int .i64 1) Z2)) (.acons (D.acons (D.int IntKind.i8 (0:Int)) (.acons (D.int .i64 Z0) Z4)) .anil)))) := by kernel_rfl
theorem QgK (x:Int) (r:List Int) (gc:Bool):ZE 74 1 r gc [x] = (let Z0:Int := if x < (0:Int) then (0:Int) else x;let Z1:D RC := D.int IntKind.i8 (74:Int);let Z2:D RC := .anil;let Z3:D RC := D.acons (D.arr RTy.int (96:Nat) (List.set r (2:Nat) Z0)) Z2;let Z4:D RC := D.int .i64 0;let Z5:DO_ := some (D.tup (D.acons (D.acons Z1 (D.acons (D.int .i64 99) Z3)) (.acons (D.acons (D.int IntKind.i8 (7:Int)) (.acons Z4 (D.acons Z4 (D.acons Z4 (D.acons Z4 (D.acons (D.str []) (.acons (D.sl RTy.int true [(0:Int),(0:Int)]) Z2))))))) Z2)));let Z6:Int := cellO (bare Z0) (1:Int) true;bif Z0 == (0:Int) then Z5 else bif decide (Z6 < (0:Int)) then Z5 else some (D.tup (D.acons (D.acons Z1 (D.acons (D.int .i64 2) Z3)) (.acons (D.acons (D.int IntKind.i8 (0:Int)) (.acons (D.int .i64 Z6) (.acons Z4 (D.acons Z4 (D.acons (D.int .i64 (bare Z0)) (.acons (D.str []) (.acons (D.sl RTy.int true []) Z2))))))) Z2)))) := by kernel_rfl
theorem QgL (x:Int) (r:List Int) (gc:Bool):ZE 74 2 r gc [x] = (let Z0:Int := if x < (0:Int) then (0:Int) else x;let Z1:D RC := D.int IntKind.i8 (74:Int);let Z2:D RC := D.int .i64 99;let Z3:D RC := .anil;let Z4:D RC := D.acons (D.arr RTy.int (96:Nat) (List.set r (2:Nat) Z0)) Z3;let Z5:D RC := D.int .i64 0;let Z6:D RC := D.acons (D.acons (D.int IntKind.i8 (7:Int)) (.acons Z5 (D.acons Z5 (D.acons Z5 (D.acons Z5 (D.acons (D.str []) (.acons (D.sl RTy.int true [(0:Int),(0:Int)]) Z3))))))) Z3;let Z7:DO_ := some (D.tup (D.acons (D.acons Z1 (D.acons Z2 Z4)) Z6));let Z8:Int := cellO (bare Z0) (1:Int) true;let Z9:Bool := decide (Z8 < (0:Int));let Z10:D RC := D.acons (D.acons (D.int IntKind.i8 (0:Int)) (.acons (D.int .i64 Z8) (.acons Z5 (D.acons Z5 (D.acons (D.int .i64 (bare Z0)) (.acons (D.str []) (.acons (D.sl RTy.int true []) Z3))))))) Z3;let Z11:D RC := D.acons (D.arr RTy.int (96:Nat) (List.set r (3:Nat) Z0)) Z3;bif decide (List.getD r (0:Nat) (0:Int) < plc (List.getD r (2:Nat) (0:Int))) then bif Z0 == (0:Int) then Z7 else bif Z9 then Z7 else some (D.tup (D.acons (D.acons Z1 (D.acons (D.int .i64 2) Z4)) Z10)) else bif Z0 == (0:Int) then some (D.tup (D.acons (D.acons Z1 (D.acons Z2 (D.acons (D.arr RTy.int (96:Nat) r) Z3))) Z6)) else bif Z9 then some (D.tup (D.acons (D.acons Z1 (D.acons Z2 Z11)) Z6)) else some (D.tup (D.acons (D.acons Z1 (D.acons (D.int .i64 3) Z11)) Z10))) := by kernel_rfl
theorem QgM (x:Int) (r:List Int) (gc:Bool):ZE 74 3 r gc [x] = (let Z0:Int := if x < (0:Int) then (0:Int) else x;let Z1:Int := cellO (bare Z0) (1:Int) true;let Z2:D RC := D.int IntKind.i8 (74:Int);let Z3:Int := List.getD r (3:Nat) (0:Int);let Z4:D RC := .anil;let Z5:D RC := D.acons (D.arr RTy.int (96:Nat) (List.set (List.set r (2:Nat) Z3) (3:Nat) Z0)) Z4;let Z6:D RC := D.int .i64 0;let Z7:D RC := D.acons (D.str []) (.acons (D.sl RTy.int true []) Z4);let Z8:Int := bare (List.getD r (2:Nat) (0:Int));bif Z0 != (0:Int) then bif decide (Z1 < (0:Int)) then some (D.tup (D.acons (D.acons Z2 (D.acons (D.int .i64 99) Z5)) (.acons (D.acons (D.int IntKind.i8 (7:Int)) (.acons Z6 (D.acons Z6 (D.acons Z6 (D.acons Z6 (D.acons (D.str []) (.acons (D.sl RTy.int true [(0:Int),(0:Int)]) Z4))))))) Z4))) else some (D.tup (D.acons (D.acons Z2 (D.acons (D.int .i64 3) Z5)) (.acons (D.acons (D.int IntKind.i8 (0:Int)) (.acons (D.int .i64 Z1) (.acons Z6 (D.acons Z6 (D.acons (D.int .i64 (bare Z0)) Z7))))) Z4))) else some (D.tup (D.acons (D.acons Z2 (D.acons (D.int .i64 4) (.acons (D.arr RTy.int (96:Nat) r) Z4))) (.acons (D.acons (D.int IntKind.i8 (2:Int)) (.acons (D.int .i64 (cellO Z8 (1:Int) true)) (.acons (D.int .i64 Z3) (.acons Z6 (D.acons (D.int .i64 Z8) Z7))))) Z4)))) := by kernel_rfl
theorem QgN (x:Int) (r:List Int) (gc:Bool):ZE 74 4 r gc [x] = (let Z0:D RC := D.int IntKind.i8 (74:Int);let Z1:D RC := .anil;let Z2:D RC := D.acons (D.arr RTy.int (96:Nat) r) Z1;let Z3:D RC := D.int .i64 0;bif x == (0:Int) then some (D.tup (D.acons (D.acons Z0 (D.acons (D.int .i64 99) Z2)) (.acons (D.acons (D.int IntKind.i8 (7:Int)) (.acons Z3 (D.acons Z3 (D.acons Z3 (D.acons Z3 (D.acons (D.str []) (.acons (D.sl RTy.int true [(0:Int),(0:Int)]) Z1))))))) Z1))) else some (D.tup (D.acons (D.acons Z0 (D.acons (D.int .i64 5) Z2)) (.acons (D.acons (D.int IntKind.i8 (0:Int)) (.acons (D.int .i64 2) (.acons Z3 (D.acons Z3 (D.acons Z3 (D.acons (D.str []) (.acons (D.sl RTy.int true []) Z1))))))) Z1)))) := by kernel_rfl
theorem QgO (x:Int) (r:List Int) (gc:Bool):ZE 74 5 r gc [x] = (let Z0:D RC := D.int .i64 0;some (D.tup (D.acons (D.acons (D.int IntKind.i8 (74:Int)) (.acons (D.int .i64 99) (.acons (D.arr RTy.int (96:Nat) r) .anil))) (.acons (D.acons (D.int IntKind.i8 (7:Int)) (.acons Z0 (D.acons Z0 (D.acons Z0 (D.acons Z0 (D.acons (D.str []) (.acons (D.sl RTy.int true [List.getD r (3:Nat) (0:Int),x]) .anil))))))) .anil)))) := by kernel_rfl
theorem Qmv (p:Int) (k:Int) (r:List Int) (gc:Bool) (got:List Int) (h:(cdec (okCh true ⟨p,k,r⟩ got)) = true):ZE p k r gc got = some (naR (nCh true ⟨p,k,r⟩ got)) := by
 obtain ⟨hr,hk,hp⟩ := QI.1 h;simp only at hr hk hp;have a22:∀ v:Int,(r.set 2 v).getD 2 0 = v := fun v => Qc (by omega)
 have a20:∀ v:Int,(r.set 2 v).getD 0 0 = r.getD 0 0 := fun v => Qa (by decide)
 have a33:∀ v:Int,(r.set 3 v).getD 3 0 = v := fun v => Qc (by omega)
 have a30:∀ v:Int,(r.set 3 v).getD 0 0 = r.getD 0 0 := fun v => Qa (by decide)
 have a31:∀ v:Int,(r.set 3 v).getD 1 0 = r.getD 1 0 := fun v => Qa (by decide)
 rcases hp with ⟨rfl,hk1⟩ | ⟨rfl,hk1⟩ | ⟨rfl,hk1,hk3⟩
 · rcases hk with ⟨rfl,rfl⟩ | ⟨x,rfl,k0⟩
   · clear hk1;have hq:nCh true ⟨72,0,r⟩ [] = QB true 72 r (r.getD 1 0) := rfl;rw [QgD,hq];clear hq h
     try simp only [maxW,a22,a20,a33,a30,a31,List.set_set]
     repeat' (first | refine chS (fun hc => ?_) (fun hc => ?_) | refine chB (fun hc => ?_) (fun hc => ?_) | refine chN (fun hc => ?_) (fun hc => ?_))
     all_goals
      simp only [QB,Q8,QV,Q9,QH,QQ,Q7,show ¬ (1:Int) = 0 by decide,show ¬ (2:Int) = 0 by decide,show ¬ (2:Int) = 1 by decide,show ¬ (3:Int) = 0 by decide,show ¬ (3:Int) = 1 by decide,show ¬ (3:Int) = 2 by decide,show ¬ (4:Int) = 0 by decide,show ¬ (4:Int) = 1 by decide,show ¬ (4:Int) = 2 by decide,show ¬ (4:Int) = 3 by decide,show ¬ (5:Int) = 0 by decide,show ¬ (5:Int) = 1 by decide,show ¬ (5:Int) = 2 by decide,show ¬ (5:Int) = 3 by decide,show ¬ (5:Int) = 4 by decide,if_true,if_false,cond_true,cond_false,Bool.true_and,Bool.false_and]
      repeat' split
      all_goals first | rfl | (exfalso;omega) | (exfalso;simp_all;done)
   · have ks:k = 1 := by omega
     subst ks;have hq:nCh true ⟨72,1,r⟩ [x] = Q8 true 1 r x := rfl;rw [QgE,hq];clear hq h
     try simp only [maxW,a22,a20,a33,a30,a31,List.set_set]
     repeat' (first | refine chS (fun hc => ?_) (fun hc => ?_) | refine chB (fun hc => ?_) (fun hc => ?_) | refine chN (fun hc => ?_) (fun hc => ?_))
     all_goals
      simp only [QB,Q8,QV,Q9,QH,QQ,Q7,show ¬ (1:Int) = 0 by decide,show ¬ (2:Int) = 0 by decide,show ¬ (2:Int) = 1 by decide,show ¬ (3:Int) = 0 by decide,show ¬ (3:Int) = 1 by decide,show ¬ (3:Int) = 2 by decide,show ¬ (4:Int) = 0 by decide,show ¬ (4:Int) = 1 by decide,show ¬ (4:Int) = 2 by decide,show ¬ (4:Int) = 3 by decide,show ¬ (5:Int) = 0 by decide,show ¬ (5:Int) = 1 by decide,show ¬ (5:Int) = 2 by decide,show ¬ (5:Int) = 3 by decide,show ¬ (5:Int) = 4 by decide,if_true,if_false,cond_true,cond_false,Bool.true_and,Bool.false_and]
      repeat' split
      all_goals first | rfl | (exfalso;omega) | (exfalso;simp_all;done)
 · rcases hk with ⟨rfl,rfl⟩ | ⟨x,rfl,k0⟩
   · clear hk1;have hq:nCh true ⟨73,0,r⟩ [] = QB true 73 r (r.getD 2 0) := rfl;rw [QgF,hq];clear hq h
     try simp only [maxW,a22,a20,a33,a30,a31,List.set_set]
     repeat' (first | refine chS (fun hc => ?_) (fun hc => ?_) | refine chB (fun hc => ?_) (fun hc => ?_) | refine chN (fun hc => ?_) (fun hc => ?_))
     all_goals
      simp only [QB,Q8,QV,Q9,QH,QQ,Q7,show ¬ (1:Int) = 0 by decide,show ¬ (2:Int) = 0 by decide,show ¬ (2:Int) = 1 by decide,show ¬ (3:Int) = 0 by decide,show ¬ (3:Int) = 1 by decide,show ¬ (3:Int) = 2 by decide,show ¬ (4:Int) = 0 by decide,show ¬ (4:Int) = 1 by decide,show ¬ (4:Int) = 2 by decide,show ¬ (4:Int) = 3 by decide,show ¬ (5:Int) = 0 by decide,show ¬ (5:Int) = 1 by decide,show ¬ (5:Int) = 2 by decide,show ¬ (5:Int) = 3 by decide,show ¬ (5:Int) = 4 by decide,if_true,if_false,cond_true,cond_false,Bool.true_and,Bool.false_and]
      repeat' split
      all_goals first | rfl | (exfalso;omega) | (exfalso;simp_all;done)
   · have ks:k = 1 \/ k = 2 \/ k = 3 := by omega
     rcases ks with rfl | rfl | rfl
     · skip
       have hq:nCh true ⟨73,1,r⟩ [x] = QV true 1 r x := rfl;rw [QgG,hq];clear hq h
       try simp only [maxW,a22,a20,a33,a30,a31,List.set_set]
       repeat' (first | refine chS (fun hc => ?_) (fun hc => ?_) | refine chB (fun hc => ?_) (fun hc => ?_) | refine chN (fun hc => ?_) (fun hc => ?_))
       all_goals
        simp only [QB,Q8,QV,Q9,QH,QQ,Q7,show ¬ (1:Int) = 0 by decide,show ¬ (2:Int) = 0 by decide,show ¬ (2:Int) = 1 by decide,show ¬ (3:Int) = 0 by decide,show ¬ (3:Int) = 1 by decide,show ¬ (3:Int) = 2 by decide,show ¬ (4:Int) = 0 by decide,show ¬ (4:Int) = 1 by decide,show ¬ (4:Int) = 2 by decide,show ¬ (4:Int) = 3 by decide,show ¬ (5:Int) = 0 by decide,show ¬ (5:Int) = 1 by decide,show ¬ (5:Int) = 2 by decide,show ¬ (5:Int) = 3 by decide,show ¬ (5:Int) = 4 by decide,if_true,if_false,cond_true,cond_false,Bool.true_and,Bool.false_and]
        repeat' split
        all_goals first | rfl | (exfalso;omega) | (exfalso;simp_all;done)
     · skip
       have hq:nCh true ⟨73,2,r⟩ [x] = QV true 2 r x := rfl;rw [QgH,hq];clear hq h
       try simp only [maxW,a22,a20,a33,a30,a31,List.set_set]
       repeat' (first | refine chS (fun hc => ?_) (fun hc => ?_) | refine chB (fun hc => ?_) (fun hc => ?_) | refine chN (fun hc => ?_) (fun hc => ?_))
       all_goals
        simp only [QB,Q8,QV,Q9,QH,QQ,Q7,show ¬ (1:Int) = 0 by decide,show ¬ (2:Int) = 0 by decide,show ¬ (2:Int) = 1 by decide,show ¬ (3:Int) = 0 by decide,show ¬ (3:Int) = 1 by decide,show ¬ (3:Int) = 2 by decide,show ¬ (4:Int) = 0 by decide,show ¬ (4:Int) = 1 by decide,show ¬ (4:Int) = 2 by decide,show ¬ (4:Int) = 3 by decide,show ¬ (5:Int) = 0 by decide,show ¬ (5:Int) = 1 by decide,show ¬ (5:Int) = 2 by decide,show ¬ (5:Int) = 3 by decide,show ¬ (5:Int) = 4 by decide,if_true,if_false,cond_true,cond_false,Bool.true_and,Bool.false_and]
        repeat' split
        all_goals first | rfl | (exfalso;omega) | (exfalso;simp_all;done)
     · skip
       have hq:nCh true ⟨73,3,r⟩ [x] = QV true 3 r x := rfl;rw [QgI,hq];clear hq h
       try simp only [maxW,a22,a20,a33,a30,a31,List.set_set]
       repeat' (first | refine chS (fun hc => ?_) (fun hc => ?_) | refine chB (fun hc => ?_) (fun hc => ?_) | refine chN (fun hc => ?_) (fun hc => ?_))
       all_goals
        simp only [QB,Q8,QV,Q9,QH,QQ,Q7,show ¬ (1:Int) = 0 by decide,show ¬ (2:Int) = 0 by decide,show ¬ (2:Int) = 1 by decide,show ¬ (3:Int) = 0 by decide,show ¬ (3:Int) = 1 by decide,show ¬ (3:Int) = 2 by decide,show ¬ (4:Int) = 0 by decide,show ¬ (4:Int) = 1 by decide,show ¬ (4:Int) = 2 by decide,show ¬ (4:Int) = 3 by decide,show ¬ (5:Int) = 0 by decide,show ¬ (5:Int) = 1 by decide,show ¬ (5:Int) = 2 by decide,show ¬ (5:Int) = 3 by decide,show ¬ (5:Int) = 4 by decide,if_true,if_false,cond_true,cond_false,Bool.true_and,Bool.false_and]
        repeat' split
        all_goals first | rfl | (exfalso;omega) | (exfalso;simp_all;done)
 · rcases hk with ⟨rfl,rfl⟩ | ⟨x,rfl,k0⟩
   · clear hk1 hk3;have hq:nCh true ⟨74,0,r⟩ [] = QB true 74 r (r.getD 1 0) := rfl;rw [QgJ,hq];clear hq h
     try simp only [maxW,a22,a20,a33,a30,a31,List.set_set]
     repeat' (first | refine chS (fun hc => ?_) (fun hc => ?_) | refine chB (fun hc => ?_) (fun hc => ?_) | refine chN (fun hc => ?_) (fun hc => ?_))
     all_goals
      simp only [QB,Q8,QV,Q9,QH,QQ,Q7,show ¬ (1:Int) = 0 by decide,show ¬ (2:Int) = 0 by decide,show ¬ (2:Int) = 1 by decide,show ¬ (3:Int) = 0 by decide,show ¬ (3:Int) = 1 by decide,show ¬ (3:Int) = 2 by decide,show ¬ (4:Int) = 0 by decide,show ¬ (4:Int) = 1 by decide,show ¬ (4:Int) = 2 by decide,show ¬ (4:Int) = 3 by decide,show ¬ (5:Int) = 0 by decide,show ¬ (5:Int) = 1 by decide,show ¬ (5:Int) = 2 by decide,show ¬ (5:Int) = 3 by decide,show ¬ (5:Int) = 4 by decide,if_true,if_false,cond_true,cond_false,Bool.true_and,Bool.false_and]
      repeat' split
      all_goals first | rfl | (exfalso;omega) | (exfalso;simp_all;done)
   · have ks:k = 1 \/ k = 2 \/ k = 3 \/ k = 4 \/ k = 5 := by omega
     rcases ks with rfl | rfl | rfl | rfl | rfl
     · skip
       have hq:nCh true ⟨74,1,r⟩ [x] = Q9 true 1 r x := rfl;rw [QgK,hq];clear hq h
       try simp only [maxW,a22,a20,a33,a30,a31,List.set_set]
       repeat' (first | refine chS (fun hc => ?_) (fun hc => ?_) | refine chB (fun hc => ?_) (fun hc => ?_) | refine chN (fun hc => ?_) (fun hc => ?_))
       all_goals
        simp only [QB,Q8,QV,Q9,QH,QQ,Q7,show ¬ (1:Int) = 0 by decide,show ¬ (2:Int) = 0 by decide,show ¬ (2:Int) = 1 by decide,show ¬ (3:Int) = 0 by decide,show ¬ (3:Int) = 1 by decide,show ¬ (3:Int) = 2 by decide,show ¬ (4:Int) = 0 by decide,show ¬ (4:Int) = 1 by decide,show ¬ (4:Int) = 2 by decide,show ¬ (4:Int) = 3 by decide,show ¬ (5:Int) = 0 by decide,show ¬ (5:Int) = 1 by decide,show ¬ (5:Int) = 2 by decide,show ¬ (5:Int) = 3 by decide,show ¬ (5:Int) = 4 by decide,if_true,if_false,cond_true,cond_false,Bool.true_and,Bool.false_and]
        repeat' split
        all_goals first | rfl | (exfalso;omega) | (exfalso;simp_all;done)
     · skip
       have hq:nCh true ⟨74,2,r⟩ [x] = QQ true 2 r x := rfl;rw [QgL,hq];clear hq h
       by_cases hx:0 < x
       · have ew:wh x = x := by unfold wh;rw [if_neg (by omega)]
         have ed:decide (0 < x) = true := decide_eq_true hx;simp only [maxW,ew,a22,a20,a33,a30,a31,List.set_set]
         repeat' (first | refine chS (fun hc => ?_) (fun hc => ?_) | refine chB (fun hc => ?_) (fun hc => ?_) | refine chN (fun hc => ?_) (fun hc => ?_))
         all_goals
          simp only [ew,ed,QB,Q8,QV,Q9,QH,QQ,Q7,show ¬ (1:Int) = 0 by decide,show ¬ (2:Int) = 0 by decide,show ¬ (2:Int) = 1 by decide,show ¬ (3:Int) = 0 by decide,show ¬ (3:Int) = 1 by decide,show ¬ (3:Int) = 2 by decide,show ¬ (4:Int) = 0 by decide,show ¬ (4:Int) = 1 by decide,show ¬ (4:Int) = 2 by decide,show ¬ (4:Int) = 3 by decide,show ¬ (5:Int) = 0 by decide,show ¬ (5:Int) = 1 by decide,show ¬ (5:Int) = 2 by decide,show ¬ (5:Int) = 3 by decide,show ¬ (5:Int) = 4 by decide,if_true,if_false,cond_true,cond_false,Bool.true_and,Bool.false_and]
          repeat' split
          all_goals first | rfl | (exfalso;omega) | (exfalso;simp_all;done)
       · have ew:wh x = 0 := by unfold wh;split <;> omega
         have ed:decide (0 < x) = false := decide_eq_false hx;simp only [maxW,ew,a22,a20,a33,a30,a31,List.set_set]
         repeat' (first | refine chS (fun hc => ?_) (fun hc => ?_) | refine chB (fun hc => ?_) (fun hc => ?_) | refine chN (fun hc => ?_) (fun hc => ?_))
         all_goals
          simp only [ew,ed,QB,Q8,QV,Q9,QH,QQ,Q7,show ¬ (1:Int) = 0 by decide,show ¬ (2:Int) = 0 by decide,show ¬ (2:Int) = 1 by decide,show ¬ (3:Int) = 0 by decide,show ¬ (3:Int) = 1 by decide,show ¬ (3:Int) = 2 by decide,show ¬ (4:Int) = 0 by decide,show ¬ (4:Int) = 1 by decide,show ¬ (4:Int) = 2 by decide,show ¬ (4:Int) = 3 by decide,show ¬ (5:Int) = 0 by decide,show ¬ (5:Int) = 1 by decide,show ¬ (5:Int) = 2 by decide,show ¬ (5:Int) = 3 by decide,show ¬ (5:Int) = 4 by decide,if_true,if_false,cond_true,cond_false,Bool.true_and,Bool.false_and]
          repeat' split
          all_goals first | rfl | (exfalso;omega) | (exfalso;simp_all;done)
     · skip
       have hq:nCh true ⟨74,3,r⟩ [x] = QQ true 3 r x := rfl;rw [QgM,hq];clear hq h
       by_cases hx:0 < x
       · have ew:wh x = x := by unfold wh;rw [if_neg (by omega)]
         have ed:decide (0 < x) = true := decide_eq_true hx;simp only [maxW,ew,a22,a20,a33,a30,a31,List.set_set]
         repeat' (first | refine chS (fun hc => ?_) (fun hc => ?_) | refine chB (fun hc => ?_) (fun hc => ?_) | refine chN (fun hc => ?_) (fun hc => ?_))
         all_goals
          simp only [ew,ed,QB,Q8,QV,Q9,QH,QQ,Q7,show ¬ (1:Int) = 0 by decide,show ¬ (2:Int) = 0 by decide,show ¬ (2:Int) = 1 by decide,show ¬ (3:Int) = 0 by decide,show ¬ (3:Int) = 1 by decide,show ¬ (3:Int) = 2 by decide,show ¬ (4:Int) = 0 by decide,show ¬ (4:Int) = 1 by decide,show ¬ (4:Int) = 2 by decide,show ¬ (4:Int) = 3 by decide,show ¬ (5:Int) = 0 by decide,show ¬ (5:Int) = 1 by decide,show ¬ (5:Int) = 2 by decide,show ¬ (5:Int) = 3 by decide,show ¬ (5:Int) = 4 by decide,if_true,if_false,cond_true,cond_false,Bool.true_and,Bool.false_and]
          repeat' split
          all_goals first | rfl | (exfalso;omega) | (exfalso;simp_all;done)
       · have ew:wh x = 0 := by unfold wh;split <;> omega
         have ed:decide (0 < x) = false := decide_eq_false hx;simp only [maxW,ew,a22,a20,a33,a30,a31,List.set_set]
         repeat' (first | refine chS (fun hc => ?_) (fun hc => ?_) | refine chB (fun hc => ?_) (fun hc => ?_) | refine chN (fun hc => ?_) (fun hc => ?_))
         all_goals
          simp only [ew,ed,QB,Q8,QV,Q9,QH,QQ,Q7,show ¬ (1:Int) = 0 by decide,show ¬ (2:Int) = 0 by decide,show ¬ (2:Int) = 1 by decide,show ¬ (3:Int) = 0 by decide,show ¬ (3:Int) = 1 by decide,show ¬ (3:Int) = 2 by decide,show ¬ (4:Int) = 0 by decide,show ¬ (4:Int) = 1 by decide,show ¬ (4:Int) = 2 by decide,show ¬ (4:Int) = 3 by decide,show ¬ (5:Int) = 0 by decide,show ¬ (5:Int) = 1 by decide,show ¬ (5:Int) = 2 by decide,show ¬ (5:Int) = 3 by decide,show ¬ (5:Int) = 4 by decide,if_true,if_false,cond_true,cond_false,Bool.true_and,Bool.false_and]
          repeat' split
          all_goals first | rfl | (exfalso;omega) | (exfalso;simp_all;done)
     · skip
       have hq:nCh true ⟨74,4,r⟩ [x] = QQ true 4 r x := rfl;rw [QgN,hq];clear hq h
       try simp only [maxW,a22,a20,a33,a30,a31,List.set_set]
       repeat' (first | refine chS (fun hc => ?_) (fun hc => ?_) | refine chB (fun hc => ?_) (fun hc => ?_) | refine chN (fun hc => ?_) (fun hc => ?_))
       all_goals
        simp only [QB,Q8,QV,Q9,QH,QQ,Q7,show ¬ (1:Int) = 0 by decide,show ¬ (2:Int) = 0 by decide,show ¬ (2:Int) = 1 by decide,show ¬ (3:Int) = 0 by decide,show ¬ (3:Int) = 1 by decide,show ¬ (3:Int) = 2 by decide,show ¬ (4:Int) = 0 by decide,show ¬ (4:Int) = 1 by decide,show ¬ (4:Int) = 2 by decide,show ¬ (4:Int) = 3 by decide,show ¬ (5:Int) = 0 by decide,show ¬ (5:Int) = 1 by decide,show ¬ (5:Int) = 2 by decide,show ¬ (5:Int) = 3 by decide,show ¬ (5:Int) = 4 by decide,if_true,if_false,cond_true,cond_false,Bool.true_and,Bool.false_and]
        repeat' split
        all_goals first | rfl | (exfalso;omega) | (exfalso;simp_all;done)
     · skip
       have hq:nCh true ⟨74,5,r⟩ [x] = QQ true 5 r x := rfl;rw [QgO,hq];clear hq h
       try simp only [maxW,a22,a20,a33,a30,a31,List.set_set]
       repeat' (first | refine chS (fun hc => ?_) (fun hc => ?_) | refine chB (fun hc => ?_) (fun hc => ?_) | refine chN (fun hc => ?_) (fun hc => ?_))
       all_goals
        simp only [QB,Q8,QV,Q9,QH,QQ,Q7,show ¬ (1:Int) = 0 by decide,show ¬ (2:Int) = 0 by decide,show ¬ (2:Int) = 1 by decide,show ¬ (3:Int) = 0 by decide,show ¬ (3:Int) = 1 by decide,show ¬ (3:Int) = 2 by decide,show ¬ (4:Int) = 0 by decide,show ¬ (4:Int) = 1 by decide,show ¬ (4:Int) = 2 by decide,show ¬ (4:Int) = 3 by decide,show ¬ (5:Int) = 0 by decide,show ¬ (5:Int) = 1 by decide,show ¬ (5:Int) = 2 by decide,show ¬ (5:Int) = 3 by decide,show ¬ (5:Int) = 4 by decide,if_true,if_false,cond_true,cond_false,Bool.true_and,Bool.false_and]
        repeat' split
        all_goals first | rfl | (exfalso;omega) | (exfalso;simp_all;done)
noncomputable def ud_2 := ud_1.addSpec 40 QeZ
theorem Qjn:Qg Tryz.prog s18 ud_2 := Qjl.addEv Qe fun args d h => by
 unfold QeZ at h
 split at h
 · unfold Qjm at h;have h1 := congrArg Prod.fst (Option.some.inj h);obtain rfl:_ = d := congrArg Prod.snd (Option.some.inj h);exact ⟨by simp [D.refs,QeX],120,Qmv _ _ _ _ _ h1⟩
 · cases h
end Go.Ev
