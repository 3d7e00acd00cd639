/-
  A part of the proof of a statement of this seat: the model is run over values by content, proved sound; what the functions come to. No condition beyond the given statements. (text 6)
-/
import Derived.Test.YtndenhihcjijaaaGreatP4
namespace Go.Ev
set_option linter.unusedVariables false
set_option linter.unusedSimpArgs false
theorem QcQ {l:List Sector} (h:Yy l = true):∀ s ∈ l,Zv s = true := by
 simp only [Yy,Bool.and_eq_true] at h;exact List.all_eq_true.1 h.2
theorem QmX {l:List Sector} (h1:l.length = 33) (h2:∀ s ∈ l,Zv s = true):Yy l = true := by
 simp only [Yy,Bool.and_eq_true,decide_eq_true_eq];exact ⟨h1,List.all_eq_true.2 h2⟩
theorem Qaw {l:List Sector} (h:Yy l = true):Qv l = true := by
 have h1 := Kx h;rw [Vg];refine ⟨by omega,fun s hs => Qq ?_⟩
 have := QcQ h s hs;simp only [Zv,Bool.and_eq_true,decide_eq_true_eq] at this;omega
theorem Yl {now sure:List Sector} (h:Qz now sure = true):Yy now = true /\ Yy sure = true /\ JU now sure 0 = true := by
 simp only [Qz,Bool.and_eq_true] at h;exact ⟨h.1.1,h.1.2,h.2⟩
theorem QdL {now sure:List Sector} (hl:now.length = sure.length):JU now sure 0 = true ↔ ∀ i,i < now.length -> (sure.getD i sec0).n <= (now.getD i sec0).n := by
 unfold JU;rw [List.drop_zero,List.all_eq_true];constructor
 · intro h i hi;have hz:i < (now.zip sure).length := by simp;omega
   have h3 := h _ (List.getElem_mem hz);simp only [List.getElem_zip,decide_eq_true_eq] at h3;have hi2:i < sure.length := by omega
   simpa [hi,hi2] using h3
 · intro h p hp;obtain ⟨i,hi,rfl⟩ := List.getElem_of_mem hp;have h1:i < now.length := by simp at hi;omega
   have h2:i < sure.length := by omega
   have := h i h1;simp only [List.getElem_zip,decide_eq_true_eq]
   simpa [h1,h2] using this
theorem QdM {now sure:List Sector} (h:Qz now sure = true):Qv now = true /\ Qv sure = true :=
 ⟨Qaw (Yl h).1,Qaw (Yl h).2.1⟩
theorem putNow_mem {now:List Sector} {k:Nat} {n:Int} {b:List UInt8} {s:Sector} (h:s ∈ Vf now k n b):s ∈ now \/ s = ⟨n,b⟩ := by
 unfold Vf at h
 split at h
 · exact List.mem_or_eq_of_mem_set h
 · exact .inl h
theorem Qkg {now:List Sector} {k:Nat} {n:Int} {b:List UInt8} (hk:k < now.length) (j:Nat):(Vf now k n b).getD j sec0 = if j = k /\ (now.getD k sec0).n < n then ⟨n,b⟩ else now.getD j sec0 := by
 unfold Vf
 by_cases h:(now.getD k sec0).n < n
 · rw [if_pos h]
   by_cases hj:j = k
   · subst hj;rw [if_pos ⟨rfl,h⟩];simp [hk]
   · rw [if_neg (fun q => hj q.1)];simp only [List.getD_eq_getElem?_getD];rw [List.getElem?_set_ne (fun q => hj q.symm)]
 · rw [if_neg h,if_neg (fun q => h q.2)]
theorem QgU {now sure:List Sector} {k n:Int} {b:List UInt8} (h:Yi now sure k n b = true):Qz (pNow now sure k n b) (Qcf now sure k n b) = true := by
 obtain ⟨hd,h0,h1,h2,h3,h4⟩ := Ky h;obtain ⟨d1,d2,d3⟩ := Yl hd;obtain ⟨l1,l2⟩ := Qak hd;simp only [pNow,Qcf,h,cond_true,Qz,Bool.and_eq_true];have hk:k.toNat < now.length := by omega
 refine ⟨⟨QmX (by rw [JA];exact l1) fun s hs => ?_,d2⟩,?_⟩
 · rcases putNow_mem hs with q | rfl
   · exact QcQ d1 s q
   · exact h4
 · rw [QdL (by rw [JA];omega)]
   intro i hi;rw [JA] at hi;have := (QdL (by omega)).1 d3 i hi
   rw [Qkg hk]
   split
   · rename_i q;obtain ⟨rfl,q⟩ := q;have h5:(sure.getD k.toNat sec0).n <= (now.getD k.toNat sec0).n := this;show (sure.getD k.toNat sec0).n <= n;omega
   · exact this
theorem QdN {l:List Sector} (h:Yy l = true):Qz l l = true := by
 simp only [Qz,h,Bool.true_and];rw [QdL rfl];intro i _;exact Int.le_refl _
def secI (p:Int):Int := if p < 0 then 0 else p % 32
def entL (r:Rec):List UInt8 := bif mayB r then Qh3 r.place (Qep r) else []
def nIns (k:Int) (r:List Int) (x:Int):NA :=
 if k = 0 \/ k = 5 then naLd 68 1 r 1 0
 else if k = 1 then naLd 68 2 (r.set 2 x) 0 0
 else if k = 2 then (if x + r.getD 0 0 < r.getD 2 0 then naEn 68 2 r [170] true else if 1048575 < r.getD 2 0 then naEn 68 2 r [172] true else naLd 68 3 r 4 0)
 else if k = 3 then (if x < r.getD 2 0 - 32 then naEn 68 3 r [171] true else naLd 68 4 r (lRing (r.getD 2 0) (r.getD 0 0)) 0)
 else if k = 4 then (if plc x = r.getD 2 0 then naCs 68 5 (r.set 3 x) 1 (r.getD 2 0) (r.getD 2 0 + 1) 0 else if r.getD 2 0 < plc x then naLd 68 1 (r.set 3 x) 1 0
  else naCs 68 6 (r.set 3 x) (lRing (r.getD 2 0) (r.getD 0 0)) x (wordN (r.getD 2 0) (r.getD 1 0)) 0)
 else if k = 6 then (if x = 0 then naLd 68 1 r 1 0 else naCs 68 7 r 1 (r.getD 2 0) (r.getD 2 0 + 1) 0)
 else naEn 68 7 r [0,r.getD 2 0] true
def sCell (h f:Int):Int := if h < 0 then -1 else lField 291 (h % 256) f 160 3
def nInr (own:Bool) (k:Int) (r:List Int) (x:Int):NA :=
 if k = 0 then (if lRow 21 (r.getD 2 0) 24 < 0 then naEn 73 (bif own then 99 else 0) r [] true else naLd 73 1 r (lRow 21 (r.getD 2 0) 24) 0)
 else if k = 1 then (if sCell (r.getD 1 0) 1 < 0 \/ r.getD 0 0 <= plc (max x 0) then naEn 73 (bif own then 99 else 1) (r.set 3 (max x 0)) [] true
  else naCs 73 2 (r.set 3 (max x 0)) (sCell (r.getD 1 0) 1) (-1) (max x 0) (r.getD 1 0))
 else if k = 2 then naCs 73 3 r (lRow 21 (r.getD 2 0) 24) (r.getD 3 0) (wordN (r.getD 0 0) (r.getD 1 0)) 0
 else naEn 73 (bif own then 99 else 3) r [] true
def hDesc (d f:Int):Int := lField 99 (Zq d % 256) f 16 12
def hKey (r:List Int) (j:Nat):Int := r.getD (8 + j) 0 / 256
def hVal (r:List Int) (j:Nat):Int := r.getD (8 + j) 0 % 256
def VH (r:List Int):Nat := (min (r.getD 5 0) 4).toNat
def hRec (r:List Int) (o:Int):Rec := ⟨r.getD 2 0 + 1,decide (o = 1),if o = 1 then (List.range (VH r)).map fun j => ⟨hKey r j,hVal r j⟩ else []⟩
def hBeg (r:List Int):NA := naLd 100 1 r 0 0
def hOf (k:Int) (r:List Int) (f:Int):NA := naLd 100 k r (hDesc (r.getD 3 0) f) (r.getD 3 0)
def hWrs (r:List Int):NA := if (r.getD 6 0).toNat < VH r then hOf 5 r (4 + r.getD 6 0) else hOf 7 r 1
def hDec (r:List Int) (o:Int):NA := naCs 100 9 (r.set 7 o) (hDesc (r.getD 3 0) 1) 0 o (r.getD 3 0)
def hHds (r:List Int):NA := if (r.getD 6 0).toNat < VH r then naLd 100 8 r (lRow 21 (hKey r (r.getD 6 0).toNat) 24) 0 else hDec r 1
def hPut (r:List Int) (o:Int):NA := naPt 100 11 (r.set 7 o) (bif mayB (hRec r o) then secI (r.getD 2 0 + 1) else 0) (r.getD 2 0 + 1) (entL (hRec r o))
def hApp (r:List Int):NA := if r.getD 7 0 = 1 /\ (r.getD 6 0).toNat < VH r then naCl 100 13 r 73 [r.getD 2 0 + 1,r.getD (12 + (r.getD 6 0).toNat) 0,hKey r (r.getD 6 0).toNat]
 else naCs 100 15 r 0 (r.getD 2 0) (r.getD 2 0 + 1) 0
def nHlp (own:Bool) (k:Int) (r:List Int) (x:Int):NA :=
 if k = 0 \/ k = 15 then hBeg r
 else if k = 1 then (if r.getD 0 0 <= x then naEn 100 1 (r.set 2 x) [] true else naLd 100 2 (r.set 2 x) (lRing (x + 1) (r.getD 1 0)) 0)
 else if k = 2 then (if plc x = r.getD 2 0 + 1 then hOf 3 (r.set 3 (bare x)) 2 else hBeg r)
 else if k = 3 then hOf 4 (r.set 4 x) 3
 else if k = 4 then hWrs ((r.set 5 x).set 6 0)
 else if k = 5 then hOf 6 (r.set (8 + (r.getD 6 0).toNat) x) (8 + r.getD 6 0)
 else if k = 6 then hWrs ((r.set (12 + (r.getD 6 0).toNat) x).set 6 (r.getD 6 0 + 1))
 else if k = 7 then (if x = 0 then hHds (r.set 6 0) else hPut (r.set 6 0) x)
 else if k = 8 then (if r.getD 4 0 < plc x then hDec r 2 else hHds (r.set 6 (r.getD 6 0 + 1)))
 else if k = 9 then hOf 10 r 1
 else if k = 10 then hPut (bif own then r else r.set 6 0) x
 else if k = 11 then naSy 100 12 r
 else if k = 12 then hApp (bif own then r.set 6 0 else r)
 else if k = 13 then naCl 100 14 r 76 [r.getD 2 0 + 1,r.getD 6 0,hKey r (r.getD 6 0).toNat,hVal r (r.getD 6 0).toNat]
 else hApp (r.set 6 (r.getD 6 0 + 1))
def nHp (own:Bool) (f:Frame) (got:List Int):NA :=
 if f.prog = 68 then nIns f.at' f.r (got.headD 0) else if f.prog = 73 then nInr own f.at' f.r (got.headD 0) else if f.prog = 76 then nApp f.at' f.r (got.headD 0) else nHlp own f.at' f.r (got.headD 0)
def QrJ (k:Int) (r got:List Int):Prop := k = 0 /\ got = [] \/ ∃ x,got = [x] /\ 1 <= k /\ k <= 7 /\ 0 <= x /\ x <= bigW /\ (k = 2 -> x <= 1048576) /\
 (2 <= k -> 0 <= r.getD 2 0 /\ r.getD 2 0 <= 1048576) /\ 2 <= r.getD 0 0 /\ r.getD 0 0 <= 8 /\ 256 <= r.getD 1 0 /\ r.getD 1 0 <= 300
def QrK (k:Int) (r got:List Int):Prop := 0 <= r.getD 2 0 /\ r.getD 2 0 <= 23 /\ (k = 0 /\ got = [] \/ ∃ x,got = [x] /\ 1 <= k /\ k <= 3 /\ 0 <= x /\ x <= bigW /\ 256 <= r.getD 1 0 /\ r.getD 1 0 <= 400)
def okWs (m:Nat) (r:List Int):Prop := ∀ j,j < m -> 0 <= r.getD (8 + j) 0 /\ r.getD (8 + j) 0 <= 6143
def QpM (own:Bool) (k:Int) (r got:List Int):Prop :=
 2 <= r.getD 1 0 /\ r.getD 1 0 <= 8 /\ (k = 0 /\ got = [] \/ (k = 13 \/ k = 14) /\ got = [] /\ 0 <= r.getD 2 0 /\ r.getD 2 0 <= 1048574 /\ 0 <= r.getD 5 0 /\ r.getD 5 0 <= 4 /\ 0 <= r.getD 6 0 /\ r.getD 6 0 < r.getD 5 0 /\ okWs (VH r) r \/
 ∃ x,got = [x] /\ 1 <= k /\ k <= 15 /\ k ≠ 13 /\ k ≠ 14 /\ 0 <= x /\ x <= bigW /\ (k = 1 -> x <= 1048575) /\ (2 <= k -> k <= 14 -> 0 <= r.getD 2 0 /\ r.getD 2 0 <= 1048574) /\
 (3 <= k -> k <= 14 -> 0 <= r.getD 3 0 /\ r.getD 3 0 <= bigW) /\
 (k = 4 -> x <= 4) /\ (5 <= k -> k <= 14 -> 0 <= r.getD 5 0 /\ r.getD 5 0 <= 4) /\ ((k = 5 \/ k = 6 \/ k = 8) -> 0 <= r.getD 6 0 /\ r.getD 6 0 < r.getD 5 0) /\
 (k = 12 -> own = false -> r.getD 6 0 = 0) /\ (7 <= k -> k <= 14 -> okWs (VH r) r))
def okHp (own:Bool) (f:Frame) (got:List Int):Prop :=
 f.r.length = 96 /\ (∀ v ∈ f.r,v < 9223372036854775808) /\ (f.prog = 68 /\ QrJ f.at' f.r got \/ f.prog = 73 /\ QrK f.at' f.r got \/ f.prog = 76 /\ okAp f.at' f.r got \/ f.prog = 100 /\ QpM own f.at' f.r got)
def TyS (n a v:Int):Prop := 0 <= v /\ (a <= 47 -> v <= n) /\ (48 <= a -> a <= 50 -> v <= 1048575) /\ (51 <= a -> v <= bigW)
def AtS (n:Int) (A:Qb):Prop := A.gen = 0 /\ A.text = [] /\ A.args = [] /\ 45 <= A.a /\ A.a <= 98 /\ (A.kind = 0 /\ A.b = 0 /\ A.v = 0 \/ A.kind = 2 /\ 0 <= A.b /\ A.b <= bigW /\ TyS (n + 1) A.a A.v)
def RsS (n:Int) (A:Qb) (x:Int):Prop := A.kind = 0 /\ TyS n A.a x \/ A.kind = 2 /\ (x = 0 \/ x = 1)
theorem TyS.big {n a v:Int} (h:TyS n a v) (h1:45 <= a) (h2:n <= 1000000):0 <= v /\ v <= bigW := by
 obtain ⟨a1,a2,a3,a4⟩ := h;unfold bigW at *;refine ⟨a1,?_⟩
 by_cases q:a <= 47
 · have := a2 q;omega
 · by_cases q2:a <= 50
   · have := a3 (by omega) q2;omega
   · exact a4 (by omega)
theorem RsS.big {n:Int} {A:Qb} {x:Int} (h:RsS n A x) (h1:45 <= A.a) (h2:n <= 1000000):0 <= x /\ x <= bigW := by
 rcases h with ⟨_,h⟩ | ⟨_,h⟩
 · exact h.big h1 h2
 · unfold bigW;omega
def bnd (r:List Int):Prop := r.length = 96 /\ ∀ v ∈ r,v < 9223372036854775808
theorem bnd.set {r:List Int} (h:bnd r) (i:Nat) {x:Int} (hx:x <= bigW):bnd (r.set i x) := by
 refine ⟨by rw [List.length_set];exact h.1,fun v hv => ?_⟩
 rcases List.mem_or_eq_of_mem_set hv with hv | rfl
 · exact h.2 v hv
 · unfold bigW at hx;omega
def K76 (n k:Int) (r got:List Int):Prop := k = 0 /\ got = [] \/ ∃ x,got = [x] /\ 1 <= k /\ k <= 8 /\ 0 <= x /\ x <= bigW /\ (k = 1 -> x <= n) /\ (k = 5 -> x <= 1048575) /\ (2 <= k -> 0 <= r.getD 4 0 /\ r.getD 4 0 <= n) /\ (3 <= k -> 0 <= r.getD 5 0 /\ r.getD 5 0 <= bigW)
def R76 (n k:Int) (r got:List Int):Prop := bnd r /\ (0 <= r.getD 2 0 /\ r.getD 2 0 <= 23) /\ K76 n k r got
theorem R76.mk {n k x:Int} {r:List Int} (hb:bnd r) (hq:0 <= r.getD 2 0 /\ r.getD 2 0 <= 23) (k1:1 <= k) (k8:k <= 8) (hx:0 <= x /\ x <= bigW) (c1:k = 1 -> x <= n) (c5:k = 5 -> x <= 1048575)
 (c2:2 <= k -> 0 <= r.getD 4 0 /\ r.getD 4 0 <= n) (c3:3 <= k -> 0 <= r.getD 5 0 /\ r.getD 5 0 <= bigW):R76 n k r [x] := ⟨hb,hq,.inr ⟨x,rfl,k1,k8,hx.1,hx.2,c1,c5,c2,c3⟩⟩
theorem R76.ok {n k:Int} {r got:List Int} (h:R76 n k r got) (hn:n <= 1000000) (own:Bool):QrH own ⟨76,k,r⟩ got := by
 obtain ⟨⟨h1,h2⟩,h3,h4⟩ := h;refine ⟨h1,h2,.inl ⟨rfl,h3.1,h3.2,?_⟩⟩;rcases h4 with h | ⟨x,e,a1,a2,a3,a4,a5,a6,a7,a8⟩
 · exact .inl h
 · exact .inr ⟨x,e,a1,a2,a3,a4,fun q => by have := a5 q;omega,fun q => by have q:2 <= k := q;have := a7 q;exact ⟨this.1,by show r.getD 4 0 <= 1000000;omega⟩,a8⟩
theorem R76.mono {n n' k:Int} {r got:List Int} (h:R76 n k r got) (hn:n <= n'):R76 n' k r got := by
 obtain ⟨h1,h3,h4⟩ := h;refine ⟨h1,h3,?_⟩;rcases h4 with h | ⟨x,e,a1,a2,a3,a4,a5,a6,a7,a8⟩
 · exact .inl h
 · exact .inr ⟨x,e,a1,a2,a3,a4,fun q => by have := a5 q;omega,a6,fun q => by have := a7 q;omega,a8⟩
theorem Qbr {f q m:Int} (h0:0 <= q) (h1:q < m):lRow f q m = f + q := by rw [lRow,if_pos ⟨h0,h1⟩]
theorem VF {q o:Int} (h0:0 <= q) (h1:q <= 2) (h2:0 <= o):51 <= lStream q o /\ lStream q o <= 98 := by
 rw [lStream,if_pos ⟨h0,h1,h2⟩];have := Int.emod_nonneg o (show (16:Int) ≠ 0 by decide)
 have := Int.emod_lt_of_pos o (show (0:Int) < 16 by decide)
 omega
theorem QdO (w:Int):0 <= (Vh w).place /\ (Vh w).place <= 1048575 := by
 unfold Vh;cases h:Qcn w with
 | none => exact ⟨Int.le_refl _,by decide⟩
 | some l =>
  have := (Qf2 h).1;unfold Qf1 at this;rw [decide_eq_true_eq] at this;simp only [Option.getD_some];omega
def GoS (n:Int) (R:Int -> List Int -> List Int -> Prop) (p:Int) (N:NA):Prop :=
 (N.a.kind = 7 /\ N = naEn p N.f.at' N.f.r N.a.args N.fl) \/ (AtS n N.a /\ N.fl = true /\ N.f.prog = p /\ ∀ x,RsS n N.a x -> R N.f.at' N.f.r [x])
theorem app_step {n k:Int} {r got:List Int} (h:R76 n k r got) (hn0:0 <= n) (hn:n <= 1000000):GoS n (R76 n) 76 (nApp k r (got.headD 0)) /\ ((nApp k r (got.headD 0)).a.kind = 7 -> (nApp k r (got.headD 0)).a.args = []) := by
 obtain ⟨hb,hq,hK⟩ := h;have hs0:0 <= sQ r := by unfold sQ;omega
 have hs2:sQ r <= 2 := by unfold sQ;omega
 have cntA:lRow 45 (sQ r) 3 = 45 + sQ r := Qbr hs0 (by omega)
 have cutA:lRow 48 (sQ r) 3 = 48 + sQ r := Qbr hs0 (by omega)
 -- the actions
 have cnt:GoS n (R76 n) 76 (aCnt r) := by
  refine .inr ⟨⟨rfl,rfl,rfl,?_,?_,.inl ⟨rfl,rfl,rfl⟩⟩,rfl,rfl,fun x hx => ?_⟩
  · show 45 <= lRow 45 (sQ r) 3;omega
  · show lRow 45 (sQ r) 3 <= 98;omega
  · have hx1 := hx.big (by show 45 <= lRow 45 (sQ r) 3;omega) hn
    refine (R76.mk hb hq (by decide) (by decide) hx1 (fun _ => ?_) (fun q => by cases q) (fun q => absurd q (by decide)) (fun q => absurd q (by decide)):R76 n 1 r [x])
    rcases hx with ⟨_,hx⟩ | ⟨q,_⟩
    · exact hx.2.1 (by show lRow 45 (sQ r) 3 <= 47;omega)
    · cases q
 have put:∀ (h4:0 <= r.getD 4 0 /\ r.getD 4 0 <= n) (h5:0 <= r.getD 5 0 /\ r.getD 5 0 <= bigW),GoS n (R76 n) 76 (aPut r) := fun h4 h5 => by
  have hl := VF hs0 hs2 h4.1;have hw := KP ⟨r.getD 4 0,r.getD 0 0,r.getD 1 0,r.getD 2 0 % 8,r.getD 3 0⟩;refine .inr ⟨⟨rfl,rfl,rfl,?_,?_,.inr ⟨rfl,h5.1,h5.2,hw.1,fun q => ?_,fun _ q => ?_,fun _ => hw.2⟩⟩,rfl,rfl,fun x hx => ?_⟩
  · show 45 <= lStream (sQ r) (r.getD 4 0);omega
  · show lStream (sQ r) (r.getD 4 0) <= 98;omega
  · have q:lStream (sQ r) (r.getD 4 0) <= 47 := q;omega
  · have q:lStream (sQ r) (r.getD 4 0) <= 50 := q;omega
  · have hx1 := hx.big (by show 45 <= lStream (sQ r) (r.getD 4 0);omega) hn
    exact (R76.mk hb hq (by decide) (by decide) hx1 (fun q => by cases q) (fun q => by cases q) (fun _ => h4) (fun _ => h5):R76 n 6 r [x])
 have cut:∀ (h4:0 <= r.getD 4 0 /\ r.getD 4 0 <= n) (h5:0 <= r.getD 5 0 /\ r.getD 5 0 <= bigW),GoS n (R76 n) 76 (aCut r) := fun h4 h5 => by
  refine .inr ⟨⟨rfl,rfl,rfl,?_,?_,.inl ⟨rfl,rfl,rfl⟩⟩,rfl,rfl,fun x hx => ?_⟩
  · show 45 <= lRow 48 (sQ r) 3;omega
  · show lRow 48 (sQ r) 3 <= 98;omega
  · have hx1 := hx.big (by show 45 <= lRow 48 (sQ r) 3;omega) hn
    refine (R76.mk hb hq (by decide) (by decide) hx1 (fun q => by cases q) (fun _ => ?_) (fun _ => h4) (fun _ => h5):R76 n 5 r [x])
    rcases hx with ⟨_,hx⟩ | ⟨q,_⟩
    · exact hx.2.2.1 (by show 48 <= lRow 48 (sQ r) 3;omega) (by show lRow 48 (sQ r) 3 <= 50;omega)
    · cases q
 have on:∀ (m:Int) (hm:m = 3 \/ m = 7) (h4:0 <= r.getD 4 0 /\ r.getD 4 0 <= n) (h5:0 <= r.getD 5 0 /\ r.getD 5 0 <= bigW),GoS n (R76 n) 76 (aOn m r) := fun m hm h4 h5 => by
  refine .inr ⟨⟨rfl,rfl,rfl,?_,?_,.inr ⟨rfl,h4.1,by show r.getD 4 0 <= bigW;unfold bigW;omega,?_,fun _ => ?_,fun q => ?_,fun q => ?_⟩⟩,rfl,rfl,fun x hx => ?_⟩
  · show 45 <= lRow 45 (sQ r) 3;omega
  · show lRow 45 (sQ r) 3 <= 98;omega
  · show 0 <= r.getD 4 0 + 1;omega
  · show r.getD 4 0 + 1 <= n + 1;omega
  · have q:48 <= lRow 45 (sQ r) 3 := q;omega
  · have q:51 <= lRow 45 (sQ r) 3 := q;omega
  · have hx1 := hx.big (by show 45 <= lRow 45 (sQ r) 3;omega) hn
    exact (R76.mk hb hq (by show 1 <= m;omega) (by show m <= 8;omega) hx1 (fun q => by have q:m = 1 := q;omega) (fun q => by have q:m = 5 := q;omega) (fun _ => h4) (fun _ => h5):R76 n m r [x])
 have en:∀ k',GoS n (R76 n) 76 (naEn 76 k' r [] true) := fun k' => .inl ⟨rfl,rfl⟩;have kk:∀ N:NA,N.a.kind ≠ 7 -> (N.a.kind = 7 -> N.a.args = []) := fun N h1 h2 => absurd h2 h1;rcases hK with ⟨rfl,rfl⟩ | ⟨x,rfl,k1,k8,x0,x1,y1,y5,y2,y3⟩
 · exact ⟨cnt,fun q => by cases q⟩
 simp only [List.headD_cons];have ks:k = 1 \/ k = 2 \/ k = 3 \/ k = 4 \/ k = 5 \/ k = 6 \/ k = 7 \/ k = 8 := by omega
 rcases ks with rfl | rfl | rfl | rfl | rfl | rfl | rfl | rfl
 · have e:nApp 1 r x = naLd 76 2 (r.set 4 x) (lStream (sQ r) x) 0 := rfl;have hl := VF hs0 hs2 x0;rw [e];refine ⟨.inr ⟨⟨rfl,rfl,rfl,?_,?_,.inl ⟨rfl,rfl,rfl⟩⟩,rfl,rfl,fun y hy => ?_⟩,fun q => by cases q⟩
   · show 45 <= lStream (sQ r) x;omega
   · show lStream (sQ r) x <= 98;omega
   · have hy1 := hy.big (by show 45 <= lStream (sQ r) x;omega) hn
     refine (R76.mk (hb.set 4 x1) ?_ (by decide) (by decide) hy1 (fun q => by cases q) (fun q => by cases q) (fun _ => ?_) (fun q => absurd q (by decide)):R76 n 2 (r.set 4 x) [y])
     · show 0 <= (r.set 4 x).getD 2 0 /\ (r.set 4 x).getD 2 0 <= 23;rw [Qa (by decide)];exact hq
     · show 0 <= (r.set 4 x).getD 4 0 /\ (r.set 4 x).getD 4 0 <= n;rw [Qc (by rw [hb.1];decide)];exact ⟨x0,y1 rfl⟩
 · have h4 := y2 (by decide)
   have e:nApp 2 r x = if (Qcn x).isSome = true /\ (Vh x).offset = r.getD 4 0 then aOn 3 (r.set 5 x) else if r.getD 4 0 = 0 then aPut (r.set 5 x) else naLd 76 4 (r.set 5 x) (lStream (sQ r) (r.getD 4 0 - 1)) 0 := rfl
   have g2:(r.set 5 x).getD 2 0 = r.getD 2 0 := Qa (by decide)
   have g4:(r.set 5 x).getD 4 0 = r.getD 4 0 := Qa (by decide)
   have g5:(r.set 5 x).getD 5 0 = x := Qc (by rw [hb.1];decide)
   have gs:sQ (r.set 5 x) = sQ r := by unfold sQ;rw [g2]
   have hb5 := hb.set 5 x1;rw [e]
   split
   · -- COUNT is raised
     refine ⟨.inr ⟨⟨rfl,rfl,rfl,?_,?_,.inr ⟨rfl,?_,?_,?_,fun _ => ?_,fun q => ?_,fun q => ?_⟩⟩,rfl,rfl,fun y hy => ?_⟩,fun q => by cases q⟩
     · show 45 <= lRow 45 (sQ (r.set 5 x)) 3;rw [gs];omega
     · show lRow 45 (sQ (r.set 5 x)) 3 <= 98;rw [gs];omega
     · show 0 <= (r.set 5 x).getD 4 0;rw [g4];exact h4.1
     · show (r.set 5 x).getD 4 0 <= bigW;rw [g4];unfold bigW;omega
     · show 0 <= (r.set 5 x).getD 4 0 + 1;rw [g4];omega
     · show (r.set 5 x).getD 4 0 + 1 <= n + 1;rw [g4];omega
     · have q:48 <= lRow 45 (sQ (r.set 5 x)) 3 := q;rw [gs] at q;omega
     · have q:51 <= lRow 45 (sQ (r.set 5 x)) 3 := q;rw [gs] at q;omega
     · have hy1 := hy.big (by show 45 <= lRow 45 (sQ (r.set 5 x)) 3;rw [gs];omega) hn
       refine (R76.mk hb5 ?_ (by decide) (by decide) hy1 (fun q => by cases q) (fun q => by cases q) (fun _ => ?_) (fun _ => ?_):R76 n 3 (r.set 5 x) [y])
       · show 0 <= (r.set 5 x).getD 2 0 /\ (r.set 5 x).getD 2 0 <= 23;rw [g2];exact hq
       · show 0 <= (r.set 5 x).getD 4 0 /\ (r.set 5 x).getD 4 0 <= n;rw [g4];exact h4
       · show 0 <= (r.set 5 x).getD 5 0 /\ (r.set 5 x).getD 5 0 <= bigW;rw [g5];exact ⟨x0,x1⟩
   · split
     · -- put
       have hl := VF hs0 hs2 h4.1;have hw := KP ⟨(r.set 5 x).getD 4 0,(r.set 5 x).getD 0 0,(r.set 5 x).getD 1 0,(r.set 5 x).getD 2 0 % 8,(r.set 5 x).getD 3 0⟩;refine ⟨.inr ⟨⟨rfl,rfl,rfl,?_,?_,.inr ⟨rfl,?_,?_,hw.1,fun q => ?_,fun _ q => ?_,fun _ => hw.2⟩⟩,rfl,rfl,fun y hy => ?_⟩,fun q => by cases q⟩
       · show 45 <= lStream (sQ (r.set 5 x)) ((r.set 5 x).getD 4 0);rw [gs,g4];omega
       · show lStream (sQ (r.set 5 x)) ((r.set 5 x).getD 4 0) <= 98;rw [gs,g4];omega
       · show 0 <= (r.set 5 x).getD 5 0;rw [g5];exact x0
       · show (r.set 5 x).getD 5 0 <= bigW;rw [g5];exact x1
       · have q:lStream (sQ (r.set 5 x)) ((r.set 5 x).getD 4 0) <= 47 := q;rw [gs,g4] at q;omega
       · have q:lStream (sQ (r.set 5 x)) ((r.set 5 x).getD 4 0) <= 50 := q;rw [gs,g4] at q;omega
       · have hy1 := hy.big (by show 45 <= lStream (sQ (r.set 5 x)) ((r.set 5 x).getD 4 0);rw [gs,g4];omega) hn
         refine (R76.mk hb5 ?_ (by decide) (by decide) hy1 (fun q => by cases q) (fun q => by cases q) (fun _ => ?_) (fun _ => ?_):R76 n 6 (r.set 5 x) [y])
         · show 0 <= (r.set 5 x).getD 2 0 /\ (r.set 5 x).getD 2 0 <= 23;rw [g2];exact hq
         · show 0 <= (r.set 5 x).getD 4 0 /\ (r.set 5 x).getD 4 0 <= n;rw [g4];exact h4
         · show 0 <= (r.set 5 x).getD 5 0 /\ (r.set 5 x).getD 5 0 <= bigW;rw [g5];exact ⟨x0,x1⟩
     · rename_i hz;have hl := VF hs0 hs2 (show 0 <= r.getD 4 0 - 1 by omega)
       refine ⟨.inr ⟨⟨rfl,rfl,rfl,?_,?_,.inl ⟨rfl,rfl,rfl⟩⟩,rfl,rfl,fun y hy => ?_⟩,fun q => by cases q⟩
       · show 45 <= lStream (sQ r) (r.getD 4 0 - 1);omega
       · show lStream (sQ r) (r.getD 4 0 - 1) <= 98;omega
       · have hy1 := hy.big (by show 45 <= lStream (sQ r) (r.getD 4 0 - 1);omega) hn
         refine (R76.mk hb5 ?_ (by decide) (by decide) hy1 (fun q => by cases q) (fun q => by cases q) (fun _ => ?_) (fun _ => ?_):R76 n 4 (r.set 5 x) [y])
         · show 0 <= (r.set 5 x).getD 2 0 /\ (r.set 5 x).getD 2 0 <= 23;rw [g2];exact hq
         · show 0 <= (r.set 5 x).getD 4 0 /\ (r.set 5 x).getD 4 0 <= n;rw [g4];exact h4
         · show 0 <= (r.set 5 x).getD 5 0 /\ (r.set 5 x).getD 5 0 <= bigW;rw [g5];exact ⟨x0,x1⟩
 · exact ⟨cnt,fun q => by cases q⟩
 · have h4 := y2 (by decide)
   have h5 := y3 (by decide)
   have e:nApp 4 r x = if r.getD 0 0 < (Vh x).place \/ (Vh x).place = r.getD 0 0 /\ r.getD 1 0 <= (Vh x).j then naEn 76 4 r [] true
    else if (Qcn x).isSome = false \/ (Vh x).offset ≠ r.getD 4 0 - 1 then aCnt r else if r.getD 5 0 = 0 then aPut r else aCut r := rfl
   rw [e]
   split
   · exact ⟨en 4,fun _ => rfl⟩
   · split
     · exact ⟨cnt,fun q => by cases q⟩
     · split
       · exact ⟨put h4 h5,fun q => by cases q⟩
       · exact ⟨cut h4 h5,fun q => by cases q⟩
 · have h4 := y2 (by decide)
   have h5 := y3 (by decide)
   have e:nApp 5 r x = if x < (Vh (r.getD 5 0)).place then naCs 76 8 r (lRow 48 (sQ r) 3) x (Vh (r.getD 5 0)).place 0 else aPut r := rfl
   rw [e]
   split
   · have hp := QdO (r.getD 5 0);refine ⟨.inr ⟨⟨rfl,rfl,rfl,?_,?_,.inr ⟨rfl,x0,x1,hp.1,fun q => ?_,fun _ _ => hp.2,fun q => ?_⟩⟩,rfl,rfl,fun y hy => ?_⟩,fun q => by cases q⟩
     · show 45 <= lRow 48 (sQ r) 3;omega
     · show lRow 48 (sQ r) 3 <= 98;omega
     · have q:lRow 48 (sQ r) 3 <= 47 := q;omega
     · have q:51 <= lRow 48 (sQ r) 3 := q;omega
     · have hy1 := hy.big (by show 45 <= lRow 48 (sQ r) 3;omega) hn
       exact (R76.mk hb hq (by decide) (by decide) hy1 (fun q => by cases q) (fun q => by cases q) (fun _ => h4) (fun _ => h5):R76 n 8 r [y])
   · exact ⟨put h4 h5,fun q => by cases q⟩
 · have h4 := y2 (by decide)
   have h5 := y3 (by decide)
   have e:nApp 6 r x = if x = 0 then aCnt r else aOn 7 r := rfl
   rw [e]
   split
   · exact ⟨cnt,fun q => by cases q⟩
   · exact ⟨on 7 (.inr rfl) h4 h5,fun q => by cases q⟩
 · exact ⟨en 7,fun _ => rfl⟩
 · have h4 := y2 (by decide)
   have h5 := y3 (by decide)
   exact ⟨cut h4 h5,fun q => by cases q⟩
def wrH:Q5 := ⟨0,0⟩
structure HD where
 start:Int
 ws:List Q5
 base:Int
def hd0:HD := ⟨0,[],0⟩
def HD.w (d:HD) (j:Nat):Int := (d.ws.getD j wrH).key * 256 + (d.ws.getD j wrH).value
def HD.nd (d:HD) (j:Nat):Int := 256 + d.base + j
structure OkD (d:HD):Prop where
 st:0 <= d.start /\ d.start <= 1048575
 ws:Zj d.ws = true
 nb:0 <= d.base /\ d.base + d.ws.length <= 60
def OkDs (ds:List HD):Prop := ds.length <= 16 /\ ∀ s,s < ds.length -> OkD (ds.getD s hd0)
def hD (ds:List HD) (h:Int):HD := ds.getD (h - 256).toNat hd0
def OkH (ds:List HD) (h:Int):Prop := 256 <= h /\ h < 256 + ds.length
theorem Qkh {l:List Q5} (h:Zj l = true) {i:Nat} (hi:i < l.length):(0 <= (l.getD i wrH).key /\ (l.getD i wrH).key <= 23) /\ 0 <= (l.getD i wrH).value /\ (l.getD i wrH).value <= 255 := by
 unfold Zj at h;rw [Bool.and_eq_true] at h;have := List.all_eq_true.1 (Qai h.2) _ (List.getElem_mem hi);have e:l.getD i wrH = l[i] := by simp [hi]
 rw [e];unfold QlN at this;simp only [Bool.and_eq_true,Q2] at this;exact this
theorem OkD.len {d:HD} (h:OkD d):d.ws.length <= 4 := by
 have := h.ws;unfold Zj at this;rw [Bool.and_eq_true,decide_eq_true_eq] at this;exact this.1
theorem OkD.wr {d:HD} (h:OkD d) {j:Nat} (hj:j < d.ws.length):0 <= d.w j /\ d.w j <= 6143 /\ d.w j / 256 = (d.ws.getD j wrH).key /\ d.w j % 256 = (d.ws.getD j wrH).value := by
 have := Qkh h.ws hj;unfold HD.w;omega
theorem OkDs.at {ds:List HD} (h:OkDs ds) {x:Int} (hx:OkH ds x):OkD (hD ds x) := h.2 _ (by unfold OkH at hx;omega)
def TyD (d:HD) (f v:Int):Prop := (f = 2 -> v = d.start) /\ (f = 3 -> v = d.ws.length) /\ (4 <= f -> f < 4 + d.ws.length -> v = d.w (f - 4).toNat) /\ (8 <= f -> f < 8 + d.ws.length -> v = d.nd (f - 8).toNat)
structure TyH (ds:List HD) (n a v:Int):Prop where
 t0:a = 0 -> 0 <= v /\ v <= 1048575
 t1:a = 1 -> 1 <= v /\ v <= 1048576
 t2:2 <= a -> a <= 12 -> 0 <= v /\ v <= bigW
 t3:13 <= a -> a <= 20 -> (0 <= v /\ v <= bigW) /\ (v = 0 \/ OkH ds (bare v))
 t4:21 <= a -> a <= 44 -> 0 <= v /\ v <= bigW
 t5:45 <= a -> a <= 98 -> TyS n a v
 t6:∀ s f:Int,0 <= s -> s < ds.length -> 0 <= f -> f < 12 -> a = 99 + s * 12 + f -> TyD (ds.getD s.toNat hd0) f v
 t7:∀ s:Int,0 <= s -> s < 16 -> a = 99 + s * 12 + 1 -> 0 <= v /\ v <= 2
def AtH (ds:List HD) (n:Int) (A:Qb):Prop := A.args = [] /\ 0 <= A.gen /\ A.gen <= bigW /\
 ((A.kind = 0 /\ A.text = [] /\ A.b = 0 /\ A.v = 0 /\ 0 <= A.a /\ A.a <= 770) \/
  (A.kind = 2 /\ A.text = [] /\ 0 <= A.a /\ A.a <= 770 /\ -1 <= A.b /\ A.b <= bigW /\ 0 <= A.v /\ A.v <= bigW /\ TyH ds (n + 1) A.a A.v) \/
  (A.kind = 4 /\ A.gen = 0 /\ A.v = 0 /\ 0 <= A.a /\ A.a < 33 /\ 1 <= A.b /\ A.b <= 1048575 /\ A.text ≠ [] /\ A.text.length <= 640) \/
  (A.kind = 5 /\ A.gen = 0 /\ A.text = [] /\ A.a = 0 /\ A.b = 0 /\ A.v = 0))
def RsH (ds:List HD) (n:Int) (A:Qb) (x:Int):Prop := A.kind = 0 /\ TyH ds n A.a x \/ A.kind = 2 /\ (x = 0 \/ x = 1) \/ (A.kind = 4 \/ A.kind = 5) /\ x = 0
theorem TyH.low {ds:List HD} {n a v:Int} (h:a <= 98 \/ 291 <= a) (hs:ds.length <= 16) (h0:a = 0 -> 0 <= v /\ v <= 1048575) (h1:a = 1 -> 1 <= v /\ v <= 1048576) (h2:2 <= a -> a <= 12 -> 0 <= v /\ v <= bigW)
 (h3:13 <= a -> a <= 20 -> (0 <= v /\ v <= bigW) /\ (v = 0 \/ OkH ds (bare v))) (h4:21 <= a -> a <= 44 -> 0 <= v /\ v <= bigW) (h5:45 <= a -> a <= 98 -> TyS n a v):TyH ds n a v :=
 ⟨h0,h1,h2,h3,h4,h5,fun s f s0 s1 f0 f1 e => by omega,fun s s0 s1 e => by omega⟩
theorem QmY {ds:List HD} {n v:Int} (hs:ds.length <= 16) (h:0 <= v /\ v <= 1048575):TyH ds n 0 v := TyH.low (.inl (by decide)) hs (fun _ => h) (fun q => absurd q (by decide)) (fun q => absurd q (by decide)) (fun q => absurd q (by decide)) (fun q => absurd q (by decide)) (fun q => absurd q (by decide))
theorem QpN {ds:List HD} {n v:Int} (hs:ds.length <= 16) (h:1 <= v /\ v <= 1048576):TyH ds n 1 v := TyH.low (.inl (by decide)) hs (fun q => absurd q (by decide)) (fun _ => h) (fun q => absurd q (by decide)) (fun q => absurd q (by decide)) (fun q => absurd q (by decide)) (fun q => absurd q (by decide))
theorem QpO {ds:List HD} {n a v:Int} (hs:ds.length <= 16) (ha:13 <= a /\ a <= 20) (h:(0 <= v /\ v <= bigW) /\ (v = 0 \/ OkH ds (bare v))):TyH ds n a v :=
 TyH.low (.inl (by omega)) hs (fun q => by omega) (fun q => by omega) (fun _ q => by omega) (fun _ _ => h) (fun q => by omega) (fun q => by omega)
theorem QpP {ds:List HD} {n a v:Int} (hs:ds.length <= 16) (ha:21 <= a /\ a <= 44) (h:0 <= v /\ v <= bigW):TyH ds n a v :=
 TyH.low (.inl (by omega)) hs (fun q => by omega) (fun q => by omega) (fun _ q => by omega) (fun _ q => by omega) (fun _ _ => h) (fun q => by omega)
theorem QpQ {ds:List HD} {n a v:Int} (hs:ds.length <= 16) (ha:45 <= a /\ a <= 98) (h:TyS n a v):TyH ds n a v :=
 TyH.low (.inl (by omega)) hs (fun q => by omega) (fun q => by omega) (fun _ q => by omega) (fun _ q => by omega) (fun _ q => by omega) (fun _ _ => h)
theorem Qki {ds:List HD} {n a v:Int} (hs:ds.length <= 16) (ha:291 <= a):TyH ds n a v :=
 TyH.low (.inr ha) hs (fun q => by omega) (fun q => by omega) (fun _ q => by omega) (fun _ q => by omega) (fun _ q => by omega) (fun _ q => by omega)
theorem Qq0 {ds:List HD} {n s v:Int} (hs:ds.length <= 16) (s0:0 <= s) (s1:s < 16) (h:0 <= v /\ v <= 2):TyH ds n (99 + s * 12 + 1) v :=
 ⟨fun q => by omega,fun q => by omega,fun _ q => by omega,fun _ q => by omega,fun _ q => by omega,fun _ q => by omega,fun s' f s0' s1' f0 f1 e => by
  have:f = 1 := by omega
  subst this;exact ⟨fun q => by omega,fun q => by omega,fun q => by omega,fun q => by omega⟩,fun _ _ _ _ => h⟩
theorem Ym {ds:List HD} (hs:ds.length <= 16) {h f:Int} (hh:OkH ds h) (f0:0 <= f) (f1:f < 12):hDesc h f = 99 + (h - 256) * 12 + f := by
 unfold OkH at hh;have e:Zq h = h := Q3 (by omega)
 unfold hDesc lField;rw [e,show h % 256 = h - 256 by omega,if_pos (by omega)]
theorem QmZ {v:Int} (h0:0 <= v) (h1:v < 60):sCell (256 + v) 1 = 291 + v * 3 + 1 := by
 unfold sCell lField;rw [if_neg (by omega),show (256 + v) % 256 = v by omega,if_pos (by omega)]
theorem QgV {p h:Int} (hp:0 <= p /\ p <= 1048575) (hh:256 <= h /\ h <= 262143):bare (wordN p h) = h /\ 0 <= wordN p h /\ wordN p h <= bigW := by
 have hw:OkWord p h := ⟨hp.1,hp.2,.inl hh⟩;unfold wordN bare bigW;rw [if_pos hw,Q3 (by omega)]
 omega
theorem Qkj (p h:Int):0 <= wordN p h /\ wordN p h <= bigW := by
 have := QlQ p h;unfold bigW;omega
theorem QpR {w:Int}:0 <= bare w /\ bare w <= bigW := by
 unfold bare bigW;have := Qch w;omega
theorem atLd {ds:List HD} {n p m c g:Int} {r:List Int} (hc:0 <= c /\ c <= 770) (hg:0 <= g /\ g <= bigW):AtH ds n (naLd p m r c g).a := ⟨rfl,hg.1,hg.2,.inl ⟨rfl,rfl,rfl,rfl,hc.1,hc.2⟩⟩
theorem atCs {ds:List HD} {n p m c b v g:Int} {r:List Int} (hc:0 <= c /\ c <= 770) (hb:-1 <= b /\ b <= bigW) (hv:0 <= v /\ v <= bigW) (hg:0 <= g /\ g <= bigW) (ty:TyH ds (n + 1) c v):AtH ds n (naCs p m r c b v g).a :=
 ⟨rfl,hg.1,hg.2,.inr (.inl ⟨rfl,rfl,hc.1,hc.2,hb.1,hb.2,hv.1,hv.2,ty⟩)⟩
theorem g00:(0:Int) <= 0 /\ (0:Int) <= bigW := by decide
def K68 (ds:List HD) (k:Int) (r got:List Int):Prop := k = 0 /\ got = [] \/ ∃ x,got = [x] /\ 1 <= k /\ k <= 7 /\ 0 <= x /\ x <= bigW /\ (k = 1 -> 1 <= x /\ x <= 1048576) /\ (k = 2 -> x <= 1048575) /\
 (2 <= k -> 1 <= r.getD 2 0 /\ r.getD 2 0 <= 1048576) /\ (3 <= k -> r.getD 2 0 <= 1048575)
def R68 (ds:List HD) (k:Int) (r got:List Int):Prop := bnd r /\ (2 <= r.getD 0 0 /\ r.getD 0 0 <= 8) /\ OkH ds (r.getD 1 0) /\ K68 ds k r got
def EndI (l:List Int):Prop := (∃ t,l = [0,t] /\ 1 <= t /\ t <= 1048575) \/ ∃ e,l = [e]
theorem R68.ok {ds:List HD} (hs:ds.length <= 16) {k:Int} {r got:List Int} (h:R68 ds k r got) (own:Bool):okHp own ⟨68,k,r⟩ got := by
 obtain ⟨⟨h1,h2⟩,h3,h4,h5⟩ := h;unfold OkH at h4;refine ⟨h1,h2,.inl ⟨rfl,?_⟩⟩;rcases h5 with h | ⟨x,e,a1,a2,a3,a4,a5,a6,a7,a8⟩
 · exact .inl h
 · exact .inr ⟨x,e,a1,a2,a3,a4,fun q => by have := a6 q;omega,fun q => by have := a7 q;show 0 <= r.getD 2 0 /\ r.getD 2 0 <= 1048576;omega,h3.1,h3.2,h4.1,by show r.getD 1 0 <= 300;omega⟩
theorem RsH.big {ds:List HD} {n:Int} {A:Qb} {x:Int} (h:RsH ds n A x) (ha:A.kind = 2):0 <= x /\ x <= bigW := by
 rcases h with ⟨q,_⟩ | ⟨_,q⟩ | ⟨q,_⟩
 · omega
 · unfold bigW;omega
 · omega
theorem RsH.ty {ds:List HD} {n:Int} {A:Qb} {x:Int} (h:RsH ds n A x) (ha:A.kind = 0):TyH ds n A.a x := by
 rcases h with ⟨_,q⟩ | ⟨q,_⟩ | ⟨q,_⟩
 · exact q
 · omega
 · omega
theorem ins_step {ds:List HD} {n k:Int} {r got:List Int} (h:R68 ds k r got) (hs:ds.length <= 16) :
 ((nIns k r (got.headD 0)).a.kind = 7 /\ nIns k r (got.headD 0) = naEn 68 (nIns k r (got.headD 0)).f.at' (nIns k r (got.headD 0)).f.r (nIns k r (got.headD 0)).a.args true /\ EndI (nIns k r (got.headD 0)).a.args) \/
 (AtH ds n (nIns k r (got.headD 0)).a /\ (nIns k r (got.headD 0)).f.prog = 68 /\ ∀ x,RsH ds n (nIns k r (got.headD 0)).a x -> R68 ds (nIns k r (got.headD 0)).f.at' (nIns k r (got.headD 0)).f.r [x]) := by
 obtain ⟨hb,hw,hd,hK⟩ := h;have hl := hb.1;have hd' := hd;unfold OkH at hd';have big1:(1048576:Int) <= bigW := by decide
 have tl:AtH ds n (naLd 68 1 r 1 0).a /\ (naLd 68 1 r 1 0).f.prog = 68 /\ ∀ x,RsH ds n (naLd 68 1 r 1 0).a x -> R68 ds 1 r [x] := by
  refine ⟨atLd (by decide) g00,rfl,fun x hx => ?_⟩
  have := (hx.ty rfl).t1 rfl;exact ⟨hb,hw,hd,.inr ⟨x,rfl,by decide,by decide,by omega,by omega,fun _ => this,fun q => absurd q (by decide),fun q => absurd q (by decide),fun q => absurd q (by decide)⟩⟩
 have on:∀ m:Int,m = 5 \/ m = 7 -> ∀ r':List Int,bnd r' -> r'.getD 0 0 = r.getD 0 0 -> r'.getD 1 0 = r.getD 1 0 -> r'.getD 2 0 = r.getD 2 0 -> 1 <= r.getD 2 0 -> r.getD 2 0 <= 1048575 ->
  AtH ds n (naCs 68 m r' 1 (r.getD 2 0) (r.getD 2 0 + 1) 0).a /\ (naCs 68 m r' 1 (r.getD 2 0) (r.getD 2 0 + 1) 0).f.prog = 68 /\ ∀ x,RsH ds n (naCs 68 m r' 1 (r.getD 2 0) (r.getD 2 0 + 1) 0).a x -> R68 ds m r' [x] := fun m hm r' b' e0 e1 e2 g1 g2 => by
  refine ⟨atCs (by decide) (by omega) (by omega) g00 (QpN hs (by omega)),rfl,fun x hx => ?_⟩
  · have hx := hx.big rfl;exact ⟨b',by rw [e0];exact hw,by rw [e1];exact hd,.inr ⟨x,rfl,by omega,by omega,hx.1,hx.2,fun q => by omega,fun q => by omega,fun _ => by rw [e2];omega,fun _ => by rw [e2];omega⟩⟩
 rcases hK with ⟨rfl,rfl⟩ | ⟨x,rfl,k1,k7,x0,x1,y1,y2,y3,y4⟩
 · exact .inr tl
 simp only [List.headD_cons];have ks:k = 1 \/ k = 2 \/ k = 3 \/ k = 4 \/ k = 5 \/ k = 6 \/ k = 7 := by omega
 rcases ks with rfl | rfl | rfl | rfl | rfl | rfl | rfl
 · have e:nIns 1 r x = naLd 68 2 (r.set 2 x) 0 0 := rfl;have y := y1 rfl;rw [e];refine .inr ⟨atLd (by decide) g00,rfl,fun z hz => ?_⟩
   have hz := (hz.ty rfl).t0 rfl;refine (⟨hb.set 2 x1,?_,?_,.inr ⟨z,rfl,by decide,by decide,hz.1,by omega,fun q => absurd q (by decide),fun _ => hz.2,fun _ => ?_,fun q => absurd q (by decide)⟩⟩:R68 ds 2 (r.set 2 x) [z])
   · rw [Qa (by decide)];exact hw
   · rw [Qa (by decide)];exact hd
   · rw [Qc (by omega)];exact y
 · have e:nIns 2 r x = if x + r.getD 0 0 < r.getD 2 0 then naEn 68 2 r [170] true else if 1048575 < r.getD 2 0 then naEn 68 2 r [172] true else naLd 68 3 r 4 0 := rfl
   have y := y3 (by decide)
   rw [e]
   split
   · exact .inl ⟨rfl,rfl,.inr ⟨170,rfl⟩⟩
   · split
     · exact .inl ⟨rfl,rfl,.inr ⟨172,rfl⟩⟩
     · refine .inr ⟨atLd (by decide) g00,rfl,fun z hz => ?_⟩
       have hz := (hz.ty rfl).t2 (by show (2:Int) <= 4;decide) (by show (4:Int) <= 12;decide)
       exact (⟨hb,hw,hd,.inr ⟨z,rfl,by decide,by decide,hz.1,hz.2,fun q => absurd q (by decide),fun q => absurd q (by decide),fun _ => y,fun _ => by omega⟩⟩:R68 ds 3 r [z])
 · have e:nIns 3 r x = if x < r.getD 2 0 - 32 then naEn 68 3 r [171] true else naLd 68 4 r (lRing (r.getD 2 0) (r.getD 0 0)) 0 := rfl
   have y := y3 (by decide)
   have y' := y4 (by decide)
   rw [e]
   split
   · exact .inl ⟨rfl,rfl,.inr ⟨171,rfl⟩⟩
   · have hr := Qa5 (p := r.getD 2 0) (by omega) hw
     refine .inr ⟨atLd (by omega) g00,rfl,fun z hz => ?_⟩
     · have hz := ((hz.ty rfl).t3 (by show 13 <= lRing (r.getD 2 0) (r.getD 0 0);omega) (by show lRing (r.getD 2 0) (r.getD 0 0) <= 20;omega)).1
       exact (⟨hb,hw,hd,.inr ⟨z,rfl,by decide,by decide,hz.1,hz.2,fun q => absurd q (by decide),fun q => absurd q (by decide),fun _ => y,fun _ => y'⟩⟩:R68 ds 4 r [z])
 · have e:nIns 4 r x = if plc x = r.getD 2 0 then naCs 68 5 (r.set 3 x) 1 (r.getD 2 0) (r.getD 2 0 + 1) 0 else if r.getD 2 0 < plc x then naLd 68 1 (r.set 3 x) 1 0
    else naCs 68 6 (r.set 3 x) (lRing (r.getD 2 0) (r.getD 0 0)) x (wordN (r.getD 2 0) (r.getD 1 0)) 0 := rfl
   have y := y3 (by decide)
   have y' := y4 (by decide)
   have b3 := hb.set 3 x1;have g0:(r.set 3 x).getD 0 0 = r.getD 0 0 := Qa (by decide)
   have g1:(r.set 3 x).getD 1 0 = r.getD 1 0 := Qa (by decide)
   have g2:(r.set 3 x).getD 2 0 = r.getD 2 0 := Qa (by decide)
   rw [e]
   split
   · exact .inr (on 5 (.inl rfl) _ b3 g0 g1 g2 (by omega) y')
   · split
     · refine .inr ⟨atLd (by decide) g00,rfl,fun z hz => ?_⟩
       have hz := (hz.ty rfl).t1 rfl;exact (⟨b3,by rw [g0];exact hw,by rw [g1];exact hd,.inr ⟨z,rfl,by decide,by decide,by omega,by omega,fun _ => hz,fun q => absurd q (by decide),fun q => absurd q (by decide),fun q => absurd q (by decide)⟩⟩:R68 ds 1 (r.set 3 x) [z])
     · have hr := Qa5 (p := r.getD 2 0) (by omega) hw
       have hwN := QgV (p := r.getD 2 0) (h := r.getD 1 0) (by omega) (by omega)
       refine .inr ⟨atCs (by omega) ⟨by omega,x1⟩ hwN.2 g00 (QpO hs (by omega) ?_),rfl,fun z hz => ?_⟩
       · refine ⟨hwN.2,.inr ?_⟩;show OkH ds (bare (wordN (r.getD 2 0) (r.getD 1 0)));rw [hwN.1];exact hd
       · have hz := hz.big rfl;exact (⟨b3,by rw [g0];exact hw,by rw [g1];exact hd,.inr ⟨z,rfl,by decide,by decide,hz.1,hz.2,fun q => absurd q (by decide),fun q => absurd q (by decide),fun _ => by rw [g2];exact y,fun _ => by rw [g2];exact y'⟩⟩:R68 ds 6 (r.set 3 x) [z])
 · exact .inr tl
 · have e:nIns 6 r x = if x = 0 then naLd 68 1 r 1 0 else naCs 68 7 r 1 (r.getD 2 0) (r.getD 2 0 + 1) 0 := rfl
   have y := y3 (by decide)
   have y' := y4 (by decide)
   rw [e]
   split
   · exact .inr tl
   · exact .inr (on 7 (.inr rfl) r hb rfl rfl rfl (by omega) y')
 · have y := y3 (by decide)
   have y' := y4 (by decide)
   exact .inl ⟨rfl,rfl,.inl ⟨r.getD 2 0,rfl,y.1,y'⟩⟩
def K73 (k:Int) (r got:List Int):Prop := k = 0 /\ got = [] \/ ∃ x,got = [x] /\ 1 <= k /\ k <= 3 /\ 0 <= x /\ x <= bigW /\ (k = 2 -> 0 <= r.getD 3 0 /\ r.getD 3 0 <= bigW)
def R73 (k:Int) (r got:List Int):Prop := bnd r /\ (0 <= r.getD 2 0 /\ r.getD 2 0 <= 23) /\ (256 <= r.getD 1 0 /\ r.getD 1 0 < 316) /\ K73 k r got
theorem R73.ok {k:Int} {r got:List Int} (h:R73 k r got) (own:Bool):okHp own ⟨73,k,r⟩ got := by
 obtain ⟨⟨h1,h2⟩,h3,h4,h5⟩ := h;refine ⟨h1,h2,.inr (.inl ⟨rfl,h3.1,h3.2,?_⟩)⟩;rcases h5 with h | ⟨x,e,a1,a2,a3,a4,a5⟩
 · exact .inl h
 · exact .inr ⟨x,e,a1,a2,a3,a4,h4.1,by show r.getD 1 0 <= 400;omega⟩
theorem inr_step {ds:List HD} {n k:Int} {r got:List Int} (h:R73 k r got) (hs:ds.length <= 16) :
 ((nInr false k r (got.headD 0)).a = ⟨7,0,0,0,0,[],[]⟩ /\ (nInr true k r (got.headD 0)).a = ⟨7,0,0,0,0,[],[]⟩ /\ k ≠ 0) \/
 (nInr true k r (got.headD 0) = nInr false k r (got.headD 0) /\ AtH ds n (nInr false k r (got.headD 0)).a /\ (nInr false k r (got.headD 0)).f.prog = 73 /\ ∀ x,RsH ds n (nInr false k r (got.headD 0)).a x -> R73 (nInr false k r (got.headD 0)).f.at' (nInr false k r (got.headD 0)).f.r [x]) := by
 obtain ⟨hb,hk,hn,hK⟩ := h;have hl := hb.1;have hrow:lRow 21 (r.getD 2 0) 24 = 21 + r.getD 2 0 := Qbr hk.1 (by omega)
 rcases hK with ⟨rfl,rfl⟩ | ⟨x,rfl,k1,k3,x0,x1,y⟩
 · have e:∀ own,nInr own 0 r (([]:List Int).headD 0) = naLd 73 1 r (lRow 21 (r.getD 2 0) 24) 0 := fun own => by
    show (if lRow 21 (r.getD 2 0) 24 < 0 then _ else _) = _
    rw [if_neg (by omega)]
   rw [e,e];refine .inr ⟨rfl,atLd (by omega) g00,rfl,fun z hz => ?_⟩
   · have hz := (hz.ty rfl).t4 (by show 21 <= lRow 21 (r.getD 2 0) 24;omega) (by show lRow 21 (r.getD 2 0) 24 <= 44;omega)
     exact (⟨hb,hk,hn,.inr ⟨z,rfl,by decide,by decide,hz.1,hz.2,fun q => absurd q (by decide)⟩⟩:R73 1 r [z])
 simp only [List.headD_cons];have ks:k = 1 \/ k = 2 \/ k = 3 := by omega
 rcases ks with rfl | rfl | rfl
 · have e:∀ own,nInr own 1 r x = if sCell (r.getD 1 0) 1 < 0 \/ r.getD 0 0 <= plc (max x 0) then naEn 73 (bif own then 99 else 1) (r.set 3 (max x 0)) [] true
    else naCs 73 2 (r.set 3 (max x 0)) (sCell (r.getD 1 0) 1) (-1) (max x 0) (r.getD 1 0) := fun own => rfl
   have hc:sCell (r.getD 1 0) 1 = 291 + (r.getD 1 0 - 256) * 3 + 1 := by
    have := QmZ (v := r.getD 1 0 - 256) (by omega) (by omega)
    rwa [show 256 + (r.getD 1 0 - 256) = r.getD 1 0 by omega] at this
   have mx:max x 0 = x := by omega
   rw [e,e,mx]
   split
   · exact .inl ⟨rfl,rfl,by decide⟩
   · refine .inr ⟨rfl,atCs (by omega) (by decide) ⟨x0,x1⟩ ⟨by omega,by unfold bigW;omega⟩ (Qki hs (by omega)),rfl,fun z hz => ?_⟩
     · have hz := hz.big rfl;refine (⟨hb.set 3 x1,?_,?_,.inr ⟨z,rfl,by decide,by decide,hz.1,hz.2,fun _ => ?_⟩⟩:R73 2 (r.set 3 x) [z])
       · rw [Qa (by decide)];exact hk
       · rw [Qa (by decide)];exact hn
       · rw [Qc (by omega)];exact ⟨x0,x1⟩
 · have e:∀ own,nInr own 2 r x = naCs 73 3 r (lRow 21 (r.getD 2 0) 24) (r.getD 3 0) (wordN (r.getD 0 0) (r.getD 1 0)) 0 := fun own => rfl;have y := y rfl;have hw := Qkj (r.getD 0 0) (r.getD 1 0);rw [e,e];refine .inr ⟨rfl,atCs (by omega) ⟨by omega,y.2⟩ hw g00 (QpP hs (by omega) hw),rfl,fun z hz => ?_⟩
   · have hz := hz.big rfl;exact (⟨hb,hk,hn,.inr ⟨z,rfl,by decide,by decide,hz.1,hz.2,fun q => absurd q (by decide)⟩⟩:R73 3 r [z])
 · exact .inl ⟨rfl,rfl,by decide⟩
def Kn (d:HD) (m:Nat) (r:List Int):Prop := ∀ j,j < m -> r.getD (8 + j) 0 = d.w j /\ r.getD (12 + j) 0 = d.nd j
theorem Kn.same {d:HD} {m:Nat} {r r':List Int} (h:Kn d m r) (e:∀ i,8 <= i -> r'.getD i 0 = r.getD i 0):Kn d m r' := fun j hj => by
 rw [e _ (by omega),e _ (by omega)];exact h j hj
def G100 (ds:List HD) (k:Int) (r got:List Int):Prop := k = 0 /\ got = [] \/ (k = 13 \/ k = 14) /\ got = [] \/ ∃ x,got = [x] /\ 1 <= k /\ k <= 15 /\ k ≠ 13 /\ k ≠ 14 /\ 0 <= x /\ x <= bigW /\
 (k = 1 -> x <= 1048575) /\ (k = 2 -> x = 0 \/ OkH ds (bare x)) /\ (k = 3 -> x = (hD ds (r.getD 3 0)).start) /\ (k = 4 -> x = (hD ds (r.getD 3 0)).ws.length) /\
 (k = 5 -> x = (hD ds (r.getD 3 0)).w (r.getD 6 0).toNat) /\ (k = 6 -> x = (hD ds (r.getD 3 0)).nd (r.getD 6 0).toNat)
structure R100 (ds:List HD) (k:Int) (r q got:List Int):Prop where
 b1:bnd r
 up:0 <= r.getD 0 0 /\ r.getD 0 0 <= 1048575
 wd:2 <= r.getD 1 0 /\ r.getD 1 0 <= 8
 eq:if k = 11 \/ k = 12 then (∃ j,q = r.set 6 j /\ j <= bigW) /\ r.getD 6 0 = 0 else q = r
 fr:2 <= k -> k <= 14 -> 0 <= r.getD 2 0 /\ r.getD 2 0 < r.getD 0 0
 hd:3 <= k -> k <= 14 -> OkH ds (r.getD 3 0)
 sr:4 <= k -> k <= 14 -> r.getD 4 0 = (hD ds (r.getD 3 0)).start
 mn:5 <= k -> k <= 14 -> r.getD 5 0 = (hD ds (r.getD 3 0)).ws.length
 j5:k = 5 \/ k = 6 \/ k = 8 \/ k = 13 \/ k = 14 -> 0 <= r.getD 6 0 /\ r.getD 6 0 < r.getD 5 0
 j9:7 <= k -> k <= 10 -> 0 <= r.getD 6 0 /\ r.getD 6 0 <= 4
 k5:k = 5 \/ k = 6 -> Kn (hD ds (r.getD 3 0)) (r.getD 6 0).toNat r
 k6:k = 6 -> r.getD (8 + (r.getD 6 0).toNat) 0 = (hD ds (r.getD 3 0)).w (r.getD 6 0).toNat
 k7:7 <= k -> k <= 14 -> Kn (hD ds (r.getD 3 0)) (hD ds (r.getD 3 0)).ws.length r
 gt:G100 ds k r got
inductive Go1 (ds:List HD) (n:Int) (N M:NA):Prop
 | fin (h1:N.a = ⟨7,0,0,0,0,[],[]⟩) (h2:M.a = ⟨7,0,0,0,0,[],[]⟩)
 | act (h1:M.a = N.a) (h2:N.f.prog = 100) (h3:M.f.prog = 100) (h4:M.f.at' = N.f.at') (h5:AtH ds n N.a) (h6:∀ x,RsH ds n N.a x -> R100 ds N.f.at' N.f.r M.f.r [x])
 | ins (r l:List Int) (h1:N = naCl 100 13 r 73 l) (h2:M = naCl 100 13 r 73 l) (h3:R100 ds 13 r r []) (h4:R73 0 (regs1 l) []) (h5:l.length <= 96)
 | app (r l:List Int) (h1:N = naCl 100 14 r 76 l) (h2:M = naCl 100 14 r 76 l) (h3:R100 ds 14 r r []) (h4:R76 n 0 (regs1 l) []) (h5:l.length <= 96)
theorem Qbs {ds:List HD} {n h f v:Int} (t:TyH ds n (hDesc h f) v) (hs:ds.length <= 16) (hh:OkH ds h) (f0:0 <= f) (f1:f < 12):TyD (hD ds h) f v := by
 have e := Ym hs hh f0 f1;unfold OkH at hh;exact t.t6 (h - 256) f (by omega) (by omega) f0 f1 e
theorem Ji {r:List Int} {m:Nat} (h:r.getD 5 0 = (m:Int)) (hm:m <= 4):VH r = m := by unfold VH;omega
theorem Qm0 {ds:List HD} {r:List Int} {o:Int} (d:HD) (hd:OkD d) (h2:0 <= r.getD 2 0 /\ r.getD 2 0 < 1048575) (h5:r.getD 5 0 = (d.ws.length:Int)) (hk:Kn d d.ws.length r):mayB (hRec r o) = true := by
 have hl := hd.len;have hm := Ji h5 hl
 have hws:(List.range (VH r)).map (fun j => (⟨hKey r j,hVal r j⟩:Q5)) = d.ws := by
  rw [hm];apply List.ext_getElem
  · simp
  · intro j h1 h2;simp only [List.length_map,List.length_range] at h1;have hw := hd.wr h1;have := (hk j h1).1;simp only [List.getElem_map,List.getElem_range];have e:d.ws.getD j wrH = d.ws[j] := by simp [h1]
    unfold hKey hVal;rw [this,hw.2.2.1,hw.2.2.2,e]
 unfold mayB hRec;have p:Qw (r.getD 2 0 + 1) 1 1048575 = true := Q2.2 (by omega)
 by_cases e:o = 1
 · simp only [e,if_true,hws,p,hd.ws,decide_true,Bool.true_or,Bool.and_self]
 · have e2:Zj [] = true := rfl;simp only [e,if_false,p,e2,decide_false,Bool.false_or,Bool.and_self,List.isEmpty_nil]
theorem Qkk {r:Rec} (h:mayB r = true):entL r ≠ [] /\ (entL r).length <= 640 := by
 have h1 := QgT h;have e:(entL r).length = (Qep r).length + 12 := by simp only [entL,h,cond_true,QfZ]
 refine ⟨fun q => ?_,by omega⟩
 rw [q] at e;simp at e
theorem QdP {ds:List HD} {n:Int} {r:List Int} (hs:ds.length <= 16) (h1:bnd r) (h2:0 <= r.getD 0 0 /\ r.getD 0 0 <= 1048575) (h3:2 <= r.getD 1 0 /\ r.getD 1 0 <= 8):Go1 ds n (hBeg r) (hBeg r) := by
 refine .act rfl rfl rfl rfl (atLd (by decide) g00) fun x hx => ?_
 have hx := (hx.ty rfl).t0 rfl;have big1:(1048576:Int) <= bigW := by decide
 refine (⟨h1,h2,h3,rfl,fun q => absurd q (by decide),fun q => absurd q (by decide),fun q => absurd q (by decide),fun q => absurd q (by decide),fun q => absurd q (by decide),fun q => absurd q (by decide),fun q => absurd q (by decide),fun q => absurd q (by decide),fun q => absurd q (by decide),
  .inr (.inr ⟨x,rfl,by decide,by decide,by decide,by decide,hx.1,by omega,fun _ => hx.2,fun q => absurd q (by decide),fun q => absurd q (by decide),fun q => absurd q (by decide),fun q => absurd q (by decide),fun q => absurd q (by decide)⟩)⟩:R100 ds 1 r r [x])
structure A100 (ds:List HD) (r:List Int):Prop where
 b1:bnd r
 up:0 <= r.getD 0 0 /\ r.getD 0 0 <= 1048575
 wd:2 <= r.getD 1 0 /\ r.getD 1 0 <= 8
 fr:0 <= r.getD 2 0 /\ r.getD 2 0 < r.getD 0 0
 hd:OkH ds (r.getD 3 0)
structure M100 (ds:List HD) (r:List Int):Prop extends A100 ds r where
 sr:r.getD 4 0 = (hD ds (r.getD 3 0)).start
 mn:r.getD 5 0 = (hD ds (r.getD 3 0)).ws.length
 j6:0 <= r.getD 6 0 /\ r.getD 6 0 <= (hD ds (r.getD 3 0)).ws.length
structure W100 (ds:List HD) (r:List Int):Prop extends M100 ds r where
 kn:Kn (hD ds (r.getD 3 0)) (hD ds (r.getD 3 0)).ws.length r
theorem Qkl {ds:List HD} {n:Int} {r:List Int} (hds:OkDs ds) (h:M100 ds r) (hk:Kn (hD ds (r.getD 3 0)) (r.getD 6 0).toNat r):Go1 ds n (hWrs r) (hWrs r) := by
 obtain ⟨⟨h1,h2,h3,h4,h5⟩,h6,h7,h8⟩ := h;have hD' := hds.at h5;have hl := hD'.len;have hm := Ji h7 hl;have hs := hds.1;have h5' := h5;unfold OkH at h5';have gb:0 <= r.getD 3 0 /\ r.getD 3 0 <= bigW := by unfold bigW;omega
 unfold hWrs;rw [hm]
 split
 · rename_i hj;have hc := Ym (f := 4 + r.getD 6 0) hs h5 (by omega) (by omega)
   refine .act rfl rfl rfl rfl (atLd (by omega) gb) fun x hx => ?_
   have ht := Qbs (hx.ty rfl) hs h5 (by omega) (by omega)
   have e4:(4 + r.getD 6 0 - 4).toNat = (r.getD 6 0).toNat := by omega
   have hv := ht.2.2.1 (by omega) (by omega)
   rw [e4] at hv;have hw := hD'.wr hj
   exact (⟨h1,h2,h3,rfl,fun _ _ => h4,fun _ _ => h5,fun _ _ => h6,fun _ _ => h7,fun _ => by omega,fun q => absurd q (by decide),fun _ => hk,fun q => absurd q (by decide),fun q => absurd q (by decide),
    .inr (.inr ⟨x,rfl,by decide,by decide,by decide,by decide,by omega,by unfold bigW;omega,fun q => absurd q (by decide),fun q => absurd q (by decide),fun q => absurd q (by decide),fun q => absurd q (by decide),fun _ => hv,fun q => absurd q (by decide)⟩)⟩:R100 ds 5 r r [x])
 · rename_i hj;have hc := Ym (f := 1) hs h5 (by omega) (by omega)
   refine .act rfl rfl rfl rfl (atLd (by omega) gb) fun x hx => ?_
   have ht := (hx.ty rfl).t7 (r.getD 3 0 - 256) (by omega) (by omega) hc
   have e6:(r.getD 6 0).toNat = (hD ds (r.getD 3 0)).ws.length := by omega
   rw [e6] at hk
   exact (⟨h1,h2,h3,rfl,fun _ _ => h4,fun _ _ => h5,fun _ _ => h6,fun _ _ => h7,fun q => absurd q (by decide),fun _ _ => by omega,fun q => absurd q (by decide),fun q => absurd q (by decide),fun _ _ => hk,
    .inr (.inr ⟨x,rfl,by decide,by decide,by decide,by decide,by omega,by unfold bigW;omega,fun q => absurd q (by decide),fun q => absurd q (by decide),fun q => absurd q (by decide),fun q => absurd q (by decide),fun q => absurd q (by decide),fun q => absurd q (by decide)⟩)⟩:R100 ds 7 r r [x])
theorem W100.mk9 {ds:List HD} (hds:OkDs ds) {k:Int} {r:List Int} (h:W100 ds r) (hk:k = 8 \/ k = 9 \/ k = 10 \/ k = 15) (h8:k = 8 -> r.getD 6 0 < r.getD 5 0) {x:Int} (x0:0 <= x /\ x <= bigW):R100 ds k r r [x] := by
 have hl := (hds.at h.hd).len;have h6 := h.j6
 refine ⟨h.b1,h.up,h.wd,by rw [if_neg (by omega)],fun _ _ => h.fr,fun _ _ => h.hd,fun _ _ => h.sr,fun _ _ => h.mn,fun q => ⟨h6.1,h8 (by omega)⟩,fun _ _ => by omega,fun q => by omega,fun q => by omega,fun _ _ => h.kn,
  .inr (.inr ⟨x,rfl,by omega,by omega,by omega,by omega,x0.1,x0.2,fun q => by omega,fun q => by omega,fun q => by omega,fun q => by omega,fun q => by omega,fun q => by omega⟩)⟩
theorem W100.set {ds:List HD} {r:List Int} (h:W100 ds r) {i:Nat} (hi:i = 7) {x:Int} (hx:x <= bigW):W100 ds (r.set i x) := by
 subst hi;have e:∀ j,j ≠ 7 -> (r.set 7 x).getD j 0 = r.getD j 0 := fun j hj => Qa (fun q => hj q.symm);obtain ⟨⟨⟨h1,h2,h3,h4,h5⟩,h6,h7,h8⟩,h9⟩ := h;refine ⟨⟨⟨h1.set 7 hx,?_,?_,?_,?_⟩,?_,?_,?_⟩,?_⟩
 · rw [e 0 (by decide)];exact h2
 · rw [e 1 (by decide)];exact h3
 · rw [e 2 (by decide),e 0 (by decide)];exact h4
 · rw [e 3 (by decide)];exact h5
 · rw [e 3 (by decide),e 4 (by decide)];exact h6
 · rw [e 3 (by decide),e 5 (by decide)];exact h7
 · rw [e 3 (by decide),e 6 (by decide)];exact h8
 · rw [e 3 (by decide)];exact h9.same fun i hi => e i (by omega)
theorem W100.set6 {ds:List HD} {r:List Int} (h:W100 ds r) {x:Int} (h0:0 <= x) (hx:x <= (hD ds (r.getD 3 0)).ws.length) (hl:(hD ds (r.getD 3 0)).ws.length <= 4):W100 ds (r.set 6 x) := by
 have e:∀ j,j ≠ 6 -> (r.set 6 x).getD j 0 = r.getD j 0 := fun j hj => Qa (fun q => hj q.symm);obtain ⟨⟨⟨h1,h2,h3,h4,h5⟩,h6,h7,h8⟩,h9⟩ := h;have l1 := h1.1;refine ⟨⟨⟨h1.set 6 (by unfold bigW;omega),?_,?_,?_,?_⟩,?_,?_,?_⟩,?_⟩
 · rw [e 0 (by decide)];exact h2
 · rw [e 1 (by decide)];exact h3
 · rw [e 2 (by decide),e 0 (by decide)];exact h4
 · rw [e 3 (by decide)];exact h5
 · rw [e 3 (by decide),e 4 (by decide)];exact h6
 · rw [e 3 (by decide),e 5 (by decide)];exact h7
 · rw [e 3 (by decide),Qc (by omega)];exact ⟨h0,hx⟩
 · rw [e 3 (by decide)];exact h9.same fun i hi => e i (by omega)
theorem Qkm {ds:List HD} {n:Int} {r:List Int} (hds:OkDs ds) (h:W100 ds r) {o:Int} (ho:o = 1 \/ o = 2):Go1 ds n (hDec r o) (hDec r o) := by
 have h5 := h.hd;have hs := hds.1;have hc := Ym (f := 1) hs h5 (by omega) (by omega)
 have h5' := h5;unfold OkH at h5';refine .act rfl rfl rfl rfl (atCs (by omega) (by decide) (by unfold bigW;omega) (by unfold bigW;omega) ?_) fun x hx => ?_
 · rw [hc];exact Qq0 hs (by omega) (by omega) (by omega)
 · have hx := hx.big rfl;exact (W100.mk9 hds (h.set rfl (by unfold bigW;omega)) (.inr (.inl rfl)) (fun q => absurd q (by decide)) hx:R100 ds 9 (r.set 7 o) (r.set 7 o) [x])
theorem Qkn {ds:List HD} {n:Int} {r:List Int} (hds:OkDs ds) (h:W100 ds r):Go1 ds n (hHds r) (hHds r) := by
 have hD' := hds.at h.hd;have hl := hD'.len;have hm := Ji h.mn hl;have h6 := h.j6;have h7 := h.mn;unfold hHds;rw [hm]
 split
 · rename_i hj;have hw := hD'.wr hj
   have hk:hKey r (r.getD 6 0).toNat = ((hD ds (r.getD 3 0)).ws.getD (r.getD 6 0).toNat wrH).key := by
    unfold hKey;rw [(h.kn _ hj).1,hw.2.2.1]
   have hw2 := Qkh hD'.ws hj;have hrow:lRow 21 (hKey r (r.getD 6 0).toNat) 24 = 21 + hKey r (r.getD 6 0).toNat := Qbr (by omega) (by omega)
   refine .act rfl rfl rfl rfl (atLd (by omega) g00) fun x hx => ?_
   have hx := (hx.ty rfl).t4 (by show 21 <= lRow 21 (hKey r (r.getD 6 0).toNat) 24;omega) (by show lRow 21 (hKey r (r.getD 6 0).toNat) 24 <= 44;omega)
   exact (W100.mk9 hds h (.inl rfl) (fun _ => by omega) hx:R100 ds 8 r r [x])
 · exact Qkm hds h (.inl rfl)
theorem Qko {ds:List HD} {n:Int} {r q:List Int} (hds:OkDs ds) (h:W100 ds r) (h0:r.getD 6 0 = 0) {j:Int} (hq:q = r.set 6 j) (hj:j <= bigW) {o:Int} (ho:0 <= o /\ o <= bigW):Go1 ds n (hPut r o) (hPut q o) := by
 have hD' := hds.at h.hd;have e:∀ i,i ≠ 6 -> q.getD i 0 = r.getD i 0 := fun i hi => by rw [hq];exact Qa (fun c => hi c.symm)
 have hR:hRec q o = hRec r o := by
  unfold hRec VH;rw [e 2 (by decide),e 5 (by decide)]
  have:∀ j,hKey q j = hKey r j /\ hVal q j = hVal r j := fun j => by unfold hKey hVal;rw [e _ (by omega)];exact ⟨rfl,rfl⟩
  simp only [fun j => (this j).1,fun j => (this j).2]
 have hmay:mayB (hRec r o) = true := Qm0 (ds := ds) _ hD' (by have := h.fr;have := h.up;omega) h.mn h.kn
 obtain ⟨t1,t2⟩ := Qkk hmay;have hfr := h.fr;have hup := h.up;have hsec:secI (r.getD 2 0 + 1) = (r.getD 2 0 + 1) % 32 := if_neg (by omega)
 refine .act ?_ rfl rfl rfl ⟨rfl,Int.le_refl _,by show (0:Int) <= bigW;decide,.inr (.inr (.inl ⟨rfl,rfl,rfl,?_,?_,?_,?_,t1,t2⟩))⟩ fun x hx => ?_
 · show (⟨4,(bif mayB (hRec q o) then secI (q.getD 2 0 + 1) else 0),q.getD 2 0 + 1,0,0,entL (hRec q o),[]⟩:Qb) = ⟨4,(bif mayB (hRec r o) then secI (r.getD 2 0 + 1) else 0),r.getD 2 0 + 1,0,0,entL (hRec r o),[]⟩;rw [hR,e 2 (by decide)]
 · show 0 <= (bif mayB (hRec r o) then secI (r.getD 2 0 + 1) else 0);rw [hmay,cond_true];omega
 · show (bif mayB (hRec r o) then secI (r.getD 2 0 + 1) else 0) < 33;rw [hmay,cond_true];omega
 · show 1 <= r.getD 2 0 + 1;omega
 · show r.getD 2 0 + 1 <= 1048575;omega
 · have hW := h.set (i := 7) rfl ho.2;rcases hx with ⟨c,_⟩ | ⟨c,_⟩ | ⟨_,rfl⟩
   · exact absurd c (by show ((4:Int) ≠ 0);decide)
   · exact absurd c (by show ((4:Int) ≠ 2);decide)
   · refine (⟨hW.b1,hW.up,hW.wd,?_,fun _ _ => hW.fr,fun _ _ => hW.hd,fun _ _ => hW.sr,fun _ _ => hW.mn,fun c => absurd c (by decide),fun _ c => absurd c (by decide),fun c => absurd c (by decide),fun c => absurd c (by decide),fun _ _ => hW.kn,
      .inr (.inr ⟨0,rfl,by decide,by decide,by decide,by decide,by decide,by decide,fun c => absurd c (by decide),fun c => absurd c (by decide),fun c => absurd c (by decide),fun c => absurd c (by decide),fun c => absurd c (by decide),fun c => absurd c (by decide)⟩)⟩:R100 ds 11 (r.set 7 o) (q.set 7 o) [0])
     rw [if_pos (.inl rfl)];refine ⟨⟨j,?_,hj⟩,?_⟩
     · rw [hq,List.set_comm _ _ (by decide)]
     · rw [Qa (by decide)];exact h0
theorem Qkp {ds:List HD} {n:Int} {r:List Int} (hds:OkDs ds) (h:W100 ds r):Go1 ds n (hApp r) (hApp r) := by
 have hD' := hds.at h.hd;have hl := hD'.len;have hm := Ji h.mn hl;have h6 := h.j6;have h7 := h.mn;have hfr := h.fr;have hup := h.up;have big1:(1048576:Int) <= bigW := by decide
 unfold hApp;rw [hm]
 split
 · rename_i hj;have hj := hj.2;have hw := hD'.wr hj;have hw2 := Qkh hD'.ws hj;have hnb := hD'.nb
   have hk:hKey r (r.getD 6 0).toNat = ((hD ds (r.getD 3 0)).ws.getD (r.getD 6 0).toNat wrH).key := by
    unfold hKey;rw [(h.kn _ hj).1,hw.2.2.1]
   have hn:r.getD (12 + (r.getD 6 0).toNat) 0 = 256 + (hD ds (r.getD 3 0)).base + ((r.getD 6 0).toNat:Nat) := (h.kn _ hj).2;refine .ins r _ rfl rfl ⟨h.b1,h.up,h.wd,rfl,fun _ _ => h.fr,fun _ _ => h.hd,fun _ _ => h.sr,fun _ _ => h.mn,fun _ => by omega,fun _ c => absurd c (by decide),fun c => absurd c (by decide),fun c => absurd c (by decide),fun _ _ => h.kn,.inr (.inl ⟨.inl rfl,rfl⟩)⟩ ?_ (by simp)
   generalize r.getD (12 + (r.getD 6 0).toNat) 0 = nd at *
   generalize hKey r (r.getD 6 0).toNat = ky at *
   generalize ((hD ds (r.getD 3 0)).ws.getD (r.getD 6 0).toNat wrH) = w at *
   refine ⟨⟨by simp [regs1],fun v hv => ?_⟩,?_,?_,.inl ⟨rfl,rfl⟩⟩
   · unfold regs1 at hv;rcases List.mem_append.1 hv with hv | hv
     · simp only [List.mem_cons,List.mem_nil_iff,or_false] at hv;rcases hv with rfl | rfl | rfl <;> omega
     · rw [List.eq_of_mem_replicate hv];decide
   · show 0 <= ky /\ ky <= 23;omega
   · show 256 <= nd /\ nd < 316;omega
 · refine .act rfl rfl rfl rfl (atCs (by decide) (by omega) (by omega) g00 (QmY hds.1 (by omega))) fun x hx => ?_
   have hx := hx.big rfl;exact (W100.mk9 hds h (.inr (.inr (.inr rfl))) (fun q => absurd q (by decide)) hx:R100 ds 15 r r [x])
theorem Qm1 {ds:List HD} {n k:Int} {r q got:List Int} (h:R100 ds k r q got) (hds:OkDs ds):Go1 ds n (nHlp false k r (got.headD 0)) (nHlp true k q (got.headD 0)) := by
 have hs := hds.1;obtain ⟨b1,up,wd,eq,fr,hd,sr,mn,j5,j9,k5,k6,k7,gt⟩ := h;have big1:(1048576:Int) <= bigW := by decide
 have l1 := b1.1;rcases gt with ⟨rfl,rfl⟩ | ⟨hk,rfl⟩ | ⟨x,rfl,a1,a15,a13,a14,x0,x1,y1,y2,y3,y4,y5,y6⟩
 · rw [if_neg (by decide)] at eq
   subst eq;exact QdP hs b1 up wd
 · have hW:W100 ds r := ⟨⟨⟨b1,up,wd,fr (by omega) (by omega),hd (by omega) (by omega)⟩,sr (by omega) (by omega),mn (by omega) (by omega),by have := j5 (by omega);have := mn (by omega) (by omega);omega⟩,k7 (by omega) (by omega)⟩
   rw [if_neg (by omega)] at eq
   subst eq;have hD' := hds.at hW.hd;have hl := hD'.len;have hj := j5 (by omega)
   have hm := hW.mn;have hlt:(q.getD 6 0).toNat < (hD ds (q.getD 3 0)).ws.length := by omega
   rcases hk with rfl | rfl
   · have e:∀ own,nHlp own 13 q (([]:List Int).headD 0) = naCl 100 14 q 76 [q.getD 2 0 + 1,q.getD 6 0,hKey q (q.getD 6 0).toNat,hVal q (q.getD 6 0).toNat] := fun own => rfl;rw [e,e];have hw := hD'.wr hlt;have hw2 := Qkh hD'.ws hlt
     have hk:hKey q (q.getD 6 0).toNat = ((hD ds (q.getD 3 0)).ws.getD (q.getD 6 0).toNat wrH).key := by
      unfold hKey;rw [(hW.kn _ hlt).1,hw.2.2.1]
     have hv:hVal q (q.getD 6 0).toNat = ((hD ds (q.getD 3 0)).ws.getD (q.getD 6 0).toNat wrH).value := by
      unfold hVal;rw [(hW.kn _ hlt).1,hw.2.2.2]
     have hfr := hW.fr;have hup := hW.up;refine .app q _ rfl rfl ⟨b1,up,wd,rfl,fun _ _ => hW.fr,fun _ _ => hW.hd,fun _ _ => hW.sr,fun _ _ => hW.mn,fun _ => hj,fun _ c => absurd c (by decide),fun c => absurd c (by decide),fun c => absurd c (by decide),fun _ _ => hW.kn,.inr (.inl ⟨.inr rfl,rfl⟩)⟩ ?_ (by simp)
     generalize hKey q (q.getD 6 0).toNat = ky at *
     generalize hVal q (q.getD 6 0).toNat = vl at *
     generalize ((hD ds (q.getD 3 0)).ws.getD (q.getD 6 0).toNat wrH) = w at *
     refine ⟨⟨by simp [regs1],fun v hv => ?_⟩,?_,.inl ⟨rfl,rfl⟩⟩
     · unfold regs1 at hv;rcases List.mem_append.1 hv with hv | hv
       · simp only [List.mem_cons,List.mem_nil_iff,or_false] at hv;rcases hv with rfl | rfl | rfl | rfl <;> omega
       · rw [List.eq_of_mem_replicate hv];decide
     · show 0 <= ky /\ ky <= 23;omega
   · have e:∀ own,nHlp own 14 q (([]:List Int).headD 0) = hApp (q.set 6 (q.getD 6 0 + 1)) := fun own => rfl;rw [e,e];exact Qkp hds (hW.set6 (by omega) (by omega) hl)
 simp only [List.headD_cons];have ks:k = 1 \/ k = 2 \/ k = 3 \/ k = 4 \/ k = 5 \/ k = 6 \/ k = 7 \/ k = 8 \/ k = 9 \/ k = 10 \/ k = 11 \/ k = 12 \/ k = 15 := by omega
 rcases ks with rfl | rfl | rfl | rfl | rfl | rfl | rfl | rfl | rfl | rfl | rfl | rfl | rfl
 · rw [if_neg (by decide)] at eq
   subst eq;have e:∀ own,nHlp own 1 q x = if q.getD 0 0 <= x then naEn 100 1 (q.set 2 x) [] true else naLd 100 2 (q.set 2 x) (lRing (x + 1) (q.getD 1 0)) 0 := fun own => rfl
   rw [e,e]
   split
   · exact .fin rfl rfl
   · have hr := Qa5 (p := x + 1) (by omega) wd
     refine .act rfl rfl rfl rfl (atLd (by omega) g00) fun z hz => ?_
     have hz := (hz.ty rfl).t3 (by show 13 <= lRing (x + 1) (q.getD 1 0);omega) (by show lRing (x + 1) (q.getD 1 0) <= 20;omega)
     refine (⟨b1.set 2 x1,?_,?_,rfl,fun _ _ => ?_,fun c => absurd c (by decide),fun c => absurd c (by decide),fun c => absurd c (by decide),fun c => absurd c (by decide),fun c => absurd c (by decide),fun c => absurd c (by decide),fun c => absurd c (by decide),fun c => absurd c (by decide),
      .inr (.inr ⟨z,rfl,by decide,by decide,by decide,by decide,hz.1.1,hz.1.2,fun c => absurd c (by decide),fun _ => hz.2,fun c => absurd c (by decide),fun c => absurd c (by decide),fun c => absurd c (by decide),fun c => absurd c (by decide)⟩)⟩:R100 ds 2 (q.set 2 x) (q.set 2 x) [z])
     · rw [Qa (by decide)];exact up
     · rw [Qa (by decide)];exact wd
     · rw [Qc (by omega),Qa (by decide)];omega
 · rw [if_neg (by decide)] at eq
   subst eq;have e:∀ own,nHlp own 2 q x = if plc x = q.getD 2 0 + 1 then hOf 3 (q.set 3 (bare x)) 2 else hBeg q := fun own => rfl
   rw [e,e];have hf := fr (by decide) (by decide)
   split
   · rename_i hp
     have hx:OkH ds (bare x) := by
      rcases y2 rfl with rfl | h
      · exfalso;have:plc 0 = 0 := rfl;omega
      · exact h
     have hb := QpR (w := x);have g3:(q.set 3 (bare x)).getD 3 0 = bare x := Qc (by omega)
     have hc := Ym (f := 2) hs hx (by omega) (by omega)
     have hx' := hx;unfold OkH at hx';refine .act rfl rfl rfl rfl (atLd (by rw [g3];omega) (by rw [g3];exact hb)) fun z hz => ?_
     have ht := hz.ty rfl;replace ht:TyH ds n (hDesc ((q.set 3 (bare x)).getD 3 0) 2) z := ht;rw [g3] at ht;have hv := (Qbs ht hs hx (by omega) (by omega)).1 rfl
     have hD' := hds.at hx;have hst := hD'.st
     refine (⟨b1.set 3 hb.2,?_,?_,rfl,fun _ _ => ?_,fun _ _ => ?_,fun c => absurd c (by decide),fun c => absurd c (by decide),fun c => absurd c (by decide),fun c => absurd c (by decide),fun c => absurd c (by decide),fun c => absurd c (by decide),fun c => absurd c (by decide),
      .inr (.inr ⟨z,rfl,by decide,by decide,by decide,by decide,by omega,by omega,fun c => absurd c (by decide),fun c => absurd c (by decide),fun _ => ?_,fun c => absurd c (by decide),fun c => absurd c (by decide),fun c => absurd c (by decide)⟩)⟩:R100 ds 3 (q.set 3 (bare x)) (q.set 3 (bare x)) [z])
     · rw [Qa (by decide)];exact up
     · rw [Qa (by decide)];exact wd
     · rw [Qa (by decide),Qa (by decide)];exact hf
     · rw [g3];exact hx
     · rw [g3];exact hv
   · exact QdP hs b1 up wd
 · rw [if_neg (by decide)] at eq
   subst eq;have e:∀ own,nHlp own 3 q x = hOf 4 (q.set 4 x) 3 := fun own => rfl;rw [e,e];have hf := fr (by decide) (by decide)
   have hx := hd (by decide) (by decide)
   have hv := y3 rfl;have g3:(q.set 4 x).getD 3 0 = q.getD 3 0 := Qa (by decide)
   have hc := Ym (f := 3) hs hx (by omega) (by omega)
   have hx' := hx;unfold OkH at hx';refine .act rfl rfl rfl rfl (atLd (by rw [g3];omega) (by rw [g3];omega)) fun z hz => ?_
   have ht := hz.ty rfl;replace ht:TyH ds n (hDesc ((q.set 4 x).getD 3 0) 3) z := ht;rw [g3] at ht;have hz := (Qbs ht hs hx (by omega) (by omega)).2.1 rfl
   have hl := (hds.at hx).len
   refine (⟨b1.set 4 x1,?_,?_,rfl,fun _ _ => ?_,fun _ _ => ?_,fun _ _ => ?_,fun c => absurd c (by decide),fun c => absurd c (by decide),fun c => absurd c (by decide),fun c => absurd c (by decide),fun c => absurd c (by decide),fun c => absurd c (by decide),
    .inr (.inr ⟨z,rfl,by decide,by decide,by decide,by decide,by omega,by omega,fun c => absurd c (by decide),fun c => absurd c (by decide),fun c => absurd c (by decide),fun _ => ?_,fun c => absurd c (by decide),fun c => absurd c (by decide)⟩)⟩:R100 ds 4 (q.set 4 x) (q.set 4 x) [z])
   · rw [Qa (by decide)];exact up
   · rw [Qa (by decide)];exact wd
   · rw [Qa (by decide),Qa (by decide)];exact hf
   · rw [g3];exact hx
   · rw [g3,Qc (by omega)];exact hv
   · rw [g3];exact hz
 · rw [if_neg (by decide)] at eq
   subst eq;have e:∀ own,nHlp own 4 q x = hWrs ((q.set 5 x).set 6 0) := fun own => rfl;rw [e,e];have E:∀ j,j ≠ 5 -> j ≠ 6 -> ((q.set 5 x).set 6 0).getD j 0 = q.getD j 0 := fun j c1 c2 => by rw [Qa (fun c => c2 c.symm),Qa (fun c => c1 c.symm)]
   have g6:((q.set 5 x).set 6 0).getD 6 0 = 0 := Qc (by rw [List.length_set];omega)
   refine Qkl hds ⟨⟨(b1.set 5 x1).set 6 (by decide),?_,?_,?_,?_⟩,?_,?_,?_⟩ fun j hj => ?_
   · rw [E 0 (by decide) (by decide)];exact up
   · rw [E 1 (by decide) (by decide)];exact wd
   · rw [E 2 (by decide) (by decide),E 0 (by decide) (by decide)];exact fr (by decide) (by decide)
   · rw [E 3 (by decide) (by decide)];exact hd (by decide) (by decide)
   · rw [E 3 (by decide) (by decide),E 4 (by decide) (by decide)];exact sr (by decide) (by decide)
   · rw [E 3 (by decide) (by decide),Qa (by decide),Qc (by omega)];exact y4 rfl
   · rw [g6];omega
   · rw [g6] at hj;simp at hj
 · rw [if_neg (by decide)] at eq
   subst eq;have e:∀ own,nHlp own 5 q x = hOf 6 (q.set (8 + (q.getD 6 0).toNat) x) (8 + q.getD 6 0) := fun own => rfl;rw [e,e];have hx := hd (by decide) (by decide)
   have hm := mn (by decide) (by decide)
   have hl := (hds.at hx).len;have hj := j5 (.inl rfl);have hnb := (hds.at hx).nb;have E:∀ j,j ≠ 8 + (q.getD 6 0).toNat -> (q.set (8 + (q.getD 6 0).toNat) x).getD j 0 = q.getD j 0 := fun j c => Qa (fun d => c d.symm);have g3 := E 3 (by omega)
   have hc := Ym (f := 8 + q.getD 6 0) hs hx (by omega) (by omega)
   have hx' := hx;unfold OkH at hx';refine .act rfl rfl rfl rfl (atLd (by rw [g3];omega) (by rw [g3];omega)) fun z hz => ?_
   have ht := hz.ty rfl;replace ht:TyH ds n (hDesc ((q.set (8 + (q.getD 6 0).toNat) x).getD 3 0) (8 + q.getD 6 0)) z := ht;rw [g3] at ht;have hz := (Qbs ht hs hx (by omega) (by omega)).2.2.2 (by omega) (by omega)
   rw [show (8 + q.getD 6 0 - 8).toNat = (q.getD 6 0).toNat by omega] at hz
   have hz2:z = 256 + (hD ds (q.getD 3 0)).base + ((q.getD 6 0).toNat:Nat) := hz;have g6 := E 6 (by omega)
   refine (⟨b1.set _ x1,?_,?_,rfl,fun _ _ => ?_,fun _ _ => ?_,fun _ _ => ?_,fun _ _ => ?_,fun _ => ?_,fun c => absurd c (by decide),fun _ => ?_,fun _ => ?_,fun c => absurd c (by decide),
    .inr (.inr ⟨z,rfl,by decide,by decide,by decide,by decide,by omega,by omega,fun c => absurd c (by decide),fun c => absurd c (by decide),fun c => absurd c (by decide),fun c => absurd c (by decide),fun c => absurd c (by decide),fun _ => ?_⟩)⟩:R100 ds 6 (q.set (8 + (q.getD 6 0).toNat) x) (q.set (8 + (q.getD 6 0).toNat) x) [z])
   · rw [E 0 (by omega)];exact up
   · rw [E 1 (by omega)];exact wd
   · rw [E 2 (by omega),E 0 (by omega)];exact fr (by decide) (by decide)
   · rw [g3];exact hx
   · rw [g3,E 4 (by omega)];exact sr (by decide) (by decide)
   · rw [g3,E 5 (by omega)];exact hm
   · rw [g6,E 5 (by omega)];exact hj
   · rw [g3,g6];exact fun j hj' => by rw [E _ (by omega),E _ (by omega)];exact k5 (.inl rfl) j hj'
   · rw [g3,g6,Qc (by omega)];exact y5 rfl
   · rw [g3,g6];exact hz
 · rw [if_neg (by decide)] at eq
   subst eq;have e:∀ own,nHlp own 6 q x = hWrs ((q.set (12 + (q.getD 6 0).toNat) x).set 6 (q.getD 6 0 + 1)) := fun own => rfl;rw [e,e];have hx := hd (by decide) (by decide)
   have hm := mn (by decide) (by decide)
   have hl := (hds.at hx).len;have hj := j5 (.inr (.inl rfl));have hkn := k5 (.inr rfl);have hk6 := k6 rfl;have hxx := y6 rfl;have E:∀ j,j ≠ 12 + (q.getD 6 0).toNat -> j ≠ 6 -> ((q.set (12 + (q.getD 6 0).toNat) x).set 6 (q.getD 6 0 + 1)).getD j 0 = q.getD j 0 := fun j c1 c2 => by rw [Qa (fun c => c2 c.symm),Qa (fun c => c1 c.symm)]
   have g6:((q.set (12 + (q.getD 6 0).toNat) x).set 6 (q.getD 6 0 + 1)).getD 6 0 = q.getD 6 0 + 1 := Qc (by rw [List.length_set];omega)
   have g3 := E 3 (by omega) (by decide)
   refine Qkl hds ⟨⟨(b1.set _ x1).set 6 (by unfold bigW;omega),?_,?_,?_,?_⟩,?_,?_,?_⟩ ?_
   · rw [E 0 (by omega) (by decide)];exact up
   · rw [E 1 (by omega) (by decide)];exact wd
   · rw [E 2 (by omega) (by decide),E 0 (by omega) (by decide)];exact fr (by decide) (by decide)
   · rw [g3];exact hx
   · rw [g3,E 4 (by omega) (by decide)];exact sr (by decide) (by decide)
   · rw [g3,E 5 (by omega) (by decide)];exact hm
   · rw [g3,g6];omega
   · rw [g3,g6];intro j hj';rw [E (8 + j) (by omega) (by omega)]
     by_cases c:j = (q.getD 6 0).toNat
     · subst c;refine ⟨hk6,?_⟩;rw [Qa (by omega),Qc (by omega)]
       exact hxx
     · rw [E (12 + j) (by omega) (by omega)]
       exact hkn j (by omega)
 · rw [if_neg (by decide)] at eq
   subst eq;have e:∀ own,nHlp own 7 q x = if x = 0 then hHds (q.set 6 0) else hPut (q.set 6 0) x := fun own => rfl
   rw [e,e];have hx := hd (by decide) (by decide)
   have hm := mn (by decide) (by decide)
   have hl := (hds.at hx).len;have h9 := j9 (by decide) (by decide)
   have hW0:W100 ds (q.set 6 0) := by
    have E:∀ j,j ≠ 6 -> (q.set 6 0).getD j 0 = q.getD j 0 := fun j c => Qa (fun d => c d.symm);refine ⟨⟨⟨b1.set 6 (by decide),?_,?_,?_,?_⟩,?_,?_,?_⟩,?_⟩
    · rw [E 0 (by omega)];exact up
    · rw [E 1 (by omega)];exact wd
    · rw [E 2 (by omega),E 0 (by omega)];exact fr (by decide) (by decide)
    · rw [E 3 (by omega)];exact hx
    · rw [E 3 (by omega),E 4 (by omega)];exact sr (by decide) (by decide)
    · rw [E 3 (by omega),E 5 (by omega)];exact hm
    · rw [E 3 (by omega),Qc (by omega)];omega
    · rw [E 3 (by omega)];exact (k7 (by decide) (by decide)).same fun i hi => E i (by omega)
   split
   · exact Qkn hds hW0
   · exact Qko hds hW0 (Qc (by omega)) (j := 0) (by rw [List.set_set]) (by decide) ⟨x0,x1⟩
 · rw [if_neg (by decide)] at eq
   subst eq;have e:∀ own,nHlp own 8 q x = if q.getD 4 0 < plc x then hDec q 2 else hHds (q.set 6 (q.getD 6 0 + 1)) := fun own => rfl
   rw [e,e];have hj := j5 (by omega)
   have hm := mn (by decide) (by decide)
   have hW:W100 ds q := ⟨⟨⟨b1,up,wd,fr (by decide) (by decide),hd (by decide) (by decide)⟩,sr (by decide) (by decide),hm,by omega⟩,k7 (by decide) (by decide)⟩
   split
   · exact Qkm hds hW (.inr rfl)
   · exact Qkn hds (hW.set6 (by omega) (by omega) (hds.at hW.hd).len)
 · rw [if_neg (by decide)] at eq
   subst eq;have e:∀ own,nHlp own 9 q x = hOf 10 q 1 := fun own => rfl;rw [e,e];have hx := hd (by decide) (by decide)
   have hm := mn (by decide) (by decide)
   have hc := Ym (f := 1) hs hx (by omega) (by omega)
   have hx' := hx;unfold OkH at hx';refine .act rfl rfl rfl rfl (atLd (by omega) (by omega)) fun z hz => ?_
   have hz := (hz.ty rfl).t7 (q.getD 3 0 - 256) (by omega) (by omega) hc
   refine (⟨b1,up,wd,rfl,fun _ _ => fr (by decide) (by decide),fun _ _ => hx,fun _ _ => sr (by decide) (by decide),fun _ _ => hm,fun c => absurd c (by decide),fun _ _ => j9 (by decide) (by decide),fun c => absurd c (by decide),fun c => absurd c (by decide),fun _ _ => k7 (by decide) (by decide),
    .inr (.inr ⟨z,rfl,by decide,by decide,by decide,by decide,by omega,by omega,fun c => absurd c (by decide),fun c => absurd c (by decide),fun c => absurd c (by decide),fun c => absurd c (by decide),fun c => absurd c (by decide),fun c => absurd c (by decide)⟩)⟩:R100 ds 10 q q [z])
 · rw [if_neg (by decide)] at eq
   subst eq;have e1:nHlp false 10 q x = hPut (q.set 6 0) x := rfl;have e2:nHlp true 10 q x = hPut q x := rfl;rw [e1,e2];have hx := hd (by decide) (by decide)
   have hm := mn (by decide) (by decide)
   have h9 := j9 (by decide) (by decide)
   have hl := (hds.at hx).len
   have hW0:W100 ds (q.set 6 0) := by
    have E:∀ j,j ≠ 6 -> (q.set 6 0).getD j 0 = q.getD j 0 := fun j c => Qa (fun d => c d.symm);refine ⟨⟨⟨b1.set 6 (by decide),?_,?_,?_,?_⟩,?_,?_,?_⟩,?_⟩
    · rw [E 0 (by omega)];exact up
    · rw [E 1 (by omega)];exact wd
    · rw [E 2 (by omega),E 0 (by omega)];exact fr (by decide) (by decide)
    · rw [E 3 (by omega)];exact hx
    · rw [E 3 (by omega),E 4 (by omega)];exact sr (by decide) (by decide)
    · rw [E 3 (by omega),E 5 (by omega)];exact hm
    · rw [E 3 (by omega),Qc (by omega)];omega
    · rw [E 3 (by omega)];exact (k7 (by decide) (by decide)).same fun i hi => E i (by omega)
   refine Qko hds hW0 (Qc (by omega)) (j := q.getD 6 0) ?_ (by omega) ⟨x0,x1⟩
   rw [List.set_set];apply List.ext_getElem
   · rw [List.length_set]
   · intro i i1 i2;rw [List.getElem_set]
     split
     · rename_i c;subst c;simp [i1]
     · rfl
 · rw [if_pos (.inl rfl)] at eq;obtain ⟨⟨j,rfl,hj⟩,h60⟩ := eq;have e:∀ own r,nHlp own 11 r x = naSy 100 12 r := fun own r => rfl;rw [e,e];refine .act rfl rfl rfl rfl ⟨rfl,Int.le_refl _,by show (0:Int) <= bigW;decide,.inr (.inr (.inr ⟨rfl,rfl,rfl,rfl,rfl,rfl⟩))⟩ fun z hz => ?_
   rcases hz with ⟨c,_⟩ | ⟨c,_⟩ | ⟨_,rfl⟩
   · exact absurd c (by show ((5:Int) ≠ 0);decide)
   · exact absurd c (by show ((5:Int) ≠ 2);decide)
   · refine (⟨b1,up,wd,?_,fun _ _ => fr (by decide) (by decide),fun _ _ => hd (by decide) (by decide),fun _ _ => sr (by decide) (by decide),fun _ _ => mn (by decide) (by decide),fun c => absurd c (by decide),fun _ c => absurd c (by decide),fun c => absurd c (by decide),fun c => absurd c (by decide),fun _ _ => k7 (by decide) (by decide),
      .inr (.inr ⟨0,rfl,by decide,by decide,by decide,by decide,by decide,by decide,fun c => absurd c (by decide),fun c => absurd c (by decide),fun c => absurd c (by decide),fun c => absurd c (by decide),fun c => absurd c (by decide),fun c => absurd c (by decide)⟩)⟩:R100 ds 12 r (r.set 6 j) [0])
     rw [if_pos (.inr rfl)];exact ⟨⟨j,rfl,hj⟩,h60⟩
 · rw [if_pos (.inr rfl)] at eq;obtain ⟨⟨j,rfl,hj⟩,h60⟩ := eq;have e1:nHlp false 12 r x = hApp r := rfl;have e2:nHlp true 12 (r.set 6 j) x = hApp ((r.set 6 j).set 6 0) := rfl
   have e3:(r.set 6 j).set 6 0 = r := by
    rw [List.set_set];apply List.ext_getElem
    · rw [List.length_set]
    · intro i i1 i2;rw [List.getElem_set]
      split
      · rename_i c;subst c;rw [<- h60];simp [i2]
      · rfl
   rw [e1,e2,e3];exact Qkp hds ⟨⟨⟨b1,up,wd,fr (by decide) (by decide),hd (by decide) (by decide)⟩,sr (by decide) (by decide),mn (by decide) (by decide),by omega⟩,k7 (by decide) (by decide)⟩
 · rw [if_neg (by decide)] at eq
   subst eq;have e:∀ own,nHlp own 15 q x = hBeg q := fun own => rfl;rw [e,e];exact QdP hs b1 up wd
def doC5 (cs:List Int) (A:Qb):List Int := if A.kind < 4 then doC4 cs A.kind A.a A.b A.v else cs
def doG5 (cs:List Int) (A:Qb):Int := if A.kind < 4 then doG4 cs A.kind A.a A.b else 0
def doN5 (now:List Sector) (A:Qb):List Sector := if A.kind = 4 then Vf now A.a.toNat A.b A.text else now
def doS5 (now sure:List Sector) (A:Qb):List Sector := if A.kind = 5 then now else sure
def Qq1 (cs:List Int) (now sure:List Sector) (A:Qb):Prop := A.args = [] /\ 0 <= A.gen /\
 (A.text = [] /\ Y6 cs A.kind A.a A.b A.v \/ A.kind = 4 /\ A.v = 0 /\ Yi now sure A.a A.b A.text = true \/ A.kind = 5 /\ A.text = [] /\ A.a = 0 /\ A.b = 0 /\ A.v = 0)
section
variable (nx:Bool -> Frame -> List Int -> NA) (ok:Bool -> Frame -> List Int -> Prop)
def gdX (cs:List Int) (t:Task):Int := doG5 cs (goT nx false t).a
def gdCs (cs:List Int) (t:Task):List Int := doC5 cs (goT nx false t).a
def Qq2 (now:List Sector) (t:Task):List Sector := doN5 now (goT nx false t).a
def QnX (now sure:List Sector) (t:Task):List Sector := doS5 now sure (goT nx false t).a
structure Qkq (c:Int) (cs:List Int) (t u:Task) (now sure:List Sector):Prop where
 e1:QgP nx ok c t u
 is:(goT nx false t).is = true
 la:(goT nx false t).st.length <= 6 /\ (goT nx false t).got.length <= 96
 lb:(goT nx true u).st.length <= 6 /\ (goT nx true u).got.length <= 96
 hd:Qq1 cs now sure (goT nx false t).a
 hc:cellsOK cs = true
 d1:Qz now sure = true
 d2:Qv now = true
 d3:Qv sure = true
 e2:QgP nx ok c (gmT nx false (gdX nx cs t) t) (gmT nx true (gdX nx cs t) u)
end
inductive HRel (ds:List HD) (n:Int):List Frame -> List Frame -> List Int -> Prop
 | ins {k:Int} {r got:List Int} (h:R68 ds k r got):HRel ds n [⟨68,k,r⟩] [⟨68,k,r⟩] got
 | hlp {k:Int} {r q got:List Int} (h:R100 ds k r q got):HRel ds n [⟨100,k,r⟩] [⟨100,k,q⟩] got
 | inr {k:Int} {r s got:List Int} (h:R100 ds 13 r r []) (h2:R73 k s got):HRel ds n [⟨100,13,r⟩,⟨73,k,s⟩] [⟨100,13,r⟩,⟨73,k,s⟩] got
 | app {k:Int} {r s got:List Int} (h:R100 ds 14 r r []) (h2:R76 n k s got):HRel ds n [⟨100,14,r⟩,⟨76,k,s⟩] [⟨100,14,r⟩,⟨76,k,s⟩] got
structure GoH (ds:List HD) (n:Int) (m:Nat) (st st':List Frame) (got:List Int) (e e':Bool):Prop where
 a1:OkN (nHp false) (okHp false) m st got
 a2:OkN (nHp true) (okHp true) m st' got
 is:(goN (nHp true) m st' got e').is = (goN (nHp false) m st got e).is
 ac:(goN (nHp false) m st got e).is = true -> (goN (nHp true) m st' got e').a = (goN (nHp false) m st got e).a /\ AtH ds n (goN (nHp false) m st got e).a /\
  ((goN (nHp false) m st got e).st.length <= 6 /\ (goN (nHp false) m st got e).got.length <= 96) /\ ((goN (nHp true) m st' got e').st.length <= 6 /\ (goN (nHp true) m st' got e').got.length <= 96) /\
  ∀ x,RsH ds n (goN (nHp false) m st got e).a x -> HRel ds n (goN (nHp false) m st got e).st (goN (nHp true) m st' got e').st [x]
 en:(goN (nHp false) m st got e).is = false -> (goN (nHp false) m st got e).st = [] /\ (goN (nHp true) m st' got e').st = [] /\ (goN (nHp true) m st' got e').got = (goN (nHp false) m st got e).got /\
  ((goN (nHp false) m st got e).got = [] \/ EndI (goN (nHp false) m st got e).got)
theorem QL (f g:Frame):topF [f,g] = g := rfl
theorem Qs (f:Frame):topF [f] = f := rfl
theorem Qkr {nx:Frame -> List Int -> NA} {m:Nat} {st:List Frame} {got:List Int} {e:Bool} (h0:st ≠ []) (h:(nx (topF st) got).a.kind < 6):goN nx (m + 1) st got e = ⟨st.dropLast ++ [(nx (topF st) got).f],got,e,(nx (topF st) got).a,(nx (topF st) got).fl,true⟩ := by
 rw [goN,if_neg h0,if_pos h];unfold tkSt;rw [if_pos h]
theorem Qfj {nx:Frame -> List Int -> NA} {m:Nat} {st:List Frame} {got:List Int} {e:Bool} (h0:st ≠ []) (h:(nx (topF st) got).a.kind = 6):goN nx (m + 1) st got e = goN nx m (st.dropLast ++ [(nx (topF st) got).f,calF (nx (topF st) got).a]) [] true := by
 rw [goN,if_neg h0,if_neg (by omega)]
 unfold tkSt Y7 tkFl;rw [if_neg (by omega),if_pos h,if_neg (by omega),if_pos h,if_neg (by omega),decide_eq_true h]
theorem Qbt {nx:Frame -> List Int -> NA} {m:Nat} {st:List Frame} {got:List Int} {e:Bool} (h0:st ≠ []) (h:(nx (topF st) got).a.kind = 7):goN nx (m + 1) st got e = goN nx m st.dropLast (nx (topF st) got).a.args false := by
 rw [goN,if_neg h0,if_neg (by omega)]
 unfold tkSt Y7 tkFl;rw [if_neg (by omega),if_neg (by omega),if_neg (by omega),if_neg (by omega),if_neg (by omega),decide_eq_false (by omega)]
theorem Qks {nx:Frame -> List Int -> NA} {ok:Frame -> List Int -> Prop} {m:Nat} {st:List Frame} {got:List Int} (h0:st ≠ []) (hl:st.length <= 6) (h1:got.length <= 96) (h2:ok (topF st) got) (h3:mayN (nx (topF st) got).a = true) (h4:0 <= (nx (topF st) got).a.kind /\ (nx (topF st) got).a.kind < 6):OkN nx ok (m + 1) st got :=
 .inr ⟨h0,hl,h1,h2,h3,h4.1,by omega,.inl h4.2⟩
theorem Qfk {nx:Frame -> List Int -> NA} {ok:Frame -> List Int -> Prop} {m:Nat} {st:List Frame} {got:List Int} (h0:st ≠ []) (hl:st.length < 6) (h1:got.length <= 96) (h2:ok (topF st) got) (h3:mayN (nx (topF st) got).a = true) (h4:(nx (topF st) got).a.kind = 6) (h5:OkN nx ok m (st.dropLast ++ [(nx (topF st) got).f,calF (nx (topF st) got).a]) []):OkN nx ok (m + 1) st got :=
 .inr ⟨h0,by omega,h1,h2,h3,by omega,by omega,.inr ⟨fun _ => hl,by
  unfold tkSt Y7;rw [if_neg (by omega),if_pos h4,if_neg (by omega),if_pos h4]
  exact h5⟩⟩
theorem Qbu {nx:Frame -> List Int -> NA} {ok:Frame -> List Int -> Prop} {m:Nat} {st:List Frame} {got:List Int} (h0:st ≠ []) (hl:st.length <= 6) (h1:got.length <= 96) (h2:ok (topF st) got) (h3:mayN (nx (topF st) got).a = true) (h4:(nx (topF st) got).a.kind = 7) (h5:OkN nx ok m st.dropLast (nx (topF st) got).a.args):OkN nx ok (m + 1) st got :=
 .inr ⟨h0,hl,h1,h2,h3,by omega,by omega,.inr ⟨fun q => by omega,by
  unfold tkSt Y7;rw [if_neg (by omega),if_neg (by omega),if_neg (by omega),if_neg (by omega)]
  exact h5⟩⟩
theorem AtH.may {ds:List HD} {n:Int} {A:Qb} (h:AtH ds n A):mayN A = true /\ 0 <= A.kind /\ A.kind < 6 := by
 obtain ⟨h1,h2,h3,h6⟩ := h;unfold bigW at *;rcases h6 with ⟨k,t,b,v,a0,a1⟩ | ⟨k,t,a0,a1,b0,b1,v0,v1,_⟩ | ⟨k,g,v,a0,a1,b0,b1,t0,t1⟩ | ⟨k,g,t,a,b,v⟩
 · refine ⟨decide_eq_true ?_,by omega,by omega⟩
   rw [h1,k,t,b,v];exact MayA.k0.2 ⟨⟨by decide,by decide,by decide,by decide,by omega,by omega,by decide,by decide,by omega,by omega⟩,rfl,rfl,rfl,rfl⟩
 · refine ⟨decide_eq_true ?_,by omega,by omega⟩
   rw [h1,k,t];exact MayA.k2.2 ⟨⟨by omega,by omega,by omega,by omega,by omega,by omega,by decide,by decide,by omega,by omega⟩,rfl,rfl⟩
 · refine ⟨decide_eq_true ?_,by omega,by omega⟩
   rw [h1,k,g,v];exact MayA.k4.2 ⟨⟨by omega,by omega,by decide,by decide,by decide,by decide,by decide,t1,by omega,by omega⟩,rfl,rfl,rfl⟩
 · refine ⟨decide_eq_true ?_,by omega,by omega⟩
   rw [h1,k,g,t,a,b,v];exact MayA.k5.2 ⟨⟨by decide,by decide,by decide,by decide,by decide,by decide,by decide,by decide,by decide,by decide⟩,rfl,rfl,rfl,rfl,rfl,rfl⟩
theorem Qbv {ds:List HD} {n:Int} {m:Nat} {st st':List Frame} {got:List Int} {e e':Bool} (h0:st ≠ []) (h0':st' ≠ []) (hl:st.length <= 6) (hl':st'.length <= 6) (hg:got.length <= 96) (ok1:okHp false (topF st) got) (ok2:okHp true (topF st') got)
 (ha:(nHp true (topF st') got).a = (nHp false (topF st) got).a) (hA:AtH ds n (nHp false (topF st) got).a)
 (hr:∀ x,RsH ds n (nHp false (topF st) got).a x -> HRel ds n (st.dropLast ++ [(nHp false (topF st) got).f]) (st'.dropLast ++ [(nHp true (topF st') got).f]) [x]):GoH ds n (m + 1) st st' got e e' := by
 obtain ⟨hm,k0,k6⟩ := hA.may;have e1 := Qkr (m := m) (e := e) h0 k6;have e2 := Qkr (nx := nHp true) (st := st') (got := got) (m := m) (e := e') h0' (by rw [ha];exact k6)
 have l1:1 <= st.length := List.length_pos_iff.2 h0;have l2:1 <= st'.length := List.length_pos_iff.2 h0';refine ⟨Qks h0 hl hg ok1 hm ⟨k0,k6⟩,Qks h0' hl' hg ok2 (by rw [ha];exact hm) (by rw [ha];exact ⟨k0,k6⟩),by rw [e1,e2],fun _ => ?_,fun q => by rw [e1] at q;cases q⟩
 rw [e1,e2];refine ⟨ha,hA,⟨?_,hg⟩,⟨?_,hg⟩,hr⟩
 · simp only [List.length_append,List.length_dropLast,List.length_cons,List.length_nil];omega
 · simp only [List.length_append,List.length_dropLast,List.length_cons,List.length_nil];omega
theorem mayE {l:List Int} (h:l.length <= 96):mayN ⟨7,0,0,0,0,[],l⟩ = true := decide_eq_true (by
 show MayA 7 0 0 0 0 ([]:List UInt8).length l.length;unfold MayA;simp;omega)
theorem mayC {p:Int} {l:List Int} (hp:0 <= p /\ p <= 127) (h:l.length <= 96):mayN ⟨6,p,0,0,0,[],l⟩ = true := decide_eq_true (by
 show MayA 6 p 0 0 0 ([]:List UInt8).length l.length;unfold MayA;simp;omega)
theorem Qkt {nx:Frame -> List Int -> NA} {m:Nat} {got:List Int} {e:Bool}:goN nx (m + 1) [] got e = ⟨[],got,e,act0,true,false⟩ := by rw [goN,if_pos rfl]
theorem Qku {ds:List HD} {n:Int} {m:Nat} {f f':Frame} {got:List Int} {e e':Bool} {l:List Int} (hg:got.length <= 96) (ok1:okHp false f got) (ok2:okHp true f' got)
 (h1:(nHp false f got).a = ⟨7,0,0,0,0,[],l⟩) (h2:(nHp true f' got).a = ⟨7,0,0,0,0,[],l⟩) (hl:l = [] \/ EndI l):GoH ds n (m + 2) [f] [f'] got e e' := by
 have ll:l.length <= 96 := by
  rcases hl with rfl | ⟨t,rfl,_⟩ | ⟨x,rfl⟩ <;> simp
 have e1 := Qbt (nx := nHp false) (st := [f]) (got := got) (m := m + 1) (e := e) (by simp) (by rw [Qs,h1])
 have e2 := Qbt (nx := nHp true) (st := [f']) (got := got) (m := m + 1) (e := e') (by simp) (by rw [Qs,h2])
 rw [Qs,h1,show [f].dropLast = [] from rfl,Qkt] at e1;rw [Qs,h2,show [f'].dropLast = [] from rfl,Qkt] at e2;refine ⟨Qbu (by simp) (by simp) hg ok1 (by rw [Qs,h1];exact mayE ll) (by rw [Qs,h1]) (.inl rfl),Qbu (by simp) (by simp) hg ok2 (by rw [Qs,h2];exact mayE ll) (by rw [Qs,h2]) (.inl rfl),by rw [e1,e2],fun q => (by rw [e1] at q;cases q),fun _ => ?_⟩
 rw [e1,e2];exact ⟨rfl,rfl,rfl,hl⟩
theorem Qfl {ds:List HD} {n:Int} {m:Nat} {f f':Frame} {got:List Int} {e e':Bool} {g:Frame} {p:Int} {l:List Int} (hg:got.length <= 96) (ok1:okHp false f got) (ok2:okHp true f' got)
 (h1:nHp false f got = naCl 100 g.at' g.r p l) (h2:nHp true f' got = naCl 100 g.at' g.r p l) (hgp:g.prog = 100) (hp:0 <= p /\ p <= 127) (hl:l.length <= 96) (h:∀ e e',GoH ds n m [g,⟨p,0,regs1 l⟩] [g,⟨p,0,regs1 l⟩] [] e e'):GoH ds n (m + 1) [f] [f'] got e e' := by
 have hG:(⟨100,g.at',g.r⟩:Frame) = g := by rw [<- hgp]
 have e1 := Qfj (nx := nHp false) (st := [f]) (got := got) (m := m) (e := e) (by simp) (by rw [Qs,h1];rfl)
 have e2 := Qfj (nx := nHp true) (st := [f']) (got := got) (m := m) (e := e') (by simp) (by rw [Qs,h2];rfl)
 rw [Qs,h1] at e1;rw [Qs,h2] at e2;have t1:[f].dropLast ++ [(naCl 100 g.at' g.r p l).f,calF (naCl 100 g.at' g.r p l).a] = [g,⟨p,0,regs1 l⟩] := by show [(⟨100,g.at',g.r⟩:Frame),_] = _;rw [hG];rfl
 have t2:[f'].dropLast ++ [(naCl 100 g.at' g.r p l).f,calF (naCl 100 g.at' g.r p l).a] = [g,⟨p,0,regs1 l⟩] := t1;rw [t1] at e1;rw [t2] at e2;obtain ⟨a1,a2,is,ac,en⟩ := h true true;refine ⟨Qfk (by simp) (by simp) hg ok1 (by rw [Qs,h1];exact mayC hp hl) (by rw [Qs,h1];rfl) (by rw [Qs,h1,t1];exact a1),Qfk (by simp) (by simp) hg ok2 (by rw [Qs,h2];exact mayC hp hl) (by rw [Qs,h2];rfl) (by rw [Qs,h2,t2];exact a2),by rw [e1,e2];exact is,?_,?_⟩
 · rw [e1,e2];exact ac
 · rw [e1,e2];intro q;exact en q
theorem Qkv {ds:List HD} {n:Int} {m:Nat} {f f' g g':Frame} {got:List Int} {e e':Bool} (hg:got.length <= 96) (ok1:okHp false g got) (ok2:okHp true g' got)
 (h1:(nHp false g got).a = ⟨7,0,0,0,0,[],[]⟩) (h2:(nHp true g' got).a = ⟨7,0,0,0,0,[],[]⟩) (h:∀ e e',GoH ds n m [f] [f'] [] e e'):GoH ds n (m + 1) [f,g] [f',g'] got e e' := by
 have e1 := Qbt (nx := nHp false) (st := [f,g]) (got := got) (m := m) (e := e) (by simp) (by rw [QL,h1])
 have e2 := Qbt (nx := nHp true) (st := [f',g']) (got := got) (m := m) (e := e') (by simp) (by rw [QL,h2])
 rw [QL,h1,show [f,g].dropLast = [f] from rfl] at e1;rw [QL,h2,show [f',g'].dropLast = [f'] from rfl] at e2;obtain ⟨a1,a2,is,ac,en⟩ := h false false;refine ⟨Qbu (by simp) (by simp) hg ok1 (by rw [QL,h1];exact mayE (by simp)) (by rw [QL,h1]) (by rw [QL,h1];exact a1),Qbu (by simp) (by simp) hg ok2 (by rw [QL,h2];exact mayE (by simp)) (by rw [QL,h2]) (by rw [QL,h2];exact a2),by rw [e1,e2];exact is,?_,?_⟩
 · rw [e1,e2];exact ac
 · rw [e1,e2];intro q;exact en q
theorem Qkw {n:Int} {A:Qb} (h:AtS n A) {ds:List HD} (hs:ds.length <= 16) (h0:0 <= n) (hn:n <= 900000):AtH ds n A /\ ∀ x,RsH ds n A x -> RsS n A x := by
 obtain ⟨h1,h2,h3,h4,h5,h6⟩ := h;rcases h6 with ⟨k,b,v⟩ | ⟨k,b0,b1,hv⟩
 · exact ⟨⟨h3,by rw [h1];decide,by rw [h1];decide,.inl ⟨k,h2,b,v,by omega,by omega⟩⟩,fun x hx => .inl ⟨k,(hx.ty k).t5 h4 h5⟩⟩
 · have hb := hv.big h4 (by omega)
   refine ⟨⟨h3,by rw [h1];decide,by rw [h1];decide,.inr (.inl ⟨k,h2,by omega,by omega,by omega,b1,hb.1,hb.2,QpQ hs ⟨h4,h5⟩ hv⟩)⟩,fun x hx => .inr ⟨k,?_⟩⟩
   rcases hx with ⟨c,_⟩ | ⟨_,c⟩ | ⟨c,_⟩
   · omega
   · exact c
   · omega
theorem Qbw {n k:Int} {r got:List Int} (h:R76 n k r got) (hn:n <= 1000000) (own:Bool):okHp own ⟨76,k,r⟩ got := by
 obtain ⟨h1,h2,h3⟩ := h.ok hn own;rcases h3 with ⟨_,h3⟩ | ⟨c,_⟩
 · exact ⟨h1,h2,.inr (.inr (.inl ⟨rfl,h3⟩))⟩
 · exact absurd c (by show ((76:Int) ≠ 77);decide)
theorem R100.ok {ds:List HD} (hds:OkDs ds) {k:Int} {r q got:List Int} (h:R100 ds k r q got):okHp false ⟨100,k,r⟩ got /\ okHp true ⟨100,k,q⟩ got := by
 obtain ⟨b1,up,wd,eq,fr,hd,sr,mn,j5,j9,k5,k6,k7,gt⟩ := h;have hl:3 <= k -> k <= 14 -> (hD ds (r.getD 3 0)).ws.length <= 4 := fun c1 c2 => (hds.at (hd c1 c2)).len;have hh:3 <= k -> k <= 14 -> 256 <= r.getD 3 0 /\ r.getD 3 0 <= 300 := fun c1 c2 => by have := hd c1 c2;have := hds.1;unfold OkH at *;omega
 have hw:7 <= k -> k <= 14 -> okWs (VH r) r := fun c1 c2 j hj => by
  rw [Ji (mn (by omega) c2) (hl (by omega) c2)] at hj
  rw [(k7 c1 c2 j hj).1];have := (hds.at (hd (by omega) c2)).wr hj
  omega
 have main:∀ own,(k = 12 -> own = false -> r.getD 6 0 = 0) -> QpM own k r got := fun own h12 => by
  refine ⟨wd.1,wd.2,?_⟩;rcases gt with ⟨rfl,rfl⟩ | ⟨hk,rfl⟩ | ⟨x,rfl,a1,a15,a13,a14,x0,x1,y1,y2,y3,y4,y5,y6⟩
  · exact .inl ⟨rfl,rfl⟩
  · refine .inr (.inl ⟨hk,rfl,?_⟩);have f1 := fr (by omega) (by omega)
    have f2 := mn (by omega) (by omega)
    have f3 := hl (by omega) (by omega)
    have f4 := j5 (by omega)
    exact ⟨f1.1,by omega,by omega,by omega,f4.1,f4.2,hw (by omega) (by omega)⟩
  · refine .inr (.inr ⟨x,rfl,a1,a15,a13,a14,x0,x1,y1,fun c1 c2 => ?_,fun c1 c2 => ?_,fun c => ?_,fun c1 c2 => ?_,fun c => ?_,h12,fun c1 c2 => hw c1 c2⟩)
    · have := fr c1 c2;omega
    · have := hh c1 c2;unfold bigW;omega
    · have := y4 c;have := hl (by omega) (by omega);omega
    · have := mn c1 c2;have := hl (by omega) (by omega);omega
    · exact j5 (by omega)
 refine ⟨⟨b1.1,b1.2,.inr (.inr (.inr ⟨rfl,main false fun c _ => ?_⟩))⟩,?_⟩
 · rw [if_pos (.inr c)] at eq;exact eq.2
 · by_cases c:k = 11 \/ k = 12
   · rw [if_pos c] at eq;obtain ⟨⟨j,rfl,hj⟩,_⟩ := eq;have b2 := b1.set 6 hj;refine ⟨b2.1,b2.2,.inr (.inr (.inr ⟨rfl,?_⟩))⟩;have E:∀ i,i ≠ 6 -> (r.set 6 j).getD i 0 = r.getD i 0 := fun i d => Qa (fun d' => d d'.symm);have hM:VH (r.set 6 j) = VH r := by unfold VH;rw [E 5 (by decide)]
     have hm := main true (fun _ d => by cases d)
     unfold QpM at hm ⊢;simp only;rw [E 1 (by decide),E 2 (by decide),E 3 (by decide),E 5 (by decide),hM]
     have hW:okWs (VH r) r -> okWs (VH r) (r.set 6 j) := fun d i hi => by rw [E _ (by omega)];exact d i hi
     obtain ⟨m1,m2,m3 | m3 | m3⟩ := hm
     · exact ⟨m1,m2,.inl m3⟩
     · omega
     · obtain ⟨x,e,d1,d2,d3,d4,d5,d6,d7,d8,d9,d10,d11,d12,d13,d14⟩ := m3;exact ⟨m1,m2,.inr (.inr ⟨x,e,d1,d2,d3,d4,d5,d6,d7,d8,d9,d10,d11,fun q => by omega,fun _ q => by (cases q),fun q1 q2 => hW (d14 q1 q2)⟩)⟩
   · rw [if_neg c] at eq;subst eq;exact ⟨b1.1,b1.2,.inr (.inr (.inr ⟨rfl,main true fun _ d => by cases d⟩))⟩
theorem R68.got {ds:List HD} {k:Int} {r got:List Int} (h:R68 ds k r got):got.length <= 96 := by
 rcases h.2.2.2 with ⟨_,rfl⟩ | ⟨x,rfl,_⟩ <;> simp
theorem R100.got {ds:List HD} {k:Int} {r q got:List Int} (h:R100 ds k r q got):got.length <= 96 := by
 rcases h.gt with ⟨_,rfl⟩ | ⟨_,rfl⟩ | ⟨x,rfl,_⟩ <;> simp
theorem R73.got {k:Int} {r got:List Int} (h:R73 k r got):got.length <= 96 := by
 rcases h.2.2.2 with ⟨_,rfl⟩ | ⟨x,rfl,_⟩ <;> simp
theorem R76.got {n k:Int} {r got:List Int} (h:R76 n k r got):got.length <= 96 := by
 rcases h.2.2 with ⟨_,rfl⟩ | ⟨x,rfl,_⟩ <;> simp
theorem Qkx {ds:List HD} {n:Int} (hds:OkDs ds) {k:Int} {r s got:List Int} (h:R100 ds 13 r r []) (h2:R73 k s got) (hk:¬ (nInr false k s (got.headD 0)).a = ⟨7,0,0,0,0,[],[]⟩) (m:Nat) (e e':Bool):GoH ds n (m + 1) [⟨100,13,r⟩,⟨73,k,s⟩] [⟨100,13,r⟩,⟨73,k,s⟩] got e e' := by
 rcases inr_step (n := n) h2 hds.1 with ⟨c,_⟩ | ⟨q1,q2,q3,q4⟩
 · exact absurd c hk
 · have e1:∀ own,nHp own ⟨73,k,s⟩ got = nInr own k s (got.headD 0) := fun own => rfl;refine Qbv (by simp) (by simp) (by simp) (by simp) h2.got (h2.ok false) (h2.ok true) (by rw [QL,e1,e1,q1]) (by rw [QL,e1];exact q2) fun x hx => ?_
   rw [QL,e1] at hx;rw [QL,e1,e1,q1];have hF:(nInr false k s (got.headD 0)).f = ⟨73,(nInr false k s (got.headD 0)).f.at',(nInr false k s (got.headD 0)).f.r⟩ := by rw [<- q3]
   show HRel ds n [⟨100,13,r⟩,(nInr false k s (got.headD 0)).f] [⟨100,13,r⟩,(nInr false k s (got.headD 0)).f] [x];rw [hF];exact .inr h (q4 x hx)
theorem Qky {ds:List HD} {n:Int} (h0:0 <= n) (hn:n <= 900000) (hds:OkDs ds) {k:Int} {r s got:List Int} (h:R100 ds 14 r r []) (h2:R76 n k s got) (hk:(nApp k s (got.headD 0)).a.kind ≠ 7) (m:Nat) (e e':Bool):GoH ds n (m + 1) [⟨100,14,r⟩,⟨76,k,s⟩] [⟨100,14,r⟩,⟨76,k,s⟩] got e e' := by
 rcases (app_step h2 h0 (by omega)).1 with ⟨c,_⟩ | ⟨q2,_,q3,q4⟩
 · exact absurd c hk
 · have e1:∀ own,nHp own ⟨76,k,s⟩ got = nApp k s (got.headD 0) := fun own => rfl;obtain ⟨qa,qb⟩ := Qkw q2 hds.1 h0 hn;refine Qbv (by simp) (by simp) (by simp) (by simp) h2.got (Qbw h2 (by omega) false) (Qbw h2 (by omega) true) (by rw [QL,e1,e1]) (by rw [QL,e1];exact qa) fun x hx => ?_
   rw [QL,e1] at hx;rw [QL,e1,e1];have hF:(nApp k s (got.headD 0)).f = ⟨76,(nApp k s (got.headD 0)).f.at',(nApp k s (got.headD 0)).f.r⟩ := by rw [<- q3]
   show HRel ds n [⟨100,14,r⟩,(nApp k s (got.headD 0)).f] [⟨100,14,r⟩,(nApp k s (got.headD 0)).f] [x];rw [hF];exact .app h (q4 x (qb x hx))
theorem QdQ {ds:List HD} {n:Int} (h0:0 <= n) (hn:n <= 900000) (hds:OkDs ds) {k:Int} {r q got:List Int} (h:R100 ds k r q got) (m:Nat) (e e':Bool):GoH ds n (m + 2) [⟨100,k,r⟩] [⟨100,k,q⟩] got e e' := by
 obtain ⟨ok1,ok2⟩ := h.ok hds;have e1:∀ own r,nHp own ⟨100,k,r⟩ got = nHlp own k r (got.headD 0) := fun own r => rfl;have hs := Qm1 (n := n) h hds;rw [<- e1,<- e1] at hs;generalize hN:nHp false ⟨100,k,r⟩ got = N at hs;generalize hM:nHp true ⟨100,k,q⟩ got = M at hs;cases hs with
 | fin h1 h2 => exact Qku h.got ok1 ok2 (by rw [hN];exact h1) (by rw [hM];exact h2) (.inl rfl)
 | act h1 h2 h3 h4 h5 h6 =>
  refine Qbv (m := m + 1) (by simp) (by simp) (by simp) (by simp) h.got ok1 ok2 (by rw [Qs,Qs,hN,hM];exact h1) (by rw [Qs,hN];exact h5) fun x hx => ?_
  rw [Qs,hN] at hx;rw [Qs,Qs,hN,hM];have hF:N.f = ⟨100,N.f.at',N.f.r⟩ := by rw [<- h2]
  have hG:M.f = ⟨100,N.f.at',M.f.r⟩ := by rw [<- h3,<- h4]
  show HRel ds n [N.f] [M.f] [x];rw [hG,hF];exact .hlp (h6 x hx)
 | ins r' l h1 h2 h3 h4 h5 =>
  refine Qfl (g := ⟨100,13,r'⟩) (m := m + 1) h.got ok1 ok2 (by rw [hN];exact h1) (by rw [hM];exact h2) rfl (by decide) h5 fun e e' => Qkx hds h3 h4 ?_ m e e'
  show ¬ (nInr false 0 (regs1 l) (([]:List Int).headD 0)).a = _;rcases inr_step (n := n) h4 hds.1 with ⟨_,_,c⟩ | ⟨_,c,_⟩
  · exact absurd rfl c
  · intro d;have := c.may;rw [d] at this;have := this.2.2;simp at this
 | app r' l h1 h2 h3 h4 h5 =>
  refine Qfl (g := ⟨100,14,r'⟩) (m := m + 1) h.got ok1 ok2 (by rw [hN];exact h1) (by rw [hM];exact h2) rfl (by decide) h5 fun e e' => Qky h0 hn hds h3 h4 ?_ m e e'
  show ((0:Int) ≠ 7)
  decide
theorem HRel.go {ds:List HD} {n:Int} (h0:0 <= n) (hn:n <= 900000) (hds:OkDs ds) {st st':List Frame} {got:List Int} (h:HRel ds n st st' got) (m:Nat) (e e':Bool):GoH ds n (m + 3) st st' got e e' := by
 cases h with
 | @ins k r got h =>
  have e1:∀ own,nHp own ⟨68,k,r⟩ got = nIns k r (got.headD 0) := fun own => rfl;rcases ins_step (n := n) h hds.1 with ⟨q1,q2,q3⟩ | ⟨q1,q2,q3⟩
  · have ha:(nIns k r (got.headD 0)).a = ⟨7,0,0,0,0,[],(nIns k r (got.headD 0)).a.args⟩ := congrArg NA.a q2;exact Qku (m := m + 1) h.got (h.ok hds.1 false) (h.ok hds.1 true) (by rw [e1];exact ha) (by rw [e1];exact ha) (.inr q3)
  · refine Qbv (m := m + 2) (by simp) (by simp) (by simp) (by simp) h.got (h.ok hds.1 false) (h.ok hds.1 true) (by rw [Qs,e1,e1]) (by rw [Qs,e1];exact q1) fun x hx => ?_
    rw [Qs,e1] at hx;rw [Qs,e1,e1];have hF:(nIns k r (got.headD 0)).f = ⟨68,(nIns k r (got.headD 0)).f.at',(nIns k r (got.headD 0)).f.r⟩ := by rw [<- q2]
    show HRel ds n [(nIns k r (got.headD 0)).f] [(nIns k r (got.headD 0)).f] [x];rw [hF];exact .ins (q3 x hx)
 | hlp h => exact QdQ h0 hn hds h (m + 1) e e'
 | @inr k r s got h h2 =>
  have e1:∀ own,nHp own ⟨73,k,s⟩ got = nInr own k s (got.headD 0) := fun own => rfl
  by_cases hk:(nInr false k s (got.headD 0)).a = ⟨7,0,0,0,0,[],[]⟩
  · rcases inr_step (n := n) h2 hds.1 with ⟨c1,c2,_⟩ | ⟨_,c,_⟩
    · exact Qkv (m := m + 2) h2.got (h2.ok false) (h2.ok true) (by rw [e1];exact c1) (by rw [e1];exact c2) fun e e' => QdQ h0 hn hds h m e e'
    · have := c.may;rw [hk] at this;have := this.2.2;simp at this
  · exact Qkx hds h h2 hk (m + 2) e e'
 | @app k r s got h h2 =>
  have e1:∀ own,nHp own ⟨76,k,s⟩ got = nApp k s (got.headD 0) := fun own => rfl
  by_cases hk:(nApp k s (got.headD 0)).a.kind = 7
  · obtain ⟨hs,he⟩ := app_step h2 h0 (by omega)
    have ha := he hk;rcases hs with ⟨_,c⟩ | ⟨c,_⟩
    · have hb:(nApp k s (got.headD 0)).a = ⟨7,0,0,0,0,[],[]⟩ := by rw [c];show (⟨7,0,0,0,0,[],(nApp k s (got.headD 0)).a.args⟩:Qb) = _;rw [ha]
      exact Qkv (m := m + 2) h2.got (Qbw h2 (by omega) false) (Qbw h2 (by omega) true) (by rw [e1];exact hb) (by rw [e1];exact hb) fun e e' => QdQ h0 hn hds h m e e'
    · have := (Qkw c hds.1 h0 hn).1.may;omega
  · exact Qky h0 hn hds h h2 hk (m + 2) e e'
theorem Qm2 {n n' a v:Int} (h:TyS n a v) (hn:n <= n'):TyS n' a v := ⟨h.1,fun q => by have := h.2.1 q;omega,h.2.2.1,h.2.2.2⟩
theorem TyH.mono {ds:List HD} {n n' a v:Int} (h:TyH ds n a v) (hn:n <= n'):TyH ds n' a v := ⟨h.t0,h.t1,h.t2,h.t3,h.t4,fun q1 q2 => Qm2 (h.t5 q1 q2) hn,h.t6,h.t7⟩
structure SH (ds:List HD) (n:Int) (cs:List Int):Prop where
 len:cs.length = 771
 ok:cellsOK cs = true
 ty:∀ a:Int,0 <= a -> a <= 770 -> TyH ds n a (cs.getD a.toNat 0)
theorem SH.mono {ds:List HD} {n n':Int} {cs:List Int} (h:SH ds n cs) (hn:n <= n'):SH ds n' cs := ⟨h.len,h.ok,fun a h1 h2 => (h.ty a h1 h2).mono hn⟩
def DOK (now sure:List Sector):Prop := Qz now sure = true
theorem DOK.good {now sure:List Sector} (h:DOK now sure):Qv now = true /\ Qv sure = true := QdM h
theorem Yn {cs:List Int} (h:cellsOK cs = true) {i:Nat} {v:Int} (hv:-1152921504606846976 <= v /\ v <= 1152921504606846976):cellsOK (cs.set i v) = true := by
 simp only [cellsOK,Bool.and_eq_true,decide_eq_true_eq,List.length_set,List.all_eq_true] at h ⊢;refine ⟨h.1,fun x hx => ?_⟩;rcases List.mem_or_eq_of_mem_set hx with hx | rfl
 · exact h.2 x hx
 · simp only [Kz,Bool.and_eq_true,decide_eq_true_eq];exact hv
theorem AtH.does {ds:List HD} {n:Int} {A:Qb} {cs:List Int} {now sure:List Sector} (h:AtH ds n A) (hc:SH ds n cs) (hd:DOK now sure) :
 Qq1 cs now sure A /\ SH ds (n + 1) (doC5 cs A) /\ RsH ds n A (doG5 cs A) /\ DOK (doN5 now A) (doS5 now sure A) := by
 obtain ⟨h1,h2,h3,h6⟩ := h;have hl := hc.len;rcases h6 with ⟨k,t,b,v,a0,a1⟩ | ⟨k,t,a0,a1,b0,b1,v0,v1,ty⟩ | ⟨k,g,v,a0,a1,b0,b1,t0,t1⟩ | ⟨k,g,t,a,b,v⟩
 · have e1:doC5 cs A = cs := by
    unfold doC5;rw [if_pos (by omega),k];unfold doC4;rw [if_neg (by omega),if_neg (by omega)]
   have e2:doG5 cs A = cs.getD A.a.toNat 0 := by
    unfold doG5;rw [if_pos (by omega),k];unfold doG4;rw [if_pos (.inl rfl)]
   have e3:doN5 now A = now := if_neg (by omega)
   have e4:doS5 now sure A = sure := if_neg (by omega)
   rw [e1,e2,e3,e4];exact ⟨⟨h1,h2,.inl ⟨t,by rw [k,b,v];exact ⟨.inl ⟨rfl,rfl,rfl⟩,a0,by omega,by decide,by decide,by decide,by decide⟩⟩⟩,hc.mono (by omega),.inl ⟨k,hc.ty _ a0 a1⟩,hd⟩
 · have e1:doC5 cs A = if cs.getD A.a.toNat 0 = A.b then cs.set A.a.toNat A.v else cs := by
    unfold doC5;rw [if_pos (by omega),k];unfold doC4
    by_cases q:cs.getD A.a.toNat 0 = A.b
    · rw [if_pos (.inr ⟨rfl,q⟩),if_pos q]
    · rw [if_neg (by intro c;rcases c with c | c;omega;exact q c.2),if_neg (by omega),if_neg q]
   have e2:doG5 cs A = if cs.getD A.a.toNat 0 = A.b then 1 else 0 := by
    unfold doG5;rw [if_pos (by omega),k];unfold doG4
    rw [if_neg (by omega)]
    by_cases q:cs.getD A.a.toNat 0 = A.b
    · rw [if_pos ⟨rfl,q⟩,if_pos q]
    · rw [if_neg (fun c => q c.2),if_neg q]
   have e3:doN5 now A = now := if_neg (by omega)
   have e4:doS5 now sure A = sure := if_neg (by omega)
   rw [e1,e2,e3,e4];unfold bigW at b1 v1;refine ⟨⟨h1,h2,.inl ⟨t,by rw [k];exact ⟨.inr (.inr (.inl rfl)),a0,by omega,by omega,by omega,by omega,by omega⟩⟩⟩,?_,.inr (.inl ⟨k,by split <;> simp⟩),hd⟩
   split
   · refine ⟨by rw [List.length_set];exact hl,Yn hc.ok (by omega),fun a q1 q2 => ?_⟩
     by_cases e:a = A.a
     · rw [e,Qc (by omega)];exact ty
     · rw [Qa (by omega)]
       exact (hc.ty a q1 q2).mono (by omega)
   · exact hc.mono (by omega)
 · have hm:Zv ⟨A.b,A.text⟩ = true := by
    simp only [Zv,Bool.and_eq_true,decide_eq_true_eq,Bool.or_eq_true];exact ⟨⟨⟨by omega,by omega⟩,by omega⟩,.inl (by omega)⟩
   have hp:Yi now sure A.a A.b A.text = true := by
    have hd':Qz now sure = true := hd;simp only [Yi,hd',hm,Bool.true_and,Bool.and_eq_true,decide_eq_true_eq,Bool.not_eq_true',beq_eq_false_iff_ne];exact ⟨⟨⟨⟨a0,a1⟩,b0⟩,t0⟩,trivial⟩
   have e1:doC5 cs A = cs := if_neg (by omega)
   have e2:doG5 cs A = 0 := if_neg (by omega)
   have e3:doN5 now A = Vf now A.a.toNat A.b A.text := if_pos k;have e4:doS5 now sure A = sure := if_neg (by omega)
   rw [e1,e2,e3,e4];refine ⟨⟨h1,h2,.inr (.inl ⟨k,v,hp⟩)⟩,hc.mono (by omega),.inr (.inr ⟨.inl k,rfl⟩),?_⟩
   have := QgU hp;simp only [pNow,Qcf,hp,cond_true] at this;exact this
 · have e1:doC5 cs A = cs := if_neg (by omega)
   have e2:doG5 cs A = 0 := if_neg (by omega)
   have e3:doN5 now A = now := if_neg (by omega)
   have e4:doS5 now sure A = now := if_pos k;rw [e1,e2,e3,e4];exact ⟨⟨h1,h2,.inr (.inr ⟨k,t,a,b,v⟩)⟩,hc.mono (by omega),.inr (.inr ⟨.inr k,rfl⟩),QdN (Yl hd).1⟩
def HCl (ds:List HD) (n c:Int) (t u:Task):Prop := ∃ st st' got,t = ⟨c,st,got,false⟩ /\ u = ⟨c,st',got,false⟩ /\ HRel ds n st st' got /\ (goN (nHp false) 64 st got false).is = true
structure HEnd (ds:List HD) (n c:Int) (t u:Task):Prop where
 ok:QgP nHp okHp c t u
 is:(goT nHp false t).is = true -> HCl ds n c t u
 en:(goT nHp false t).is = false -> (goT nHp false t).got = [] \/ EndI (goT nHp false t).got
theorem HRel.ne {ds:List HD} {n:Int} {st st':List Frame} {got:List Int} (h:HRel ds n st st' got):st ≠ [] /\ st' ≠ [] := by
 cases h <;> exact ⟨by simp,by simp⟩
theorem HRel.end {ds:List HD} {n:Int} (h0:0 <= n) (hn:n <= 900000) (hds:OkDs ds) {c:Int} {st st':List Frame} {got:List Int} (h:HRel ds n st st' got):HEnd ds n c ⟨c,st,got,false⟩ ⟨c,st',got,false⟩ := by
 obtain ⟨a1,a2,is,ac,en⟩ := h.go h0 hn hds 61 false false;obtain ⟨n1,n2⟩ := h.ne;refine ⟨⟨⟨n1,a1,rfl,rfl⟩,⟨n2,a2,rfl,rfl⟩,is.symm,fun q => ?_,fun q => ?_⟩,fun q => ⟨st,st',got,rfl,rfl,h,q⟩,fun q => (en q).2.2.2⟩
 · have := ac q
   exact ⟨this.1.symm,by
    have h5:(goN (nHp false) 64 st got false).a.args = [] := this.2.1.1;show (goN (nHp false) 64 st got false).a.args.length <= 96;rw [h5];simp⟩
 · obtain ⟨z1,z2,z3,z4⟩ := en q;refine ⟨z1,z2,z3.symm,?_⟩;show (goN (nHp false) 64 st got false).got.length <= 96;rcases z4 with z | ⟨t,z,_⟩ | ⟨x,z⟩ <;> rw [z] <;> simp
theorem HCl.step {ds:List HD} {n c:Int} {t u:Task} {cs:List Int} {now sure:List Sector} (h:HCl ds n c t u) (hc:SH ds n cs) (hd:DOK now sure) (h0:0 <= n) (hn:n <= 800000) (hds:OkDs ds) :
 Qkq nHp okHp c cs t u now sure /\ SH ds (n + 1) (gdCs nHp cs t) /\ DOK (Qq2 nHp now t) (QnX nHp now sure t) /\ HEnd ds n c (gmT nHp false (gdX nHp cs t) t) (gmT nHp true (gdX nHp cs t) u) := by
 obtain ⟨st,st',got,rfl,rfl,hR,hk⟩ := h;have hE := hR.end (c := c) h0 (by omega) hds
 obtain ⟨a1,a2,is,ac,en⟩ := hR.go h0 (by omega) hds 61 false false
 obtain ⟨q1,qA,q2,q3,q4⟩ := ac hk;obtain ⟨d1,d2,d3,d4⟩ := qA.does hc hd;have n1:(goT nHp false ⟨c,st,got,false⟩).st ≠ [] := QcJ hk;have n2:(goT nHp true ⟨c,st',got,false⟩).st ≠ [] := QcJ (is.trans hk)
 have hT1:gmT nHp false (gdX nHp cs ⟨c,st,got,false⟩) ⟨c,st,got,false⟩ = ⟨c,(goT nHp false ⟨c,st,got,false⟩).st,[gdX nHp cs ⟨c,st,got,false⟩],false⟩ := by
  unfold gmT;rw [decide_eq_false n1]
 have hT2:gmT nHp true (gdX nHp cs ⟨c,st,got,false⟩) ⟨c,st',got,false⟩ = ⟨c,(goT nHp true ⟨c,st',got,false⟩).st,[gdX nHp cs ⟨c,st,got,false⟩],false⟩ := by
  unfold gmT;rw [decide_eq_false n2]
 have hE2 := HRel.end (c := c) h0 (by omega) hds (q4 _ d3)
 have hE3:HEnd ds n c (gmT nHp false (gdX nHp cs ⟨c,st,got,false⟩) ⟨c,st,got,false⟩) (gmT nHp true (gdX nHp cs ⟨c,st,got,false⟩) ⟨c,st',got,false⟩) := by
  rw [hT1,hT2];exact hE2
 exact ⟨⟨hE.ok,hk,q2,q3,d1,hc.ok,hd,hd.good.1,hd.good.2,hE3.ok⟩,d2,d4,hE3⟩
def Ext (ds ds':List HD):Prop := ds.length <= ds'.length /\ ∀ s,s < ds.length -> ds'.getD s hd0 = ds.getD s hd0
theorem Ext.refl (ds:List HD):Ext ds ds := ⟨Nat.le_refl _,fun _ _ => rfl⟩
theorem Ext.snoc (ds:List HD) (d:HD):Ext ds (ds ++ [d]) := ⟨by simp,fun s hs => by rw [List.getD_eq_getElem?_getD,List.getElem?_append_left hs,List.getD_eq_getElem?_getD]⟩
theorem Ext.h {ds ds':List HD} (h:Ext ds ds') {x:Int} (hx:OkH ds x):OkH ds' x /\ hD ds' x = hD ds x := by
 unfold OkH at *
 have := h.1;exact ⟨by omega,h.2 _ (by omega)⟩
theorem R68.ext {ds ds':List HD} (e:Ext ds ds') {k:Int} {r got:List Int} (h:R68 ds k r got):R68 ds' k r got := ⟨h.1,h.2.1,(e.h h.2.2.1).1,h.2.2.2⟩
theorem R100.ext {ds ds':List HD} (e:Ext ds ds') {k:Int} {r q got:List Int} (h:R100 ds k r q got):R100 ds' k r q got := by
 obtain ⟨b1,up,wd,eq,fr,hd,sr,mn,j5,j9,k5,k6,k7,gt⟩ := h;have hD':3 <= k -> k <= 14 -> hD ds' (r.getD 3 0) = hD ds (r.getD 3 0) := fun c1 c2 => (e.h (hd c1 c2)).2;refine ⟨b1,up,wd,eq,fr,fun c1 c2 => (e.h (hd c1 c2)).1,fun c1 c2 => by rw [hD' (by omega) c2];exact sr c1 c2,fun c1 c2 => by rw [hD' (by omega) c2];exact mn c1 c2,j5,j9,fun c => by rw [hD' (by omega) (by omega)];exact k5 c,fun c => by rw [hD' (by omega) (by omega)];exact k6 c,fun c1 c2 => by rw [hD' (by omega) c2];exact k7 c1 c2,?_⟩
 rcases gt with c | c | ⟨x,rfl,a1,a15,a13,a14,x0,x1,y1,y2,y3,y4,y5,y6⟩
 · exact .inl c
 · exact .inr (.inl c)
 · refine .inr (.inr ⟨x,rfl,a1,a15,a13,a14,x0,x1,y1,fun c => ?_,fun c => by rw [hD' (by omega) (by omega)];exact y3 c,fun c => by rw [hD' (by omega) (by omega)];exact y4 c,fun c => by rw [hD' (by omega) (by omega)];exact y5 c,fun c => by rw [hD' (by omega) (by omega)];exact y6 c⟩)
   rcases y2 c with d | d
   · exact .inl d
   · exact .inr (e.h d).1
theorem HRel.ext {ds ds':List HD} {n n':Int} (e:Ext ds ds') (hn:n <= n') {st st':List Frame} {got:List Int} (h:HRel ds n st st' got):HRel ds' n' st st' got := by
 cases h with
 | ins h => exact .ins (h.ext e)
 | hlp h => exact .hlp (h.ext e)
 | inr h h2 => exact .inr (h.ext e) h2
 | app h h2 => exact .app (h.ext e) (h2.mono hn)
theorem HCl.ext {ds ds':List HD} {n n' c:Int} (e:Ext ds ds') (hn:n <= n') {t u:Task} (h:HCl ds n c t u):HCl ds' n' c t u := by
 obtain ⟨st,st',got,h1,h2,h3,h4⟩ := h;exact ⟨st,st',got,h1,h2,h3.ext e hn,h4⟩
structure HS where
 cs:List Int
 now:List Sector
 sure:List Sector
 ts:List Task
 us:List Task
 busy:List Bool
 n:Int
 v:Int
 has:List Int
 place:List Int
 mp:List (Int × Try)
 tr:List Try
 last:Int
def Qm3 (s:HS) (c:Int):Bool := s.busy.getD c.toNat false
def mkHt (c p:Int) (l:List Int):Task := ⟨c,[⟨p,0,regs1 l⟩],[],false⟩
def Qax (s:HS) (c p:Int) (l:List Int):HS := { s with ts := s.ts.set c.toNat (mkHt c p l),us := s.us.set c.toNat (mkHt c p l),busy := s.busy.set c.toNat true }
def packW (y:Q5):Int := y.key * 256 + y.value
def put1 (n:Int) (j:Nat) (v:Int) (y:Q5) (cs:List Int):List Int :=
 (((cs.set (lField 99 n (4 + j) 16 12).toNat (packW y)).set (lField 99 n (8 + j) 16 12).toNat (256 + v)).set (lField 291 v 0 160 3).toNat 3).set (lField 291 v 2 160 3).toNat (packW y)
def comW (n:Int):Nat -> Int -> List Q5 -> List Int -> List Int
 | _,_,[],cs => cs
 | j,v,y :: l,cs => comW n (j + 1) (v + 1) l (put1 n j v y cs)
def comS (cs:List Int) (n v start:Int) (ws:List Q5):List Int :=
 ((cs.set (lField 99 n 0 16 12).toNat 3).set (lField 99 n 2 16 12).toNat start).set (lField 99 n 3 16 12).toNat (ws.length:Int)
def comC (cs:List Int) (n v start:Int) (ws:List Q5):List Int := comW n 0 v ws (comS cs n v start ws)
def comB (s:HS) (ws:List Q5):Bool := decide (s.n < 16) && decide (s.v + ws.length <= 60) && Zj ws
def Y3 (s:HS) (back:Int):Int := max 0 (s.cs.getD 0 0 - max 0 (min back 20))
section
variable (eq:Int -> Int -> Bool)
def QdR (w:Int) (s:HS) (c back:Int) (ws:List Q5):HS :=
 Qax { s with cs := comC s.cs s.n s.v (Y3 s back) ws,n := s.n + 1,v := s.v + ws.length,has := s.has.set c.toNat (256 + s.n),place := s.place.set c.toNat 0,mp := mput eq (256 + s.n) ⟨0,Y3 s back,ws⟩ s.mp } c 68 [w,256 + s.n]
def QgW (mp:List (Int × Try)) (h:Int):Try := (mget eq h mp).getD ⟨0,0,[]⟩
def KQ (cs:List Int) (w:Int) (mp:List (Int × Try)):Nat -> Int -> List Try -> Int × List Try
 | 0,last,tr => (last,tr)
 | m + 1,last,tr => if plc (cs.getD (lRing (last + 1) w).toNat 0) = last + 1 then
  KQ cs w mp m (last + 1) (tr ++ [⟨last + 1,(QgW eq mp (bare (cs.getD (lRing (last + 1) w).toNat 0))).start,(QgW eq mp (bare (cs.getD (lRing (last + 1) w).toNat 0))).writes⟩])
  else (last,tr)
def QcR (w:Int) (s:HS):HS := { s with last := (KQ eq s.cs w s.mp w.toNat s.last s.tr).1,tr := (KQ eq s.cs w s.mp w.toNat s.last s.tr).2 }
def endH (s:HS) (c:Int):GoM := goT nHp false (gmT nHp false (gdX nHp s.cs (tkC s.ts c)) (tkC s.ts c))
def QdS (s:HS) (c:Int):HS :=
 { s with cs := gdCs nHp s.cs (tkC s.ts c),now := Qq2 nHp s.now (tkC s.ts c),sure := QnX nHp s.now s.sure (tkC s.ts c),ts := s.ts.set c.toNat (gmT nHp false (gdX nHp s.cs (tkC s.ts c)) (tkC s.ts c)),us := s.us.set c.toNat (gmT nHp true (gdX nHp s.cs (tkC s.ts c)) (tkC s.us c)),busy := (bif (endH s c).is then s.busy else s.busy.set c.toNat false) }
def wonB (s:HS) (c:Int):Bool := !(endH s c).is && (decide (s.place.getD c.toNat 0 = 0) && (decide ((endH s c).got.length = 2) && decide ((endH s c).got.getD 0 0 = 0)))
def wonH (w:Int) (s:HS) (c t:Int):HS := Qax { s with place := s.place.set c.toNat t } c 100 [t,w]
def Qq3 (w:Int) (s:HS) (x dd back:Int) (ws:List Q5):HS :=
 if Qm3 s (x % 4) = true then (if wonB s (x % 4) = true then wonH w (QcR eq w (QdS s (x % 4))) (x % 4) ((endH s (x % 4)).got.getD 1 0) else QcR eq w (QdS s (x % 4)))
 else if dd = 0 /\ comB s ws = true then QdR eq w s (x % 4) back ws else s
end
structure HI (w:Int) (ds:List HD) (k:Int) (s:HS):Prop where
 w:2 <= w /\ w <= 8
 od:OkDs ds
 nn:s.n = ds.length
 vv:0 <= s.v /\ s.v <= 60
 sc:SH ds k s.cs
 dk:DOK s.now s.sure
 lt:s.ts.length = 4
 lu:s.us.length = 4
 lb:s.busy.length = 4
 lh:s.has.length = 4
 lp:s.place.length = 4
 la:0 <= s.last /\ s.last <= 8 * k
 tl:(s.tr.length:Int) <= 8 * k
 tw:∀ t ∈ s.tr,t.writes.length <= 4
 mw:∀ p ∈ s.mp,p.2.writes.length <= 4
 cl:∀ c:Int,0 <= c -> c <= 3 -> Qm3 s c = true -> HCl ds k c (tkC s.ts c) (tkC s.us c)
theorem HI.mono {w:Int} {ds:List HD} {k k':Int} {s:HS} (h:HI w ds k s) (hk:k <= k'):HI w ds k' s :=
 ⟨h.w,h.od,h.nn,h.vv,h.sc.mono hk,h.dk,h.lt,h.lu,h.lb,h.lh,h.lp,by have := h.la;omega,by have := h.tl;omega,h.tw,h.mw,fun c c0 c3 hb => (h.cl c c0 c3 hb).ext (.refl _) hk⟩
theorem tkS {l:List Task} (hl:l.length = 4) {c c':Int} (c0:0 <= c) (c3:c <= 3) (d0:0 <= c') (T:Task):tkC (l.set c.toNat T) c' = if c = c' then T else tkC l c' := by
 unfold tkC;rw [List.getD_eq_getElem?_getD,List.getElem?_set]
 by_cases e:c = c'
 · subst e;rw [if_pos rfl,if_pos (by omega),if_pos rfl];rfl
 · rw [if_neg (by omega),if_neg e,List.getD_eq_getElem?_getD]
theorem bS {l:List Bool} (hl:l.length = 4) {c c':Int} (c0:0 <= c) (c3:c <= 3) (d0:0 <= c') (b:Bool):(l.set c.toNat b).getD c'.toNat false = if c = c' then b else l.getD c'.toNat false := by
 rw [List.getD_eq_getElem?_getD,List.getElem?_set]
 by_cases e:c = c'
 · subst e;rw [if_pos rfl,if_pos (by omega),if_pos rfl];rfl
 · rw [if_neg (by omega),if_neg e,List.getD_eq_getElem?_getD]
theorem HI.begin {w:Int} {ds:List HD} {k:Int} {s:HS} (h:HI w ds k s) {c:Int} (c0:0 <= c) (c3:c <= 3) {p:Int} {l:List Int} (hc:HCl ds k c (mkHt c p l) (mkHt c p l)):HI w ds k (Qax s c p l) := by
 refine ⟨h.w,h.od,h.nn,h.vv,h.sc,h.dk,by simp [Qax,h.lt],by simp [Qax,h.lu],by simp [Qax,h.lb],h.lh,h.lp,h.la,h.tl,h.tw,h.mw,fun c' d0 d3 hb => ?_⟩
 show HCl ds k c' (tkC (s.ts.set c.toNat (mkHt c p l)) c') (tkC (s.us.set c.toNat (mkHt c p l)) c');rw [tkS h.lt c0 c3 d0,tkS h.lu c0 c3 d0]
 by_cases e:c = c'
 · subst e;rw [if_pos rfl,if_pos rfl];exact hc
 · rw [if_neg e,if_neg e];refine h.cl c' d0 d3 ?_;have hb:(s.busy.set c.toNat true).getD c'.toNat false = true := hb;rw [bS h.lb c0 c3 d0,if_neg e] at hb;exact hb
theorem Qbx (l:List Int) (i:Nat) (h:i < l.length):(regs1 l).getD i 0 = l.getD i 0 := by
 unfold regs1;rw [List.getD_eq_getElem?_getD,List.getElem?_append_left h,List.getD_eq_getElem?_getD]
theorem Qfm {l:List Int} (h1:l.length <= 96) (h2:∀ v ∈ l,v < 9223372036854775808):bnd (regs1 l) := by
 refine ⟨by simp [regs1];omega,fun v hv => ?_⟩
 unfold regs1 at hv;rcases List.mem_append.1 hv with hv | hv
 · exact h2 v hv
 · rw [List.eq_of_mem_replicate hv];decide
theorem mk68 {ds:List HD} {k c w h:Int} (hw:2 <= w /\ w <= 8) (hs:ds.length <= 16) (hh:OkH ds h):HCl ds k c (mkHt c 68 [w,h]) (mkHt c 68 [w,h]) := by
 have hh' := hh;unfold OkH at hh';refine ⟨_,_,_,rfl,rfl,.ins ⟨Qfm (by simp) (fun x hx => ?_),?_,?_,.inl ⟨rfl,rfl⟩⟩,rfl⟩
 · simp only [List.mem_cons,List.mem_nil_iff,or_false] at hx;rcases hx with rfl | rfl <;> omega
 · rw [Qbx _ 0 (by simp)];exact hw
 · rw [Qbx _ 1 (by simp)];exact hh
theorem QrL {ds:List HD} {k c w t:Int} (hw:2 <= w /\ w <= 8) (ht:1 <= t /\ t <= 1048575):HCl ds k c (mkHt c 100 [t,w]) (mkHt c 100 [t,w]) := by
 refine ⟨_,_,_,rfl,rfl,.hlp ⟨Qfm (by simp) (fun x hx => ?_),?_,?_,rfl,fun q => absurd q (by decide),fun q => absurd q (by decide),fun q => absurd q (by decide),fun q => absurd q (by decide),fun q => absurd q (by decide),fun q => absurd q (by decide),fun q => absurd q (by decide),fun q => absurd q (by decide),fun q => absurd q (by decide),.inl ⟨rfl,rfl⟩⟩,rfl⟩
 · simp only [List.mem_cons,List.mem_nil_iff,or_false] at hx;rcases hx with rfl | rfl <;> omega
 · rw [Qbx _ 0 (by simp)];show 0 <= t /\ t <= 1048575;omega
 · rw [Qbx _ 1 (by simp)];exact hw
theorem HI.step {w:Int} {ds:List HD} {k:Int} {s:HS} (h:HI w ds k s) (h0:0 <= k) (hk:k <= 800000) {c:Int} (c0:0 <= c) (c3:c <= 3) (hb:Qm3 s c = true) :
 Qkq nHp okHp c s.cs (tkC s.ts c) (tkC s.us c) s.now s.sure /\ HI w ds (k + 1) (QdS s c) /\ ((endH s c).is = false -> (endH s c).got = [] \/ EndI (endH s c).got) := by
 obtain ⟨q1,q2,q3,q4⟩ := (h.cl c c0 c3 hb).step h.sc h.dk h0 hk h.od;refine ⟨q1,⟨h.w,h.od,h.nn,h.vv,q2,q3,by simp [QdS,h.lt],by simp [QdS,h.lu],?_,h.lh,h.lp,by have := h.la;show 0 <= s.last /\ s.last <= 8 * (k + 1);omega,by have := h.tl;show (s.tr.length:Int) <= 8 * (k + 1);omega,h.tw,h.mw,fun c' d0 d3 hb' => ?_⟩,q4.en⟩
 · show (bif (endH s c).is then s.busy else s.busy.set c.toNat false).length = 4;cases (endH s c).is <;> simp [h.lb]
 · have hb':(bif (endH s c).is then s.busy else s.busy.set c.toNat false).getD c'.toNat false = true := hb';show HCl ds (k + 1) c' (tkC (s.ts.set c.toNat _) c') (tkC (s.us.set c.toNat _) c');rw [tkS h.lt c0 c3 d0,tkS h.lu c0 c3 d0]
   by_cases e:c = c'
   · subst e;rw [if_pos rfl,if_pos rfl]
     have hi:(endH s c).is = true := by
      cases hi:(endH s c).is
      · rw [hi] at hb';simp only [cond_false] at hb';rw [bS h.lb c0 c3 c0,if_pos rfl] at hb';cases hb'
      · rfl
     exact (q4.is hi).ext (.refl _) (by omega)
   · rw [if_neg e,if_neg e];refine (h.cl c' d0 d3 ?_).ext (.refl _) (by omega)
     cases hi:(endH s c).is
     · rw [hi] at hb';simp only [cond_false] at hb';rw [bS h.lb c0 c3 d0,if_neg e] at hb';exact hb'
     · rw [hi] at hb';exact hb'
theorem Qfn {eq:Int -> Int -> Bool} {x:Int}:∀ {l:List (Int × Try)} {t:Try},mget eq x l = some t -> ∃ p ∈ l,p.2 = t
 | [],t,h => by cases h
 | (a,b) :: l,t,h => by
  unfold mget at h;cases e:eq x a
  · rw [e] at h;obtain ⟨p,h1,h2⟩ := Qfn (l := l) h;exact ⟨p,List.mem_cons_of_mem _ h1,h2⟩
  · rw [e] at h;simp only [cond_true,Option.some.injEq] at h;exact ⟨(a,b),List.mem_cons_self,h⟩
theorem mput_mem {eq:Int -> Int -> Bool} {x:Int} {t:Try}:∀ {l:List (Int × Try)} {p:Int × Try},p ∈ mput eq x t l -> p = (x,t) \/ p ∈ l
 | [],p,h => by
  unfold mput at h;rw [List.mem_singleton] at h;exact .inl h
 | (a,b) :: l,p,h => by
  unfold mput at h;cases e:eq x a
  · rw [e] at h;simp only [cond_false] at h;rcases List.mem_cons.1 h with h | h
    · exact .inr (by rw [h];exact List.mem_cons_self)
    · rcases mput_mem h with h | h
      · exact .inl h
      · exact .inr (List.mem_cons_of_mem _ h)
  · rw [e] at h;simp only [cond_true] at h;rcases List.mem_cons.1 h with h | h
    · exact .inl h
    · exact .inr (List.mem_cons_of_mem _ h)
theorem Qkz {eq:Int -> Int -> Bool} {mp:List (Int × Try)} (h:∀ p ∈ mp,p.2.writes.length <= 4) (x:Int):(QgW eq mp x).writes.length <= 4 := by
 unfold QgW;cases e:mget eq x mp with
 | none => simp
 | some t =>
  obtain ⟨p,h1,h2⟩ := Qfn e;simp only [Option.getD_some];rw [<- h2];exact h p h1
theorem Qfo {eq:Int -> Int -> Bool} {cs:List Int} {w:Int} {mp:List (Int × Try)} (h:∀ p ∈ mp,p.2.writes.length <= 4):∀ (m:Nat) {last:Int} {tr:List Try},(∀ t ∈ tr,t.writes.length <= 4) -> (last <= (KQ eq cs w mp m last tr).1 /\ (KQ eq cs w mp m last tr).1 <= last + m) /\ (KQ eq cs w mp m last tr).2.length <= tr.length + m /\ ∀ t ∈ (KQ eq cs w mp m last tr).2,t.writes.length <= 4
 | 0,last,tr,ht => ⟨⟨Int.le_refl _,by show last <= last + 0;omega⟩,Nat.le_refl _,ht⟩
 | m + 1,last,tr,ht => by
  unfold KQ
  split
  · have ht':∀ t ∈ tr ++ [(⟨last + 1,(QgW eq mp (bare (cs.getD (lRing (last + 1) w).toNat 0))).start,(QgW eq mp (bare (cs.getD (lRing (last + 1) w).toNat 0))).writes⟩:Try)],t.writes.length <= 4 := fun t q => by
     rcases List.mem_append.1 q with q | q
     · exact ht t q
     · rw [List.mem_singleton] at q;subst q;exact Qkz h _
    obtain ⟨⟨q1,q2⟩,q3,q4⟩ := Qfo (eq := eq) (cs := cs) (w := w) h m (last := last + 1) ht';refine ⟨⟨by omega,by omega⟩,?_,q4⟩
    simp only [List.length_append,List.length_cons,List.length_nil] at q3;omega
  · exact ⟨⟨Int.le_refl _,by show last <= last + ((m + 1:Nat):Int);omega⟩,by show tr.length <= tr.length + (m + 1);omega,ht⟩
theorem HI.looks {eq:Int -> Int -> Bool} {w:Int} {ds:List HD} {k:Int} {s:HS} (h:HI w ds k s) {k':Int} (hk:k + 1 <= k'):HI w ds k' (QcR eq w s) := by
 obtain ⟨⟨q1,q2⟩,q3,q4⟩ := Qfo (eq := eq) (cs := s.cs) (w := w) h.mw w.toNat (last := s.last) h.tw;have hw := h.w;have hl := h.la;have ht := h.tl;refine ⟨h.w,h.od,h.nn,h.vv,h.sc.mono (by omega),h.dk,h.lt,h.lu,h.lb,h.lh,h.lp,?_,?_,q4,h.mw,fun c c0 c3 hb => (h.cl c c0 c3 hb).ext (.refl _) (by omega)⟩
 · show 0 <= (KQ eq s.cs w s.mp w.toNat s.last s.tr).1 /\ (KQ eq s.cs w s.mp w.toNat s.last s.tr).1 <= 8 * k';omega
 · show ((KQ eq s.cs w s.mp w.toNat s.last s.tr).2.length:Int) <= 8 * k';omega
theorem QkA {n f:Int} (h0:0 <= n) (h1:n < 16) (f0:0 <= f) (f1:f < 12):lField 99 n f 16 12 = 99 + n * 12 + f := if_pos ⟨h0,h1,f0,f1⟩
theorem Qq4 {v f:Int} (h0:0 <= v) (h1:v < 160) (f0:0 <= f) (f1:f < 3):lField 291 v f 160 3 = 291 + v * 3 + f := if_pos ⟨h0,h1,f0,f1⟩
theorem QdT {l:List Int} {i k:Nat} {x:Int} (hi:i < l.length):(l.set i x).getD k 0 = if k = i then x else l.getD k 0 := by
 by_cases h:k = i
 · subst h;rw [if_pos rfl,Qc hi]
 · rw [if_neg h,Qa (fun q => h q.symm)]
theorem Qm4 {n:Int} {j:Nat} {v:Int} {y:Q5} {cs:List Int}:(put1 n j v y cs).length = cs.length := by unfold put1;simp only [List.length_set]
theorem Qm5 {n:Int} {j:Nat} {v:Int} {y:Q5} {cs:List Int} (hl:cs.length = 771) (n0:0 <= n) (n1:n < 16) (hj:j < 4) (v0:0 <= v) (v1:v < 60) {a:Nat} (ha:a < 291) :
 (put1 n j v y cs).getD a 0 = if a = 99 + n.toNat * 12 + 4 + j then packW y else if a = 99 + n.toNat * 12 + 8 + j then 256 + v else cs.getD a 0 := by
 unfold put1;rw [QkA n0 n1 (by omega) (by omega),QkA n0 n1 (by omega) (by omega),Qq4 v0 (by omega) (by omega) (by omega),Qq4 v0 (by omega) (by omega) (by omega)]
 rw [QdT (by simp only [List.length_set];omega),if_neg (by omega),QdT (by simp only [List.length_set];omega),if_neg (by omega),QdT (by simp only [List.length_set];omega),QdT (by omega)]
 by_cases e1:a = 99 + n.toNat * 12 + 4 + j
 · rw [if_neg (by omega),if_pos (by omega),if_pos e1]
 · by_cases e2:a = 99 + n.toNat * 12 + 8 + j
   · rw [if_pos (by omega),if_neg e1,if_pos e2]
   · rw [if_neg (by omega),if_neg (by omega),if_neg e1,if_neg e2]
theorem QdU {y:Q5} (h:(0 <= y.key /\ y.key <= 23) /\ 0 <= y.value /\ y.value <= 255):0 <= packW y /\ packW y <= 6143 := by unfold packW;omega
theorem QpS {n:Int} {j:Nat} {v:Int} {y:Q5} {cs:List Int} (h:cellsOK cs = true) (hy:0 <= packW y /\ packW y <= 6143) (v0:0 <= v) (v1:v < 60):cellsOK (put1 n j v y cs) = true :=
 Yn (Yn (Yn (Yn h (by omega)) (by omega)) (by decide)) (by omega)
theorem QkB {n:Int} (n0:0 <= n) (n1:n < 16):∀ (l:List Q5) {j:Nat} {v:Int} {cs:List Int},cs.length = 771 -> cellsOK cs = true -> j + l.length <= 4 -> 0 <= v -> v + l.length <= 60 -> (∀ y ∈ l,0 <= packW y /\ packW y <= 6143) ->
 (comW n j v l cs).length = 771 /\ cellsOK (comW n j v l cs) = true /\
 (∀ a:Nat,a < 291 -> (∀ i,i < l.length -> a ≠ 99 + n.toNat * 12 + 4 + (j + i) /\ a ≠ 99 + n.toNat * 12 + 8 + (j + i)) -> (comW n j v l cs).getD a 0 = cs.getD a 0) /\
 (∀ i,i < l.length -> (comW n j v l cs).getD (99 + n.toNat * 12 + 4 + (j + i)) 0 = packW (l.getD i wrH) /\ (comW n j v l cs).getD (99 + n.toNat * 12 + 8 + (j + i)) 0 = 256 + v + i)
 | [],j,v,cs,hl,hc,hj,v0,v1,hy => ⟨hl,hc,fun a _ _ => rfl,fun i hi => by simp at hi⟩
 | y :: l,j,v,cs,hl,hc,hj,v0,v1,hy => by
  simp only [List.length_cons] at hj v1;have hy1 := hy y List.mem_cons_self;obtain ⟨q1,q2,q3,q4⟩ := QkB n0 n1 l (j := j + 1) (v := v + 1) (cs := put1 n j v y cs) (by rw [Qm4];exact hl) (QpS hc hy1 v0 (by omega)) (by omega) (by omega) (by omega) (fun y' h' => hy y' (List.mem_cons_of_mem _ h'))
  have hg:∀ a:Nat,a < 291 -> (put1 n j v y cs).getD a 0 = if a = 99 + n.toNat * 12 + 4 + j then packW y else if a = 99 + n.toNat * 12 + 8 + j then 256 + v else cs.getD a 0 := fun a ha => Qm5 hl n0 n1 (by omega) v0 (by omega) ha
  unfold comW;refine ⟨q1,q2,fun a ha hne => ?_,fun i hi => ?_⟩
  · rw [q3 a ha (fun i hi => by have := hne (i + 1) (by simp only [List.length_cons];omega);omega),hg a ha]
    have := hne 0 (by simp)
    rw [if_neg (by omega),if_neg (by omega)]
  · simp only [List.length_cons] at hi;cases i with
    | zero =>
     rw [q3 _ (by omega) (fun i hi => by omega),q3 _ (by omega) (fun i hi => by omega),hg _ (by omega),hg _ (by omega),if_pos (by omega),if_neg (by omega),if_pos (by omega)]
     exact ⟨rfl,by omega⟩
    | succ i =>
     obtain ⟨z1,z2⟩ := q4 i (by omega)
     rw [show j + (i + 1) = j + 1 + i by omega,z1,z2]
     exact ⟨rfl,by omega⟩
theorem Qm6 {cs:List Int} (hl:cs.length = 771) {n v start:Int} {ws:List Q5} (n0:0 <= n) (n1:n < 16) (a:Nat) :
 (comS cs n v start ws).getD a 0 = if a = 99 + n.toNat * 12 + 3 then (ws.length:Int) else if a = 99 + n.toNat * 12 + 2 then start else if a = 99 + n.toNat * 12 then 3 else cs.getD a 0 := by
 unfold comS;rw [QkA n0 n1 (by omega) (by omega),QkA n0 n1 (by omega) (by omega),QkA n0 n1 (by omega) (by omega)]
 rw [QdT (by simp only [List.length_set];omega),QdT (by simp only [List.length_set];omega),QdT (by omega)]
 by_cases e1:a = 99 + n.toNat * 12 + 3
 · rw [if_pos (by omega),if_pos e1]
 · rw [if_neg (by omega),if_neg e1]
   by_cases e2:a = 99 + n.toNat * 12 + 2
   · rw [if_pos (by omega),if_pos e2]
   · rw [if_neg (by omega),if_neg e2]
     by_cases e3:a = 99 + n.toNat * 12
     · rw [if_pos (by omega),if_pos e3]
     · rw [if_neg (by omega),if_neg e3]
theorem Qm7 {s:HS} {ws:List Q5} (h:comB s ws = true):s.n < 16 /\ s.v + ws.length <= 60 /\ Zj ws = true := by
 unfold comB at h;simp only [Bool.and_eq_true,decide_eq_true_eq] at h;exact ⟨h.1.1,h.1.2,h.2⟩
theorem KR {ws:List Q5} (h:Zj ws = true):ws.length <= 4 := by
 unfold Zj at h;rw [Bool.and_eq_true,decide_eq_true_eq] at h;exact h.1
theorem QcS {w:Int} {ds:List HD} {k:Int} {s:HS} (h:HI w ds k s) (back:Int):0 <= Y3 s back /\ Y3 s back <= 1048575 := by
 have := (h.sc.ty 0 (by decide) (by decide)).t0 rfl
 have e:(0:Int).toNat = 0 := rfl;rw [e] at this;unfold Y3;omega
theorem QpT {ds:List HD} {k:Int} {cs:List Int} (h:SH ds k cs) {v start:Int} {ws:List Q5} (hn:(ds.length:Int) < 16) (v0:0 <= v) (v1:v + ws.length <= 60) (hw:Zj ws = true) (hs:0 <= start /\ start <= 1048575) :
 SH (ds ++ [⟨start,ws,v⟩]) k (comC cs (ds.length:Int) v start ws) := by
 have hl := h.len;have hw4 := KR hw
 have hmem:∀ y ∈ ws,0 <= packW y /\ packW y <= 6143 := fun y hy => by
  obtain ⟨i,hi,rfl⟩ := List.mem_iff_getElem.1 hy;have := Qkh hw hi;have e:ws.getD i wrH = ws[i] := by simp [hi]
  rw [e] at this;exact QdU this
 have n0:(0:Int) <= (ds.length:Int) := by omega
 have nN:((ds.length:Int)).toNat = ds.length := by simp
 have cl:(comS cs (ds.length:Int) v start ws).length = 771 := by unfold comS;simp only [List.length_set];exact hl
 have cc:cellsOK (comS cs (ds.length:Int) v start ws) = true := by
  unfold comS;exact Yn (Yn (Yn h.ok (by decide)) (by omega)) (by omega)
 obtain ⟨q1,q2,q3,q4⟩ := QkB n0 hn ws (j := 0) (v := v) cl cc (by omega) v0 v1 hmem
 have g0 := Qm6 (v := v) (start := start) (ws := ws) hl n0 hn;rw [nN] at q3 q4 g0;simp only [Nat.zero_add] at q3 q4;refine ⟨q1,q2,fun a a0 a1 => ?_⟩;show TyH _ k a ((comW (ds.length:Int) 0 v ws (comS cs (ds.length:Int) v start ws)).getD a.toNat 0);have hls:(ds ++ [(⟨start,ws,v⟩:HD)]).length = ds.length + 1 := by simp
 have hgl:∀ s,s < ds.length -> (ds ++ [(⟨start,ws,v⟩:HD)]).getD s hd0 = ds.getD s hd0 := fun s hs => (Ext.snoc ds ⟨start,ws,v⟩).2 s hs
 have hgn:(ds ++ [(⟨start,ws,v⟩:HD)]).getD ds.length hd0 = ⟨start,ws,v⟩ := by
  rw [List.getD_eq_getElem?_getD,List.getElem?_append_right (Nat.le_refl _)];simp
 by_cases b0:a <= 98
 · rw [q3 _ (by omega) (fun i hi => by omega),g0,if_neg (by omega),if_neg (by omega),if_neg (by omega)]
   have ht := h.ty a a0 a1;refine TyH.low (.inl b0) (by omega) ht.t0 ht.t1 ht.t2 (fun c1 c2 => ?_) ht.t4 ht.t5
   obtain ⟨z1,z2⟩ := ht.t3 c1 c2;refine ⟨z1,?_⟩;rcases z2 with z2 | z2
   · exact .inl z2
   · exact .inr (by unfold OkH at *;omega)
 by_cases b1:291 <= a
 · exact Qki (by omega) b1
 have ht := h.ty a a0 a1
 have hin:∀ s f:Int,0 <= s -> 0 <= f -> f < 12 -> a = 99 + s * 12 + f -> s ≠ (ds.length:Int) -> (comW (ds.length:Int) 0 v ws (comS cs (ds.length:Int) v start ws)).getD a.toNat 0 = cs.getD a.toNat 0 := fun s f s0 f0 f1 e hne => by
  rw [q3 _ (by omega) (fun i hi => by omega),g0,if_neg (by omega),if_neg (by omega),if_neg (by omega)]
 refine ⟨fun q => by omega,fun q => by omega,fun _ q => by omega,fun _ q => by omega,fun _ q => by omega,fun _ q => by omega,fun s f s0 s1 f0 f1 e => ?_,fun s s0 s1 e => ?_⟩
 · by_cases hne:s = (ds.length:Int)
   · subst hne;rw [nN,hgn];have ea:a.toNat = 99 + ds.length * 12 + f.toNat := by omega
     rw [ea];refine ⟨fun e2 => ?_,fun e3 => ?_,fun c1 c2 => ?_,fun c1 c2 => ?_⟩
     · rw [q3 _ (by omega) (fun i hi => by omega),g0,if_neg (by omega),if_pos (by omega)]
     · rw [q3 _ (by omega) (fun i hi => by omega),g0,if_pos (by omega)]
     · have c2':f < 4 + (ws.length:Int) := c2;have := (q4 (f - 4).toNat (by omega)).1
       rw [show 99 + ds.length * 12 + 4 + (f - 4).toNat = 99 + ds.length * 12 + f.toNat by omega] at this
       rw [this];rfl
     · have c2':f < 8 + (ws.length:Int) := c2;have := (q4 (f - 8).toNat (by omega)).2
       rw [show 99 + ds.length * 12 + 8 + (f - 8).toNat = 99 + ds.length * 12 + f.toNat by omega] at this
       rw [this];rfl
   · rw [hin s f s0 f0 f1 e hne,hgl _ (by omega)]
     exact ht.t6 s f s0 (by omega) f0 f1 e
 · by_cases hne:s = (ds.length:Int)
   · rw [q3 _ (by omega) (fun i hi => by omega),g0,if_neg (by omega),if_neg (by omega),if_neg (by omega)]
     exact ht.t7 s s0 s1 e
   · rw [hin s 1 s0 (by omega) (by omega) e hne]
     exact ht.t7 s s0 s1 e
theorem HI.commit {eq:Int -> Int -> Bool} {w:Int} {ds:List HD} {k:Int} {s:HS} (h:HI w ds k s) {c:Int} (c0:0 <= c) (c3:c <= 3) (back:Int) {ws:List Q5} (hb:comB s ws = true) :
 HI w (ds ++ [⟨Y3 s back,ws,s.v⟩]) k (QdR eq w s c back ws) := by
 obtain ⟨b1,b2,b3⟩ := Qm7 hb;have hst := QcS h back;have hw4 := KR b3;have hn := h.nn;have hvv := h.vv;have hls:(ds ++ [(⟨Y3 s back,ws,s.v⟩:HD)]).length = ds.length + 1 := by simp
 have hE := Ext.snoc ds ⟨Y3 s back,ws,s.v⟩;have hsc := QpT h.sc (v := s.v) (start := Y3 s back) (ws := ws) (by omega) h.vv.1 b2 b3 hst
 have hod:OkDs (ds ++ [(⟨Y3 s back,ws,s.v⟩:HD)]) := by
  refine ⟨by omega,fun i hi => ?_⟩
  by_cases e:i < ds.length
  · rw [hE.2 i e];exact h.od.2 i e
  · have:i = ds.length := by omega
    subst this;rw [List.getD_eq_getElem?_getD,List.getElem?_append_right (Nat.le_refl _)];simp only [Nat.sub_self,List.getElem?_cons_zero,Option.getD_some];exact ⟨hst,b3,⟨hvv.1,b2⟩⟩
 rw [<- hn] at hsc;unfold QdR
 refine HI.begin (s := { s with cs := comC s.cs s.n s.v (Y3 s back) ws,n := s.n + 1,v := s.v + ws.length,has := s.has.set c.toNat (256 + s.n),place := s.place.set c.toNat 0,mp := mput eq (256 + s.n) ⟨0,Y3 s back,ws⟩ s.mp })
  ⟨h.w,hod,by show s.n + 1 = ((ds ++ [_]).length:Int);rw [hls];omega,by show 0 <= s.v + (ws.length:Int) /\ s.v + (ws.length:Int) <= 60;omega,hsc,h.dk,h.lt,h.lu,h.lb,by simp [h.lh],by simp [h.lp],h.la,h.tl,h.tw,fun p hp => ?_,fun c' d0 d3 hb' => (h.cl c' d0 d3 hb').ext hE (Int.le_refl _)⟩ c0 c3 ?_
 · rcases mput_mem hp with e | hp
   · rw [e];exact hw4
   · exact h.mw p hp
 · exact mk68 h.w (by omega) (by unfold OkH;omega)
theorem HI.pick {eq:Int -> Int -> Bool} {w:Int} {ds:List HD} {k:Int} {s:HS} (h:HI w ds k s) (h0:0 <= k) (hk:k <= 800000) (x dd back:Int) (ws:List Q5):∃ ds',HI w ds' (k + 2) (Qq3 eq w s x dd back ws) := by
 have c0 := Int.emod_nonneg x (show (4:Int) ≠ 0 by decide)
 have c3 := Int.emod_lt_of_pos x (show (0:Int) < 4 by decide)
 unfold Qq3
 by_cases hb:Qm3 s (x % 4) = true
 · rw [if_pos hb];obtain ⟨_,q1,q2⟩ := h.step h0 hk c0 (by omega) hb
   have q3 := q1.looks (eq := eq) (k' := k + 2) (by omega)
   refine ⟨ds,?_⟩
   split
   · rename_i hw;unfold wonB at hw;simp only [Bool.and_eq_true,decide_eq_true_eq,Bool.not_eq_true'] at hw;obtain ⟨w1,w2,w3,w4⟩ := hw
     have ht:1 <= (endH s (x % 4)).got.getD 1 0 /\ (endH s (x % 4)).got.getD 1 0 <= 1048575 := by
      rcases q2 w1 with e | ⟨t,e,t1,t2⟩ | ⟨e',e⟩
      · rw [e] at w3;cases w3
      · rw [e];exact ⟨t1,t2⟩
      · rw [e] at w3;cases w3
     generalize (endH s (x % 4)).got.getD 1 0 = t at ht ⊢;unfold wonH
     exact HI.begin (s := { QcR eq w (QdS s (x % 4)) with place := (QcR eq w (QdS s (x % 4))).place.set (x % 4).toNat t })
      ⟨q3.w,q3.od,q3.nn,q3.vv,q3.sc,q3.dk,q3.lt,q3.lu,q3.lb,q3.lh,by simp [q3.lp],q3.la,q3.tl,q3.tw,q3.mw,q3.cl⟩ c0 (by omega) (QrL q3.w ht)
   · exact q3
 · rw [if_neg hb]
   split
   · rename_i hc;exact ⟨_,(h.commit c0 (by omega) back hc.2).mono (by omega)⟩
   · exact ⟨ds,h.mono (by omega)⟩
inductive HF (F:Int):List Frame -> List Int -> Prop
 | ins {k:Int} {r got:List Int}:HF F [⟨68,k,r⟩] got
 | hlp {k:Int} {r got:List Int} (h:2 <= k -> k <= 14 -> r.getD 2 0 <= F) (h1:k = 1 -> ∀ x,got = [x] -> x <= F):HF F [⟨100,k,r⟩] got
 | inr {k:Int} {r s got:List Int} (h:r.getD 2 0 <= F) (h2:1 <= s.getD 0 0 /\ s.getD 0 0 <= 1048575) (h3:s.getD 0 0 <= F + 1) (h4:k = 2 -> plc (s.getD 3 0) < s.getD 0 0):HF F [⟨100,13,r⟩,⟨73,k,s⟩] got
 | app {k:Int} {r s got:List Int} (h:r.getD 2 0 <= F):HF F [⟨100,14,r⟩,⟨76,k,s⟩] got
theorem HF.mono {F F':Int} (hF:F <= F') {st:List Frame} {got:List Int} (h:HF F st got):HF F' st got := by
 cases h with
 | ins => exact .ins
 | hlp h h1 => exact .hlp (fun a b => by have := h a b;omega) (fun a x e => by have := h1 a x e;omega)
 | inr h h2 h3 h4 => exact .inr (by omega) h2 (by omega) h4
 | app h => exact .app (by omega)
def wP (p:Nat):Int := if p = 0 then 0 else (p:Int) * 1048576 + (255 + (p:Int))
theorem wP_0:wP 0 = 0 := rfl
theorem QkC {p:Nat} (h1:1 <= p):wP p = (p:Int) * 1048576 + (255 + (p:Int)) := if_neg (by omega)
theorem QpU {p:Nat} (h1:1 <= p) (h2:p <= 100):wordN (p:Int) (255 + (p:Int)) = wP p := by
 rw [QkC h1,wordN,if_pos ⟨by omega,by omega,.inl (by omega)⟩]
theorem Yo {p:Nat} (h2:p <= 100):0 <= wP p /\ wP p <= 104857955 := by
 unfold wP;split <;> omega
theorem QgX {p:Nat} (h1:1 <= p):0 < wP p := by rw [QkC h1];omega
theorem Y4 {p:Nat} (h2:p <= 100):plc (wP p) = p := by
 unfold plc;rw [Q3 (by have := Yo h2;omega)]
 unfold wP;split <;> omega
theorem Y0 {p:Nat} (h1:1 <= p) (h2:p <= 100):bare (wP p) = 255 + (p:Int) := by
 unfold bare;rw [Q3 (by have := Yo h2;omega),QkC h1]
 omega
theorem QkD {p q:Nat} (hp:p <= 100) (hq:q <= 100) (h:wP p = wP q):p = q := by
 have h1 := Y4 hp;have h2 := Y4 hq;rw [h] at h1;omega
theorem Qfp {p:Nat} (h:wP p = 0):p = 0 := by
 unfold wP at h;split at h <;> omega
theorem QdV {p:Nat} (hp:p <= 100):wh (wP p) = wP p := by
 unfold wh;rw [if_neg (by have := Yo hp;omega)]
theorem Zk {p:Nat} (h1:1 <= p) (h2:p <= 100) {f:Int} (f0:0 <= f) (f1:f < 3):cellO (255 + (p:Int)) f true = 288 + 3 * (p:Int) + f := by
 unfold cellO;rw [if_neg (by omega),cond_true,VZ (by omega) (by omega) f0 f1]
 omega
def nxtW (cs:List Int) (w:Int):Int := cs.getD (cellO (bare w) 1 true).toNat 0
def valW (cs:List Int) (w:Int):Int := cs.getD (cellO (bare w) 2 true).toNat 0
def rdW (cs:List Int) (key:Int):Nat -> Int -> List Item
 | 0,_ => []
 | n + 1,w => if w = 0 then [] else ⟨key,plc w,valW cs w % 256⟩ :: rdW cs key n (wh (nxtW cs w))
structure ROK (cs:List Int) (K:Nat -> Int) (m:Nat):Prop where
 len:cs.length = 771
 mle:m <= 100
 Kr:∀ p,1 <= p -> p <= m -> 0 <= K p /\ K p < 24
 hd:∀ k:Nat,k < 24 -> ∃ p,p <= m /\ cs.getD (21 + k) 0 = wP p /\ (p = 0 \/ K p = k)
 gen:∀ p,1 <= p -> p <= m -> cs.getD (288 + 3 * p) 0 = 3
 val:∀ p,1 <= p -> p <= m -> ∃ v:Int,0 <= v /\ v < 256 /\ cs.getD (290 + 3 * p) 0 = K p * 256 + v
 nx:∀ p,1 <= p -> p <= m -> ∃ q,q < p /\ cs.getD (289 + 3 * p) 0 = wP q /\ (q = 0 \/ K q = K p)
theorem ROK.nxt {cs:List Int} {K:Nat -> Int} {m p:Nat} (h:ROK cs K m) (h1:1 <= p) (h2:p <= m):nxtW cs (wP p) = cs.getD (289 + 3 * p) 0 := by
 have := h.mle;unfold nxtW;rw [Y0 h1 (by omega),Zk h1 (by omega) (by omega) (by omega),show (288 + 3 * (p:Int) + 1).toNat = 289 + 3 * p by omega]
theorem ROK.valw {cs:List Int} {K:Nat -> Int} {m p:Nat} (h:ROK cs K m) (h1:1 <= p) (h2:p <= m):valW cs (wP p) = cs.getD (290 + 3 * p) 0 := by
 have := h.mle;unfold valW;rw [Y0 h1 (by omega),Zk h1 (by omega) (by omega) (by omega),show (288 + 3 * (p:Int) + 2).toNat = 290 + 3 * p by omega]
def AtW (cs:List Int) (key w:Int) (n:Nat):Prop := ∃ K m p,ROK cs K m /\ p <= m /\ w = wP p /\ (p = 0 \/ K p = key) /\ n + p <= 100 /\ 0 <= key /\ key < 24
def OkRd (cs:List Int) (key:Int):Prop := (∃ K m,ROK cs K m) /\ 0 <= key /\ key < 24
theorem QkE (cs:List Int) (key:Int):∀ (n:Nat) (w:Int),(rdW cs key n w).length <= n
 | 0,_ => Nat.le_refl _
 | n + 1,w => by
  unfold rdW
  split
  · simp
  · have := QkE cs key n (wh (nxtW cs w));simp;omega
theorem OkRd.start {cs:List Int} {key:Int} (h:OkRd cs key):AtW cs key (wh (cs.getD (21 + key).toNat 0)) 0 /\ cs.length = 771 := by
 obtain ⟨⟨K,m,hR⟩,k0,k1⟩ := h;obtain ⟨p,h1,h2,h3⟩ := hR.hd key.toNat (by omega)
 have hm := hR.mle;refine ⟨⟨K,m,p,hR,h1,?_,?_,by omega,k0,k1⟩,hR.len⟩
 · rw [show (21 + key).toNat = 21 + key.toNat by omega,h2,QdV (by omega)]
 · rcases h3 with h | h
   · exact .inl h
   · exact .inr (by rw [h];omega)
theorem AtW.next {cs:List Int} {key w:Int} {n:Nat} (h:AtW cs key w n) (hw:w ≠ 0):AtW cs key (wh (nxtW cs w)) (n + 1) /\ 0 < w /\ 291 <= cellO (bare w) 1 true /\ cellO (bare w) 1 true < 771 /\ 0 <= cellO (bare w) 2 true /\ cellO (bare w) 2 true < 771 /\ n < 100 := by
 obtain ⟨K,m,p,hR,h1,rfl,h3,h4,k0,k1⟩ := h;have hm := hR.mle
 have hp:1 <= p := by
  rcases Nat.eq_zero_or_pos p with e | e
  · subst e;exact absurd wP_0 hw
  · exact e
 obtain ⟨q,q1,q2,q3⟩ := hR.nx p hp h1;have hk:K p = key := h3.resolve_left (by omega)
 rw [hR.nxt hp h1,q2,QdV (by omega),Y0 hp (by omega),Zk hp (by omega) (by omega) (by omega),Zk hp (by omega) (by omega) (by omega)]
 refine ⟨⟨K,m,q,hR,by omega,rfl,?_,by omega,k0,k1⟩,QgX hp,by omega,by omega,by omega,by omega,by omega⟩
 rcases q3 with h | h
 · exact .inl h
 · exact .inr (by rw [h,hk])
theorem QcT {α β:Type} {eq:α -> α -> Bool} {k:α} {b:β}:∀ {l:List (α × β)},mget eq k l = some b -> ∃ a,(a,b) ∈ l /\ eq k a = true
 | [],h => by simp [mget] at h
 | (a,c) :: l,h => by
  unfold mget at h;cases hc:eq k a with
  | true => rw [hc] at h;simp only [cond_true,Option.some.injEq] at h;subst h;exact ⟨a,by simp,hc⟩
  | false =>
   rw [hc] at h;obtain ⟨a',h1,h2⟩ := QcT h;exact ⟨a',by simp [h1],h2⟩
theorem mput_memC {α β:Type} {eq:α -> α -> Bool} {k:α} {v:β} {x:α × β}:∀ {l:List (α × β)},x ∈ mput eq k v l -> x = (k,v) \/ x ∈ l
 | [],h => by simp [mput] at h;exact .inl h
 | (a,c) :: l,h => by
  unfold mput at h;cases hc:eq k a with
  | true =>
   rw [hc] at h;simp only [cond_true,List.mem_cons] at h;exact h.imp id fun h => by simp [h]
  | false =>
   rw [hc] at h;simp only [cond_false,List.mem_cons] at h;rcases h with h | h
   · exact .inr (by simp [h])
   · exact (mput_memC h).imp id fun h => by simp [h]
def eqI (a b:Int):Bool := a == b
def rgW (cs:List Int):Nat -> Int -> Int -> List (Int × Bool) -> List (Int × Bool)
 | 0,_,_,seen => seen
 | n + 1,w,was,seen => if w = 0 then seen else rgW cs n (nxtW cs w) (plc w) (mput eqI (Zq (bare w) % 256) true seen)
def rgK (cs:List Int):Nat -> Nat -> List (Int × Bool) -> List (Int × Bool)
 | 0,_,seen => seen
 | n + 1,k,seen => rgK cs n (k + 1) (rgW cs 101 (cs.getD (21 + k) 0) 1048576 seen)
def Qby (K:Nat -> Int) (m:Nat) (k was:Int) (seen:List (Int × Bool)):Prop := ∀ x ∈ seen,∃ p:Nat,1 <= p /\ p <= m /\ x.1 = (p:Int) - 1 /\ (K p < k \/ K p = k /\ was <= p)
theorem QkF {p:Nat} (h1:1 <= p) (h2:p <= 100):Zq (bare (wP p)) % 256 = (p:Int) - 1 := by
 rw [Y0 h1 h2,Q3 (by omega)];omega
theorem Qby.step {K:Nat -> Int} {m p:Nat} {k was:Int} {seen:List (Int × Bool)} (h:Qby K m k was seen) (h1:1 <= p) (h2:p <= m) (hm:m <= 100) (hk:K p = k) (hw:(p:Int) < was):Qby K m k p (mput eqI (Zq (bare (wP p)) % 256) true seen) := by
 intro x hx;rcases mput_memC hx with rfl | hx
 · exact ⟨p,h1,h2,QkF h1 (by omega),.inr ⟨hk,Int.le_refl _⟩⟩
 · obtain ⟨q,q1,q2,q3,q4⟩ := h x hx;exact ⟨q,q1,q2,q3,q4.imp id fun h => ⟨h.1,by omega⟩⟩
theorem Qby.not {K:Nat -> Int} {m p:Nat} {k was:Int} {seen:List (Int × Bool)} (h:Qby K m k was seen) (h1:1 <= p) (h2:p <= m) (hm:m <= 100) (hk:K p = k) (hw:(p:Int) < was):mget eqI (Zq (bare (wP p)) % 256) seen = none := by
 cases hg:mget eqI (Zq (bare (wP p)) % 256) seen with
 | none => rfl
 | some b =>
  obtain ⟨a,ha,he⟩ := QcT hg;obtain ⟨q,q1,q2,q3,q4⟩ := h _ ha;have he:Zq (bare (wP p)) % 256 = a := by simpa [eqI] using he
  rw [QkF h1 (by omega)] at he
  dsimp only at q3
  have:q = p := by omega
  subst this;rcases q4 with h | h <;> omega
theorem Qfq {cs:List Int} {K:Nat -> Int} {m:Nat} (hR:ROK cs K m):∀ (p n:Nat) (was:Int) (seen:List (Int × Bool)),p <= m -> p < n -> rgW cs n (wP p) was seen = rgW cs (p + 1) (wP p) was seen := by
 intro p
 induction p using Nat.strongRecOn with
 | ind p ih =>
  intro n was seen h1 h2;obtain ⟨n,rfl⟩:∃ n',n = n' + 1 := ⟨n - 1,by omega⟩
  unfold rgW
  by_cases hp:p = 0
  · subst hp;rw [if_pos wP_0,if_pos wP_0]
  · have hne:¬ wP p = 0 := fun h => hp (Qfp h);rw [if_neg hne,if_neg hne];obtain ⟨q,q1,q2,q3⟩ := hR.nx p (by omega) h1
    rw [hR.nxt (by omega) h1,q2,ih q q1 n _ _ (by omega) (by omega),ih q q1 p _ _ (by omega) q1]
theorem Qm8 {cs:List Int} {K:Nat -> Int} {m p:Nat} (hR:ROK cs K m) (h1:1 <= p) (h2:p <= m) (was:Int) (seen:List (Int × Bool)):rgW cs 101 (wP p) was seen = rgW cs 101 (nxtW cs (wP p)) (plc (wP p)) (mput eqI (Zq (bare (wP p)) % 256) true seen) := by
 have hm := hR.mle;obtain ⟨q,q1,q2,q3⟩ := hR.nx p h1 h2
 conv => lhs;unfold rgW
 rw [if_neg (fun h => by have := Qfp h;omega),hR.nxt h1 h2,q2,Qfq hR q 100 _ _ (by omega) (by omega),Qfq hR q 101 _ _ (by omega) (by omega)]
theorem Qfr {cs:List Int} {K:Nat -> Int} {m:Nat} (hR:ROK cs K m) {k:Int}:∀ (n p:Nat) (was:Int) (seen:List (Int × Bool)),p <= m -> (p = 0 \/ K p = k) -> (p:Int) < was -> Qby K m k was seen -> Qby K m (k + 1) 1048576 (rgW cs n (wP p) was seen)
 | 0,p,was,seen,_,_,_,h => fun x hx => by
  obtain ⟨q,q1,q2,q3,q4⟩ := h x hx;exact ⟨q,q1,q2,q3,.inl (by rcases q4 with h | h <;> omega)⟩
 | n + 1,p,was,seen,h1,h2,h3,h => by
  unfold rgW
  by_cases hp:p = 0
  · subst hp;rw [if_pos wP_0]
    exact fun x hx => by
     obtain ⟨q,q1,q2,q3,q4⟩ := h x hx;exact ⟨q,q1,q2,q3,.inl (by rcases q4 with h | h <;> omega)⟩
  · rw [if_neg (fun h => hp (Qfp h))];have hm := hR.mle;have hk := h2.resolve_left hp;obtain ⟨q,q1,q2,q3⟩ := hR.nx p (by omega) h1
    rw [hR.nxt (by omega) h1,q2]
    rw [Y4 (by omega)]
    exact Qfr hR n q p _ (by omega) (q3.imp id fun h => by rw [h,hk]) (by omega) (h.step (by omega) h1 hm hk h3)
def RgI (cs:List Int) (k was w:Int) (seen:List (Int × Bool)):Prop := ∃ K m p,ROK cs K m /\ p <= m /\ w = wP p /\ (p = 0 \/ K p = k) /\ (p:Int) < was /\ was <= 1048576 /\ Qby K m k was seen
def RgO (cs:List Int) (k:Nat) (seen:List (Int × Bool)):Prop := ∃ K m,ROK cs K m /\ Qby K m k 1048576 seen
def OkRt (cs:List Int):Prop := ∃ K m,ROK cs K m
open Go.Proofs
set_option maxRecDepth 100000
def rfC:Code -> Option (Code × Code)
 | .rangeFunc _ _ a b => some (a,b)
 | .seq a b => (match rfC a with | some x => some x | none => rfC b)
 | .cond _ a b => (match rfC a with | some x => some x | none => rfC b)
 | .block _ b => rfC b
 | .loop b => rfC b
 | .scope b => rfC b
 | _ => none
noncomputable def rfF (f:Nat):Code × Code := match p0.fn f with
 | some fn => (match fn.body with
  | some b => (match rfC b with | some x => x | none => (.skip,.skip))
  | none => (.skip,.skip))
 | none => (.skip,.skip)
noncomputable def redA:Code := (rfF 11).1
noncomputable def redB:Code := (rfF 11).2
structure QkG where
 key:Int
 cs:List Int
 l:List Item
 w:Int
 n:Nat
noncomputable def QkH (key:Int) (cs:List Int) (l:List Item) (w:Int) (n:Nat):Env RC := [(0,.yl 27 [4,3,2] [10] (redA) (redB) (.acons (.ptr 4 []) (.acons (.ptr 3 []) (.acons (.ptr 2 []) .anil)))),(1,.ptr 1 []),(2,.ptr 0 []),(5,.int .i64 w),(6,.int .i64 (n:Int))]
def JQ (key:Int) (cs:List Int) (l:List Item) (w:Int) (n:Nat):List (Obj RC) := [.var 35 (.vs 6 (cs.length)),.var 3 (.int .i64 key),.var 35 (.vs 6 (cs.length)),.var 3 (.int .i64 ((key))),.var 33 (.vs 5 (l.length)),.vec .item true l,.vec .int true cs]
noncomputable def QnY (key:Int) (cs:List Int) (l:List Item) (w:Int) (n:Nat) := rndO s18 uk_4 53 4 60 7 [0,1,2,5,6] [] [.slot 2 0,.slot 1 0,.slot 0 2,.slot 0 1,.slot 0 0,.path 4 [],.path 0 []] (QkH key cs l w n) (JQ key cs l w n)
theorem QpV (key:Int) (cs:List Int) (l:List Item) (w:Int) (n:Nat):QnY key cs l w n = (let Z0:Int := cellO (bare w) (1:Int) true;let Z1:Nat := List.length cs;let Z2:Option (Obj RC) := some (Obj.var 35 (D.vs 6 Z1));let Z3:Option (Obj RC) := some (Obj.var 3 (D.int .i64 key));let Z4:Nat := List.length l;let Z5:List (Option (Obj RC)) := [Z2,Z3,Z2,Z3,some (Obj.var 33 (D.vs 5 Z4)),some (Obj.vec RTy.item true l),some (Obj.vec RTy.int true cs)];let Z6:Bool := Nat.beq Z1 Z1;let Z7:Int := cellO (bare w) (2:Int) true;let Z8:List Item := [Item.mk key (plc w) (bits .i64 (fun (x:Nat) (u v:BitVec x) => u &&& v) (List.getD cs Z7.toNat (0:Int)) (255:Int))];let Z9:Int := List.getD cs Z0.toNat (0:Int);bif decide ((↑n:Int) < (160:Int)) then bif w != (0:Int) then bif decide (Z0 < (0:Int)) then some ((X.ret,[]),Z5) else bif Z6 && decide ((0:Int) <= Z7 /\ Z7 < (↑Z1:Int)) then bif Z6 then bif Nat.beq Z4 Z4 && Qo (Z4 + List.length Z8) (24:Nat) then bif Z6 && decide ((0:Int) <= Z0 /\ Z0 < (↑Z1:Int)) then bif Z6 then some ((X.normal,[(0,D.yl (27:Nat) [(4:Nat),(3:Nat),(2:Nat)] [(10:Nat)] redA redB (D.acons (D.ptr 4 []) (.acons (D.ptr 3 []) (.acons (D.ptr 2 []) .anil)))),(1,D.ptr 1 []),(2,D.ptr 0 []),(5,D.int .i64 (if Z9 < (0:Int) then (0:Int) else Z9)),(6,D.int .i64 (IntKind.wrap .i64 ((↑n:Int) + (1:Int))))]),[Z2,Z3,Z2,Z3,some (Obj.var 33 (D.vs 5 (Z4 + List.length Z8))),some (Obj.vec RTy.item true (l ++ Z8)),some (Obj.vec RTy.int true cs)]) else none else none else none else none else none else some ((X.exit (0:Nat),[]),Z5) else some ((X.exit (0:Nat),[]),Z5)) := by kernel_rfl
noncomputable def J3 (key:Int) (cs:List Int) (l:List Item) (w:Int) (n:Nat):RT RC := .leaf (.exit 0) [] (JQ key cs (l ++ rdW cs key (160 - n) w) w n)
def Jj (key:Int) (cs:List Int) (l:List Item) (w:Int) (n:Nat):Prop := AtW cs key w n /\ l.length <= n
noncomputable def VL:QU RC QkG where
 k := 7
 canon q := QkH q.key q.cs q.l q.w q.n
 objs q := JQ q.key q.cs q.l q.w q.n
 fin q := J3 q.key q.cs q.l q.w q.n
 Inv q := Jj q.key q.cs q.l q.w q.n
 μ q := 160 - q.n
theorem QgY (key:Int) (cs:List Int) (l:List Item) (w:Int) (n:Nat) (hI:Jj key cs l w n):Leaf (QnY key cs l w n) (LedR VL ⟨key,cs,l,w,n⟩) := by
 (rw [QpV];conv => zeta)
 unfold Jj at hI;obtain ⟨hA,hl⟩ := hI;have hcs:cs.length = 771 := by obtain ⟨K,m,p,hR,_⟩ := hA;exact hR.len
 have hb:∀ n:Nat,Nat.beq n n = true := fun n => by simp
 have hn:n <= 100 := by obtain ⟨K,m,p,_,_,_,_,h,_⟩ := hA;omega
 have dn:decide ((n:Int) < 160) = true := decide_eq_true (by omega)
 rw [dn,cond_true]
 by_cases hw:w = 0
 · have ew:(w != 0) = false := by simp [hw]
   rw [ew,cond_false]
   have hz:l ++ rdW cs key (160 - n) w = l := by
    rw [show 160 - n = (159 - n) + 1 by omega];unfold rdW;rw [if_pos hw,List.append_nil]
   exact QC (JQ key cs l w n) (by simp only [VL,J3,hz,RT.val]) rfl
 · have ew:(w != 0) = true := by simp [hw]
   rw [ew,cond_true];obtain ⟨hA',w0,a0,a1,b0,b1,hn'⟩ := hA.next hw;have d1:decide (cellO (bare w) 1 true < 0) = false := decide_eq_false (by omega)
   have d2:decide (0 <= cellO (bare w) 2 true /\ cellO (bare w) 2 true < ((771:Nat):Int)) = true := decide_eq_true (by omega)
   have d3:decide (0 <= cellO (bare w) 1 true /\ cellO (bare w) 1 true < ((771:Nat):Int)) = true := decide_eq_true (by omega)
   have w1:IntKind.i64.wrap ((n:Int) + 1) = ((n + 1:Nat):Int) := by rw [Qr (by omega) (by omega)];simp
   have e1:∀ x:Item,l.length + ([x]:List Item).length = (l ++ [x]).length := fun x => by simp
   have s1:∀ x:Item,Qo (l ++ [x]).length 24 = true := fun x => by simp [Qo];omega
   rw [hcs];simp only [d1,d2,d3,w1,Qbl,e1,s1,hb,Bool.and_self,cond_true,cond_false]
   have hst:l ++ rdW cs key (160 - n) w = (l ++ [⟨key,plc w,valW cs w % 256⟩]) ++ rdW cs key (160 - (n + 1)) (wh (nxtW cs w)) := by
    rw [show 160 - n = (160 - (n + 1)) + 1 by omega]
    conv => lhs;unfold rdW
    rw [if_neg hw];simp
   have hO:∀ l' w' n',JQ key cs l' w' n' = [.var 35 (.vs 6 771),.var 3 (.int .i64 key),.var 35 (.vs 6 771),.var 3 (.int .i64 key),.var 33 (.vs 5 l'.length),.vec .item true l',.vec .int true cs] := fun l' w' n' => by unfold JQ;rw [hcs]
   exact QP (S := VL) (s := ⟨key,cs,l,w,n⟩) ⟨key,cs,l ++ [⟨key,plc w,valW cs w % 256⟩],wh (nxtW cs w),n + 1⟩ ⟨hA',by simp;omega⟩ (by simp only [VL];omega) (by simp only [VL,J3];rw [hst];rfl) rfl (by simp only [VL,hO];rfl)
noncomputable def QkI (env:Env RC) (os:List (Obj RC)):Option (Bool × QkG) := match env,os with
 | [(0,.yl 27 [4,3,2] [10] x0 x1 (.acons (.ptr 4 []) (.acons (.ptr 3 []) (.acons (.ptr 2 []) .anil)))),(1,.ptr 1 []),(2,.ptr 0 []),(5,.int .i64 w),(6,.int .i64 x2)],[.var 35 (.vs 6 x3),.var 3 (.int .i64 key),.var 35 (.vs 6 x4),.var 3 (.int .i64 x5),.var 33 (.vs 5 x6),.vec .item true l,.vec .int true cs] => QN (true) (cdec (x0 = redA) && cdec (x1 = redB) && decide (x2 = 0) && decide (x3 = cs.length) && decide (x4 = cs.length) && decide (x5 = (key)) && decide (x6 = l.length) && cdec (AtW cs key w 0) && l.isEmpty,⟨key,cs,l,w,0⟩)
 | _,_ => none
noncomputable def ul_1 := uk_4.addLoop 53 4 (sumR s18 [.slot 2 0,.slot 1 0,.slot 0 2,.slot 0 1,.slot 0 0,.path 4 [],.path 0 []] [0,1,2,5,6] VL QkI)
theorem QkJ:Qg Tryz.prog s18 ul_1 := by
 refine Qkf.addRoundsR Qe (by kernel_rfl) VL 60 [0,1,2,5,6] [] [.slot 2 0,.slot 1 0,.slot 0 2,.slot 0 1,.slot 0 0,.path 4 [],.path 0 []] [0,1,2,5,6] QkI (fun q hI => ?_) ?_
 · obtain ⟨key,cs,l,w,n⟩ := q;refine ⟨?_,?_,QgY key cs l w n hI⟩
   · simp_all [Ql,VL,QkH,JQ,Jj,D.refs,Obj.refs,rEnc]
   · simp_all [VL,J3,JQ,Jj,RT.refsOK,Ql,D.refs,Obj.refs,rEnc]
 · intro env os b q hd_ hb;unfold QkI at hd_
   split at hd_
   · obtain ⟨hs,hd_⟩ := Qi hd_;cases hd_;simp only [Bool.and_eq_true,decide_eq_true_eq] at hb;obtain ⟨⟨⟨⟨⟨⟨⟨⟨h1,h2⟩,rfl⟩,rfl⟩,rfl⟩,rfl⟩,rfl⟩,hA⟩,hl⟩ := hb;have h1 := QI.1 h1;have h2 := QI.1 h2;subst h1;subst h2;have hl := List.isEmpty_iff.1 hl;subst hl;exact ⟨⟨QI.1 hA,Nat.zero_le _⟩,rfl,rfl⟩
   · cases hd_
structure QcU where
 cs:List Int
 key:Int
def Qbz (cs:List Int) (key:Int):List (D RC) := [.vs 0 (cs.length),.int .i64 key]
def J4 (cs:List Int) (key:Int):List (Obj RC) := [.vec .int true cs]
noncomputable def Qfs (cs:List Int) (key:Int) := fnO s18 ul_1 11 60 1 (Qbz cs key) (J4 cs key)
theorem QkK (cs : List Int) (key : Int) : Qfs cs key = (let Z0 : Nat := List.length cs;let Z1 : Option (D RC × List (Option (Obj RC))) := some (D.sl RTy.item true [],[some (Obj.vec RTy.int true cs)]);let Z2 : Int := lRow (21 : Int) key (24 : Int);let Z3 : Option (Nat × Bool) := none;let Z4 : Op := Op.move (Operand.tmp (5 : Nat));let Z5 : Edge := Edge.mk (1 : Nat) Ground.data;let Z6 : Edge := Edge.mk (2 : Nat) Ground.data;let Z7 : Edge := Edge.mk (0 : Nat) Ground.data;let Z8 : Edge := Edge.mk (3 : Nat) Ground.data;let Z9 : Array Edge := #[Edge.mk (4 : Nat) Ground.data];let Z10 : Edge := Edge.mk (5 : Nat) Ground.data;let Z11 : Edge := Edge.mk (3 : Nat) Ground.chain;let Z12 : Edge := Edge.mk (0 : Nat) Ground.phase;let Z13 : Edge := Edge.mk (1 : Nat) Ground.phase;let Z14 : Edge := Edge.mk (2 : Nat) Ground.phase;let Z15 : Edge := Edge.mk (3 : Nat) Ground.phase;let Z16 : Edge := Edge.mk (4 : Nat) Ground.phase;let Z17 : Edge := Edge.mk (5 : Nat) Ground.phase;let Z18 : Int := List.getD cs Z2.toNat (0 : Int);let Z19 : Int := if Z18 < (0 : Int) then (0 : Int) else Z18;let Z20 : List Item := [] ++ rdW cs key (160 : Nat) Z19;bif Qd Z0 then bif (↑Z0 : Int) != (771 : Int) then Z1 else bif decide (Z2 < (0 : Int)) then Z1 else bif Nat.beq Z0 Z0 && decide ((0 : Int) <= Z2 /\ Z2 < (↑Z0 : Int)) then bif Nat.beq Z0 Z0 then bif cdec (Code.region (2 : Nat) #[Oper.mk (some (5 : Nat)) (Op.assign (Operand.tmp (10 : Nat))) (3 : Nat) "chain.go:174" #[] Z3] false = redA) && cdec (Code.block (1 : Nat) (Code.seq (Code.region (3 : Nat) #[Oper.mk (some (11 : Nat)) (Op.load (35 : Nat) (Operand.tmp (2 : Nat))) (35 : Nat) "chain.go:175" #[] Z3,Oper.mk (some (12 : Nat)) Z4 (3 : Nat) "chain.go:175" #[] Z3,Oper.mk (some (13 : Nat)) (Op.call (Call.mk (Callee.value (Operand.func (30 : Nat))) #[Operand.tmp (12 : Nat)] #[(3 : Nat)])) (3 : Nat) "chain.go:175" #[Z5] Z3,Oper.mk (some (14 : Nat)) (Op.call (Call.mk (Callee.value (Operand.func (33 : Nat))) #[Operand.tmp (13 : Nat),Operand.const (Value.int .i64 (2 : Int)),Operand.const (Value.bool true)] #[(3 : Nat),(3 : Nat),(4 : Nat)])) (3 : Nat) "chain.go:175" #[Z6,Edge.mk (2 : Nat) Ground.chain] Z3,Oper.mk (some (15 : Nat)) (Op.indexAddr (35 : Nat) (Operand.tmp (11 : Nat)) (Operand.tmp (14 : Nat))) (0 : Nat) "chain.go:175" #[Z7,Z8] Z3,Oper.mk (some (16 : Nat)) (Op.load (3 : Nat) (Operand.tmp (15 : Nat))) (3 : Nat) "chain.go:175" Z9 Z3,Oper.mk (some (6 : Nat)) (Op.assign (Operand.tmp (16 : Nat))) (3 : Nat) "chain.go:175" #[Z10,Z11,Z12,Z13,Z14,Z15,Z16,Z17] Z3] true) (Code.region (4 : Nat) #[Oper.mk (some (17 : Nat)) (Op.load (33 : Nat) (Operand.tmp (4 : Nat))) (33 : Nat) "chain.go:176" #[] Z3,Oper.mk (some (18 : Nat)) (Op.load (3 : Nat) (Operand.tmp (3 : Nat))) (3 : Nat) "chain.go:176" #[] Z3,Oper.mk (some (19 : Nat)) Z4 (3 : Nat) "chain.go:176" #[] Z3,Oper.mk (some (20 : Nat)) (Op.call (Call.mk (Callee.value (Operand.func (29 : Nat))) #[Operand.tmp (19 : Nat)] #[(3 : Nat)])) (3 : Nat) "chain.go:176" #[Z6] Z3,Oper.mk (some (21 : Nat)) (Op.move (Operand.tmp (6 : Nat))) (3 : Nat) "chain.go:176" #[] Z3,Oper.mk (some (22 : Nat)) (Op.binOp BinOp.and (3 : Nat) (Operand.tmp (21 : Nat)) (Operand.const (Value.int .i64 (255 : Int))) (3 : Nat)) (3 : Nat) "chain.go:176" Z9 Z3,Oper.mk (some (23 : Nat)) (Op.build (39 : Nat) #[(0,Operand.tmp (18 : Nat)),(1,Operand.tmp (20 : Nat)),(2,Operand.tmp (22 : Nat))]) (39 : Nat) "chain.go:176" #[Z5,Z8,Z10] Z3,Oper.mk (some (24 : Nat)) (Op.buildSlice (33 : Nat) (1 : Nat) #[(0,Operand.tmp (23 : Nat))]) (33 : Nat) "chain.go:176" #[Edge.mk (6 : Nat) Ground.data] Z3,Oper.mk (some (25 : Nat)) (Op.call (Call.mk (Callee.builtin Builtin.append) #[Operand.tmp (17 : Nat),Operand.tmp (24 : Nat)] #[(33 : Nat),(33 : Nat)])) (33 : Nat) "chain.go:176" #[Z7,Edge.mk (7 : Nat) Ground.data,Z11] Z3,Oper.mk none (Op.store (33 : Nat) (Operand.tmp (4 : Nat)) (Operand.tmp (25 : Nat))) (0 : Nat) "chain.go:176" #[Edge.mk (8 : Nat) Ground.data,Edge.mk (8 : Nat) Ground.chain,Z12,Z13,Z14,Z15,Z16,Z17,Edge.mk (6 : Nat) Ground.phase,Edge.mk (7 : Nat) Ground.phase,Edge.mk (8 : Nat) Ground.phase] Z3] true)) = redB) && true && decide (Z0 = Z0) && decide (Z0 = Z0) && decide (key = key) && true && cdec (AtW cs key Z19 (0 : Nat)) && true then bif Nat.beq Z20.length Z20.length then some (D.sl RTy.item false Z20,[some (Obj.vec RTy.int true cs)]) else none else none else none else none else none) := by kernel_rfl
noncomputable def Qay (cs:List Int) (key:Int):RT RC := .leaf .ret [(0,.sl (C := RC) .item false (rdW cs key 160 (wh (cs.getD (21 + key).toNat 0))))] [.vec .int true cs]
def JE (cs:List Int) (key:Int):Prop := OkRd cs key
noncomputable def Jk:FunR RC QcU where
 k := 1
 args q := Qbz q.cs q.key
 objs q := J4 q.cs q.key
 fin q := Qay q.cs q.key
 Inv q := JE q.cs q.key
theorem QkL (cs:List Int) (key:Int) (hI:JE cs key):Leaf (Qfs cs key) (LedF Jk ⟨cs,key⟩) := by
 (rw [QkK];conv => zeta)
 unfold JE at hI;have e1:∀ X:Code,X = redA -> cdec (X = redA) = true := fun X hX => QG hX;have e2:∀ X:Code,X = redB -> cdec (X = redB) = true := fun X hX => QG hX;rw [e1,e2];rotate_left
 · rfl
 · rfl
 obtain ⟨hA,hcs⟩ := hI.start;obtain ⟨_,k0,k1⟩ := hI;have lk:Qd cs.length = true := Qq (by omega)
 have c2:((cs.length:Int) != 771) = false := QhX (by omega)
 have lr:lRow 21 key 24 = 21 + key := by unfold lRow;rw [if_pos ⟨k0,k1⟩]
 have c3:decide (21 + key < 0) = false := decide_eq_false (by omega)
 have c4:decide (0 <= 21 + key /\ 21 + key < (cs.length:Int)) = true := decide_eq_true (by omega)
 have hb:∀ n:Nat,Nat.beq n n = true := fun n => by simp
 have hw:(if cs.getD (21 + key).toNat 0 < 0 then 0 else cs.getD (21 + key).toNat 0) = wh (cs.getD (21 + key).toNat 0) := rfl
 have k1:cdec (AtW cs key (wh (cs.getD (21 + key).toNat 0)) 0) = true := QG hA;simp only [lk,c2,lr,c3,c4,hb,hw,k1,decide_true,Bool.and_self,cond_true,cond_false,List.nil_append];exact Qco [.vec .int true cs] rfl rfl
noncomputable def QbA (env:Env RC) (os:List (Obj RC)):Option (Bool × QcU) := match env,os with
 | [(0,.vs 0 x0),(1,.int .i64 key)],[.vec .int true cs] => QN (true) (decide (x0 = cs.length) && cdec (OkRd cs key),⟨cs,key⟩)
 | _,_ => none
noncomputable def ul_2 := ul_1.addObj 11 (sumF s18 [.slot 0 0] 2 Jk QbA)
theorem QkM:Qg Tryz.prog s18 ul_2 := by
 refine QkJ.addFun Qe Jk 60 2 [.slot 0 0] QbA (fun q hI => ?_) ?_
 · obtain ⟨cs,key⟩ := q;refine ⟨?_,?_,rfl,QkL cs key hI⟩
   · simp [Ql,Jk,Qbz,J4,eargs,D.refs,Obj.refs]
   · simp [Jk,Qay,J4,RT.refsOK,Ql,D.refs,Obj.refs]
 · intro env os b q hd_ hb;unfold QbA at hd_
   split at hd_
   · obtain ⟨hs,hd_⟩ := Qi hd_;cases hd_
     try simp only [Bool.and_eq_true,decide_eq_true_eq] at hb
     obtain ⟨rfl,hb⟩ := hb;exact ⟨QI.1 hb,rfl,rfl⟩
   · cases hd_
structure QcV where
 c:Bool
 l:List Item
 s:Int
 w:Int
 i:Nat
noncomputable def QbB (c:Bool) (l:List Item) (s:Int) (w:Int) (i:Nat):Env RC := [(0,.sl (C := RC) .item c l),(1,.int .i64 s),(2,.int .i64 w),(6,.bool false),(7,.int .i64 (i:Int))]
def J5 (c:Bool) (l:List Item) (s:Int) (w:Int) (i:Nat):List (Obj RC) := []
noncomputable def Qft (c:Bool) (l:List Item) (s:Int) (w:Int) (i:Nat) := rndO s18 ul_2 12 2 40 0 [0,1,2,6,7] [6] [] (QbB c l s w i) (J5 c l s w i)
theorem QkN (c:Bool) (l:List Item) (s:Int) (w:Int) (i:Nat):Qft c l s w i = (let Z0:Int := (↑i:Int);let Z1:Bool := decide ((0:Int) <= Z0 /\ Z0 < (↑l.length:Int));let Z2:Int := Item.place (List.getD l Z0.toNat (Item.mk (0:Int) (0:Int) (0:Int)));bif Qd l.length then bif decide (Z0 < (↑l.length:Int)) then bif Z1 then bif decide (Z2 <= s) then bif Z1 then some ((X.ret,[(6,D.bool (plc w == Z2))]),[]) else none else some ((X.normal,[(0,D.sl RTy.item c l),(1,D.int .i64 s),(2,D.int .i64 w),(6,D.bool false),(7,D.int .i64 (IntKind.wrap .i64 (Z0 + (1:Int))))]),[]) else none else some ((X.exit (0:Nat),[(6,D.bool false)]),[]) else none) := by kernel_rfl
noncomputable def YF (c:Bool) (l:List Item) (s:Int) (w:Int) (i:Nat):RT RC := .br ((l.drop i).any fun x => decide (x.place <= s)) (.leaf .ret [(6,.bool (plc w == (((l.drop i).find? fun x => decide (x.place <= s)).getD ⟨0,0,0⟩).place))] []) (.leaf (.exit 0) [(6,.bool false)] [])
def YG (c:Bool) (l:List Item) (s:Int) (w:Int) (i:Nat):Prop := i <= l.length /\ l.length <= 9223372036854775807
noncomputable def ZU:QU RC QcV where
 k := 0
 canon q := QbB q.c q.l q.s q.w q.i
 objs q := J5 q.c q.l q.s q.w q.i
 fin q := YF q.c q.l q.s q.w q.i
 Inv q := YG q.c q.l q.s q.w q.i
 μ q := q.l.length - q.i
theorem QcW (c:Bool) (l:List Item) (s:Int) (w:Int) (i:Nat) (hI:YG c l s w i):Leaf (Qft c l s w i) (LedR ZU ⟨c,l,s,w,i⟩) := by
 (rw [QkN];conv => zeta)
 unfold YG at hI;obtain ⟨h1,h2⟩ := hI;have hlk0:Qd l.length = true := Qq h2
 by_cases hlt:i < l.length
 · have w_succ:IntKind.i64.wrap ((i:Int) + 1) = ((i + 1:Nat):Int) := by rw [Qr (by omega) (by omega)];simp
   have d_lt:decide ((i:Int) < l.length) = true := by simp;omega
   have d_in:decide (0 <= (i:Int) /\ (i:Int) < l.length) = true := by simp;omega
   have t_nat:((i:Int)).toNat = i := by simp
   simp only [w_succ,d_lt,d_in,t_nat,cond_true];have e:l.getD i (⟨0,0,0⟩:Item) = l[i] := by simp [hlt]
   have hd:l.drop i = l[i] :: l.drop (i + 1) := List.drop_eq_getElem_cons hlt;rw [e];simp only [hlk0,cond_true];cases c1:decide (l[i].place <= s)
   · simp only [cond_false];exact QP ⟨c,l,s,w,i + 1⟩ ⟨hlt,h2⟩ (by simp only [ZU];omega) (by simp only [ZU,YF,hd,List.any_cons,List.find?_cons,c1,Bool.false_or]) rfl rfl
   · simp only [cond_true];exact Zd [] (by simp only [ZU,YF,hd,List.any_cons,List.find?_cons,c1,Bool.true_or,RT.val,cond_true];rfl) rfl
 · have hi:i = l.length := by omega
   have c1:decide ((i:Int) < l.length) = false := by simp;omega
   rw [hlk0,c1];exact QC [] (by simp [ZU,YF,hi,RT.val]) rfl
noncomputable def QbC (env:Env RC) (os:List (Obj RC)):Option (Bool × QcV) := match env,os with
 | [(0,.sl .item c l),(1,.int .i64 s),(2,.int .i64 w),(6,.bool false),(7,.int .i64 x0)],[] => QN (true) (decide (x0 = 0) && decide (l.length <= 9223372036854775807),⟨c,l,s,w,0⟩)
 | _,_ => none
noncomputable def ul_3 := ul_2.addLoop 12 2 (sumR s18 [] [0,1,2,6,7] ZU QbC)
theorem QkO:Qg Tryz.prog s18 ul_3 := by
 refine QkM.addRoundsR Qe (by kernel_rfl) ZU 40 [0,1,2,6,7] [6] [] [0,1,2,6,7] QbC (fun q hI => ?_) ?_
 · obtain ⟨c,l,s,w,i⟩ := q;refine ⟨?_,?_,QcW c l s w i hI⟩
   · simp_all [Ql,ZU,QbB,J5,YG,D.refs,Obj.refs,rEnc]
   · simp_all [ZU,YF,J5,YG,RT.refsOK,Ql,D.refs,Obj.refs,rEnc]
 · intro env os b q hd_ hb;unfold QbC at hd_
   split at hd_
   · obtain ⟨hs,hd_⟩ := Qi hd_;cases hd_;simp only [Bool.and_eq_true,decide_eq_true_eq] at hb;obtain ⟨rfl,hl⟩ := hb;exact ⟨⟨Nat.zero_le _,hl⟩,rfl,rfl⟩
   · cases hd_
noncomputable def JF (c:Bool) (l:List Item) (s:Int) (w:Int):Option (Bool × D RC) := some (Qd l.length,.bool (match l.find? (fun x => decide (x.place <= s)) with | some x => plc w == x.place | none => w == 0))
noncomputable def KS:List (D RC) -> Option (Bool × D RC)
 | [.sl .item c l,.int .i64 s,.int .i64 w] => JF c l s w
 | _ => none
noncomputable def Qaz (c:Bool) (l:List Item) (s:Int) (w:Int) := evF s18 ul_3 40 12 [.sl (C := RC) .item c l,.int .i64 s,.int .i64 w]
theorem QdW (c:Bool) (l:List Item) (s:Int) (w:Int):Qaz c l s w = (bif decide (List.length l <= (9223372036854775807:Nat)) then bif List.any (List.drop (0:Nat) l) fun (x:Item) => decide (Item.place x <= s) then some (D.bool (plc w == Item.place (Option.getD (List.find? (fun (x:Item) => decide (Item.place x <= s)) (List.drop (0:Nat) l)) (Item.mk (0:Int) (0:Int) (0:Int))))) else some (D.bool (w == (0:Int))) else none) := by kernel_rfl
theorem QdX (c:Bool) (l:List Item) (s:Int) (w:Int) (h:(Qd l.length) = true):Qaz c l s w = some (.bool (match l.find? (fun x => decide (x.place <= s)) with | some x => plc w == x.place | none => w == 0)) := by
 rw [QdW];rw [decide_eq_true (V6 h),cond_true,List.drop_zero];cases hf:l.find? (fun x => decide (x.place <= s)) with
 | none =>
  have:(l.any fun x => decide (x.place <= s)) = false := by
   rw [List.any_eq_false];intro x hx;exact List.find?_eq_none.1 hf x hx
  rw [this];rfl
 | some x =>
  have h2 := List.find?_some hf;have:(l.any fun x => decide (x.place <= s)) = true := List.any_eq_true.2 ⟨x,List.mem_of_find?_eq_some hf,h2⟩;rw [this];rfl
noncomputable def ul_4 := ul_3.addSpec 12 KS
theorem QkP:Qg Tryz.prog s18 ul_4 := QkO.addEv Qe fun args d h => by
 unfold KS at h
 split at h
 · unfold JF at h;have h1 := congrArg Prod.fst (Option.some.inj h);obtain rfl:_ = d := congrArg Prod.snd (Option.some.inj h);exact ⟨by simp [D.refs],40,QdX _ _ _ _ h1⟩
 · cases h
open Go.Proofs
theorem QdY:V7 s18 RTy.int = eqI := rfl
structure QkQ where
 c:Bool
 cs:List Int
 k:Int
 was:Int
 w:Int
 seen:List (Int × Bool)
noncomputable def QkR (c:Bool) (cs:List Int) (k:Int) (was:Int) (w:Int) (seen:List (Int × Bool)):Env RC := [(0,.sl (C := RC) .int c cs),(2,.bool false),(3,.mp 0),(4,.int .i64 k),(5,.int .i64 was),(6,.int .i64 w)]
def QaA (c:Bool) (cs:List Int) (k:Int) (was:Int) (w:Int) (seen:List (Int × Bool)):List (Obj RC) := [.map .int .bool seen]
noncomputable def QnZ (c:Bool) (cs:List Int) (k:Int) (was:Int) (w:Int) (seen:List (Int × Bool)) := rndO s18 ul_4 10 9 60 1 [0,2,3,4,5,6] [2] [.slot 3 0] (QkR c cs k was w seen) (QaA c cs k was w seen)
theorem QpW (c:Bool) (cs:List Int) (k:Int) (was:Int) (w:Int) (seen:List (Int × Bool)):QnZ c cs k was w seen = (let Z0:RO_ := some ((X.ret,[(2,D.bool false)]),[some (Obj.map RTy.int RTy.bool seen)]);let Z1:Int := bare w;let Z2:Bool := Qd cs.length;let Z3:Int := (↑cs.length:Int);let Z4:Int := cellO Z1 (0:Int) true;let Z5:Bool := decide ((0:Int) <= Z4);let Z6:RO_ := bif Z2 then bif Z3 == (771:Int) then bif Z5 then Z0 else Z0 else Z0 else none;let Z7:Int := Int.fdiv Z1 (256:Int);let Z8:Int := bits .i64 (fun (x:Nat) (u v:BitVec x) => u &&& v) Z7 (4095:Int);let Z9:Int := Zq Z1 % (256:Int);let Z10:Int := cellO Z1 (2:Int) true;let Z11:Int := List.getD cs Z10.toNat (0:Int);let Z12:Int := cellO Z1 (1:Int) true;bif w != (0:Int) then bif decide (w < (0:Int)) then Z0 else bif decide (plc w < (1:Int)) then Z0 else bif decide (was <= plc w) then Z0 else bif decide (Z1 < (0:Int)) then Z6 else bif decide ((1099510841343:Int) < Z1) then Z6 else bif Z2 then bif Z3 == (771:Int) then bif Z5 then bif decide ((0:Int) < Z8) then bif decide (Z8 <= (1023:Int)) then bif Z7 == Z8 then bif decide ((0:Int) <= Z4 /\ Z4 < Z3) then bif !List.getD cs Z4.toNat (0:Int) == IntKind.wrap .i64 (IntKind.wrap .i64 (Z8 * (2:Int)) + (1:Int)) then Z0 else bif Option.getD (mget (V7 s18 RTy.int) Z9 seen) false then Z0 else bif decide ((0:Int) <= Z10 /\ Z10 < Z3) then bif decide (Z11 < (0:Int)) then Z0 else bif Int.fdiv Z11 (256:Int) != k then Z0 else bif decide ((0:Int) <= Z12 /\ Z12 < Z3) then some ((X.normal,[(0,D.sl RTy.int c cs),(2,D.bool false),(3,D.mp (0:Nat)),(4,D.int .i64 k),(5,D.int .i64 (plc w)),(6,D.int .i64 (List.getD cs Z12.toNat (0:Int)))]),[some (Obj.map RTy.int RTy.bool (mput (V7 s18 RTy.int) Z9 true seen))]) else none else none else none else Z0 else Z0 else Z0 else Z0 else Z0 else none else some ((X.exit (2:Nat),[(2,D.bool false)]),[some (Obj.map RTy.int RTy.bool seen)])) := by kernel_rfl
noncomputable def J6 (c:Bool) (cs:List Int) (k:Int) (was:Int) (w:Int) (seen:List (Int × Bool)):RT RC := .leaf (.exit 2) [(2,.bool false)] (QaA c cs k was w (rgW cs 101 w was seen))
def Jl (c:Bool) (cs:List Int) (k:Int) (was:Int) (w:Int) (seen:List (Int × Bool)):Prop := RgI cs k was w seen
noncomputable def Jm:QU RC QkQ where
 k := 1
 canon q := QkR q.c q.cs q.k q.was q.w q.seen
 objs q := QaA q.c q.cs q.k q.was q.w q.seen
 fin q := J6 q.c q.cs q.k q.was q.w q.seen
 Inv q := Jl q.c q.cs q.k q.was q.w q.seen
 μ q := q.was.toNat
theorem QgZ (c:Bool) (cs:List Int) (k:Int) (was:Int) (w:Int) (seen:List (Int × Bool)) (hI:Jl c cs k was w seen):Leaf (QnZ c cs k was w seen) (LedR Jm ⟨c,cs,k,was,w,seen⟩) := by
 (rw [QpW];conv => zeta)
 unfold Jl at hI;obtain ⟨K,m,p,hR,h1,rfl,h2,h3,h4,hS⟩ := hI;have hm := hR.mle
 by_cases hp:p = 0
 · subst hp;have hz:rgW cs 101 (wP 0) was seen = seen := by unfold rgW;rw [if_pos wP_0]
   rw [show (wP 0 != 0) = false from rfl,cond_false];exact QC (QaA c cs k was (wP 0) seen) (by simp only [Jm,J6,hz,RT.val]) rfl
 · have hp1:1 <= p := by omega
   have hk := h2.resolve_left hp;have hst := Qm8 hR hp1 h1 was seen;have hnot := hS.not hp1 h1 hm hk h3;have hS' := hS.step hp1 h1 hm hk h3;obtain ⟨q,q1,q2,q3⟩ := hR.nx p hp1 h1;obtain ⟨v,v0,v1,v2⟩ := hR.val p hp1 h1;have hgen := hR.gen p hp1 h1;have hnx := hR.nxt hp1 h1;have hb := Y0 hp1 (show p <= 100 by omega)
   have hpl := Y4 (show p <= 100 by omega)
   have hgt := QgX hp1;rw [hb] at hst hnot hS';rw [hpl] at hst;have hcs := hR.len;have a0:cellO (255 + (p:Int)) 0 true = 288 + 3 * (p:Int) := by rw [Zk hp1 (by omega) (by omega) (by omega)];omega
   have a1:cellO (255 + (p:Int)) 1 true = 289 + 3 * (p:Int) := by rw [Zk hp1 (by omega) (by omega) (by omega)];omega
   have a2:cellO (255 + (p:Int)) 2 true = 290 + 3 * (p:Int) := by rw [Zk hp1 (by omega) (by omega) (by omega)];omega
   have n0:(288 + 3 * (p:Int)).toNat = 288 + 3 * p := by omega
   have n1:(289 + 3 * (p:Int)).toNat = 289 + 3 * p := by omega
   have n2:(290 + 3 * (p:Int)).toNat = 290 + 3 * p := by omega
   have g1:(255 + (p:Int)).fdiv 256 = 1 := by rw [Int.fdiv_eq_ediv_of_nonneg _ (by decide)];omega
   have g2:bits IntKind.i64 (fun x u v => u &&& v) 1 4095 = 1 := by decide
   have f1:(K p * 256 + v).fdiv 256 = k := by rw [Int.fdiv_eq_ediv_of_nonneg _ (by decide),hk];omega
   have kr := hR.Kr p hp1 h1;have c1:(wP p != 0) = true := by simp;omega
   have c2:decide (wP p < 0) = false := decide_eq_false (by omega)
   have c3:decide ((p:Int) < 1) = false := decide_eq_false (by omega)
   have c4:decide (was <= (p:Int)) = false := decide_eq_false (by omega)
   have c5:decide (255 + (p:Int) < 0) = false := decide_eq_false (by omega)
   have c6:decide (1099510841343 < 255 + (p:Int)) = false := decide_eq_false (by omega)
   have c7:Qd 771 = true := by decide
   have c8:decide (0 <= 288 + 3 * (p:Int)) = true := decide_eq_true (by omega)
   have c9:decide (0 <= 288 + 3 * (p:Int) /\ 288 + 3 * (p:Int) < ((771:Nat):Int)) = true := decide_eq_true (by omega)
   have d1:decide (0 <= 289 + 3 * (p:Int) /\ 289 + 3 * (p:Int) < ((771:Nat):Int)) = true := decide_eq_true (by omega)
   have d2:decide (0 <= 290 + 3 * (p:Int) /\ 290 + 3 * (p:Int) < ((771:Nat):Int)) = true := decide_eq_true (by omega)
   have d3:decide (K p * 256 + v < 0) = false := decide_eq_false (by omega)
   have d4:((((771:Nat):Int)) == 771) = true := rfl;have d5:decide ((0:Int) < 1) = true := rfl;have d6:decide ((1:Int) <= 1023) = true := rfl;have d7:((1:Int) == 1) = true := rfl;have d8:IntKind.i64.wrap (IntKind.i64.wrap (1 * 2) + 1) = 3 := by decide
   have d9:((3:Int) == 3) = true := rfl;have e1:(k != k) = false := by simp
   simp only [c1,c2,hpl,hb,c3,c4,c5,c6,hcs,c7,d4,a0,a1,a2,c8,g1,g2,d5,d6,d7,c9,n0,n1,n2,hgen,d8,d9,Bool.not_true,QdY,hnot,Option.getD_none,d2,v2,d3,f1,e1,d1,cond_true,cond_false];exact QP (S := Jm) (s := ⟨c,cs,k,was,wP p,seen⟩) ⟨c,cs,k,(p:Int),cs.getD (289 + 3 * p) 0,mput eqI (Zq (255 + (p:Int)) % 256) true seen⟩ ⟨K,m,q,hR,by omega,q2,q3.imp id fun h => by rw [h,hk],by show (q:Int) < (p:Int);omega,by show (p:Int) <= 1048576;omega,hS'⟩ (by simp only [Jm];omega) (by simp only [Jm,J6,hst,hnx];rfl) rfl rfl
noncomputable def QkS (env:Env RC) (os:List (Obj RC)):Option (Bool × QkQ) := match env,os with
 | [(0,.sl .int c cs),(2,.bool false),(3,.mp 0),(4,.int .i64 k),(5,.int .i64 was),(6,.int .i64 w)],[.map .int .bool seen] => QN (true) (cdec (RgI cs k was w seen) && true,⟨c,cs,k,was,w,seen⟩)
 | _,_ => none
noncomputable def um_1 := ul_4.addLoop 10 9 (sumR s18 [.slot 3 0] [0,2,3,4,5,6] Jm QkS)
theorem QkT:Qg Tryz.prog s18 um_1 := by
 refine QkP.addRoundsR Qe (by kernel_rfl) Jm 60 [0,2,3,4,5,6] [2] [.slot 3 0] [0,2,3,4,5,6] QkS (fun q hI => ?_) ?_
 · obtain ⟨c,cs,k,was,w,seen⟩ := q;refine ⟨?_,?_,QgZ c cs k was w seen hI⟩
   · simp_all [Ql,Jm,QkR,QaA,Jl,D.refs,Obj.refs,rEnc]
   · simp_all [Jm,J6,QaA,Jl,RT.refsOK,Ql,D.refs,Obj.refs,rEnc]
 · intro env os b q hd_ hb;unfold QkS at hd_
   split at hd_
   · obtain ⟨hs,hd_⟩ := Qi hd_;cases hd_;simp only [Bool.and_eq_true,decide_eq_true_eq] at hb;exact ⟨QI.1 hb.1,rfl,rfl⟩
   · cases hd_
structure QkU where
 c:Bool
 cs:List Int
 i:Nat
 seen:List (Int × Bool)
noncomputable def QkV (c:Bool) (cs:List Int) (i:Nat) (seen:List (Int × Bool)):Env RC := [(0,.sl (C := RC) .int c cs),(2,.bool false),(3,.mp 0),(14,.int .i64 (i:Int))]
def QaB (c:Bool) (cs:List Int) (i:Nat) (seen:List (Int × Bool)):List (Obj RC) := [.map .int .bool seen]
noncomputable def Qn0 (c:Bool) (cs:List Int) (i:Nat) (seen:List (Int × Bool)) := rndO s18 um_1 10 5 60 1 [0,2,3,14] [2] [.slot 3 0] (QkV c cs i seen) (QaB c cs i seen)
theorem QpX (c:Bool) (cs:List Int) (i:Nat) (seen:List (Int × Bool)):Qn0 c cs i seen = (let Z0:Int := (↑i:Int);let Z1:Int := lRow (21:Int) Z0 (24:Int);let Z2:Int := List.getD cs Z1.toNat (0:Int);bif decide (Z0 < (24:Int)) then bif decide ((0:Int) <= Z1 /\ Z1 < (↑cs.length:Int)) then bif cdec (RgI cs Z0 (1048576:Int) Z2 seen) && true then some ((X.normal,[(0,D.sl RTy.int c cs),(2,D.bool false),(3,D.mp (0:Nat)),(14,D.int .i64 (IntKind.wrap .i64 (Z0 + (1:Int))))]),[some (Obj.map RTy.int RTy.bool (rgW cs (101:Nat) Z2 (1048576:Int) seen))]) else none else none else some ((X.exit (0:Nat),[(2,D.bool false)]),[some (Obj.map RTy.int RTy.bool seen)])) := by kernel_rfl
noncomputable def QbD (c:Bool) (cs:List Int) (i:Nat) (seen:List (Int × Bool)):RT RC := .leaf (.exit 0) [(2,.bool false)] (QaB c cs i (rgK cs (24 - i) i seen))
def Jn (c:Bool) (cs:List Int) (i:Nat) (seen:List (Int × Bool)):Prop := i <= 24 /\ RgO cs i seen
noncomputable def JR:QU RC QkU where
 k := 1
 canon q := QkV q.c q.cs q.i q.seen
 objs q := QaB q.c q.cs q.i q.seen
 fin q := QbD q.c q.cs q.i q.seen
 Inv q := Jn q.c q.cs q.i q.seen
 μ q := 24 - q.i
theorem Qg0 (c:Bool) (cs:List Int) (i:Nat) (seen:List (Int × Bool)) (hI:Jn c cs i seen):Leaf (Qn0 c cs i seen) (LedR JR ⟨c,cs,i,seen⟩) := by
 (rw [QpX];conv => zeta)
 unfold Jn at hI;obtain ⟨h1,hO⟩ := hI
 by_cases hlt:i < 24
 · have d1:decide ((i:Int) < 24) = true := decide_eq_true (by omega)
   have w1:IntKind.i64.wrap ((i:Int) + 1) = ((i + 1:Nat):Int) := by rw [Qr (by omega) (by omega)];simp
   have hcs:cs.length = 771 := by obtain ⟨K,m,hR,_⟩ := hO;exact hR.len
   have lr:lRow 21 (i:Int) 24 = 21 + (i:Int) := by unfold lRow;rw [if_pos ⟨by omega,by omega⟩]
   have n1:(21 + (i:Int)).toNat = 21 + i := by omega
   have d2:decide (0 <= 21 + (i:Int) /\ 21 + (i:Int) < ((771:Nat):Int)) = true := decide_eq_true (by omega)
   have hst:rgK cs (24 - i) i seen = rgK cs (24 - (i + 1)) (i + 1) (rgW cs 101 (cs.getD (21 + i) 0) 1048576 seen) := by
    rw [show 24 - i = (24 - (i + 1)) + 1 by omega];rfl
   have hI':RgI cs i 1048576 (cs.getD (21 + i) 0) seen /\ RgO cs (i + 1) (rgW cs 101 (cs.getD (21 + i) 0) 1048576 seen) := by
    obtain ⟨K,m,hR,hS⟩ := hO;obtain ⟨p,p1,p2,p3⟩ := hR.hd i hlt;have hm := hR.mle;rw [p2];refine ⟨⟨K,m,p,hR,p1,rfl,p3,by omega,Int.le_refl _,hS⟩,K,m,hR,?_⟩
    have := Qfr hR 101 p 1048576 seen p1 p3 (by omega) hS
    simpa using this
   simp only [d1,w1,lr,n1,hcs,d2,cond_true];have k1 := QG hI'.1;simp only [k1,cond_true];exact QP (S := JR) (s := ⟨c,cs,i,seen⟩) ⟨c,cs,i + 1,rgW cs 101 (cs.getD (21 + i) 0) 1048576 seen⟩ ⟨hlt,hI'.2⟩ (by simp only [JR];omega) (by simp only [JR,QbD,hst];rfl) rfl rfl
 · have e:i = 24 := by omega
   subst e;have d1:decide (((24:Nat):Int) < 24) = false := by decide
   rw [d1];exact QC (QaB c cs 24 seen) rfl rfl
noncomputable def QkW (env:Env RC) (os:List (Obj RC)):Option (Bool × QkU) := match env,os with
 | [(0,.sl .int c cs),(2,.bool false),(3,.mp 0),(14,.int .i64 x0)],[.map .int .bool seen] => QN (true) (decide (x0 = 0) && cdec (RgO cs 0 seen),⟨c,cs,0,seen⟩)
 | _,_ => none
noncomputable def um_2 := um_1.addLoop 10 5 (sumR s18 [.slot 3 0] [0,2,3,14] JR QkW)
theorem QkX:Qg Tryz.prog s18 um_2 := by
 refine QkT.addRoundsR Qe (by kernel_rfl) JR 60 [0,2,3,14] [2] [.slot 3 0] [0,2,3,14] QkW (fun q hI => ?_) ?_
 · obtain ⟨c,cs,i,seen⟩ := q;refine ⟨?_,?_,Qg0 c cs i seen hI⟩
   · simp_all [Ql,JR,QkV,QaB,Jn,D.refs,Obj.refs,rEnc]
   · simp_all [JR,QbD,QaB,Jn,RT.refsOK,Ql,D.refs,Obj.refs,rEnc]
 · intro env os b q hd_ hb;unfold QkW at hd_
   split at hd_
   · obtain ⟨hs,hd_⟩ := Qi hd_;cases hd_;simp only [Bool.and_eq_true,decide_eq_true_eq] at hb;obtain ⟨rfl,hb⟩ := hb;exact ⟨⟨Nat.zero_le _,QI.1 hb⟩,rfl,rfl⟩
   · cases hd_
noncomputable def QcX (c:Bool) (cs:List Int):Option (Bool × D RC) := some (cdec (OkRt cs),.bool true)
noncomputable def QaC:List (D RC) -> Option (Bool × D RC)
 | [.sl .int c cs] => QcX c cs
 | _ => none
noncomputable def QcY (c:Bool) (cs:List Int) := evF s18 um_2 60 10 [.sl (C := RC) .int c cs]
theorem Qg1 (c:Bool) (cs:List Int):QcY c cs = (bif Qd cs.length then bif (↑cs.length:Int) != (771:Int) then some (D.bool false) else bif cdec (RgO cs (0:Nat) []) then some (D.bool true) else none else none) := by kernel_rfl
theorem Qg2 (c:Bool) (cs:List Int) (h:(cdec (OkRt cs)) = true):QcY c cs = some (.bool true) := by
 rw [Qg1];obtain ⟨K,m,hR⟩ := QI.1 h;have hcs := hR.len;have k1:cdec (RgO cs 0 []) = true := QG ⟨K,m,hR,fun x hx => by simp at hx⟩
 have c2:((((771:Nat):Int)) != 771) = false := rfl;have c3:Qd 771 = true := by decide
 simp only [hcs,c2,c3,k1,cond_true,cond_false]
noncomputable def um_3 := um_2.addSpec 10 QaC
theorem QkY:Qg Tryz.prog s18 um_3 := QkX.addEv Qe fun args d h => by
 unfold QaC at h
 split at h
 · unfold QcX at h;have h1 := congrArg Prod.fst (Option.some.inj h);obtain rfl:_ = d := congrArg Prod.snd (Option.some.inj h);exact ⟨by simp [D.refs],60,Qg2 _ _ h1⟩
 · cases h
open Go.Proofs
set_option maxHeartbeats 4000000
structure QkZ where
 ca:Bool
 an:List Int
 out:List Int
 k:Nat
def Qfu (ca:Bool) (an:List Int) (out:List Int) (k:Nat):Env RC := [(2,.bool false),(5,.vs 0 (out.length)),(10,.sl (C := RC) .int ca an),(14,.int .i64 (k:Int))]
def VM (ca:Bool) (an:List Int) (out:List Int) (k:Nat):List (Obj RC) := [.vec .int true out]
noncomputable def Qn1 (ca:Bool) (an:List Int) (out:List Int) (k:Nat) := rndO s18 um_3 3 35 60 1 [2,5,10,14] [2] [.slot 5 0] (Qfu ca an out k) (VM ca an out k)
theorem QpY (ca:Bool) (an:List Int) (out:List Int) (k:Nat):Qn1 ca an out k = (let Z0:Nat := List.length out;let Z1:Int := (↑k:Int);let Z2:Bool := decide ((0:Int) <= (0:Int) /\ (0:Int) < (↑an.length:Int));let Z3:Int := List.getD an (0:Nat) (0:Int);let Z4:List (Option (Obj RC)) := [some (Obj.vec RTy.int true out)];let Z5:RO_ := some ((X.normal,[(2,D.bool false),(5,D.vs 0 Z0),(10,D.sl RTy.int ca an),(14,D.int .i64 (IntKind.wrap .i64 (Z1 + (1:Int))))]),Z4);bif Qd Z0 then bif decide (Z1 < (↑Z0:Int)) then bif Z2 then bif Z3 != (0:Int) then bif Nat.beq Z0 Z0 && decide ((0:Int) <= Z1 /\ Z1 < (↑Z0:Int)) then bif Nat.beq Z0 Z0 then bif Z2 then bif List.getD out Z1.toNat (0:Int) == Z3 then some ((X.ret,[(2,D.bool false)]),Z4) else Z5 else none else none else none else Z5 else none else some ((X.exit (3:Nat),[(2,D.bool false)]),Z4) else none) := by kernel_rfl
def Jo (ca:Bool) (an:List Int) (out:List Int) (k:Nat):RT RC := .br ((out.drop k).any fun y => (an.getD 0 0 != 0) && (y == an.getD 0 0)) (.leaf .ret [(2,.bool false)] (VM ca an out k)) (.leaf (.exit 3) [(2,.bool false)] (VM ca an out k))
def Jp (ca:Bool) (an:List Int) (out:List Int) (k:Nat):Prop := k <= out.length /\ out.length <= 1000 /\ 1 <= an.length
def Vr:QU RC QkZ where
 k := 1
 canon q := Qfu q.ca q.an q.out q.k
 objs q := VM q.ca q.an q.out q.k
 fin q := Jo q.ca q.an q.out q.k
 Inv q := Jp q.ca q.an q.out q.k
 μ q := q.out.length - q.k
theorem Qg3 (ca:Bool) (an:List Int) (out:List Int) (k:Nat) (hI:Jp ca an out k):Leaf (Qn1 ca an out k) (LedR Vr ⟨ca,an,out,k⟩) := by
 (rw [QpY];conv => zeta)
 unfold Jp at hI;obtain ⟨h1,h2,h3⟩ := hI;have hlk:Qd out.length = true := Qq (by omega)
 by_cases hlt:k < out.length
 · have w_succ:IntKind.i64.wrap ((k:Int) + 1) = ((k + 1:Nat):Int) := by rw [Qr (by omega) (by omega)];simp
   have d_lt:decide ((k:Int) < out.length) = true := by simp;omega
   have d_in:decide (0 <= (k:Int) /\ (k:Int) < out.length) = true := by simp;omega
   have t_nat:((k:Int)).toNat = k := by simp
   simp only [w_succ,d_lt,d_in,t_nat,cond_true];have d2:decide ((0:Int) <= 0 /\ (0:Int) < (an.length:Int)) = true := decide_eq_true (by omega)
   have hb:∀ n:Nat,Nat.beq n n = true := fun n => by simp
   have e:out.getD k (0:Int) = out[k] := by simp [hlt]
   have hd:out.drop k = out[k] :: out.drop (k + 1) := List.drop_eq_getElem_cons hlt;have t0:((0:Int)).toNat = 0 := rfl;simp only [hlk,d2,hb,e,t0,Bool.and_self,cond_true]
   have hgo:((an.getD 0 0 != 0) && (out[k] == an.getD 0 0)) = false -> Leaf (some ((X.normal,Qfu ca an out (k + 1)),(VM ca an out (k + 1)).map some)) (LedR Vr ⟨ca,an,out,k⟩) := fun hn =>
    QP ⟨ca,an,out,k + 1⟩ ⟨hlt,h2,h3⟩ (by simp only [Vr];omega) (by simp only [Vr,Jo,hd,List.any_cons,hn,Bool.false_or];rfl) rfl rfl
   have hno:((an.getD 0 0 != 0) && (out[k] == an.getD 0 0)) = true -> Leaf (some ((X.ret,[(2,D.bool false)]),(VM ca an out k).map some)) (LedR Vr ⟨ca,an,out,k⟩) := fun hn =>
    Zd (VM ca an out k) (by simp only [Vr,Jo,hd,List.any_cons,hn,Bool.true_or,RT.val,cond_true]) rfl
   cases c1:(an.getD 0 0 != 0)
   · rw [c1] at hgo;exact hgo rfl
   cases c2:(out[k] == an.getD 0 0)
   · rw [c1,c2] at hgo;exact hgo rfl
   · rw [c1,c2] at hno;exact hno rfl
 · have hi:k = out.length := by omega
   have c1:decide ((k:Int) < out.length) = false := by simp;omega
   rw [hlk,c1];exact QC (VM ca an out k) (by simp [Vr,Jo,hi,RT.val]) rfl
def Qk0 (env:Env RC) (os:List (Obj RC)):Option (Bool × QkZ) := match env,os with
 | [(2,.bool false),(5,.vs 0 x0),(10,.sl .int ca an),(14,.int .i64 x1)],[.vec .int true out] => QN (true) (decide (x0 = out.length) && decide (x1 = 0) && decide (out.length <= 1000 /\ 1 <= an.length),⟨ca,an,out,0⟩)
 | _,_ => none
noncomputable def un_1 := um_3.addLoop 3 35 (sumR s18 [.slot 5 0] [2,5,10,14] Vr Qk0)
theorem Qk1:Qg Tryz.prog s18 un_1 := by
 refine QkY.addRoundsR Qe (by kernel_rfl) Vr 60 [2,5,10,14] [2] [.slot 5 0] [2,5,10,14] Qk0 (fun q hI => ?_) ?_
 · obtain ⟨ca,an,out,k⟩ := q;refine ⟨?_,?_,Qg3 ca an out k hI⟩
   · simp_all [Ql,Vr,Qfu,VM,Jp,D.refs,Obj.refs,rEnc]
   · simp_all [Vr,Jo,VM,Jp,RT.refsOK,Ql,D.refs,Obj.refs,rEnc]
 · intro env os b q hd_ hb;unfold Qk0 at hd_
   split at hd_
   · obtain ⟨hs,hd_⟩ := Qi hd_;cases hd_;simp only [Bool.and_eq_true,decide_eq_true_eq] at hb;obtain ⟨⟨rfl,rfl⟩,hl⟩ := hb;exact ⟨⟨Nat.zero_le _,hl⟩,rfl,rfl⟩
   · cases hd_
def prevK (K:Nat -> Int) (k:Int):Nat -> Nat
 | 0 => 0
 | q + 1 => if 1 <= q /\ K q = k then q else prevK K k q
theorem QR (K:Nat -> Int) (k:Int):∀ q,1 <= q -> prevK K k q < q
 | 0,h => by omega
 | q + 1,_ => by
  unfold prevK
  split
  · omega
  · rcases Nat.eq_zero_or_pos q with e | e
    · subst e;simp [prevK]
    · have := QR K k q e;omega
theorem Qfv (K:Nat -> Int) (k:Int) (q:Nat):prevK K k q <= q := by
 rcases Nat.eq_zero_or_pos q with e | e
 · subst e;simp [prevK]
 · exact Nat.le_of_lt (QR K k q e)
theorem prevK_key (K:Nat -> Int) (k:Int):∀ q,prevK K k q = 0 \/ K (prevK K k q) = k
 | 0 => .inl rfl
 | q + 1 => by
  unfold prevK
  split
  · rename_i h;exact .inr h.2
  · exact prevK_key K k q
theorem Y1 {K:Nat -> Int} {k:Int} {p:Nat} (h1:1 <= p) (hk:K p = k):∀ {q},p < q -> p <= prevK K k q
 | 0,h => by omega
 | q + 1,h => by
  unfold prevK
  split
  · omega
  · rename_i hn;have:p ≠ q := fun e => hn (by subst e;exact ⟨h1,hk⟩)
    exact Y1 h1 hk (by omega)
theorem V0 {K K':Nat -> Int} {k:Int}:∀ {q:Nat},(∀ p,1 <= p -> p < q -> K' p = K p) -> prevK K' k q = prevK K k q
 | 0,_ => rfl
 | q + 1,h => by
  unfold prevK;rw [V0 (fun p h1 h2 => h p h1 (by omega))]
  by_cases hq:1 <= q
  · rw [h q hq (by omega)]
  · rw [if_neg (fun h => hq h.1),if_neg (fun h => hq h.1)]
theorem QaD {K:Nat -> Int} {k:Int} {p q:Nat} (h:p <= q):prevK K k p <= prevK K k q := by
 rcases Nat.eq_zero_or_pos (prevK K k p) with e | e
 · omega
 · have hp:1 <= p := by rcases Nat.eq_zero_or_pos p with e' | e';subst e';simp [prevK] at e;exact e'
   have h1 := QR K k p hp;exact Y1 e ((prevK_key K k p).resolve_left (by omega)) (by omega)
structure CG where
 K:Nat -> Int
 V:Nat -> Int
 n:Nat
 m:Nat
 cut:List Int
def CG.ct (g:CG) (k:Int):Int := g.cut.getD k.toNat 0
structure Q4 (g:CG) (cs:List Int):Prop where
 len:cs.length = 771
 fits:cellsOK cs = true
 n100:g.n <= 100
 mn:g.m <= g.n
 nm:g.n <= g.m + 1
 kr:∀ p,1 <= p -> p <= g.n -> 0 <= g.K p /\ g.K p < 24
 vr:∀ p,1 <= p -> p <= g.n -> 0 <= g.V p /\ g.V p < 256
 hd:∀ k:Nat,k < 24 -> cs.getD (21 + k) 0 = wP (prevK g.K k (g.m + 1))
 gen:∀ p,1 <= p -> p <= g.n -> cs.getD (288 + 3 * p) 0 = 3
 val:∀ p,1 <= p -> p <= g.n -> cs.getD (290 + 3 * p) 0 = g.K p * 256 + g.V p
 nx:∀ p,1 <= p -> p <= g.m -> cs.getD (289 + 3 * p) 0 = wP (prevK g.K (g.K p) p) \/ cs.getD (289 + 3 * p) 0 = 0 /\ (p:Int) <= g.ct (g.K p)
 nxn:g.n = g.m + 1 -> cs.getD (289 + 3 * g.n) 0 = -1 \/ cs.getD (289 + 3 * g.n) 0 = wP (prevK g.K (g.K g.n) g.n)
 free:∀ p,g.n < p -> p <= 160 -> cs.getD (289 + 3 * p) 0 = -1
theorem Q4.rok {g:CG} {cs:List Int} (h:Q4 g cs):ROK cs g.K g.m where
 len := h.len
 mle := by have := h.n100;have := h.mn;omega
 Kr p h1 h2 := h.kr p h1 (by have := h.mn;omega)
 hd k hk := ⟨prevK g.K k (g.m + 1),by have := QR g.K k (g.m + 1) (by omega);omega,h.hd k hk,prevK_key _ _ _⟩
 gen p h1 h2 := h.gen p h1 (by have := h.mn;omega)
 val p h1 h2 := by
  have := h.mn;obtain ⟨v0,v1⟩ := h.vr p h1 (by omega)
  exact ⟨g.V p,v0,v1,h.val p h1 (by omega)⟩
 nx p h1 h2 := by
  rcases h.nx p h1 h2 with e | ⟨e,_⟩
  · exact ⟨_,QR _ _ p h1,e,prevK_key _ _ _⟩
  · exact ⟨0,by omega,by rw [e,wP_0],.inl rfl⟩
inductive PhI (g:CG) (cs:List Int) (d:Pick):Frame -> List Int -> Prop
 | get0 {r:List Int} (hr:r.length = 96) (hd:d.do_ = 1) (h0:r.getD 0 0 = d.place) (h1:r.getD 1 0 = d.key) (hk:0 <= d.key /\ d.key < 24) (hs:g.ct d.key <= d.place /\ 0 <= d.place /\ d.place <= g.m):PhI g cs d ⟨72,0,r⟩ []
 | get1 {r:List Int} {q:Nat} (hr:r.length = 96) (hd:d.do_ = 1) (h0:r.getD 0 0 = d.place) (h1:r.getD 1 0 = d.key) (hk:0 <= d.key /\ d.key < 24) (hs:g.ct d.key <= d.place /\ 0 <= d.place /\ d.place <= g.m)
  (hq:q <= g.m) (kq:q = 0 \/ g.K q = d.key) (nb:prevK g.K d.key (d.place.toNat + 1) <= q):PhI g cs d ⟨72,1,r⟩ [wP q]
 | ins0 {r:List Int} {p:Nat} (hr:r.length = 96) (hd:d.do_ = 0) (hp:1 <= p /\ p <= g.n) (h0:r.getD 0 0 = p) (h1:r.getD 1 0 = 255 + (p:Int)) (h2:r.getD 2 0 = g.K p) (pl:d.place = p):PhI g cs d ⟨73,0,r⟩ []
 | ins1 {r:List Int} {p q:Nat} (hr:r.length = 96) (hd:d.do_ = 0) (hp:1 <= p /\ p <= g.n) (h0:r.getD 0 0 = p) (h1:r.getD 1 0 = 255 + (p:Int)) (h2:r.getD 2 0 = g.K p) (pl:d.place = p)
  (hq:q = prevK g.K (g.K p) p \/ p <= q /\ q <= g.m):PhI g cs d ⟨73,1,r⟩ [wP q]
 | ins2 {r:List Int} {p:Nat} {x:Int} (hr:r.length = 96) (hd:d.do_ = 0) (hp:1 <= p /\ p <= g.n) (h0:r.getD 0 0 = p) (h1:r.getD 1 0 = 255 + (p:Int)) (h2:r.getD 2 0 = g.K p) (pl:d.place = p)
  (h3:r.getD 3 0 = wP (prevK g.K (g.K p) p)) (hn:cs.getD (289 + 3 * p) 0 ≠ -1):PhI g cs d ⟨73,2,r⟩ [x]
 | ins3 {r:List Int} {p:Nat} {x:Int} (hr:r.length = 96) (hd:d.do_ = 0) (hp:1 <= p /\ p <= g.m) (pl:d.place = p):PhI g cs d ⟨73,3,r⟩ [x]
 | cut0 {r:List Int} (hr:r.length = 96) (hd:d.do_ = 2) (h0:r.getD 0 0 = d.place) (h1:r.getD 1 0 = d.key) (hk:0 <= d.key /\ d.key < 24) (he:0 <= d.place /\ d.place <= g.ct d.key):PhI g cs d ⟨74,0,r⟩ []
 | cut1 {r:List Int} {q:Nat} (hr:r.length = 96) (hd:d.do_ = 2) (h0:r.getD 0 0 = d.place) (h1:r.getD 1 0 = d.key) (hk:0 <= d.key /\ d.key < 24) (he:0 <= d.place /\ d.place <= g.ct d.key)
  (hq:q <= g.m) (kq:q = 0 \/ g.K q = d.key):PhI g cs d ⟨74,1,r⟩ [wP q]
 | cut2 {r:List Int} {a b:Nat} (hr:r.length = 96) (hd:d.do_ = 2) (h0:r.getD 0 0 = d.place) (h1:r.getD 1 0 = d.key) (hk:0 <= d.key /\ d.key < 24) (he:0 <= d.place /\ d.place <= g.ct d.key)
  (ha:1 <= a /\ a <= g.m) (ka:g.K a = d.key) (h2:r.getD 2 0 = wP a) (hb:b = 0 \/ b = prevK g.K d.key a):PhI g cs d ⟨74,2,r⟩ [wP b]
 | cut3 {r:List Int} {a y z:Nat} (hr:r.length = 96) (hd:d.do_ = 2) (h0:r.getD 0 0 = d.place) (h1:r.getD 1 0 = d.key) (hk:0 <= d.key /\ d.key < 24) (he:0 <= d.place /\ d.place <= g.ct d.key)
  (ha:1 <= a /\ a <= g.m) (ka:g.K a = d.key) (h2:r.getD 2 0 = wP a) (ae:(a:Int) <= d.place) (h3:r.getD 3 0 = wP y) (hy:1 <= y /\ y = prevK g.K d.key a) (hz:z = 0 \/ z = prevK g.K d.key y):PhI g cs d ⟨74,3,r⟩ [wP z]
 | cut4n {r:List Int} (hr:r.length = 96) (hd:d.do_ = 2):PhI g cs d ⟨74,4,r⟩ [0]
 | cut4y {r:List Int} {a y:Nat} (hr:r.length = 96) (hd:d.do_ = 2) (ha:1 <= a /\ a <= g.m) (ka:g.K a = d.key) (ae:(a:Int) <= d.place) (h3:r.getD 3 0 = wP y) (hy:1 <= y /\ y = prevK g.K d.key a) (hc:cs.getD (289 + 3 * a) 0 = 0):PhI g cs d ⟨74,4,r⟩ [1]
 | cut5 {r:List Int} {a y:Nat} {x:Int} (hr:r.length = 96) (hd:d.do_ = 2) (ha:1 <= a /\ a <= g.m) (ka:g.K a = d.key) (ae:(a:Int) <= d.place) (h3:r.getD 3 0 = wP y) (hy:1 <= y /\ y = prevK g.K d.key a) (hc:cs.getD (289 + 3 * a) 0 = 0):PhI g cs d ⟨74,5,r⟩ [x]
structure K3 (g:CG) (cs:List Int) (g':CG) (cs':List Int):Prop where
 K:∀ p,1 <= p -> p <= g.n -> g'.K p = g.K p
 n:g.n <= g'.n
 m:g.m <= g'.m
 mn:g.m <= g.n
 ct:∀ k,g.ct k <= g'.ct k
 lk:∀ p,1 <= p -> p <= g.n -> cs.getD (289 + 3 * p) 0 ≠ -1 -> cs'.getD (289 + 3 * p) 0 ≠ -1
 off:∀ p,1 <= p -> p <= g.m -> cs.getD (289 + 3 * p) 0 = 0 -> cs'.getD (289 + 3 * p) 0 = 0
theorem K3.prev {g g':CG} {cs cs':List Int} (L:K3 g cs g' cs') (k:Int) {q:Nat} (h:q <= g.n + 1):prevK g'.K k q = prevK g.K k q := V0 fun p h1 h2 => L.K p h1 (by omega)
theorem PhI.later {g g':CG} {cs cs':List Int} {d:Pick} {f:Frame} {got:List Int} (h:PhI g cs d f got) (L:K3 g cs g' cs') (hc:d.do_ = 1 -> g'.ct d.key <= d.place):PhI g' cs' d f got := by
 have hmn := L.mn;have hn := L.n;have hm := L.m
 have kz:∀ q:Nat,q <= g.m -> (q = 0 \/ g.K q = d.key) -> q = 0 \/ g'.K q = d.key := fun q h1 h2 => by
  rcases Nat.eq_zero_or_pos q with e | e
  · exact .inl e
  · exact h2.imp id fun h => by rw [L.K q e (by omega)];exact h
 cases h with
 | get0 hr hd h0 h1 hk hs => exact .get0 hr hd h0 h1 hk ⟨hc hd,hs.2.1,by have := hs.2.2;omega⟩
 | get1 hr hd h0 h1 hk hs hq kq nb => exact .get1 hr hd h0 h1 hk ⟨hc hd,hs.2.1,by have := hs.2.2;omega⟩ (by omega) (kz _ hq kq) (by rw [L.prev _ (by have := hs.2.2;omega)];exact nb)
 | ins0 hr hd hp h0 h1 h2 pl => exact .ins0 hr hd ⟨hp.1,by omega⟩ h0 h1 (by rw [L.K _ hp.1 hp.2];exact h2) pl
 | ins1 hr hd hp h0 h1 h2 pl hq => exact .ins1 hr hd ⟨hp.1,by omega⟩ h0 h1 (by rw [L.K _ hp.1 hp.2];exact h2) pl (by rw [L.K _ hp.1 hp.2,L.prev _ (by omega)];exact hq.imp id fun h => ⟨h.1,by omega⟩)
 | ins2 hr hd hp h0 h1 h2 pl h3 hn' => exact .ins2 hr hd ⟨hp.1,by omega⟩ h0 h1 (by rw [L.K _ hp.1 hp.2];exact h2) pl (by rw [L.K _ hp.1 hp.2,L.prev _ (by omega)];exact h3) (L.lk _ hp.1 hp.2 hn')
 | ins3 hr hd hp pl => exact .ins3 hr hd ⟨hp.1,by omega⟩ pl
 | cut0 hr hd h0 h1 hk he => exact .cut0 hr hd h0 h1 hk ⟨he.1,Int.le_trans he.2 (L.ct _)⟩
 | cut1 hr hd h0 h1 hk he hq kq => exact .cut1 hr hd h0 h1 hk ⟨he.1,Int.le_trans he.2 (L.ct _)⟩ (by omega) (kz _ hq kq)
 | cut2 hr hd h0 h1 hk he ha ka h2 hb => exact .cut2 hr hd h0 h1 hk ⟨he.1,Int.le_trans he.2 (L.ct _)⟩ ⟨ha.1,by omega⟩ (by rw [L.K _ ha.1 (by omega)];exact ka) h2 (by rw [L.prev _ (by omega)];exact hb)
 | @cut3 r a y z hr hd h0 h1 hk he ha ka h2 ae h3 hy hz =>
  have hle := Qfv g.K d.key a;exact .cut3 hr hd h0 h1 hk ⟨he.1,Int.le_trans he.2 (L.ct _)⟩ ⟨ha.1,by omega⟩ (by rw [L.K _ ha.1 (by omega)];exact ka) h2 ae h3 (by rw [L.prev _ (by omega)];exact hy) (by rw [L.prev _ (by omega)];exact hz)
 | cut4n hr hd => exact .cut4n hr hd
 | cut4y hr hd ha ka ae h3 hy hc' => exact .cut4y hr hd ⟨ha.1,by omega⟩ (by rw [L.K _ ha.1 (by omega)];exact ka) ae h3 (by rw [L.prev _ (by omega)];exact hy) (L.off _ ha.1 ha.2 hc')
 | cut5 hr hd ha ka ae h3 hy hc' => exact .cut5 hr hd ⟨ha.1,by omega⟩ (by rw [L.K _ ha.1 (by omega)];exact ka) ae h3 (by rw [L.prev _ (by omega)];exact hy) (L.off _ ha.1 ha.2 hc')
structure NxtP (f:Frame) (got:List Int) (na:NA):Prop where
 e:∀ own,nCh own f got = na
 ok:∀ own,okCh own f got
 may:mayN na.a = true
 kd:na.a.kind = 0 \/ na.a.kind = 2
 tx:na.a.text = [] /\ na.a.args = []
 gen:0 <= na.a.gen
structure EndC (f:Frame) (got args:List Int):Prop where
 e:∀ own,(nCh own f got).a = ⟨7,0,0,0,0,[],args⟩
 ok:∀ own,okCh own f got
 len:args.length <= 2
def Zo (f:Frame) (got:List Int):Int := if f.prog = 74 /\ (f.at' = 4 /\ got = [1] \/ f.at' = 5) then f.r.getD 3 0 else 0
def Jq (g:CG) (cs:List Int) (y:Nat):Prop := ∃ a,1 <= a /\ a <= g.m /\ prevK g.K (g.K a) a = y /\ cs.getD (289 + 3 * a) 0 = 0
structure QpZ (g:CG) (d:Pick) (f:Frame) (got args:List Int):Prop where
 i:d.do_ = 0 -> d.place <= g.m
 s:d.do_ = 1 -> args = [wP (prevK g.K d.key (d.place.toNat + 1))]
 c:d.do_ = 2 -> args.length = 2 /\ args.headD 0 = Zo f got /\ (args.headD 0 = 0 \/ plc (args.headD 0) < d.place)
structure Qk2 (g:CG) (cs:List Int) (d:Pick) (f:Frame) (got:List Int) (na:NA) (g':CG) (cs':List Int) (x:Int):Prop where
 nx:NxtP f got na
 d4:Y6 cs na.a.kind na.a.a na.a.b na.a.v
 ce:doC4 cs na.a.kind na.a.a na.a.b na.a.v = cs'
 xe:doG4 cs na.a.kind na.a.a na.a.b = x
 C:Q4 g' cs'
 L:K3 g cs g' cs'
 K:g'.K = g.K
 V:g'.V = g.V
 n:g'.n = g.n
 cut:g'.cut = g.cut
 P:PhI g' cs' d na.f [x]
 pd:Zo na.f [x] = Zo f got \/ Zo f got = 0 /\ ∃ y,Zo na.f [x] = wP y /\ 1 <= y /\ y <= 100 /\ ¬ Jq g cs y /\ Jq g' cs' y
theorem K3.refl {g:CG} {cs:List Int} (h:Q4 g cs):K3 g cs g cs := ⟨fun _ _ _ => rfl,Nat.le_refl _,Nat.le_refl _,h.mn,fun _ => Int.le_refl _,fun _ _ _ h => h,fun _ _ _ h => h⟩
theorem gset {cs:List Int} (n:Nat) (x:Int) (h:n < cs.length) (j:Nat):(cs.set n x).getD j 0 = if j = n then x else cs.getD j 0 := by
 by_cases e:j = n
 · subst e;simp [h]
 · rw [if_neg e];simp only [List.getD_eq_getElem?_getD];rw [List.getElem?_set_ne (fun q => e q.symm)]
theorem Qq5 {a g:Int} (h0:0 <= a) (h1:a <= 4095) (g0:0 <= g) (g1:g <= 1000000) (p n:Int) (r:List Int):mayN (naLd p n r a g).a = true := by
 refine decide_eq_true (p := MayA 0 a 0 0 g 0 0) (MayA.k0.2 ?_);refine ⟨⟨?_,?_,?_,?_,?_,?_,?_,?_,h0,h1⟩,rfl,rfl,rfl,rfl⟩ <;> omega
theorem Qq6 {a b v g:Int} (h0:0 <= a) (h1:a <= 4095) (b0:-1 <= b) (b1:b <= 104857955) (v0:0 <= v) (v1:v <= 104857955) (g0:0 <= g) (g1:g <= 1000000) (p n:Int) (r:List Int):mayN (naCs p n r a b v g).a = true := by
 refine decide_eq_true (p := MayA 2 a b v g 0 0) (MayA.k2.2 ?_);refine ⟨⟨?_,?_,?_,?_,?_,?_,?_,?_,h0,h1⟩,rfl,rfl⟩ <;> omega
theorem V1 {g:CG} {cs:List Int} {d:Pick} {f:Frame} {got r:List Int} {p n a gn:Int} {i:Nat} (hC:Q4 g cs) (e:∀ own,nCh own f got = naLd p n r a gn) (ok:∀ own,okCh own f got)
 (ai:a = (i:Int)) (hi:i < 771) (g0:0 <= gn) (g1:gn <= 1000000) (hP:PhI g cs d ⟨p,n,r⟩ [cs.getD i 0]) (pd:Zo ⟨p,n,r⟩ [cs.getD i 0] = Zo f got):Qk2 g cs d f got (naLd p n r a gn) g cs (cs.getD i 0) := by
 have hl := hC.len;refine ⟨⟨e,ok,Qq5 (by omega) (by omega) g0 g1 _ _ _,.inl rfl,⟨rfl,rfl⟩,g0⟩,?_,?_,?_,hC,.refl hC,rfl,rfl,rfl,rfl,hP,.inl pd⟩
 · show Y6 cs 0 a 0 0;exact ⟨.inl ⟨rfl,rfl,rfl⟩,by omega,by omega,by decide,by decide,by decide,by decide⟩
 · show doC4 cs 0 a 0 0 = cs;unfold doC4;rw [if_neg (by omega),if_neg (by omega)]
 · show doG4 cs 0 a 0 = _;unfold doG4;rw [if_pos (.inl rfl),ai];rfl
theorem step_cs {g g':CG} {cs cs':List Int} {d:Pick} {f:Frame} {got r:List Int} {p n a b v gn x:Int} {i:Nat} (hC:Q4 g cs) (e:∀ own,nCh own f got = naCs p n r a b v gn) (ok:∀ own,okCh own f got)
 (ai:a = (i:Int)) (hi:i < 771) (b0:-1 <= b) (b1:b <= 104857955) (v0:0 <= v) (v1:v <= 104857955) (g0:0 <= gn) (g1:gn <= 1000000)
 (hc:cs.getD i 0 = b /\ cs' = cs.set i v /\ x = 1 \/ cs.getD i 0 ≠ b /\ cs' = cs /\ x = 0) (C:Q4 g' cs') (L:K3 g cs g' cs') (K:g'.K = g.K) (V:g'.V = g.V) (nn:g'.n = g.n) (cut:g'.cut = g.cut)
 (hP:PhI g' cs' d ⟨p,n,r⟩ [x]) (pd:Zo ⟨p,n,r⟩ [x] = Zo f got \/ Zo f got = 0 /\ ∃ y,Zo ⟨p,n,r⟩ [x] = wP y /\ 1 <= y /\ y <= 100 /\ ¬ Jq g cs y /\ Jq g' cs' y):Qk2 g cs d f got (naCs p n r a b v gn) g' cs' x := by
 have hl := hC.len;have ti:a.toNat = i := by omega
 refine ⟨⟨e,ok,Qq6 (by omega) (by omega) b0 b1 v0 v1 g0 g1 _ _ _,.inr rfl,⟨rfl,rfl⟩,g0⟩,?_,?_,?_,C,L,K,V,nn,cut,hP,pd⟩
 · show Y6 cs 2 a b v;exact ⟨.inr (.inr (.inl rfl)),by omega,by omega,by omega,by omega,by omega,by omega⟩
 · show doC4 cs 2 a b v = cs';unfold doC4;rw [ti];rcases hc with ⟨h1,h2,h3⟩ | ⟨h1,h2,h3⟩
   · rw [if_pos (.inr ⟨rfl,h1⟩),h2]
   · rw [if_neg (fun h => h.elim (by omega) (fun h => h1 h.2)),if_neg (by omega),h2]
 · show doG4 cs 2 a b = x;unfold doG4;rw [ti,if_neg (by omega)]
   rcases hc with ⟨h1,h2,h3⟩ | ⟨h1,h2,h3⟩
   · rw [if_pos ⟨rfl,h1⟩,h3]
   · rw [if_neg (fun h => h1 h.2),h3]
theorem Q4.next {g:CG} {cs:List Int} (h:Q4 g cs) {p:Nat} (h1:1 <= p) (h2:p <= g.m):∃ b,cs.getD (289 + 3 * p) 0 = wP b /\ (b = 0 \/ b = prevK g.K (g.K p) p) := by
 rcases h.nx p h1 h2 with e | ⟨e,_⟩
 · exact ⟨_,e,.inr rfl⟩
 · exact ⟨0,by rw [e,wP_0],.inl rfl⟩
theorem Qfw {k:Int} (h:0 <= k /\ k < 24):lRow 21 k 24 = 21 + k := by unfold lRow;rw [if_pos h]
theorem Q4.head {g:CG} {cs:List Int} (h:Q4 g cs) {k:Int} (hk:0 <= k /\ k < 24):cs.getD (21 + k.toNat) 0 = wP (prevK g.K k (g.m + 1)) /\ prevK g.K k (g.m + 1) <= g.m := by
 have := h.hd k.toNat (by omega)
 rw [this,show ((k.toNat:Nat):Int) = k by omega]
 exact ⟨rfl,by have := QR g.K k (g.m + 1) (by omega);omega⟩
theorem rset {r:List Int} (h:r.length = 96) (n:Nat) (x:Int) (hn:n < 96) (j:Nat):(r.set n x).getD j 0 = if j = n then x else r.getD j 0 := gset n x (by omega) j
theorem Qm9 {K:Nat -> Int} {a b y:Nat} (ha:1 <= a) (hb:1 <= b) (hy:1 <= y) (h1:prevK K (K a) a = y) (h2:prevK K (K b) b = y):a = b := by
 have k1 := (prevK_key K (K a) a).resolve_left (by omega)
 have k2 := (prevK_key K (K b) b).resolve_left (by omega)
 rw [h1] at k1;rw [h2] at k2;have hab:K a = K b := by rw [<- k1,k2]
 have la := QR K (K a) a ha;have lb := QR K (K b) b hb;rcases Nat.lt_trichotomy a b with h | h | h
 · have := Y1 ha hab h;omega
 · exact h
 · have := Y1 hb hab.symm h;omega
theorem Qna (own:Bool) (k:Int) (r:List Int) (got:List Int):nCh own ⟨72,k,r⟩ got = Q8 own k r (got.headD 0) := rfl
theorem Qg4 (own:Bool) (k:Int) (r:List Int) (got:List Int):nCh own ⟨73,k,r⟩ got = QV own k r (got.headD 0) := rfl
theorem QcZ (own:Bool) (k:Int) (r:List Int) (got:List Int):nCh own ⟨74,k,r⟩ got = QQ own k r (got.headD 0) := rfl
theorem YH (own:Bool) (p:Int) (r:List Int) {k:Int} (hk:0 <= k /\ k < 24):QB own p r k = naLd p 1 r (21 + k) 0 := by
 unfold QB;rw [Qfw hk,if_pos (by omega)]
theorem QaE (k:Int) (r got:List Int):Zo ⟨72,k,r⟩ got = 0 := if_neg (fun h => by have h1:(72:Int) = 74 := h.1;omega)
theorem Yp (k:Int) (r got:List Int):Zo ⟨73,k,r⟩ got = 0 := if_neg (fun h => by have h1:(73:Int) = 74 := h.1;omega)
theorem pend74 {k:Int} (r got:List Int) (h:k ≠ 4) (h5:k ≠ 5):Zo ⟨74,k,r⟩ got = 0 := if_neg (fun q => q.2.elim (fun q => h q.1) h5)
theorem okCC {p k:Int} {r got:List Int} (hr:r.length = 96) (hg:k = 0 /\ got = [] \/ ∃ x,got = [x] /\ 1 <= k) (h:p = 72 /\ k <= 1 \/ p = 73 /\ k <= 3 \/ p = 74 /\ k <= 5 /\ (k = 3 -> plc (r.getD 3 0) <= r.getD 0 0)) (own:Bool):okCh own ⟨p,k,r⟩ got := ⟨hr,hg,h⟩
abbrev Nx (g:CG) (cs:List Int) (d:Pick) (f:Frame) (got:List Int):Prop := (∃ na g' cs' x,Qk2 g cs d f got na g' cs' x) \/ ∃ args,EndC f got args /\ QpZ g d f got args
section
variable {g:CG} {cs:List Int} {d:Pick} {r:List Int} (hC:Q4 g cs)
include hC
theorem Qp0 (hr:r.length = 96) (hd:d.do_ = 1) (h0:r.getD 0 0 = d.place) (h1:r.getD 1 0 = d.key) (hk:0 <= d.key /\ d.key < 24) (hs:g.ct d.key <= d.place /\ 0 <= d.place /\ d.place <= g.m):Nx g cs d ⟨72,0,r⟩ [] := by
 obtain ⟨e1,e2⟩ := hC.head hk;refine .inl ⟨_,_,_,_,V1 (i := 21 + d.key.toNat) hC (p := 72) (n := 1) (r := r) (a := 21 + d.key) (gn := 0) (fun own => ?_) (okCC hr (.inl ⟨rfl,rfl⟩) (.inl ⟨rfl,by decide⟩)) (by omega) (by omega) (by omega) (by omega) ?_ (by rw [QaE,QaE])⟩
 · rw [Qna];unfold Q8;rw [if_pos rfl,h1,YH own 72 r hk]
 · rw [e1];exact .get1 hr hd h0 h1 hk hs e2 (prevK_key _ _ _) (QaD (by omega))
theorem Qp1 {q:Nat} (hr:r.length = 96) (hd:d.do_ = 1) (h0:r.getD 0 0 = d.place) (h1:r.getD 1 0 = d.key) (hk:0 <= d.key /\ d.key < 24) (hs:g.ct d.key <= d.place /\ 0 <= d.place /\ d.place <= g.m)
 (hq:q <= g.m) (kq:q = 0 \/ g.K q = d.key) (nb:prevK g.K d.key (d.place.toNat + 1) <= q):Nx g cs d ⟨72,1,r⟩ [wP q] := by
 have n100 := hC.n100;have mn := hC.mn;have hw:wh (wP q) = wP q := QdV (by omega)
 have hpl:plc (wP q) = q := Y4 (by omega)
 have hok:∀ own,okCh own ⟨72,1,r⟩ [wP q] := okCC hr (.inr ⟨_,rfl,by decide⟩) (.inl ⟨rfl,by decide⟩)
 by_cases hlt:d.place < q
 · have q1:1 <= q := by omega
   have hK := kq.resolve_left (by omega)
   have hcw:cellO (255 + (q:Int)) 1 true = 289 + 3 * (q:Int) := by rw [Zk q1 (by omega) (by omega) (by omega)];omega
   have hb := Y0 q1 (show q <= 100 by omega)
   refine .inl ⟨_,_,_,_,V1 (i := 289 + 3 * q) hC (p := 72) (n := 1) (r := r) (a := 289 + 3 * (q:Int)) (gn := 255 + (q:Int)) (fun own => ?_) hok (by omega) (by omega) (by omega) (by omega) ?_ (by rw [QaE,QaE])⟩
   · rw [Qna];unfold Q8;rw [if_neg (by decide)]
     simp only [List.headD_cons,hw,hpl,hcw,hb,h0];rw [if_pos ⟨hlt,by omega⟩]
   · rcases hC.nx q q1 hq with e | ⟨_,e⟩
     · rw [e,hK];exact .get1 hr hd h0 h1 hk hs (by have := Qfv g.K d.key q;omega) (prevK_key _ _ _) (QaD (by omega))
     · rw [hK] at e;omega
 · refine .inr ⟨[wP q],⟨fun own => ?_,hok,by simp⟩,⟨fun h => by omega,fun _ => ?_,fun h => by omega⟩⟩
   · rw [Qna];unfold Q8;rw [if_neg (by decide)]
     simp only [List.headD_cons,hw,hpl,h0];rw [if_neg (fun h => hlt h.1)];rfl
   · have:q = prevK g.K d.key (d.place.toNat + 1) := by
      rcases Nat.eq_zero_or_pos q with e | e
      · omega
      · have := Y1 (K := g.K) e (kq.resolve_left (by omega)) (show q < d.place.toNat + 1 by omega);omega
     rw [<- this]
theorem Qp2 {p:Nat} (hr:r.length = 96) (hd:d.do_ = 0) (hp:1 <= p /\ p <= g.n) (h0:r.getD 0 0 = p) (h1:r.getD 1 0 = 255 + (p:Int)) (h2:r.getD 2 0 = g.K p) (pl:d.place = p):Nx g cs d ⟨73,0,r⟩ [] := by
 have hk := hC.kr p hp.1 hp.2;have nm := hC.nm;obtain ⟨e1,e2⟩ := hC.head hk;refine .inl ⟨_,_,_,_,V1 (i := 21 + (g.K p).toNat) hC (p := 73) (n := 1) (r := r) (a := 21 + g.K p) (gn := 0) (fun own => ?_) (okCC hr (.inl ⟨rfl,rfl⟩) (.inr (.inl ⟨rfl,by decide⟩))) (by omega) (by omega) (by omega) (by omega) ?_ (by rw [Yp,Yp])⟩
 · rw [Qg4];unfold QV;rw [if_pos rfl,h2,YH own 73 r hk]
 · rw [e1];refine .ins1 hr hd hp h0 h1 h2 pl ?_
   by_cases h:p <= g.m
   · exact .inr ⟨Y1 hp.1 rfl (by omega),e2⟩
   · exact .inl (by rw [show g.m + 1 = p by omega])
theorem Qp3 {p q:Nat} (hr:r.length = 96) (hd:d.do_ = 0) (hp:1 <= p /\ p <= g.n) (h0:r.getD 0 0 = p) (h1:r.getD 1 0 = 255 + (p:Int)) (h2:r.getD 2 0 = g.K p) (pl:d.place = p)
 (hq:q = prevK g.K (g.K p) p \/ p <= q /\ q <= g.m):Nx g cs d ⟨73,1,r⟩ [wP q] := by
 have n100 := hC.n100;have mn := hC.mn;have nm := hC.nm;have hl := hC.len;have hlt := QR g.K (g.K p) p hp.1;have q100:q <= 100 := by rcases hq with h | h <;> omega
 have hw:wh (wP q) = wP q := QdV q100;have hpl:plc (wP q) = q := Y4 q100;have hok:∀ own,okCh own ⟨73,1,r⟩ [wP q] := okCC hr (.inr ⟨_,rfl,by decide⟩) (.inr (.inl ⟨rfl,by decide⟩))
 have hcw:cellO (255 + (p:Int)) 1 true = 289 + 3 * (p:Int) := by rw [Zk hp.1 (by omega) (by omega) (by omega)];omega
 by_cases hpq:p <= q
 · have hm:p <= g.m := by rcases hq with h | h <;> omega
   refine .inr ⟨[],⟨fun own => ?_,hok,by simp⟩,⟨fun _ => by omega,fun h => by omega,fun h => by omega⟩⟩
   rw [Qg4];unfold QV;rw [if_neg (by decide),if_pos rfl]
   simp only [List.headD_cons,hw,hpl,h0,h1,hcw];rw [if_pos (.inr (by omega))]
   rfl
 · have hqe:q = prevK g.K (g.K p) p := by rcases hq with h | h;exact h;omega
   have rw0 := Yo q100
   have e:∀ own,nCh own ⟨73,1,r⟩ [wP q] = naCs 73 2 (r.set 3 (wP q)) (289 + 3 * (p:Int)) (-1) (wP q) (255 + (p:Int)) := fun own => by
    rw [Qg4];unfold QV;rw [if_neg (by decide),if_pos rfl]
    simp only [List.headD_cons,hw,hpl,h0,h1,hcw];rw [if_neg (by omega)]
   have hP:∀ (g':CG) (cs':List Int) (x:Int),g' = g -> cs'.getD (289 + 3 * p) 0 ≠ -1 -> PhI g' cs' d ⟨73,2,r.set 3 (wP q)⟩ [x] := fun g' cs' x hg hn => by
    subst hg;exact .ins2 (by rw [List.length_set];exact hr) hd hp (by rw [rset hr 3 _ (by omega)];exact h0) (by rw [rset hr 3 _ (by omega)];exact h1) (by rw [rset hr 3 _ (by omega)];exact h2) pl (by rw [rset hr 3 _ (by omega),if_pos rfl,hqe]) hn
   by_cases hc:cs.getD (289 + 3 * p) 0 = -1
   · have hpn:p = g.n /\ g.n = g.m + 1 := by
      have:¬ p <= g.m := fun h => by
       rcases hC.nx p hp.1 h with e | ⟨e,_⟩
       · rw [hc] at e;have := Yo (show prevK g.K (g.K p) p <= 100 by omega);omega
       · rw [hc] at e;omega
      omega
     have hi:289 + 3 * p < cs.length := by omega
     have hother:∀ j,j ≠ 289 + 3 * p -> (cs.set (289 + 3 * p) (wP q)).getD j 0 = cs.getD j 0 := fun j hj => by rw [gset _ _ hi,if_neg hj]
     have hself:(cs.set (289 + 3 * p) (wP q)).getD (289 + 3 * p) 0 = wP q := by rw [gset _ _ hi,if_pos rfl]
     have hC':Q4 g (cs.set (289 + 3 * p) (wP q)) := by
      refine ⟨by rw [List.length_set];exact hl,Zm hC.fits (by omega),n100,mn,nm,hC.kr,hC.vr,fun k hk => ?_,fun p' a b => ?_,fun p' a b => ?_,fun p' a b => ?_,fun _ => ?_,fun p' a b => ?_⟩
      · rw [hother _ (by omega)];exact hC.hd k hk
      · rw [hother _ (by omega)];exact hC.gen p' a b
      · rw [hother _ (by omega)];exact hC.val p' a b
      · rw [hother _ (by omega)];exact hC.nx p' a b
      · rw [<- hpn.1,hself,hqe];exact .inr rfl
      · rw [hother _ (by omega)];exact hC.free p' a b
     refine .inl ⟨_,g,cs.set (289 + 3 * p) (wP q),1,step_cs (i := 289 + 3 * p) hC e hok (by omega) (by omega) (by omega) (by omega) (by omega) (by omega) (by omega) (by omega) (.inl ⟨hc,rfl,rfl⟩) hC' ⟨fun _ _ _ => rfl,Nat.le_refl _,Nat.le_refl _,mn,fun _ => Int.le_refl _,fun p' a b hn => ?_,fun p' a b hz => ?_⟩ rfl rfl rfl rfl (hP _ _ _ rfl (by rw [hself];omega)) (.inl (by rw [Yp,Yp]))⟩
     · by_cases h:p' = p
       · subst h;rw [hself];omega
       · rw [hother _ (by omega)];exact hn
     · rw [hother _ (by omega)];exact hz
   · exact .inl ⟨_,g,cs,0,step_cs (i := 289 + 3 * p) hC e hok (by omega) (by omega) (by omega) (by omega) (by omega) (by omega) (by omega) (by omega) (.inr ⟨hc,rfl,rfl⟩) hC (.refl hC) rfl rfl rfl rfl (hP _ _ _ rfl hc) (.inl (by rw [Yp,Yp]))⟩
theorem Qp4 {p:Nat} {x:Int} (hr:r.length = 96) (hd:d.do_ = 0) (hp:1 <= p /\ p <= g.n) (h0:r.getD 0 0 = p) (h1:r.getD 1 0 = 255 + (p:Int)) (h2:r.getD 2 0 = g.K p) (pl:d.place = p)
 (h3:r.getD 3 0 = wP (prevK g.K (g.K p) p)) (hn:cs.getD (289 + 3 * p) 0 ≠ -1):Nx g cs d ⟨73,2,r⟩ [x] := by
 have n100 := hC.n100;have mn := hC.mn;have nm := hC.nm;have hl := hC.len;have hk := hC.kr p hp.1 hp.2;have hlt := QR g.K (g.K p) p hp.1;have hok:∀ own,okCh own ⟨73,2,r⟩ [x] := okCC hr (.inr ⟨_,rfl,by decide⟩) (.inr (.inl ⟨rfl,by decide⟩))
 have hq := Yo (show prevK g.K (g.K p) p <= 100 by omega)
 have hpw := Yo (show p <= 100 by omega)
 have e:∀ own,nCh own ⟨73,2,r⟩ [x] = naCs 73 3 r (21 + g.K p) (wP (prevK g.K (g.K p) p)) (wP p) 0 := fun own => by
  rw [Qg4];unfold QV;rw [if_neg (by decide),if_neg (by decide),if_pos rfl,h0,h1,h2,h3,Qfw hk,QpU hp.1 (by omega)]
 obtain ⟨hh,hm⟩ := hC.head hk
 by_cases hc:cs.getD (21 + (g.K p).toNat) 0 = wP (prevK g.K (g.K p) p)
 · have hpm:¬ p <= g.m := fun h => by
    have h4 := Y1 (K := g.K) hp.1 rfl (show p < g.m + 1 by omega)
    rw [hh] at hc;have := QkD (by omega) (by omega) hc
    omega
   have hpn:p = g.n /\ g.n = g.m + 1 := by omega
   have hi:21 + (g.K p).toNat < cs.length := by omega
   have hother:∀ j,j ≠ 21 + (g.K p).toNat -> (cs.set (21 + (g.K p).toNat) (wP p)).getD j 0 = cs.getD j 0 := fun j hj => by rw [gset _ _ hi,if_neg hj]
   have hself:(cs.set (21 + (g.K p).toNat) (wP p)).getD (21 + (g.K p).toNat) 0 = wP p := by rw [gset _ _ hi,if_pos rfl]
   have hC':Q4 { g with m := g.n } (cs.set (21 + (g.K p).toNat) (wP p)) := by
    refine ⟨by rw [List.length_set];exact hl,Zm hC.fits (by omega),n100,Nat.le_refl _,by show g.n <= g.n + 1;omega,hC.kr,hC.vr,fun k hk' => ?_,fun p' a b => ?_,fun p' a b => ?_,fun p' a b => ?_,fun h => by have h:g.n = g.n + 1 := h;omega,fun p' a b => ?_⟩
    · show _ = wP (prevK g.K k (g.n + 1))
      by_cases hkk:(k:Int) = g.K p
      · have:k = (g.K p).toNat := by omega
        rw [this,hself];unfold prevK;rw [if_pos ⟨by omega,by rw [<- hpn.1];omega⟩,hpn.1]
      · rw [hother _ (by omega),hC.hd k hk']
        conv => rhs;unfold prevK
        rw [if_neg (fun h => hkk (by rw [<- h.2,hpn.1])),hpn.2]
    · rw [hother _ (by omega)];exact hC.gen p' a b
    · rw [hother _ (by omega)];exact hC.val p' a b
    · rw [hother _ (by omega)]
      by_cases h:p' <= g.m
      · exact hC.nx p' a h
      · have b':p' <= g.n := b;have:p' = p := by omega
        subst this;rcases hC.nxn hpn.2 with h' | h'
        · rw [<- hpn.1] at h';exact absurd h' hn
        · rw [<- hpn.1] at h';exact .inl h'
    · rw [hother _ (by omega)];exact hC.free p' a b
   refine .inl ⟨_,{ g with m := g.n },_,1,step_cs (i := 21 + (g.K p).toNat) hC e hok (by omega) (by omega) (by omega) (by omega) (by omega) (by omega) (by omega) (by omega) (.inl ⟨hc,rfl,rfl⟩) hC' ⟨fun _ _ _ => rfl,Nat.le_refl _,mn,mn,fun _ => Int.le_refl _,fun p' a b hn' => ?_,fun p' a b hz => ?_⟩ rfl rfl rfl rfl (.ins3 hr hd ⟨hp.1,hp.2⟩ pl) (.inl (by rw [Yp,Yp]))⟩
   · rw [hother _ (by omega)];exact hn'
   · rw [hother _ (by omega)];exact hz
 · have hpm:p <= g.m := by
    rcases Nat.lt_or_ge g.m p with h | h
    · exact absurd (by rw [hh,show g.m + 1 = p by omega]) hc
    · exact h
   exact .inl ⟨_,g,cs,0,step_cs (i := 21 + (g.K p).toNat) hC e hok (by omega) (by omega) (by omega) (by omega) (by omega) (by omega) (by omega) (by omega) (.inr ⟨hc,rfl,rfl⟩) hC (.refl hC) rfl rfl rfl rfl (.ins3 hr hd ⟨hp.1,hpm⟩ pl) (.inl (by rw [Yp,Yp]))⟩
omit hC in
theorem Qp5 {p:Nat} {x:Int} (hr:r.length = 96) (hd:d.do_ = 0) (hp:1 <= p /\ p <= g.m) (pl:d.place = p):Nx g cs d ⟨73,3,r⟩ [x] := by
 refine .inr ⟨[],⟨fun own => ?_,okCC hr (.inr ⟨_,rfl,by decide⟩) (.inr (.inl ⟨rfl,by decide⟩)),by simp⟩,⟨fun _ => by omega,fun h => by omega,fun h => by omega⟩⟩
 rw [Qg4];unfold QV;rw [if_neg (by decide),if_neg (by decide),if_neg (by decide)]
 rfl
omit hC in
theorem Qp6 {f:Frame} {got:List Int} (e:∀ own,(nCh own f got).a = ⟨7,0,0,0,0,[],[0,0]⟩) (ok:∀ own,okCh own f got) (hd:d.do_ = 2) (hp:Zo f got = 0):Nx g cs d f got :=
 .inr ⟨[0,0],⟨e,ok,by simp⟩,⟨fun h => by omega,fun h => by omega,fun _ => ⟨rfl,by rw [hp];rfl,.inl rfl⟩⟩⟩
theorem Qp7 (hr:r.length = 96) (hd:d.do_ = 2) (h0:r.getD 0 0 = d.place) (h1:r.getD 1 0 = d.key) (hk:0 <= d.key /\ d.key < 24) (he:0 <= d.place /\ d.place <= g.ct d.key):Nx g cs d ⟨74,0,r⟩ [] := by
 obtain ⟨e1,e2⟩ := hC.head hk;refine .inl ⟨_,_,_,_,V1 (i := 21 + d.key.toNat) hC (p := 74) (n := 1) (r := r) (a := 21 + d.key) (gn := 0) (fun own => ?_) (okCC hr (.inl ⟨rfl,rfl⟩) (.inr (.inr ⟨rfl,by decide,fun h => absurd h (by decide)⟩))) (by omega) (by omega) (by omega) (by omega) ?_ (by rw [pend74 _ _ (by decide) (by decide),pend74 _ _ (by decide) (by decide)])⟩
 · rw [QcZ];unfold QQ;rw [if_pos rfl,h1,YH own 74 r hk]
 · rw [e1];exact .cut1 hr hd h0 h1 hk he e2 (prevK_key _ _ _)
theorem Qfx {q:Nat} {k:Int} {got:List Int} (hr:r.length = 96) (hd:d.do_ = 2) (h0:r.getD 0 0 = d.place) (h1:r.getD 1 0 = d.key) (hk:0 <= d.key /\ d.key < 24) (he:0 <= d.place /\ d.place <= g.ct d.key)
 (hq:q <= g.m) (kq:q = 0 \/ g.K q = d.key) (hok:∀ own,okCh own ⟨74,k,r⟩ got) (hp:Zo ⟨74,k,r⟩ got = 0) (e:∀ own,nCh own ⟨74,k,r⟩ got = Q9 own k r (wP q)):Nx g cs d ⟨74,k,r⟩ got := by
 have n100 := hC.n100;have mn := hC.mn;have hw:wh (wP q) = wP q := QdV (by omega)
 by_cases q0:q = 0
 · subst q0;refine Qp6 (fun own => ?_) hok hd hp;rw [e];unfold Q9;rw [if_pos (.inl rfl)];rfl
 · have q1:1 <= q := by omega
   have hcw:cellO (255 + (q:Int)) 1 true = 289 + 3 * (q:Int) := by rw [Zk q1 (by omega) (by omega) (by omega)];omega
   have hb := Y0 q1 (show q <= 100 by omega)
   have hgt := QgX q1;obtain ⟨b,b1,b2⟩ := hC.next q1 hq;refine .inl ⟨_,_,_,_,V1 (i := 289 + 3 * q) hC (p := 74) (n := 2) (r := r.set 2 (wP q)) (a := 289 + 3 * (q:Int)) (gn := 255 + (q:Int)) (fun own => ?_) hok (by omega) (by omega) (by omega) (by omega) ?_ (by rw [pend74 _ _ (by decide) (by decide),hp])⟩
   · rw [e];unfold Q9;simp only [hw,hb,hcw];rw [if_neg (by omega)]
   · rw [b1];exact .cut2 (by rw [List.length_set];exact hr) hd (by rw [rset hr 2 _ (by omega)];exact h0) (by rw [rset hr 2 _ (by omega)];exact h1) hk he ⟨q1,hq⟩ (kq.resolve_left q0) (by rw [rset hr 2 _ (by omega),if_pos rfl]) (by rw [<- kq.resolve_left q0];exact b2)
theorem Qp8 {q:Nat} (hr:r.length = 96) (hd:d.do_ = 2) (h0:r.getD 0 0 = d.place) (h1:r.getD 1 0 = d.key) (hk:0 <= d.key /\ d.key < 24) (he:0 <= d.place /\ d.place <= g.ct d.key)
 (hq:q <= g.m) (kq:q = 0 \/ g.K q = d.key):Nx g cs d ⟨74,1,r⟩ [wP q] :=
 Qfx hC hr hd h0 h1 hk he hq kq (okCC hr (.inr ⟨_,rfl,by decide⟩) (.inr (.inr ⟨rfl,by decide,fun h => absurd h (by decide)⟩))) (pend74 _ _ (by decide) (by decide)) (fun own => by
  rw [QcZ];unfold QQ;rw [if_neg (by decide),if_pos rfl];rfl)
theorem Qc0 {a y:Nat} {k:Int} {got:List Int} {r':List Int} (hr:r'.length = 96) (hd:d.do_ = 2) (h0:r'.getD 0 0 = d.place) (h1:r'.getD 1 0 = d.key) (hk:0 <= d.key /\ d.key < 24) (he:0 <= d.place /\ d.place <= g.ct d.key)
 (ha:1 <= a /\ a <= g.m) (ka:g.K a = d.key) (h2:r'.getD 2 0 = wP a) (ae:(a:Int) <= d.place) (hy:y = 0 \/ y = prevK g.K d.key a) (hok:∀ own,okCh own ⟨74,k,r⟩ got) (hp:Zo ⟨74,k,r⟩ got = 0)
 (e:∀ own,nCh own ⟨74,k,r⟩ got = QH own k r' (wP y)):Nx g cs d ⟨74,k,r⟩ got := by
 have n100 := hC.n100;have mn := hC.mn;have hle := QR g.K d.key a ha.1
 by_cases q0:y = 0
 · subst q0;refine Qp6 (fun own => ?_) hok hd hp;rw [e];unfold QH;rw [if_pos (.inl (by rw [wP_0];omega))];rfl
 · have q1:1 <= y := by omega
   have hye := hy.resolve_left q0;have hcw:cellO (255 + (y:Int)) 1 true = 289 + 3 * (y:Int) := by rw [Zk q1 (by omega) (by omega) (by omega)];omega
   have hb := Y0 q1 (show y <= 100 by omega)
   have hgt := QgX q1;have ky:g.K y = d.key := by have := prevK_key g.K d.key a;rw [<- hye] at this;exact this.resolve_left q0
   obtain ⟨z,z1,z2⟩ := hC.next q1 (by omega)
   refine .inl ⟨_,_,_,_,V1 (i := 289 + 3 * y) hC (p := 74) (n := 3) (r := r'.set 3 (wP y)) (a := 289 + 3 * (y:Int)) (gn := 255 + (y:Int)) (fun own => ?_) hok (by omega) (by omega) (by omega) (by omega) ?_ (by rw [pend74 _ _ (by decide) (by decide),hp])⟩
   · rw [e];unfold QH;simp only [hb,hcw];rw [if_neg (by omega)]
   · rw [z1];exact .cut3 (by rw [List.length_set];exact hr) hd (by rw [rset hr 3 _ (by omega)];exact h0) (by rw [rset hr 3 _ (by omega)];exact h1) hk he ha ka (by rw [rset hr 3 _ (by omega)];exact h2) ae (by rw [rset hr 3 _ (by omega),if_pos rfl]) ⟨q1,hye⟩ (by rw [<- ky];exact z2)
theorem Qp9 {a b:Nat} (hr:r.length = 96) (hd:d.do_ = 2) (h0:r.getD 0 0 = d.place) (h1:r.getD 1 0 = d.key) (hk:0 <= d.key /\ d.key < 24) (he:0 <= d.place /\ d.place <= g.ct d.key)
 (ha:1 <= a /\ a <= g.m) (ka:g.K a = d.key) (h2:r.getD 2 0 = wP a) (hb:b = 0 \/ b = prevK g.K d.key a):Nx g cs d ⟨74,2,r⟩ [wP b] := by
 have n100 := hC.n100;have mn := hC.mn;have hle := QR g.K d.key a ha.1;have hpl:plc (wP a) = a := Y4 (by omega)
 have hok:∀ own,okCh own ⟨74,2,r⟩ [wP b] := okCC hr (.inr ⟨_,rfl,by decide⟩) (.inr (.inr ⟨rfl,by decide,fun h => absurd h (by decide)⟩))
 have e0:∀ own,nCh own ⟨74,2,r⟩ [wP b] = if d.place < (a:Int) then Q9 own 2 r (wP b) else QH own 2 r (wP b) := fun own => by
  rw [QcZ];unfold QQ;rw [if_neg (by decide),if_neg (by decide),if_pos rfl,h0,h2,hpl];rfl
 by_cases hlt:d.place < (a:Int)
 · refine Qfx (q := b) hC hr hd h0 h1 hk he (by rcases hb with h | h <;> omega) (by rcases hb with h | h;exact .inl h;exact h ▸ prevK_key g.K d.key a) hok (pend74 _ _ (by decide) (by decide)) (fun own => by rw [e0,if_pos hlt])
 · exact Qc0 hC hr hd h0 h1 hk he ha ka h2 (by omega) hb hok (pend74 _ _ (by decide) (by decide)) (fun own => by rw [e0,if_neg hlt])
theorem Qqa {a y z:Nat} (hr:r.length = 96) (hd:d.do_ = 2) (h0:r.getD 0 0 = d.place) (h1:r.getD 1 0 = d.key) (hk:0 <= d.key /\ d.key < 24) (he:0 <= d.place /\ d.place <= g.ct d.key)
 (ha:1 <= a /\ a <= g.m) (ka:g.K a = d.key) (h2:r.getD 2 0 = wP a) (ae:(a:Int) <= d.place) (h3:r.getD 3 0 = wP y) (hy:1 <= y /\ y = prevK g.K d.key a) (hz:z = 0 \/ z = prevK g.K d.key y):Nx g cs d ⟨74,3,r⟩ [wP z] := by
 have n100 := hC.n100;have mn := hC.mn;have hl := hC.len;have hle := QR g.K d.key a ha.1;have hpy:plc (wP y) = y := Y4 (by omega)
 have ky:g.K y = d.key := by have := prevK_key g.K d.key a;rw [<- hy.2] at this;exact this.resolve_left (by omega)
 have hok:∀ own,okCh own ⟨74,3,r⟩ [wP z] := okCC hr (.inr ⟨_,rfl,by decide⟩) (.inr (.inr ⟨rfl,by decide,fun _ => by rw [h3,h0,hpy];omega⟩))
 have e0:∀ own,nCh own ⟨74,3,r⟩ [wP z] = if 0 < wP z then QH own 3 (r.set 2 (wP y)) (wP z) else naCs 74 4 r (289 + 3 * (a:Int)) (wP y) 0 (255 + (a:Int)) := fun own => by
  rw [QcZ];unfold QQ;rw [if_neg (by decide),if_neg (by decide),if_neg (by decide),if_pos rfl,h2,h3,Y0 ha.1 (by omega),Zk ha.1 (by omega) (by omega) (by omega),show 288 + 3 * (a:Int) + 1 = 289 + 3 * (a:Int) by omega];rfl
 by_cases z0:z = 0
 · subst z0;have e:∀ own,nCh own ⟨74,3,r⟩ [wP 0] = naCs 74 4 r (289 + 3 * (a:Int)) (wP y) 0 (255 + (a:Int)) := fun own => by rw [e0,if_neg (by rw [wP_0];omega)]
   have hyr := Yo (show y <= 100 by omega)
   have hygt := QgX hy.1
   by_cases hc:cs.getD (289 + 3 * a) 0 = wP y
   · have hi:289 + 3 * a < cs.length := by omega
     have hother:∀ j,j ≠ 289 + 3 * a -> (cs.set (289 + 3 * a) 0).getD j 0 = cs.getD j 0 := fun j hj => by rw [gset _ _ hi,if_neg hj]
     have hself:(cs.set (289 + 3 * a) 0).getD (289 + 3 * a) 0 = 0 := by rw [gset _ _ hi,if_pos rfl]
     have hC':Q4 g (cs.set (289 + 3 * a) 0) := by
      refine ⟨by rw [List.length_set];exact hl,Zm hC.fits (by omega),n100,mn,hC.nm,hC.kr,hC.vr,fun k hk => ?_,fun p' a' b => ?_,fun p' a' b => ?_,fun p' a' b => ?_,fun h => ?_,fun p' a' b => ?_⟩
      · rw [hother _ (by omega)];exact hC.hd k hk
      · rw [hother _ (by omega)];exact hC.gen p' a' b
      · rw [hother _ (by omega)];exact hC.val p' a' b
      · by_cases h:p' = a
        · subst h;exact .inr ⟨hself,by rw [ka];omega⟩
        · rw [hother _ (by omega)];exact hC.nx p' a' b
      · rw [hother _ (by omega)];exact hC.nxn h
      · rw [hother _ (by omega)];exact hC.free p' a' b
     have hnt:¬ Jq g cs y := fun ⟨b,b1,b2,b3,b4⟩ => by
      have:b = a := Qm9 b1 ha.1 hy.1 b3 (by rw [ka];exact hy.2.symm)
      subst this;rw [hc] at b4;omega
     have htk:Jq g (cs.set (289 + 3 * a) 0) y := ⟨a,ha.1,ha.2,by rw [ka];exact hy.2.symm,hself⟩
     refine .inl ⟨_,g,_,1,step_cs (i := 289 + 3 * a) hC e hok (by omega) (by omega) (by omega) (by omega) (by omega) (by omega) (by omega) (by omega) (.inl ⟨hc,rfl,rfl⟩) hC' ⟨fun _ _ _ => rfl,Nat.le_refl _,Nat.le_refl _,mn,fun _ => Int.le_refl _,fun p' a' b hn' => ?_,fun p' a' b hz' => ?_⟩ rfl rfl rfl rfl (.cut4y hr hd ha ka ae h3 hy hself) (.inr ⟨pend74 _ _ (by decide) (by decide),y,?_,hy.1,by omega,hnt,htk⟩)⟩
     · by_cases h:p' = a
       · subst h;rw [hself];omega
       · rw [hother _ (by omega)];exact hn'
     · by_cases h:p' = a
       · subst h;exact hself
       · rw [hother _ (by omega)];exact hz'
     · unfold Zo;rw [if_pos ⟨rfl,.inl ⟨rfl,rfl⟩⟩];exact h3
   · exact .inl ⟨_,g,cs,0,step_cs (i := 289 + 3 * a) hC e hok (by omega) (by omega) (by omega) (by omega) (by omega) (by omega) (by omega) (by omega) (.inr ⟨hc,rfl,rfl⟩) hC (.refl hC) rfl rfl rfl rfl (.cut4n hr hd) (.inl (by
      rw [pend74 (k := 3) _ _ (by decide) (by decide)]
      exact if_neg (fun h => h.2.elim (fun h => by have := h.2;simp at this) (fun h => by have h:(4:Int) = 5 := h;omega))))⟩
 · have z1:1 <= z := by omega
   have hgt := QgX z1;refine Qc0 hC (a := y) (r' := r.set 2 (wP y)) (by rw [List.length_set];exact hr) hd (by rw [rset hr 2 _ (by omega)];exact h0) (by rw [rset hr 2 _ (by omega)];exact h1) hk he ⟨hy.1,by omega⟩ ky (by rw [rset hr 2 _ (by omega),if_pos rfl]) (by omega) hz hok (pend74 _ _ (by decide) (by decide)) (fun own => by rw [e0,if_pos hgt])
omit hC in
theorem Qnb (hr:r.length = 96) (hd:d.do_ = 2):Nx g cs d ⟨74,4,r⟩ [0] := by
 refine Qp6 (fun own => ?_) (okCC hr (.inr ⟨_,rfl,by decide⟩) (.inr (.inr ⟨rfl,by decide,fun h => absurd h (by decide)⟩))) hd (if_neg (fun h => h.2.elim (fun h => by have := h.2;simp at this) (fun h => by have h:(4:Int) = 5 := h;omega)))
 rw [QcZ];unfold QQ;rw [if_neg (by decide),if_neg (by decide),if_neg (by decide),if_neg (by decide),if_pos rfl,if_pos (show ([0]:List Int).headD 0 = 0 from rfl)];rfl
theorem Qnc {a y:Nat} (hr:r.length = 96) (hd:d.do_ = 2) (ha:1 <= a /\ a <= g.m) (ka:g.K a = d.key) (ae:(a:Int) <= d.place) (h3:r.getD 3 0 = wP y) (hy:1 <= y /\ y = prevK g.K d.key a) (hc:cs.getD (289 + 3 * a) 0 = 0):Nx g cs d ⟨74,4,r⟩ [1] := by
 refine .inl ⟨_,_,_,_,V1 (i := 2) hC (p := 74) (n := 5) (r := r) (a := 2) (gn := 0) (fun own => ?_) (okCC hr (.inr ⟨_,rfl,by decide⟩) (.inr (.inr ⟨rfl,by decide,fun h => absurd h (by decide)⟩))) (by omega) (by omega) (by omega) (by omega) (.cut5 hr hd ha ka ae h3 hy hc) ?_⟩
 · rw [QcZ];unfold QQ;rw [if_neg (by decide),if_neg (by decide),if_neg (by decide),if_neg (by decide),if_pos rfl,if_neg (by simp)]
 · unfold Zo;rw [if_pos ⟨rfl,.inr rfl⟩,if_pos ⟨rfl,.inl ⟨rfl,rfl⟩⟩]
theorem Qqb {a y:Nat} {x:Int} (hr:r.length = 96) (hd:d.do_ = 2) (ha:1 <= a /\ a <= g.m) (ka:g.K a = d.key) (ae:(a:Int) <= d.place) (h3:r.getD 3 0 = wP y) (hy:1 <= y /\ y = prevK g.K d.key a) (hc:cs.getD (289 + 3 * a) 0 = 0):Nx g cs d ⟨74,5,r⟩ [x] := by
 have n100 := hC.n100;have mn := hC.mn;have hle := QR g.K d.key a ha.1;refine .inr ⟨[wP y,x],⟨fun own => ?_,okCC hr (.inr ⟨_,rfl,by decide⟩) (.inr (.inr ⟨rfl,by decide,fun h => absurd h (by decide)⟩)),by simp⟩,⟨fun h => by omega,fun h => by omega,fun _ => ⟨rfl,?_,.inr ?_⟩⟩⟩
 · rw [QcZ];unfold QQ;rw [if_neg (by decide),if_neg (by decide),if_neg (by decide),if_neg (by decide),if_neg (by decide),h3];rfl
 · unfold Zo;rw [if_pos ⟨rfl,.inr rfl⟩];exact h3.symm
 · show plc (wP y) < d.place;rw [Y4 (by omega)];omega
theorem PhI.step {f:Frame} {got:List Int} (h:PhI g cs d f got):Nx g cs d f got := by
 cases h with
 | get0 hr hd h0 h1 hk hs => exact Qp0 hC hr hd h0 h1 hk hs
 | get1 hr hd h0 h1 hk hs hq kq nb => exact Qp1 hC hr hd h0 h1 hk hs hq kq nb
 | ins0 hr hd hp h0 h1 h2 pl => exact Qp2 hC hr hd hp h0 h1 h2 pl
 | ins1 hr hd hp h0 h1 h2 pl hq => exact Qp3 hC hr hd hp h0 h1 h2 pl hq
 | ins2 hr hd hp h0 h1 h2 pl h3 hn => exact Qp4 hC hr hd hp h0 h1 h2 pl h3 hn
 | ins3 hr hd hp pl => exact Qp5 hr hd hp pl
 | cut0 hr hd h0 h1 hk he => exact Qp7 hC hr hd h0 h1 hk he
 | cut1 hr hd h0 h1 hk he hq kq => exact Qp8 hC hr hd h0 h1 hk he hq kq
 | cut2 hr hd h0 h1 hk he ha ka h2 hb => exact Qp9 hC hr hd h0 h1 hk he ha ka h2 hb
 | cut3 hr hd h0 h1 hk he ha ka h2 ae h3 hy hz => exact Qqa hC hr hd h0 h1 hk he ha ka h2 ae h3 hy hz
 | cut4n hr hd => exact Qnb hr hd
 | cut4y hr hd ha ka ae h3 hy hc => exact Qnc hC hr hd ha ka ae h3 hy hc
 | cut5 hr hd ha ka ae h3 hy hc => exact Qqb hC hr hd ha ka ae h3 hy hc
end
def tkOf (c:Nat) (f:Frame) (got:List Int):Task := ⟨c,[f],got,false⟩
theorem ZP {own:Bool} {c:Nat} {f:Frame} {got:List Int} {na:NA} (h:NxtP f got na):goT nCh own (tkOf c f got) = ⟨[na.f],got,false,na.a,na.fl,true⟩ := by
 have hk:na.a.kind < 6 := by rcases h.kd with e | e <;> omega
 have e:nCh own (topF [f]) got = na := h.e own;unfold goT tkOf;show goN (nCh own) (63 + 1) [f] got false = _;unfold goN;rw [if_neg (by simp),e,if_pos hk]
 unfold tkSt;rw [if_pos hk];rfl
theorem V2 {own:Bool} {c:Nat} {f:Frame} {got args:List Int} (h:EndC f got args):goT nCh own (tkOf c f got) = ⟨[],args,false,act0,true,false⟩ := by
 have e:(nCh own (topF [f]) got).a = ⟨7,0,0,0,0,[],args⟩ := h.e own;unfold goT tkOf;show goN (nCh own) (63 + 1) [f] got false = _;unfold goN;rw [if_neg (by simp),e,if_neg (by show ¬ (7:Int) < 6;omega)]
 show goN (nCh own) (62 + 1) [] args false = _;unfold goN;rw [if_pos rfl]
theorem Qk3 {own:Bool} {f:Frame} {got:List Int} {na:NA} (h:NxtP f got na):OkN (nCh own) (okCh own) 64 [f] got := by
 have e:nCh own (topF [f]) got = na := h.e own;refine .inr ⟨by simp,by simp,?_,h.ok own,?_,?_,?_,?_⟩
 · obtain ⟨_,hg,_⟩ := h.ok own;rcases hg with ⟨_,hg⟩ | ⟨x,hg,_⟩ <;> rw [hg] <;> simp
 · rw [e];exact h.may
 · rw [e];rcases h.kd with k | k <;> omega
 · rw [e];rcases h.kd with k | k <;> omega
 · rw [e];left;rcases h.kd with k | k <;> omega
theorem Qfy {own:Bool} {f:Frame} {got args:List Int} (h:EndC f got args):OkN (nCh own) (okCh own) 64 [f] got := by
 have e:(nCh own (topF [f]) got).a = ⟨7,0,0,0,0,[],args⟩ := h.e own;have hl := h.len;refine .inr ⟨by simp,by simp,?_,h.ok own,?_,?_,?_,?_⟩
 · obtain ⟨_,hg,_⟩ := h.ok own;rcases hg with ⟨_,hg⟩ | ⟨x,hg,_⟩ <;> rw [hg] <;> simp
 · rw [e];refine decide_eq_true (p := MayA 7 0 0 0 0 0 args.length) ?_;unfold MayA;omega
 · rw [e];show (0:Int) <= 7;omega
 · rw [e];show (7:Int) <= 7;omega
 · rw [e];refine .inr ⟨fun h => by have h:(7:Int) = 6 := h;omega,.inl ?_⟩
   rfl
def Rdy (f:Frame) (got:List Int):Prop := (∃ na,NxtP f got na) \/ ∃ args,EndC f got args
theorem Qfz {c:Nat} {f:Frame} {got:List Int} (h:Rdy f got):QgP nCh okCh (c:Int) (tkOf c f got) (tkOf c f got) := by
 rcases h with ⟨na,h⟩ | ⟨args,h⟩
 · refine ⟨⟨by simp [tkOf],Qk3 h,rfl,rfl⟩,⟨by simp [tkOf],Qk3 h,rfl,rfl⟩,?_,?_,?_⟩
   · rw [ZP h,ZP h]
   · rw [ZP h,ZP h];exact fun _ => ⟨rfl,by show na.a.args.length <= 96;rw [h.tx.2];simp⟩
   · rw [ZP h];intro q;cases q
 · have hl := h.len;refine ⟨⟨by simp [tkOf],Qfy h,rfl,rfl⟩,⟨by simp [tkOf],Qfy h,rfl,rfl⟩,?_,?_,?_⟩
   · rw [V2 h,V2 h]
   · rw [V2 h];intro q;cases q
   · rw [V2 h,V2 h];exact fun _ => ⟨rfl,rfl,rfl,by show args.length <= 96;omega⟩
theorem Nx.rdy {g:CG} {cs:List Int} {d:Pick} {f:Frame} {got:List Int} (h:Nx g cs d f got):Rdy f got := by
 rcases h with ⟨na,_,_,_,h⟩ | ⟨args,h,_⟩
 · exact .inl ⟨na,h.nx⟩
 · exact .inr ⟨args,h⟩
theorem Qnd {c:Nat} {f:Frame} {got:List Int} {na:NA} (h:NxtP f got na) (cs:List Int) (own:Bool):gmX nCh cs (tkOf c f got) = doG4 cs na.a.kind na.a.a na.a.b /\ gmCs nCh cs (tkOf c f got) = doC4 cs na.a.kind na.a.a na.a.b na.a.v /\
 ∀ x,gmT nCh own x (tkOf c f got) = tkOf c na.f [x] := by
 refine ⟨by unfold gmX;rw [ZP h],by unfold gmCs;rw [ZP h],fun x => ?_⟩
 unfold gmT;rw [ZP h];rfl
theorem Qk4 {g g':CG} {cs cs':List Int} {d:Pick} {f:Frame} {got:List Int} {na:NA} {x:Int} {c:Nat} {now sure:List Sector} (hC:Q4 g cs) (h:Qk2 g cs d f got na g' cs' x) (d1:Qz now sure = true) (d2:Qv now = true) (d3:Qv sure = true) :
 KG (c:Int) cs (tkOf c f got) (tkOf c f got) now sure := by
 obtain ⟨e1,e2,e3⟩ := Qnd (c := c) h.nx cs false;obtain ⟨_,_,e4⟩ := Qnd (c := c) h.nx cs true;refine ⟨⟨Qfz (.inl ⟨na,h.nx⟩),?_,?_,?_,?_,?_,?_,hC.fits,d1,d2,d3,?_⟩,?_⟩
 · rw [ZP h.nx]
 · rw [ZP h.nx];refine ⟨by simp,?_⟩
   obtain ⟨_,hg,_⟩ := h.nx.ok false;rcases hg with ⟨_,hg⟩ | ⟨y,hg,_⟩ <;> rw [hg] <;> simp
 · rw [ZP h.nx];refine ⟨by simp,?_⟩
   obtain ⟨_,hg,_⟩ := h.nx.ok false;rcases hg with ⟨_,hg⟩ | ⟨y,hg,_⟩ <;> rw [hg] <;> simp
 · rw [ZP h.nx];exact h.nx.tx
 · rw [ZP h.nx];exact h.d4
 · rw [ZP h.nx];exact h.nx.gen
 · rw [e1,e3,e4,h.xe];exact Qfz (PhI.step h.C h.P).rdy
 · rw [ZP h.nx];exact h.nx.kd
end Go.Ev
