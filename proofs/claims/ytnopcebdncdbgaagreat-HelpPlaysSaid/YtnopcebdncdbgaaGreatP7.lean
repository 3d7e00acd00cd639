/-
  Each action of installs and of helping, whatever is begun and picked, is the document's: HelpPlays holds of every list of picks and every width. (text 8)
-/
import Derived.Test.YtnopcebdncdbgaaGreatP6
import Derived.OpenShut
import Derived.ReadAgain
import Derived.WalkKit
import Derived.ProofKit
import Derived.Test.YtnopcebdncdbgaaGreatRows
namespace Go.Ev
open Go.Proofs
set_option maxRecDepth 100000
set_option linter.unusedVariables false
set_option linter.unusedSimpArgs false
open Go.ChangeShapes Go.WideShapes Go.RowKit
section
variable {C : Cdc}
def good (gA : (t : C.Ty) -> C.A t -> Prop) : D C -> Prop
 | .int k n => k.min <= n /\ n <= k.max
 | .str s => s.length <= maxLen
 | .acons d ds => good gA d /\ good gA ds
 | .arr t n l => l.length = n /\ ∀ x ∈ l,gA t x
 | .sl t _ l => l.length <= maxLen /\ ∀ x ∈ l,gA t x
 | _ => True
def plainT (T : Tab C) : Nat -> TypeId -> Bool
 | 0,_ => false
 | k + 1,t => match T.ty t with
  | .bool | .int _ | .str => true
  | .struct _ fs => fs.all (plainT T k)
  | .arr _ e _ => plainT T k e
  | .sl e _ => plainT T k e
  | _ => false
structure Dec (T : Tab C) (gA : (t : C.Ty) -> C.A t -> Prop) : Prop where
 dec : ∀ t d,fit T d (.inl (T.ety t)) = true -> d.refs = [] -> good gA d -> (∃ k u,T.ty u = T.ty (T.ety t) /\ plainT T k u = true) -> ∃ x,T.dec t d = some x /\ gA t x
variable {P : Program} {T : Tab C} {gA : (t : C.Ty) -> C.A t -> Prop}
def X0 (W : World) : Cx := ⟨W,fun _ => none,fun _ _ => False⟩
theorem QuX (W : World) (b o : Nat) : (X0 W).free b o := ⟨fun h => h,fun ⟨_,_,h,_⟩ => by simp [X0] at h⟩
theorem Qv3 {X : Cx} (t : C.Ty) (sz : Nat) : ∀ (n : Nat) (cs : List Value),cs.length = n * sz -> (∀ i,i < n -> ∃ x : C.A t,R T X false (T.enc t x) ((cs.drop (i * sz)).take sz) /\ gA t x) ->
 ∃ l : List (C.A t),R T X false (.arr t n l) cs /\ l.length = n /\ ∀ x ∈ l,gA t x
 | 0,cs,hl,_ => by
  obtain rfl : cs = [] := by simpa using hl
  exact ⟨[],.arr0 _,rfl,by simp⟩
 | n + 1,cs,hl,h => by
  obtain ⟨x,hx,gx⟩ := h 0 (by omega)
  obtain ⟨l,hr,hn,gl⟩ := Qv3 t sz n (cs.drop sz) (by rw [List.length_drop,hl,Nat.succ_mul];omega) fun i hi => by
   obtain ⟨y,hy,gy⟩ := h (i + 1) (by omega)
   refine ⟨y,?_,gy⟩;rw [List.drop_drop];rw [show sz + i * sz = (i + 1) * sz by rw [Nat.succ_mul];omega]
   exact hy
  refine ⟨x :: l,?_,by simp [hn],by simpa using ⟨gx,gl⟩⟩
  have := R.arrS hx hr
  simpa using this
theorem sl_R {W : World} (t : C.Ty) (b sz : Nat) : ∀ (n off : Nat),(∀ i,i < n -> ∃ (x : C.A t) (ci : List Value),R T (X0 W) false (T.enc t x) ci /\ ci.length = sz /\ (∀ j,j < sz -> W.cell? ⟨b,off + i * sz + j,none⟩ = ci[j]?) /\ gA t x) ->
 ∃ (l : List (C.A t)) (cs : List Value),R T (X0 W) false (.arr t n l) cs /\ l.length = n /\ (X0 W).at b off cs /\ ∀ x ∈ l,gA t x
 | 0,off,_ => ⟨[],[],.arr0 _,rfl,fun j v h => by simp at h,by simp⟩
 | n + 1,off,h => by
  obtain ⟨x,ci,hx,hlen,hc,gx⟩ := h 0 (by omega)
  obtain ⟨l,cs,hr,hn,hat,gl⟩ := sl_R t b sz n (off + sz) fun i hi => by
   obtain ⟨y,c2,hy,h2,h3,gy⟩ := h (i + 1) (by omega)
   refine ⟨y,c2,hy,h2,fun j hj => ?_,gy⟩;have := h3 j hj
   rwa [show off + (i + 1) * sz + j = off + sz + i * sz + j by rw [Nat.succ_mul];omega] at this
  refine ⟨x :: l,ci ++ cs,.arrS hx hr,by simp [hn],fun j v hj => ⟨?_,QuX _ _ _⟩,by simpa using ⟨gx,gl⟩⟩
  by_cases hlt : j < ci.length
  · rw [List.getElem?_append_left hlt] at hj;have := hc j (by omega)
    simp only [Nat.zero_mul,Nat.add_zero] at this;exact this.trans hj
  · rw [List.getElem?_append_right (by omega)] at hj
    have := (hat _ _ hj).1
    rwa [show off + sz + (j - ci.length) = off + j by omega] at this
theorem st_R {X : Cx} : ∀ (fs : List TypeId) (cs : List Value),(∀ i f,fs[i]? = some f -> ∃ d,R T X false d ((cs.drop (QK T (fs.take i))).take (T.size f)) /\ fit T d (.inl f) = true /\ good gA d /\ d.refs = []) ->
 ∃ d,R T X false d (cs.take (QK T fs)) /\ fit T d (.inr fs) = true /\ good gA d /\ d.refs = [] /\ d.isRow = true /\ (∀ t a,T.ty t = .struct a fs -> fit T d (.inl t) = true)
 | [],cs,_ => ⟨.anil,by simpa [QK] using R.anil,rfl,trivial,rfl,rfl,fun t a ht => by simp [fit,ht]⟩
 | f :: fs,cs,h => by
  obtain ⟨d,hd,fd,gd,rd⟩ := h 0 f rfl
  obtain ⟨ds,hr,fr,gr,rr,_,_⟩ := st_R fs (cs.drop (T.size f)) fun i g hg => by
   obtain ⟨e,he,h2⟩ := h (i + 1) g (by simpa using hg)
   refine ⟨e,?_,h2⟩
   simpa [QK,List.drop_drop] using he
  refine ⟨.acons d ds,?_,by simp [fit,fd,fr],⟨gd,gr⟩,by simp [D.refs,rd,rr],rfl,fun t a ht => by simp [fit,ht,fd,fr]⟩
  have := R.acons hd hr
  simpa [QK,List.take_add] using this
theorem QW {t : TypeId} {i : TypeInfo} (h : P.info? t = some i) : P.cellsOf t = i.size := by
 simp [Program.cellsOf,h]
theorem Qv4 (K : Q6 P T) (hd : Dec T gA) {H : Type} {enc : TypeId × Value -> H} {W : World} : ∀ (k : Nat) (t : TypeId),plainT T k t = true -> ∀ (fuel : Nat) (cs : List Value) (x : DataW H × List MemPlace),DataW.trod enc P W 0 (fun _ => true) true fuel t cs = some x ->
 ∃ d,R T (X0 W) false d cs /\ fit T d (.inl t) = true /\ good gA d /\ d.refs = [] := by
 intro k
 induction k with
 | zero => intro t h;simp [plainT] at h
 | succ k ih =>
  intro t hp fuel cs x h;unfold plainT at hp
  split at hp
  · rename_i ht;obtain ⟨b,rfl,_⟩ := DataW.trod_bool (K.uBool t ht) h;exact ⟨.bool b,.bool b,by simp [fit,ht],trivial,rfl⟩
  · rename_i kd ht;obtain ⟨n,rfl,_,hw⟩ := DataW.trod_int (K.uInt t kd ht) h;have hw' : kd.min <= n /\ n <= kd.max := by simpa [Lit.wf] using hw
    exact ⟨.int kd n,.int hw',by simp [fit,ht],hw',rfl⟩
  · rename_i ht;obtain ⟨s,rfl,_,hs⟩ := DataW.trod_string (K.uStr t ht) h;exact ⟨.str s.data.toList,.str s.data.toList,by simp [fit,ht],by simpa [good] using hs,rfl⟩
  · rename_i isA fs ht;cases isA with
    | true =>
     obtain ⟨el,hu,hfs,hpos,inf,hi1,hi2⟩ := K.uRow t fs ht;obtain ⟨xs,m,_,_,hlen,hxs,hel⟩ := DataW.trod_array hu h
     have hget : ∀ i f,fs[i]? = some f -> f = el /\ i < fs.length := fun i f hf => by
      have := (List.getElem?_eq_some_iff.1 hf).1;rw [hfs,List.getElem?_replicate] at hf;simp at hf;exact ⟨hf.2.symm,this⟩
     have hsum : ∀ i,i <= fs.length -> QK T (fs.take i) = i * T.size el := by
      intro i hi;rw [hfs,List.take_replicate,Nat.min_eq_left hi];clear hi
      induction i with
      | zero => simp [QK]
      | succ i ih => simp only [List.replicate_succ,QK,ih];rw [Nat.succ_mul];omega
     obtain ⟨d,hr,_,gd,rd,_,hfit⟩ := st_R (T := T) (X := X0 W) (gA := gA) fs cs fun i f hf => by
      obtain ⟨rfl,hi⟩ := hget i f hf;have := hel i hi;rw [QW hi1,hi2] at this;have hx : xs[i]? = some xs[i] := by simp [hxs,hi]
      rw [hx] at this;obtain ⟨d,h1,h2,h3,h4⟩ := ih f (List.all_eq_true.1 hp _ (List.mem_of_getElem? hf)) m _ _ this;refine ⟨d,?_,h2,h3,h4⟩;rw [hsum i (by omega)];exact h1
     obtain ⟨inf,hi1,hi2⟩ := K.info t d (hfit t _ ht);rw [QW hi1,hi2,K.base.szStruct t _ fs ht] at hlen;rw [<- hlen,List.take_length] at hr;exact ⟨d,hr,hfit t _ ht,gd,rd⟩
    | false =>
     obtain ⟨fields,hu,hfs,hoff,_⟩ := K.uStruct t fs ht;obtain ⟨xs,n,_,_,hlen,hxs,hel⟩ := DataW.trod_struct hu h
     obtain ⟨d,hr,_,gd,rd,_,hfit⟩ := st_R (T := T) (X := X0 W) (gA := gA) fs cs fun i f hf => by
      rw [<- hfs,List.getElem?_map] at hf;cases hfi : fields.toList[i]? with
      | none => simp [hfi] at hf
      | some fld =>
       simp only [hfi,Option.map_some,Option.some.injEq] at hf;have hfa : fields[i]? = some fld := by rw [<- Array.getElem?_toList];exact hfi
       have := hel i fld hfa
       have hx : ∃ y,xs[i]? = some y := by
        have : i < fields.size := (Array.getElem?_eq_some_iff.1 hfa).1;exact ⟨xs[i],by simp [hxs,this]⟩
       obtain ⟨y,hy⟩ := hx;rw [hy] at this;subst hf;have hmem : fld.type ∈ fs := by rw [<- hfs];exact List.mem_map.2 ⟨fld,by exact List.mem_of_getElem? hfi,rfl⟩
       obtain ⟨d,h1,h2,h3,h4⟩ := ih fld.type (List.all_eq_true.1 hp _ hmem) n _ _ this;obtain ⟨inf,hi1,hi2,_⟩ := K.uField t fs fld.type ht hmem;refine ⟨d,?_,h2,h3,h4⟩;rw [hoff i fld hfa,QW hi1,hi2] at h1;exact h1
     obtain ⟨inf,hi1,hi2⟩ := K.info t d (hfit t _ ht);rw [QW hi1,hi2,K.base.szStruct t _ fs ht] at hlen;rw [<- hlen,List.take_length] at hr;exact ⟨d,hr,hfit t _ ht,gd,rd⟩
  · rename_i n e ct ht;obtain ⟨hu,_⟩ := K.uArr t n e ct ht;obtain ⟨xs,m,_,_,hlen,hxs,hel⟩ := DataW.trod_array hu h;obtain ⟨inf,z,hi1,hi2,_⟩ := K.uElem t e ct (.inl ⟨n,ht⟩);obtain ⟨it,hj1,hj2⟩ := K.info t (.arr ct n []) (by simp [fit,ht])
    obtain ⟨hs1,hs2,hs3⟩ := K.base.szArr t n e ct ht;rw [QW hj1,hj2,hs1] at hlen
    obtain ⟨l,hr,hn,gl⟩ := Qv3 (T := T) (X := X0 W) (gA := gA) ct (T.size e) n cs hlen fun i hi => by
     have := hel i hi;rw [QW hi1,hi2] at this;have hx : xs[i]? = some xs[i] := by simp [hxs,hi]
     rw [hx] at this;obtain ⟨d,h1,h2,h3,h4⟩ := ih e hp m _ _ this;obtain ⟨x,h5,h6⟩ := hd.dec ct d (by rw [<- Zi hs2];exact h2) h4 h3 ⟨k,e,hs2,hp⟩
     exact ⟨x,K.base.decR _ _ _ _ _ h5 h1,h6⟩
    exact ⟨.arr ct n l,hr,by simp [fit,ht],⟨hn,gl⟩,rfl⟩
  · rename_i e ct ht;have hu := K.uSl t e ct ht;obtain ⟨inf,z,hi1,hi2,_,_,hpos,_⟩ := K.uElem t e ct (.inr ht);obtain ⟨hs1,hs2,hs3⟩ := K.base.szSl t e ct ht;rcases DataW.trod_slice hu h with ⟨rfl,_⟩ | ⟨a,len,cap,elems,rest,m,_,rfl,_,_,hlc,hcm,hel,he,hrest,_⟩
    · exact ⟨.sl ct false [],.sl0 _ _ _,by simp [fit,ht],by simp [good],rfl⟩
    · by_cases hc0 : cap = 0
      · subst hc0;obtain rfl : len = 0 := by omega
        exact ⟨.sl ct false [],.sl0 _ _ _,by simp [fit,ht],by simp [good],rfl⟩
      · have hspot : a.spot = none := by
         have key : ∀ i y,i = 0 -> (W.cells? 0 (a.add (i * P.cellsOf e)) (P.cellsOf e)).bind (DataW.trod enc P W 0 (fun _ => true) true m e) = some y -> a.spot = none := by
          intro i y hi0 hy;subst hi0;rw [QW hi1,hi2] at hy;cases hcs : W.cells? 0 (a.add (0 * T.size e)) (T.size e) with
          | none => rw [hcs] at hy;cases hy
          | some ci =>
           obtain ⟨_,h2,h3⟩ := World.cells?_some hcs;have h4 := h3 0 hpos;have h5 : ci[0]? = some ci[0] := by simp
           rw [h5] at h4;have := World.cell?_spot h4
           simpa [Addr.add] using this
         by_cases hl0 : 0 < len
         · have := he 0 hl0;have hx : elems[0]? = some elems[0] := by simp
           exact key 0 _ rfl (this.trans hx)
         · have hr2 := hrest rfl;have := hr2.2 0 (by omega)
           have h0 : 0 < rest.length := by omega
           have hx : rest[0]? = some rest[0] := by simp
           exact key _ _ (by omega) (this.trans hx)
        obtain ⟨b,off,sp⟩ := a;simp only at hspot;subst hspot
        obtain ⟨l,cs,hr,hn,hat,gl⟩ := sl_R (T := T) (W := W) (gA := gA) ct b (T.size e) len off fun i hi => by
         have := he i hi;have hx : elems[i]? = some elems[i] := by simp [hel,hi]
         rw [hx,QW hi1,hi2] at this;cases hcs : W.cells? 0 ((⟨b,off,none⟩ : Addr).add (i * T.size e)) (T.size e) with
         | none => simp [hcs] at this
         | some ci =>
          simp only [hcs,Option.bind_some] at this;obtain ⟨_,h2,h3⟩ := World.cells?_some hcs;obtain ⟨d,k1,k2,k3,k4⟩ := ih e hp m _ _ this;obtain ⟨x,k5,k6⟩ := hd.dec ct d (by rw [<- Zi hs2];exact k2) k4 k3 ⟨k,e,hs2,hp⟩
          refine ⟨x,ci,K.base.decR _ _ _ _ _ k5 k1,h2,fun j hj => ?_,k6⟩;have := h3 j hj
          rwa [add_plain,add_plain] at this
        subst hn;exact ⟨.sl ct false l,.sl hat hr hlc (by simp),by simp [fit,ht],⟨by omega,gl⟩,rfl⟩
  · cases hp
theorem QiK (K : Q6 P T) {W : World} {r : Reach} {base : Nat} {t : TypeId} {v : Value} {d : D C} (hv : Value.okWide P W r base t v) (hp : ∃ k,plainT T k t = true) (hf : fit T d (.inl t) = true) (hr : R T (X0 W) false d v.cells.toList) (hrf : d.refs = []) : RV T (X0 W) d v := by
 obtain ⟨k,hp⟩ := hp;cases k with
 | zero => simp [plainT] at hp
 | succ k =>
  unfold plainT at hp
  split at hp
  · rename_i ht;obtain ⟨b,rfl⟩ := okWide_bool (K.uBool t ht) hv;refine .inr ⟨?_,by simpa [Value.cells] using hr⟩
    cases d <;> simp [fit,ht] at hf <;> rfl
  · rename_i kd ht;obtain ⟨b,rfl⟩ := okWide_int (K.uInt t kd ht) hv;refine .inr ⟨?_,by simpa [Value.cells] using hr⟩
    cases d <;> simp [fit,ht] at hf <;> rfl
  · rename_i ht;obtain ⟨b,rfl⟩ := okWide_string (K.uStr t ht) hv;refine .inr ⟨?_,by simpa [Value.cells] using hr⟩
    cases d <;> simp [fit,ht] at hf <;> rfl
  · rename_i isA fs ht
    have : ∃ cs,v = .agg cs := by
     cases isA with
     | false =>
      obtain ⟨fields,hu,_⟩ := K.uStruct t fs ht;obtain ⟨cs,rfl,_⟩ := okWide_struct hu hv;exact ⟨cs,rfl⟩
     | true =>
      obtain ⟨el,hu,_⟩ := K.uRow t fs ht;simp only [Value.okWide,hu] at hv;obtain ⟨cs,rfl,_⟩ := hv;exact ⟨cs,rfl⟩
    obtain ⟨cs,rfl⟩ := this;refine .inl ⟨?_,cs.toList,by simpa [Value.cells] using hr,rfl⟩
    cases d <;> simp [fit,ht] at hf <;> rfl
  · rename_i n e ct ht;obtain ⟨hu,_⟩ := K.uArr t n e ct ht
    have : ∃ cs,v = .agg cs := by
     simp only [Value.okWide,hu] at hv;obtain ⟨cs,rfl,_⟩ := hv;exact ⟨cs,rfl⟩
    obtain ⟨cs,rfl⟩ := this;refine .inl ⟨?_,cs.toList,by simpa [Value.cells] using hr,rfl⟩
    cases d <;> simp [fit,ht] at hf <;> rfl
  · rename_i e ct ht;obtain ⟨a,len,cap,rfl⟩ := okWide_slice (K.uSl t e ct ht) hv;refine .inr ⟨?_,by simpa [Value.cells] using hr⟩
    cases d <;> simp [fit,ht] at hf <;> rfl
  · cases hp
inductive Fits (T : Tab C) (gA : (t : C.Ty) -> C.A t -> Prop) : List TypeId -> List (D C) -> Prop
 | nil : Fits T gA [] []
 | cons {t : TypeId} {ts : List TypeId} {d : D C} {ds : List (D C)} (hf : fit T d (.inl t) = true) (hg : good gA d) (hr : d.refs = []) (h : Fits T gA ts ds) : Fits T gA (t :: ts) (d :: ds)
theorem Fits.refs {ts : List TypeId} {ds : List (D C)} (h : Fits T gA ts ds) : ∀ a ∈ ds,D.refs a = [] := by
 induction h with
 | nil => simp
 | cons _ _ hr _ ih => simpa using ⟨hr,ih⟩
theorem Qd5 (K : Q6 P T) (hd : Dec T gA) {H : Type} {enc : TypeId × Value -> H} {W : World} {r : Reach} {base : Nat} : ∀ (ts : List TypeId) (vs : List Value) (ds : List (DataW H)) (ps : List MemPlace),(∀ t ∈ ts,∃ k,plainT T k t = true) ->
 (∀ (j : Nat) t v,ts[j]? = some t -> vs[j]? = some v -> Value.okWide P W r base t v) -> DataW.TrodAll enc P W 0 (fun _ => true) true ts vs ds ps -> ∃ al,Fits T gA ts al /\ RVs T (X0 W) al vs
 | [],vs,ds,ps,_,_,h => by
  obtain ⟨rfl,rfl,rfl⟩ := trodAll_nil h;exact ⟨[],.nil,.nil⟩
 | t :: ts,vs,ds,ps,hp,hv,h => by
  obtain ⟨v,vs1,d,ds1,p,q,rfl,rfl,rfl,⟨fuel,h1⟩,h2⟩ := trodAll_cons h;obtain ⟨al,f1,r1⟩ := Qd5 K hd ts vs1 ds1 q (fun t ht => hp t (by simp [ht])) (fun j t v a b => hv (j + 1) t v (by simpa using a) (by simpa using b)) h2
  obtain ⟨k,hk⟩ := hp t (by simp)
  obtain ⟨a,k1,k2,k3,k4⟩ := Qv4 K hd k t hk fuel _ _ h1;exact ⟨a :: al,.cons k2 k3 k4 f1,.cons (QiK K (hv 0 t v rfl rfl) ⟨k,hk⟩ k2 k1 k4) r1⟩
theorem Qv5 (hl : laidOutB P = true) {H : Type} {enc : TypeId × Value -> H} {W W' : World} {sp : Nat -> Bool} : ∀ (ts : List TypeId) (vs : List Value) (ds : List (DataW H)) (ps : List MemPlace),(∀ t ∈ ts,P.readableRec t = true /\ t < P.types.size) ->
 DataW.TrodAll enc P W 0 (fun _ => true) true ts vs ds ps -> (∀ p ∈ ps,W.sameAt W' p) -> (∀ p ∈ ps,sp p.block = true) -> DataW.TrodAll enc P W' 0 sp true ts vs ds ps
 | [],vs,ds,ps,_,h,_,_ => by
  obtain ⟨rfl,rfl,rfl⟩ := trodAll_nil h;exact trodAll_mk0
 | t :: ts,vs,ds,ps,ht,h,h3,h4 => by
  obtain ⟨v,vs1,d,ds1,p,q,rfl,rfl,rfl,h1,h2⟩ := trodAll_cons h
  exact trodAll_cons_mk (WideElems.Trod_stays hl (ht t (by simp)).1 (ht t (by simp)).2 h1 (fun x hx => h3 x (by simp [hx])) (fun x hx => h4 x (by simp [hx])))
   (Qv5 hl ts vs1 ds1 q (fun t h => ht t (by simp [h])) h2 (fun x hx => h3 x (by simp [hx])) (fun x hx => h4 x (by simp [hx])))
theorem Qcd {H : Type} {enc : TypeId × Value -> H} {f : Func} {s : ChangeSpec} {apart fresh handsOn again : Bool} {W W' : World} {args : Array Value} {v : Value} {ds gs : List (DataW H)} {before pa pv : List MemPlace}
 (hW : DataW.Whole enc P f.params.toList s.vars apart W args.toList ds gs before)
 (hres : ∀ (b : Nat) (sp : Nat -> Bool) (hd : Bool),DataW.TrodAll enc P W' b sp hd f.resultTypes.toList (v.resultList f.resultTypes.size) (s.fn H (ds ++ gs)).results [])
 (hargs : ∀ sp : Nat -> Bool,(∀ p ∈ before,sp p.block = true) -> DataW.TrodAll enc P W' 0 sp true f.params.toList args.toList (s.fn H (ds ++ gs)).args pa)
 (hvars : ∀ sp : Nat -> Bool,(∀ p ∈ before,sp p.block = true) -> DataW.TrodVars enc P W' sp s.vars (s.fn H (ds ++ gs)).vars pv)
 (hps : before = pa ++ pv) (hk : W.keptBut W' (· ∈ before)) (hfz : ∀ a : Addr,a.block < W.heap.size -> W'.frozen? a = W.frozen? a)
 (hok : ∀ (j : Nat) (t : TypeId) (r : Value),f.resultTypes[j]? = some t -> (v.resultList f.resultTypes.size)[j]? = some r -> Value.okWide P W' .any 0 t r) :
 s.post enc P f apart fresh handsOn again W args v W' := by
 have hold : ∀ p ∈ before,(fun b => decide (b < W.heap.size)) p.block = true := fun p hp => by simpa using hW.lt p hp
 refine ⟨ds,gs,before,[],pa,pv,hW,hres _ _ _,hargs _ hold,hvars _ hold,World.keptBut_mono (fun p hp => ⟨hp,?_⟩) hk,fun _ => ?_⟩
 · rw [hps,List.mem_append] at hp;exact Or.inr hp
 · have hlt := hW.lt;obtain ⟨_,_,_,_,_,hz,hn⟩ := hW;refine ⟨hok,_,_,([] ++ pa) ++ pv,⟨[] ++ pa,pv,trodAll_append (hargs _ (fun _ _ => rfl)) (hres _ _ _),hvars _ (fun _ _ => rfl),rfl,?_,?_⟩,?_⟩
   · intro b off hp;have hb : MemPlace.cell b off ∈ before := by rw [hps];simpa using hp
     rw [hfz _ (by simpa [MemPlace.block] using hlt _ hb)]
     exact hz b off hb
   · intro ha;have := hn ha;rw [hps] at this
     simpa using this
   · intro p hp _;rw [hps]
     simpa using hp
theorem Qe6 (K : Q6 P T) {Φ : Fns C} (F : Qi P T Φ) (hd : Dec T gA) (hl : laidOutB P = true) {f : FuncId} {fn : Func} {s : ChangeSpec} {tb : TypeId} {m : Nat}
 (hres : fn.resultTypes = #[tb]) (hb : P.underlying tb = some .bool) (hvars : s.vars = [])
 (hts : fn.params.toList.all (fun t => plainT T m t && P.readableRec t && Nat.blt t P.types.size) = true)
 (hspec : ∀ (H : Type) (ds : List (DataW H)),ds.length = fn.params.toList.length -> s.fn H ds = { results := [.lit (.bool true)],args := ds })
 (hev : ∀ ds : List (D C),Fits T gA fn.params.toList ds -> ∃ n,evF T Φ n f ds = some (.bool true))
 (H : Type) (enc : TypeId × Value -> H) (W : World) (base : Nat) (args : Array Value) (ds gs : List (DataW H)) (before : List MemPlace)
 (hval : ∀ (j : Nat) t v,fn.params[j]? = some t -> args[j]? = some v -> Value.okWide P W .any base t v)
 (hW : DataW.Whole enc P fn.params.toList s.vars false W args.toList ds gs before) :
 Calls P f args W fun e W' => ∃ v,e = .returned v /\ s.post enc P fn false true false false W args v W' := by
 have hts' : ∀ t ∈ fn.params.toList,plainT T m t = true /\ P.readableRec t = true /\ t < P.types.size := by
  intro t ht;have := List.all_eq_true.1 hts t ht;simp only [Bool.and_eq_true] at this;exact ⟨this.1.1,this.1.2,by simpa [Nat.blt_eq] using this.2⟩
 have hW' := hW;obtain ⟨p,q,hA,hV,rfl,hfz,hnd⟩ := hW;rw [hvars] at hV;obtain ⟨rfl,rfl⟩ := trodVars_none hV;obtain ⟨al,hf,hr⟩ := Qd5 (gA := gA) K hd (r := .any) (base := base) _ _ _ _ (fun t ht => ⟨m,(hts' t ht).1⟩) (fun j t v a b => hval j t v (by rw [<- Array.getElem?_toList];exact a) (by rw [<- Array.getElem?_toList];exact b)) hA
 obtain ⟨n,hn⟩ := hev al hf;have hc := (QcF K F hn hf.refs W (fun _ _ => False) (fun _ _ h => h.elim) (vs := args.toList) hr).2;have ea : (⟨args.toList⟩ : Array Value) = args := by simp
 rw [ea] at hc;refine hc.mono fun e W' hp => ?_;obtain ⟨v,ρ,rfl,rv,a1,a2,a3,a4,a5,a6⟩ := hp;obtain rfl := rv.bool
 have hlen : ds.length = fn.params.toList.length := by
  have : ∀ (ts : List TypeId) (vs : List Value) (ds : List (DataW H)) (ps : List MemPlace),DataW.TrodAll enc P W 0 (fun _ => true) true ts vs ds ps -> ds.length = ts.length := by
   intro ts
   induction ts with
   | nil => intro vs ds ps h;obtain ⟨rfl,rfl,rfl⟩ := trodAll_nil h;rfl
   | cons t ts ih =>
    intro vs ds ps h;obtain ⟨v,vs1,d,ds1,p,q,rfl,rfl,rfl,h1,h2⟩ := trodAll_cons h;simp [ih _ _ _ h2]
  exact this _ _ _ _ hA
 have hs := hspec H ds hlen;have hbel : Below W.heap.size W W' := ⟨a3,a4,a5,a1,a2⟩;have hlt : ∀ x ∈ p,x.block < W.heap.size := fun x hx => by simpa using hW'.lt x (by simpa using hx)
 refine ⟨_,rfl,Qcd (pa := p) (pv := []) hW' ?_ ?_ ?_ (by simp) (hbel.frame _) a6 ?_⟩
 · intro b sp hd;simp only [List.append_nil];rw [hs,hres];exact trodAll_cons_mk (p := []) (p' := []) (shut_bool hb _) trodAll_mk0
 · intro sp hsp;simp only [List.append_nil] at hsp ⊢;rw [hs];exact Qv5 hl _ _ _ _ (fun t ht => (hts' t ht).2) hA (fun x hx => hbel.same (hlt x hx)) hsp
 · intro sp hsp;simp only [List.append_nil];rw [hs,hvars];rfl
 · exact ok_one hres rfl (okWide_bool_mk hb _)
end
def i64 (n : Int) : Prop := -9223372036854775808 <= n /\ n <= 9223372036854775807
def inK (k : IntKind) (n : Int) : Prop := k.min <= n /\ n <= k.max
theorem Zh {n : Int} (h : IntKind.i64.min <= n /\ n <= IntKind.i64.max) : i64 n := by
 simpa [i64,IntKind.min,IntKind.max,IntKind.signed,IntKind.bits] using h
section
variable {C : Cdc} {T : Tab C} {d : D C} {u : TypeId}
theorem QN {k : IntKind} (hu : T.ty u = .int k) (hf : fit T d (.inl u) = true) : ∃ n,d = .int k n := by
 cases d <;> simp [fit,hu] at hf
 subst hf;exact ⟨_,rfl⟩
theorem Qce (hu : T.ty u = .bool) (hf : fit T d (.inl u) = true) : ∃ n,d = .bool n := by
 cases d <;> simp [fit,hu] at hf
 exact ⟨_,rfl⟩
theorem QuY (hu : T.ty u = .str) (hf : fit T d (.inl u) = true) : ∃ n,d = .str n := by
 cases d <;> simp [fit,hu] at hf
 exact ⟨_,rfl⟩
theorem Qaz {e : TypeId} {t : C.Ty} (hu : T.ty u = .sl e t) (hf : fit T d (.inl u) = true) (hr : d.refs = []) : ∃ c l,d = .sl t c l := by
 cases d <;> simp [fit,hu] at hf
 · subst hf;exact ⟨_,_,rfl⟩
 · simp [D.refs] at hr
 · simp [D.refs] at hr
theorem QuZ {e : TypeId} {t : C.Ty} {n : Nat} (hu : T.ty u = .arr n e t) (hf : fit T d (.inl u) = true) : ∃ l,d = .arr t n l := by
 cases d <;> simp [fit,hu] at hf
 obtain ⟨h1,h2⟩ := hf;subst h1;subst h2;exact ⟨_,rfl⟩
theorem JW {a : Bool} {f : TypeId} {fs : List TypeId} (hu : T.ty u = .struct a (f :: fs)) (hf : fit T d (.inl u) = true) : ∃ x y,d = .acons x y /\ fit T x (.inl f) = true /\ fit T y (.inr fs) = true := by
 cases d <;> simp [fit,hu] at hf
 exact ⟨_,_,rfl,hf.1,hf.2⟩
theorem QJ {f : TypeId} {fs : List TypeId} (hf : fit T d (.inr (f :: fs)) = true) : ∃ a b,d = .acons a b /\ fit T a (.inl f) = true /\ fit T b (.inr fs) = true := by
 cases d <;> simp [fit] at hf
 exact ⟨_,_,rfl,hf.1,hf.2⟩
theorem Y9 (hf : fit T d (.inr []) = true) : d = .anil := by
 cases d <;> simp [fit] at hf
 rfl
end
open Go.Proofs Go.ChangeShapes Go.WideShapes Go.ChangeAt Go.RowKit
def Yo (x : Qd) : Prop := i64 (x.key) /\ i64 (x.value)
def VW (x : Pick) : Prop := i64 (x.client) /\ i64 (x.do_) /\ i64 (x.back) /\ ((x.writes).length <= maxLen /\ ∀ y ∈ (x.writes),Yo (y))
def VX (x : Sector) : Prop := i64 (x.n) /\ (x.b).length <= maxLen
def VH (x : Qf) : Prop := inK .i8 (x.prog) /\ i64 (x.at') /\ ((x.r).length = 96 /\ ∀ y ∈ (x.r),i64 (y))
def KK (x : Task) : Prop := i64 (x.client) /\ ((x.stack).length <= maxLen /\ ∀ y ∈ (x.stack),VH (y)) /\ ((x.got).length <= maxLen /\ ∀ y ∈ (x.got),i64 (y)) /\ True
def Qcf (x : Try) : Prop := i64 (x.place) /\ i64 (x.start) /\ ((x.writes).length <= maxLen /\ ∀ y ∈ (x.writes),Yo (y))
def Qcg (x : Rec) : Prop := i64 (x.place) /\ True /\ ((x.writes).length <= maxLen /\ ∀ y ∈ (x.writes),Yo (y))
def KL (x : Line) : Prop := i64 (x.offset) /\ i64 (x.place) /\ i64 (x.j) /\ i64 (x.key) /\ i64 (x.value)
def KM (x : Item) : Prop := i64 (x.key) /\ i64 (x.place) /\ i64 (x.value)
def Kw : (t : RTy) -> RA t -> Prop
 | .bool => fun (x : Bool) => True
 | .frame => fun (x : Qf) => VH (x)
 | .int => fun (x : Int) => i64 (x)
 | .item => fun (x : Item) => KM (x)
 | .l_u8 => fun (x : List (UInt8)) => ((x).length <= maxLen /\ ∀ y ∈ (x),True)
 | .line => fun (x : Line) => KL (x)
 | .pick => fun (x : Pick) => VW (x)
 | .recd => fun (x : Rec) => Qcg (x)
 | .sector => fun (x : Sector) => VX (x)
 | .task => fun (x : Task) => KK (x)
 | .tryd => fun (x : Try) => Qcf (x)
 | .u8 => fun (x : UInt8) => True
 | .write => fun (x : Qd) => Yo (x)
theorem QwD : s25.ty 109 = .struct false [3,3] := by kernel_rfl
theorem ty3 : s25.ty 3 = .int .i64 := by kernel_rfl
theorem Qu0 {d : D RC} (hf : fit s25 d (.inl 109) = true) (hg : good Kw d) (hr : d.refs = []) : ∃ x : Qd,d = QcH x /\ Yo x := by
 obtain ⟨d0,r0,rfl,f0,hf⟩ := JW QwD hf;obtain ⟨d1,r1,rfl,f1,hf⟩ := QJ hf;obtain rfl := Y9 hf;simp only [D.refs,List.append_eq_nil_iff] at hr;obtain ⟨g0,g1,_⟩ := hg;obtain ⟨q0,q1,_⟩ := hr;obtain ⟨n0,rfl⟩ := QN ty3 f0;obtain ⟨n1,rfl⟩ := QN ty3 f1;exact ⟨⟨n0,n1⟩,rfl,Zh g0,Zh g1⟩
theorem Qrw (x : Qd) (hx : Yo x) : QcI (QcH x) = some x := by
 simp only [Yo] at hx;simp [QcI,QcH,D.asList,Va,hx]
theorem ty29 : s25.ty 29 = .struct false [3,3,3,27] := by kernel_rfl
theorem ty27 : s25.ty 27 = .sl 109 .write := by kernel_rfl
theorem Qv6 {d : D RC} (hf : fit s25 d (.inl 29) = true) (hg : good Kw d) (hr : d.refs = []) : ∃ (x : Pick) (c0 : Bool),d = Qjl x c0 /\ VW x := by
 obtain ⟨d0,r0,rfl,f0,hf⟩ := JW ty29 hf;obtain ⟨d1,r1,rfl,f1,hf⟩ := QJ hf;obtain ⟨d2,r2,rfl,f2,hf⟩ := QJ hf;obtain ⟨d3,r3,rfl,f3,hf⟩ := QJ hf;obtain rfl := Y9 hf;simp only [D.refs,List.append_eq_nil_iff] at hr;obtain ⟨g0,g1,g2,g3,_⟩ := hg;obtain ⟨q0,q1,q2,q3,_⟩ := hr;obtain ⟨n0,rfl⟩ := QN ty3 f0;obtain ⟨n1,rfl⟩ := QN ty3 f1;obtain ⟨n2,rfl⟩ := QN ty3 f2;obtain ⟨k3,n3,rfl⟩ := Qaz ty27 f3 q3;exact ⟨⟨n0,n1,n2,n3⟩,k3,rfl,Zh g0,Zh g1,Zh g2,g3⟩
theorem Qu1 (x : Pick) (c0 : Bool) (hx : VW x) : Qjm (Qjl x c0) = some x := by
 simp only [VW] at hx;simp [Qjm,Qjl,D.asList,Va,hx]
theorem QwE : s25.ty 102 = .struct false [3,9] := by kernel_rfl
theorem ty9 : s25.ty 9 = .str := by kernel_rfl
theorem Qrx {d : D RC} (hf : fit s25 d (.inl 102) = true) (hg : good Kw d) (hr : d.refs = []) : ∃ x : Sector,d = K4 x /\ VX x := by
 obtain ⟨d0,r0,rfl,f0,hf⟩ := JW QwE hf;obtain ⟨d1,r1,rfl,f1,hf⟩ := QJ hf;obtain rfl := Y9 hf;simp only [D.refs,List.append_eq_nil_iff] at hr;obtain ⟨g0,g1,_⟩ := hg;obtain ⟨q0,q1,_⟩ := hr;obtain ⟨n0,rfl⟩ := QN ty3 f0;obtain ⟨n1,rfl⟩ := QuY ty9 f1;exact ⟨⟨n0,n1⟩,rfl,Zh g0,g1⟩
theorem QoE (x : Sector) (hx : VX x) : K5 (K4 x) = some x := by
 simp only [VX] at hx;simp [K5,K4,D.asList,Va,hx]
theorem ty84 : s25.ty 84 = .struct false [81,3,82] := by kernel_rfl
theorem ty81 : s25.ty 81 = .int .i8 := by kernel_rfl
theorem ty82 : s25.ty 82 = .arr 96 3 .int := by kernel_rfl
theorem Qu2 {d : D RC} (hf : fit s25 d (.inl 84) = true) (hg : good Kw d) (hr : d.refs = []) : ∃ x : Qf,d = QcJ x /\ VH x := by
 obtain ⟨d0,r0,rfl,f0,hf⟩ := JW ty84 hf;obtain ⟨d1,r1,rfl,f1,hf⟩ := QJ hf;obtain ⟨d2,r2,rfl,f2,hf⟩ := QJ hf;obtain rfl := Y9 hf;simp only [D.refs,List.append_eq_nil_iff] at hr;obtain ⟨g0,g1,g2,_⟩ := hg;obtain ⟨q0,q1,q2,_⟩ := hr;obtain ⟨n0,rfl⟩ := QN ty81 f0;obtain ⟨n1,rfl⟩ := QN ty3 f1;obtain ⟨n2,rfl⟩ := QuZ ty82 f2;exact ⟨⟨n0,n1,n2⟩,rfl,g0,Zh g1,g2⟩
theorem Qry (x : Qf) (hx : VH x) : QcK (QcJ x) = some x := by
 simp only [VH] at hx;simp [QcK,QcJ,D.asList,Va,hx]
theorem ty40 : s25.ty 40 = .struct false [3,38,32,4] := by kernel_rfl
theorem ty38 : s25.ty 38 = .sl 84 .frame := by kernel_rfl
theorem ty32 : s25.ty 32 = .sl 3 .int := by kernel_rfl
theorem ty4 : s25.ty 4 = .bool := by kernel_rfl
theorem Qv7 {d : D RC} (hf : fit s25 d (.inl 40) = true) (hg : good Kw d) (hr : d.refs = []) : ∃ (x : Task) (c0 c1 : Bool),d = Qjo x c0 c1 /\ KK x := by
 obtain ⟨d0,r0,rfl,f0,hf⟩ := JW ty40 hf;obtain ⟨d1,r1,rfl,f1,hf⟩ := QJ hf;obtain ⟨d2,r2,rfl,f2,hf⟩ := QJ hf;obtain ⟨d3,r3,rfl,f3,hf⟩ := QJ hf;obtain rfl := Y9 hf;simp only [D.refs,List.append_eq_nil_iff] at hr;obtain ⟨g0,g1,g2,g3,_⟩ := hg;obtain ⟨q0,q1,q2,q3,_⟩ := hr;obtain ⟨n0,rfl⟩ := QN ty3 f0;obtain ⟨k1,n1,rfl⟩ := Qaz ty38 f1 q1;obtain ⟨k2,n2,rfl⟩ := Qaz ty32 f2 q2;obtain ⟨n3,rfl⟩ := Qce ty4 f3;exact ⟨⟨n0,n1,n2,n3⟩,k1,k2,rfl,Zh g0,g1,g2,trivial⟩
theorem Qu3 (x : Task) (c0 c1 : Bool) (hx : KK x) : Qjp (Qjo x c0 c1) = some x := by
 simp only [KK] at hx;simp [Qjp,Qjo,D.asList,Va,hx]
theorem ty98 : s25.ty 98 = .struct false [3,3,27] := by kernel_rfl
theorem QwF {d : D RC} (hf : fit s25 d (.inl 98) = true) (hg : good Kw d) (hr : d.refs = []) : ∃ (x : Try) (c0 : Bool),d = Qtb x c0 /\ Qcf x := by
 obtain ⟨d0,r0,rfl,f0,hf⟩ := JW ty98 hf;obtain ⟨d1,r1,rfl,f1,hf⟩ := QJ hf;obtain ⟨d2,r2,rfl,f2,hf⟩ := QJ hf;obtain rfl := Y9 hf;simp only [D.refs,List.append_eq_nil_iff] at hr;obtain ⟨g0,g1,g2,_⟩ := hg;obtain ⟨q0,q1,q2,_⟩ := hr;obtain ⟨n0,rfl⟩ := QN ty3 f0;obtain ⟨n1,rfl⟩ := QN ty3 f1;obtain ⟨k2,n2,rfl⟩ := Qaz ty27 f2 q2;exact ⟨⟨n0,n1,n2⟩,k2,rfl,Zh g0,Zh g1,g2⟩
theorem Qv8 (x : Try) (c0 : Bool) (hx : Qcf x) : dTry (Qtb x c0) = some x := by
 simp only [Qcf] at hx;simp [dTry,Qtb,D.asList,Va,hx]
theorem ty56 : s25.ty 56 = .struct false [3,4,27] := by kernel_rfl
theorem QwG {d : D RC} (hf : fit s25 d (.inl 56) = true) (hg : good Kw d) (hr : d.refs = []) : ∃ (x : Rec) (c0 : Bool),d = Qtc x c0 /\ Qcg x := by
 obtain ⟨d0,r0,rfl,f0,hf⟩ := JW ty56 hf;obtain ⟨d1,r1,rfl,f1,hf⟩ := QJ hf;obtain ⟨d2,r2,rfl,f2,hf⟩ := QJ hf;obtain rfl := Y9 hf;simp only [D.refs,List.append_eq_nil_iff] at hr;obtain ⟨g0,g1,g2,_⟩ := hg;obtain ⟨q0,q1,q2,_⟩ := hr;obtain ⟨n0,rfl⟩ := QN ty3 f0;obtain ⟨n1,rfl⟩ := Qce ty4 f1;obtain ⟨k2,n2,rfl⟩ := Qaz ty27 f2 q2;exact ⟨⟨n0,n1,n2⟩,k2,rfl,Zh g0,trivial,g2⟩
theorem Qv9 (x : Rec) (c0 : Bool) (hx : Qcg x) : dRec (Qtc x c0) = some x := by
 simp only [Qcg] at hx;simp [dRec,Qtc,D.asList,Va,hx]
theorem QwH : s25.ty 115 = .struct false [3,3,3,3,3] := by kernel_rfl
theorem Qwa {d : D RC} (hf : fit s25 d (.inl 115) = true) (hg : good Kw d) (hr : d.refs = []) : ∃ x : Line,d = Qjq x /\ KL x := by
 obtain ⟨d0,r0,rfl,f0,hf⟩ := JW QwH hf;obtain ⟨d1,r1,rfl,f1,hf⟩ := QJ hf;obtain ⟨d2,r2,rfl,f2,hf⟩ := QJ hf;obtain ⟨d3,r3,rfl,f3,hf⟩ := QJ hf;obtain ⟨d4,r4,rfl,f4,hf⟩ := QJ hf;obtain rfl := Y9 hf;simp only [D.refs,List.append_eq_nil_iff] at hr;obtain ⟨g0,g1,g2,g3,g4,_⟩ := hg;obtain ⟨q0,q1,q2,q3,q4,_⟩ := hr;obtain ⟨n0,rfl⟩ := QN ty3 f0;obtain ⟨n1,rfl⟩ := QN ty3 f1;obtain ⟨n2,rfl⟩ := QN ty3 f2;obtain ⟨n3,rfl⟩ := QN ty3 f3;obtain ⟨n4,rfl⟩ := QN ty3 f4;exact ⟨⟨n0,n1,n2,n3,n4⟩,rfl,Zh g0,Zh g1,Zh g2,Zh g3,Zh g4⟩
theorem Qu4 (x : Line) (hx : KL x) : Qjr (Qjq x) = some x := by
 simp only [KL] at hx;simp [Qjr,Qjq,D.asList,Va,hx]
theorem ty61 : s25.ty 61 = .struct false [3,3,3] := by kernel_rfl
theorem Qwb {d : D RC} (hf : fit s25 d (.inl 61) = true) (hg : good Kw d) (hr : d.refs = []) : ∃ x : Item,d = Qjs x /\ KM x := by
 obtain ⟨d0,r0,rfl,f0,hf⟩ := JW ty61 hf;obtain ⟨d1,r1,rfl,f1,hf⟩ := QJ hf;obtain ⟨d2,r2,rfl,f2,hf⟩ := QJ hf;obtain rfl := Y9 hf;simp only [D.refs,List.append_eq_nil_iff] at hr;obtain ⟨g0,g1,g2,_⟩ := hg;obtain ⟨q0,q1,q2,_⟩ := hr;obtain ⟨n0,rfl⟩ := QN ty3 f0;obtain ⟨n1,rfl⟩ := QN ty3 f1;obtain ⟨n2,rfl⟩ := QN ty3 f2;exact ⟨⟨n0,n1,n2⟩,rfl,Zh g0,Zh g1,Zh g2⟩
theorem Qu5 (x : Item) (hx : KM x) : Qjt (Qjs x) = some x := by
 simp only [KM] at hx;simp [Qjt,Qjs,D.asList,Va,hx]
theorem QwI : s25.ty 107 = .sl 5 .u8 := by kernel_rfl
theorem ty5 : s25.ty 5 = .int .u8 := by kernel_rfl
theorem decs : Dec s25 Kw where
 dec t d hf hr hg _ := by
  cases t with
  | bool =>
   obtain ⟨n,rfl⟩ := Qce ty4 hf;exact ⟨n,rfl,trivial⟩
  | frame =>
   obtain ⟨x,rfl,hx⟩ := Qu2 hf hg hr;exact ⟨x,Qry x hx,hx⟩
  | int =>
   obtain ⟨n,rfl⟩ := QN ty3 hf;exact ⟨n,by simp [s25,ZD,rCod,rDec,Qo1],Zh hg⟩
  | item =>
   obtain ⟨x,rfl,hx⟩ := Qwb hf hg hr;exact ⟨x,Qu5 x hx,hx⟩
  | l_u8 =>
   obtain ⟨c,n,rfl⟩ := Qaz QwI hf hr;exact ⟨n,by simp [s25,ZD,rCod,rDec,D.asList],hg⟩
  | line =>
   obtain ⟨x,rfl,hx⟩ := Qwa hf hg hr;exact ⟨x,Qu4 x hx,hx⟩
  | pick =>
   obtain ⟨x,c0,rfl,hx⟩ := Qv6 hf hg hr;exact ⟨x,Qu1 x c0 hx,hx⟩
  | recd =>
   obtain ⟨x,c0,rfl,hx⟩ := QwG hf hg hr;exact ⟨x,Qv9 x c0 hx,hx⟩
  | sector =>
   obtain ⟨x,rfl,hx⟩ := Qrx hf hg hr;exact ⟨x,QoE x hx,hx⟩
  | task =>
   obtain ⟨x,c0,c1,rfl,hx⟩ := Qv7 hf hg hr;exact ⟨x,Qu3 x c0 c1 hx,hx⟩
  | tryd =>
   obtain ⟨x,c0,rfl,hx⟩ := QwF hf hg hr;exact ⟨x,Qv8 x c0 hx,hx⟩
  | u8 =>
   obtain ⟨n,rfl⟩ := QN ty5 hf;exact ⟨_,rfl,trivial⟩
  | write =>
   obtain ⟨x,rfl,hx⟩ := Qu0 hf hg hr;exact ⟨x,Qrw x hx,hx⟩
theorem own : ownKnob Tryz.prog.godebug = none := by kernel_rfl
theorem Qu6 : laidOutB Tryz.prog = true := by kernel_rfl
end Go.Ev

namespace Go.Proofs.YtnopcebdncdbgaaGreat
open Go.ChangeShapes Go.WideShapes Go.ChangeAt Go.RowKit Go.Ev
set_option linter.unusedVariables false
set_option maxRecDepth 100000
namespace helpPlays
theorem ev (ds : List (D RC)) (h : Fits s25 Kw Tryz.f8.params.toList ds) : ∃ n,evF s25 uyK n 8 ds = some (.bool true) := by
 rw [Tryz.params8] at h;cases h with
 | cons hf0 hg0 hr0 h =>
 cases h with
 | cons hf1 hg1 hr1 h =>
 cases h with
 | nil =>
  obtain ⟨c0,x0,rfl⟩ := Qaz (show s25.ty 22 = .sl 29 .pick by kernel_rfl) hf0 hr0
  obtain ⟨x1,rfl⟩ := QN (show s25.ty 3 = .int .i64 by kernel_rfl) hf1
  have key := QoD c0 x0 x1 (by rw [Bool.and_eq_true];exact ⟨Qk (show x0.length <= 9223372036854775807 from Nat.le_trans hg0.1 (by decide)),List.all_eq_true.2 fun r hr => by have h9 : VW r := hg0.2 r hr;unfold VW at h9;exact Qk (show r.writes.length <= 9223372036854775807 from Nat.le_trans h9.2.2.2.1 (by decide))⟩)
  unfold Qcc at key;exact ⟨200,key⟩
theorem Qwc (os : Os) (started : os.Started) (H : Type) (enc : TypeId × Value -> H) :
 ReturnsInHanded {} Tryz.checked os 8 .any (Rows.helpPlaysSpec.pre6 enc Tryz.prog Tryz.f8 Rows.helpPlaysRow.domain false) (Rows.helpPlaysSpec.post enc Tryz.prog Tryz.f8 false true false false) := by
 refine returnsInHanded_of_change (C := Tryz.checked) own started (by kernel_rfl) Tryz.func8
  (ChangeSpec.witness6 (enc := enc) (C := Tryz.checked) false ⟨#[],#[.slice none 0 0,.int .i64 0],[]⟩ 8 (by kernel_rfl) (by kernel_rfl) (by kernel_rfl) (by kernel_rfl)) ?_
 intro W base args ds gs before hval hW _ _;refine Qe6 (gA := Kw) (m := 8) Qb Qrv decs Qu6 (tb := 4) (by kernel_rfl) Tryz.underlying4 rfl (by kernel_rfl) ?_ ev H enc W base args ds gs before hval hW
 intro H ds h;rw [Tryz.params8] at h
 match ds,h with
 | [d0,d1],_ => rfl
theorem over : Rows.helpPlaysRow.holds Tryz.pinned (OpenSpec.ofChange Rows.helpPlaysSpec) :=
 OpenClaim.holds_of_wide 8 Tryz.f8 rfl rfl rfl rfl rfl rfl rfl ⟨rfl,rfl,rfl,rfl,rfl⟩ rfl rfl rfl rfl rfl (by kernel_rfl) Tryz.func8 (by kernel_rfl)
  (of_decide_eq_true (by kernel_rfl)) (by unfold Func.isWrapper;first | (rw [if_pos (by decide +kernel)];kernel_rfl) | (rw [if_neg (by decide +kernel)];exact ⟨rfl,rfl⟩))
  (fun os started H enc _ => Qwc os started H enc)
theorem proved : Rows.HelpPlaysSaid := over
end helpPlays
#print axioms helpPlays.proved
end Go.Proofs.YtnopcebdncdbgaaGreat
