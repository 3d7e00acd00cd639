/-
  A part of the proof of a statement of this seat: the model is run over values by content, proved sound; what the functions come to. No condition beyond the given statements. (text 1)
-/
import Derived.Orders
import Derived.Laws.CopyRow
import Derived.Laws.Append
import Derived.Below
import Derived.Laws.StructEq
import Derived.Laws.BytesString
noncomputable section
namespace Go.Ev
theorem aa{p:Prop}[Decidable p]:(decide p=true)=p:=decide_eq_true_eq
theorem ab{p:Prop}[i:Decidable p]:p->decide p=true:=decide_eq_true
theorem ad{p:Prop}[i:Decidable p]:¬p->decide p=false:=decide_eq_false
theorem ae{p:Prop}[Decidable p]:(decide p=false)↔¬p:=decide_eq_false_iff_not
theorem af{p:Prop}[i:Decidable p]:decide p=true->p:=of_decide_eq_true
theorem ag{α:Type _}(a b:α):cond true a b=a:=rfl
theorem ah{α:Type _}(a b:α):cond false a b=b:=rfl
theorem ai(a b:Bool):((a&&b)=true)=(a=true∧b=true):=Bool.and_eq_true a b
theorem aj{α:Type _}{a b:α}(h:some a=some b):a=b:=Option.some.inj h
theorem ak{α β:Type _}{a c:α}{b d:β}(h:some (a,b)=some (c,d)):a=c∧b=d:=by cases h;exact⟨rfl,rfl⟩
abbrev ap:=@congrArg
abbrev aq:=@Nat.le_refl
abbrev ar:=@List.getD_eq_getElem?_getD
abbrev au:=@Bool.and_self
abbrev av:=@List.getElem?_eq_some_iff
abbrev aw:=@if_neg
abbrev ax:=@if_pos
abbrev ay:=@List.append_assoc
abbrev az:=@Nat.eq_of_beq_eq_true
abbrev aA:=@Result.andThen_ok
abbrev aB:=@run_underlying
abbrev aC:=@List.length_append
abbrev aD:=@Option.some.injEq
abbrev aE:=@List.length_cons
abbrev aF:=@Sem.run_pure
abbrev aG:=@Sem.run_bind
abbrev aH:=@List.nil_append
abbrev aI:=@Array.getElem?_eq_some_iff
abbrev aJ:=@List.drop_eq_getElem_cons
abbrev aK:=@Nat.zero_le
abbrev aL:=@if_false
abbrev aM:=@decide_true
abbrev aN:=@Nat.zero_add
abbrev aO:=@List.drop_eq_nil_of_le
abbrev aP:=@List.cons_append
abbrev aQ:=@Int.fdiv_eq_ediv_of_nonneg
abbrev aR:=@List.append_nil
abbrev aS:=@List.mem_cons_of_mem
abbrev aT:=@List.mem_append
abbrev aU:=@if_true
abbrev aV:=@List.mem_cons_self
abbrev aW:=@decide_false
abbrev aX:=@List.all_eq_true
abbrev aY:=@List.getElem?_eq_getElem
abbrev aZ:=@List.mem_cons
abbrev ba:=@Option.getD_some
abbrev bc:=@List.getElem?_eq_none
abbrev bf:=@List.length_set
abbrev bg:=@Bool.not_true
abbrev bh:=@Bool.not_false
abbrev bi:=@beq_iff_eq
abbrev bj:=@Nat.lt_of_lt_of_le
abbrev bk:=@Nat.le_trans
abbrev bn:=@List.take_append_drop
abbrev bp:=@List.length_take
abbrev bq:=@List.length_drop
abbrev bt:=@List.length_replicate
abbrev bu:=@Bool.false_eq_true
abbrev bw:=@Int.toNat_natCast
abbrev bA:=@List.getElem_mem
abbrev bB:=@List.getElem?_map
abbrev bC:=@Option.map_some
abbrev bD:=@List.drop_drop
abbrev bE:=@List.mem_singleton
abbrev bF:=@List.replicate_zero
abbrev bG:=@List.drop_zero
abbrev bH:=@List.length_nil
abbrev je:=Option Int
abbrev ga:=List Oper
abbrev eG:=Option Value
abbrev eB:=Array MapEntry
abbrev ec:=List MapEntry
abbrev dN:=Option Addr
abbrev dD:=Option Nat
abbrev dH:=Option Bool
abbrev cV:=Array Oper
abbrev cK:=List TypeId
abbrev bY:=List Int
abbrev b7:=Array Value
abbrev bU:=List Nat
abbrev bT:=List Value
abbrev bK:=List UInt8
abbrev gJ:=Option (Int×bK)
abbrev gH:=Option bU
abbrev fQ:=Option bT
abbrev fE:=List (Nat×b7)
abbrev fq:=Option bK
abbrev eW:=List (Nat×Value)
abbrev eV:=List (Nat×bU)
abbrev cg:=List (Int×Int)
theorem gv{i n:Nat}(h:i<n):decide ((i:Int)<n)=true:=by simp;omega
theorem fV{i n:Nat}(h:i<n):decide (0<=(i:Int)/\(i:Int)<n)=true:=by simp;omega
structure ij where
 (Ty:Type)(deq:DecidableEq Ty)(A:Ty->Type)
instance instDecTy(C:ij):DecidableEq C.Ty:=C.deq
inductive D(C:ij):Type where
 |bool (b:Bool)
 |int (k:IntKind) (n:Int)
 |str (s:bK)
 |bN
 |bI (d ds:D C)
 |arr (t:C.Ty) (n:Nat) (l:List (C.A t))
 |cH (ds:D C)
 |eO
 |sl (t:C.Ty) (cap:Bool) (l:List (C.A t))
 |vs (id n:Nat)
 |ptr (id:Nat) (path:bU)
 |fx (id n:Nat) (path:bU)
 |dS (d:D C)
 |fw
 |fn (f:Nat) (fC:D C)
 |cD
 |gz
 |bm (f:Nat) (d:D C)
 |yl (nt:Nat) (dW ps:bU) (jC body:Code) (fC:D C) (id:Nat)
 |fY (n:Nat) (cap:Bool) (ds:D C)
 |ku (id:Nat)
 |mp (id:Nat)
 |jR (t:TypeId) (id:Nat) (path:bU) (lo n:Nat)
 |top
inductive rN(C:ij):Type where
 |lp (busy dn:Bool) (ex:Nat)
 |it (k v:C.Ty) (l:List (C.A k×C.A v))
inductive Obj(C:ij):Type where
 |var (t:TypeId) (d:D C)
 |cj (t:C.Ty) (dM:Bool) (l:List (C.A t))
 |map (k v:C.Ty) (l:List (C.A k×C.A v))
 |ek (c:rN C)
abbrev Heap(C:ij):=List (Nat×Obj C)
namespace Heap
variable {C:ij}
def get(id:Nat):Heap C->Option (Obj C)
 |[]=>none
 |(j,o)::h=>bif Nat.beq id j then some o else get id h
def put(id:Nat)(o:Obj C):Heap C->Heap C
 |[]=>[]
 |(j,p)::h=>bif Nat.beq id j then(j,o)::h else(j,p)::put id o h
def del(id:Nat):Heap C->Heap C
 |[]=>[]
 |(j,p)::h=>bif Nat.beq id j then del id h else(j,p)::del id h
def drop(lo hi:Nat)(iZ:bU):Heap C->Heap C
 |[]=>[]
 |(j,p)::h=>bif Nat.ble lo j&&Nat.blt j hi && !(iZ.any (Nat.beq j))then drop lo hi iZ h else(j,p)::drop lo hi iZ h
end Heap
abbrev Tr:=List (Nat×Bool)
abbrev jc:=List (Nat×Tr)
abbrev Env(C:ij):=List (Nat×D C)
inductive Pg(C:ij):Type->Type 1 where
 |ret {α:Type} (a:α):Pg C α
 |fail {α:Type}:Pg C α
 |br {α:Type} (b:Bool) (x y:Pg C α):Pg C α
 |rd {α:Type} (id:Nat) (k:Obj C->Pg C α):Pg C α
 |wr {α:Type} (id:Nat) (o:Obj C) (k:Pg C α):Pg C α
 |nw {α:Type} (o:Obj C) (k:Nat->Pg C α):Pg C α
 |dl {α:Type} (id:Nat) (k:Pg C α):Pg C α
 |oY {α:Type} (k:Nat->Nat->Pg C α):Pg C α
 |upto {α:Type} (n:Nat) (k:Pg C α):Pg C α
 |gc {α:Type} (lo:Nat) (iZ:bU) (k:Pg C α):Pg C α
 |sub {α:Type} (p:Pg C (Env C)) (k:Env C->Tr->Pg C α):Pg C α
namespace Pg
variable {C:ij}
def bind{α β:Type}:Pg C α->(α->Pg C β)->Pg C β
 |.ret a,f=>f a
 |.fail,_=>.fail
 |.br b x y,f=>.br b (x.bind f) (y.bind f)
 |.rd id k,f=>.rd id fun o=>(k o).bind f
 |.wr id o k,f=>.wr id o (k.bind f)
 |.nw o k,f=>.nw o fun id=>(k id).bind f
 |.dl id k,f=>.dl id (k.bind f)
 |.oY k,f=>.oY fun n s=>(k n s).bind f
 |.upto n k,f=>.upto n (k.bind f)
 |.gc lo l k,f=>.gc lo l (k.bind f)
 |.sub p k,f=>.sub p fun e t=>(k e t).bind f
def jZ{α:Type}:Option α->Pg C α
 |some a=>.ret a
 |none=>.fail
def span(rh:Nat):Nat:=2^(24*(40-rh))
abbrev Lv:=Nat×Nat
def run{α β:Type}:Pg C α->Lv->Heap C->Nat->Tr->(α->Heap C->Nat->Tr->Option β)->Option β
 |.ret a,_,h,n,l,k=>k a h n l
 |.fail,_,_,_,_,_=>none
 |.br b x y,e,h,n,l,k=>bif b then x.run e h n l k else y.run e h n l k
 |.rd id f,e,h,n,l,k=>match h.get id with
  |some o=>(f o).run e h n ((id,false)::l) k
  |none=>none
 |.wr id o f,e,h,n,l,k=>match h.get id with
  |some _=>f.run e (h.put id o) n ((id,true)::l) k
  |none=>none
 |.nw o f,e,h,n,l,k=>(f n).run e ((n,o)::h) (n+1) ((n,true)::l) k
 |.dl id f,e,h,n,l,k=>match h.get id with
  |some _=>f.run e (h.del id) n ((id,true)::l) k
  |none=>none
 |.oY f,e,h,n,l,k=>(f n (span e.1)).run e h n l k
 |.upto m f,e,h,n,l,k=>bif Nat.ble n m then f.run e h m l k else none
 |.gc lo iZ f,e,h,n,l,k=>bif Nat.ble e.2 lo then f.run e (h.drop lo n iZ) n l k else none
 |.sub p f,e,h,n,l,k=>p.run (e.1+1,n) h n [] fun a h n t=>(f a t).run e h n (t++l) k
end Pg
inductive GT(C:ij):Type where
 |bool|int (k:IntKind)|str
 |struct (aae:Bool) (fs:cK)
 |arr (n:Nat) (e:TypeId) (t:C.Ty)
 |sl (e:TypeId) (t:C.Ty)
 |fY (e:TypeId)
 |map (k v:TypeId) (ck cv:C.Ty)
 |ptr (e:TypeId)|fn|none
structure fA(C:ij) where
 ty:TypeId->GT C
 size:TypeId->Nat
 bytes:TypeId->Nat
 enc:(t:C.Ty)->C.A t->D C
 dec:(t:C.Ty)->D C->Option (C.A t)
 fh:(t:C.Ty)->C.A t
 dG:C.Ty->TypeId
 sy:(t:C.Ty)->C.A t->C.A t->dH
 zero:TypeId->Option (D C)
 um:(t:C.Ty)->Option (List (C.A t)->bK)
 kD:(t:C.Ty)->Option (bK->List (C.A t))
 pre:fE:=[]
 settle:TypeId->Bool:=fun _=>true
inductive X where
 |normal|exit (id:Nat)|ret
structure jv(C:ij) where
 fn:FuncId->Option Func
 keeps:FuncId->Bool
 rest:FuncId->eV
 total:FuncId->Bool
 qt:FuncId->Bool:=fun _=>false
 jJ:FuncId->Option (List (D C)->Pg C (D C))
 spec:FuncId->Option (List (D C)->Option (Bool×D C))
 loop:FuncId->Nat->Option (List (Nat×D C)->Pg C (X×List (Nat×D C)))
section
variable {C:ij}(T:fA C)
def c8:Env C->Nat->D C
 |[],_=>.top
 |(j,d)::r,t=>bif Nat.beq t j then d else c8 r t
def hY:Nat->List (D C)->Env C
 |_,[]=>[]
 |n,d::l=>(n,d)::hY (n+1) l
namespace D
def nth:D C->Nat->Option (D C)
 |.bI d _,0=>some d
 |.bI _ ds,n+1=>ds.nth n
 |_,_=>none
def gS:D C->Nat->D C->Option (D C)
 |.bI _ ds,0,v=>some (.bI v ds)
 |.bI d ds,n+1,v=>(ds.gS n v).map (.bI d)
 |_,_,_=>none
def toList:D C->List (D C)
 |.bI d ds=>d::ds.toList
 |_=>[]
def ofList:List (D C)->D C
 |[]=>.bN
 |d::l=>.bI d (ofList l)
def size:D C->Nat
 |.bI _ ds=>ds.size+1
 |_=>0
def append:D C->D C->D C
 |.bI d ds,x=>.bI d (ds.append x)
 |_,x=>x
def dA:D C->Bool
 |.bN |.bI _ _ |.arr _ _ _=>true
 |_=>false
def hQ:D C->Bool
 |.bI d ds=>!d.dA&&ds.hQ
 |.bN=>true
 |_=>false
def refs:D C->bU
 |.bI d ds=>d.refs++ds.refs
 |.cH d |.fn _ d |.dS d |.fY _ _ d |.bm _ d=>d.refs
 |.yl _ _ _ _ _ d id=>d.refs++[id]
 |.ku id |.mp id |.vs id _ |.ptr id _ |.fx id _ _ |.jR _ id _ _ _=>[id]
 |_=>[]
def eu:D C->Bool
 |.bI d ds=>d.eu&&ds.eu
 |.cH d |.fn _ d |.dS d |.fY _ _ d |.bm _ d=>d.eu
 |.yl _ _ _ _ _ _ _=>false
 |_=>true
def rh:D C->Nat
 |.bI d ds=>max (d.rh+1) ds.rh
 |.arr _ _ _=>1
 |_=>0
def j6(t:C.Ty):D C->Option (List (C.A t))
 |.eO=>some []
 |.sl t' _ l=>if h:t'=t then some (h▸l)else Option.none
 |_=>Option.none
end D
def qd:Value->D C
 |.bool b=>.bool b
 |.int k n=>bif decide (k.min<=n)&&decide (n<=k.max)then .int k n else .top
 |.string s=>.str s.data.toList
 |.slice none 0 0=>.eO
 |.pointer none=>.fw
 |.nilFunc=>.cD
 |.tuple ⟨[]⟩=>.cH .bN
 |.map none=>.gz
 |_=>.top
def YD(t:TypeId)(d:D C):D C :=
 match d with
 |.eO=>match T.ty t with
  |.sl _ ty=>.sl ty true []
  |_=>.eO
 |d=>d
def cZ:D C->TypeId ⊕ cK->Bool
 |.bN,.inl t=>match T.ty t with |.struct _ []=>true|_=>false
 |.bN,.inr fs=>fs.isEmpty
 |.bI d ds,.inl t=>match T.ty t with
  |.struct _ (f::fs)=>cZ d (.inl f)&&cZ ds (.inr fs)
  |_=>false
 |.bI d ds,.inr (f::fs)=>cZ d (.inl f)&&cZ ds (.inr fs)
 |.arr t n _,.inl u=>match T.ty u with
  |.arr m _ t'=>Nat.beq m n&&decide (t=t')
  |_=>false
 |.bool _,.inl u=>match T.ty u with |.bool=>true|_=>false
 |.int k _,.inl u=>match T.ty u with |.int k'=>decide (k=k')|_=>false
 |.str _,.inl u=>match T.ty u with |.str=>true|_=>false
 |.sl t _ _,.inl u=>match T.ty u with |.sl _ t'=>decide (t=t')|_=>false
 |.vs _ _,.inl u=>match T.ty u with |.sl _ _=>true|_=>false
 |.jR _ _ _ _ _,.inl u=>match T.ty u with |.sl _ _=>true|_=>false
 |.ptr _ _,.inl u=>match T.ty u with |.ptr _=>true|_=>false
 |.fx _ _ _,.inl u=>match T.ty u with |.ptr _=>true|_=>false
 |.dS d,.inl u=>match T.ty u with |.ptr _=>d.eu|_=>false
 |.fw,.inl u=>match T.ty u with |.ptr _=>true|_=>false
 |.fn _ d,.inl u=>match T.ty u with |.fn=>d.eu|_=>false
 |.cD,.inl u=>match T.ty u with |.fn=>true|_=>false
 |.gz,.inl u=>match T.ty u with |.map _ _ _ _=>true|_=>false
 |.bm _ d,.inl u=>match T.ty u with |.fn=>d.eu|_=>false
 |.fY _ _ d,.inl u=>match T.ty u with |.fY _=>d.eu|_=>false
 |.mp _,.inl u=>match T.ty u with |.map _ _ _ _=>true|_=>false
 |_,_=>false
def fg:D C->bU->Option (D C)
 |d,[]=>some d
 |.bI d ds,i::p=>match (D.bI d ds).nth i with
  |some x=>fg x p
  |none=>none
 |.arr t _ l,i::p=>fg (T.enc t (l.getD i (T.fh t))) p
 |_,_=>none
def setPath:D C->bU->D C->Option (D C)
 |_,[],v=>some v
 |.bI d ds,i::p,v=>match (D.bI d ds).nth i with
  |some x=>match setPath x p v with
   |some y=>(D.bI d ds).gS i y
   |none=>none
  |none=>none
 |.arr t n l,i::p,v=>match setPath (T.enc t (l.getD i (T.fh t))) p v with
  |some y=>match T.dec t y with
   |some z=>some (.arr t n (l.set i z))
   |none=>none
  |none=>none
 |_,_,_=>none
def gG:TypeId->bU->Option TypeId
 |t,[]=>some t
 |t,i::p=>match T.ty t with
  |.struct _ fs=>match fs[i]? with
   |some f=>gG f p
   |none=>none
  |.arr _ e _=>gG e p
  |_=>none
def o5:D C->D C->dH
 |.bool a,.bool b=>some (a==b)
 |.int k a,.int k' b=>if k=k' then some (a==b)else none
 |.str a,.str b=>some (a==b)
 |.fw,.fw=>some true
 |.fw,.ptr _ _ |.fw,.dS _ |.ptr _ _,.fw |.dS _,.fw=>some false
 |.cD,.cD=>some true
 |.cD,.fn _ _ |.fn _ _,.cD=>some false
 |_,_=>none
def Cs{t:C.Ty}:List (C.A t)->List (C.A t)->dH
 |[],[]=>some true
 |x::l,y::m=>match T.sy t x y,Cs l m with
  |some a,some b=>some (a&&b)
  |_,_=>none
 |_,_=>none
def oZ:D C->D C->dH
 |.bN,.bN=>some true
 |.bI a jC,.bI b bs=>match oZ a b,oZ jC bs with
  |some x,some y=>some (x&&y)
  |_,_=>none
 |.arr t n l,.arr t' n' l'=>if h:t=t' then(if n=n' then Cs T l (h▸l')else none)else none
 |x,y=>o5 x y
def bits(k:IntKind)(f:(n:Nat)->BitVec n->BitVec n->BitVec n)(a b:Int):Int :=
 k.wrap (f k.bits (BitVec.ofInt k.bits a) (BitVec.ofInt k.bits b)).toNat
def R7(op:BinOp)(k:IntKind)(a b:Int):Pg C (D C):=
 match op with
 |.add=>.ret (.int k (k.wrap (a+b)))
 |.sub=>.ret (.int k (k.wrap (a-b)))
 |.mul=>.ret (.int k (k.wrap (a*b)))
 |.quo=>.br (b==0) .fail (.ret (.int k (k.wrap (a.tdiv b))))
 |.rem=>.br (b==0) .fail (.ret (.int k (a.tmod b)))
 |.and=>.ret (.int k (bits k (fun _ u v=>u&&&v) a b))
 |.or=>.ret (.int k (bits k (fun _ u v=>u|||v) a b))
 |.xor=>.ret (.int k (bits k (fun _ u v=>u ^^^ v) a b))
 |.andNot=>.ret (.int k (bits k (fun _ u v=>u &&& ~~~v) a b))
 |.eql=>.ret (.bool (a==b))
 |.neq=>.ret (.bool (a !=b))
 |.lss=>.ret (.bool (decide (a<b)))
 |.leq=>.ret (.bool (decide (a<=b)))
 |.gtr=>.ret (.bool (decide (b<a)))
 |.geq=>.ret (.bool (decide (b<=a)))
 |.shl=>.br (decide (b<0)) .fail (.ret (.int k (k.wrap (a*2^min b.toNat k.bits))))
 |.shr=>.br (decide (b<0)) .fail (.ret (.int k (a.fdiv (2^min b.toNat k.bits))))
def Hb:BinOp->Bool
 |.shl |.shr=>true
 |_=>false
def NW(op:BinOp)(a b:bK):Pg C (D C):=
 match op with
 |.eql=>.ret (.bool (a==b))
 |.neq=>.ret (.bool (!(a==b)))
 |.add=>.br (decide (a.length+b.length<=1000000000)) (.ret (.str (a++b))) .fail
 |_=>.fail
def rf:D C->TypeId ⊕ cK->Bool
 |.bI d ds,.inl t=>match T.ty t with
  |.struct false (f::fs)=>rf d (.inl f)&&rf ds (.inr fs)
  |_=>false
 |.bI d ds,.inr (f::fs)=>rf d (.inl f)&&rf ds (.inr fs)
 |.bI _ _,.inr []=>false
 |_,_=>true
def Iv(op:BinOp)(t:TypeId)(x y:D C):Pg C (D C):=
 bif cZ T x (.inl t)&&cZ T y (.inl t)&&(Nat.ble x.rh 1000&&rf T x (.inl t))then(match op with
  |.eql=>.bind (.jZ (oZ T x y)) fun b=>.ret (.bool b)
  |.neq=>.bind (.jZ (oZ T x y)) fun b=>.ret (.bool !b)
  |_=>.fail)else .fail
def R8(op:BinOp)(empty:Bool):Pg C (D C):=
 match op with
 |.eql=>.br empty .fail (.ret (.bool false))
 |.neq=>.br empty .fail (.ret (.bool true))
 |_=>.fail
def xS(op:BinOp)(t:TypeId)(x y:D C):Pg C (D C):=
 match x,y with
 |.int k a,.int k' b=>bif Hb op||decide (k=k')then R7 op k a b else .fail
 |.str a,.str b=>NW op a b
 |.sl _ _ l,.eO=>(match T.ty t with
  |.sl _ _=>R8 op l.isEmpty
  |_=>.fail)
 |x,y=>Iv T op t x y
def frz:D C->Pg C (D C)
 |.bI d ds=>.bind (frz d) fun d'=>.bind (frz ds) fun ri=>.ret (.bI d' ri)
 |.cH d=>.bind (frz d) fun d'=>.ret (.cH d')
 |.vs id n=>.rd id fun
  |.cj t _ l=>.br (Nat.beq n l.length) (.wr id (.cj t false l) (.ret (.sl t false l))) .fail
  |_=>.fail
 |.jR _ _ _ _ _=>.fail
 |d=>.ret d
def qF:D C->Pg C (D C)
 |.bI d ds=>.bind (qF d) fun d'=>.bind (qF ds) fun ri=>.ret (.bI d' ri)
 |.cH d=>.bind (qF d) fun d'=>.ret (.cH d')
 |.vs id n=>.rd id fun
  |.cj t _ l=>.br (Nat.beq n l.length) (.ret (.sl t false l)) .fail
  |_=>.fail
 |.jR _ id p lo _=>.rd id fun
  |.cj t _ l=>.br (Nat.beq (p.getD 0 0) l.length&&Nat.ble lo l.length) (.ret (.sl t false (l.drop lo))) .fail
  |_=>.fail
 |d=>.ret d
def HK:List (D C)->Pg C (List (D C))
 |[]=>.ret []
 |d::ds=>.bind (qF d) fun d'=>.bind (HK ds) fun ri=>.ret (d'::ri)
def D.plain:D C->Bool
 |.bool _ |.int _ _ |.str _ |.bN |.eO |.fw |.cD |.gz=>true
 |.bI a b=>a.plain&&b.plain
 |.cH d=>d.plain
 |_=>false
def uS:List (D C)->Pg C (List (D C))
 |[]=>.ret []
 |d::ds=>.bind (frz d) fun d'=>.bind (uS ds) fun ri=>.ret (d'::ri)
def Qf(n bytes:Nat):Bool:=decide (n*bytes<=1099511627776)
def HX(t:C.Ty)(bytes:Nat)(s:D C)(xs:List (C.A t)):Pg C (D C):=
 match s with
 |.eO=>.br (Qf xs.length bytes) (.nw (.cj t true xs) fun id=>.ret (.vs id xs.length)) .fail
 |.sl t' cap l=>if h:t'=t then(match cap with
  |true=>.br (Qf (l.length+xs.length) bytes) (.nw (.cj t l.isEmpty ((h▸l)++xs)) fun id=>.ret (.vs id (l.length+xs.length))) .fail
  |false=>.fail)else .fail
 |.vs id n=>.rd id fun
  |.cj t' dM l=>if h:t'=t then .br (Nat.beq n l.length&&Qf (n+xs.length) bytes) (.wr id (.cj t dM ((h▸l)++xs)) (.ret (.vs id (l.length+xs.length)))) .fail else .fail
  |_=>.fail
 |_=>.fail
def lf(t:C.Ty)(d:D C)(k:List (C.A t)->Pg C (D C)):Pg C (D C):=
 match d with
 |.eO=>k []
 |.sl t' _ l=>if h:t'=t then k (h▸l)else .fail
 |.vs id n=>.rd id fun
  |.cj t' _ l=>if h:t'=t then .br (Nat.beq n l.length) (k (h▸l)) .fail else .fail
  |_=>.fail
 |_=>.fail
def Qc(n:Nat):Bool:=Nat.ble n 9223372036854775807
theorem Qd{n:Nat}(h:n<=9223372036854775807):Qc n=true:=Nat.ble_eq_true_of_le h
theorem Va{n:Nat}(h:Qc n=true):n<=9223372036854775807:=Nat.le_of_ble_eq_true h
def yV(t:TypeId)(d:D C):Pg C (D C):=
 match T.ty t with
 |.sl _ _=>match d with
  |.eO=>.ret (.int .i64 0)
  |.sl _ _ l=>.br (Qc l.length) (.ret (.int .i64 l.length)) .fail
  |.vs _ n=>.br (Qc n) (.ret (.int .i64 n)) .fail
  |.jR _ _ _ _ n=>.br (Qc n) (.ret (.int .i64 n)) .fail
  |_=>.fail
 |.str=>match d with
  |.str s=>.br (Qc s.length) (.ret (.int .i64 s.length)) .fail
  |_=>.fail
 |.arr n _ _=>bif Nat.ble n 9223372036854775807 then .ret (.int .i64 n)else .fail
 |.struct true fs=>bif Nat.ble fs.length 9223372036854775807 then .ret (.int .i64 fs.length)else .fail
 |.fY _=>match d with
  |.fY n _ _=>.br (Qc n) (.ret (.int .i64 n)) .fail
  |_=>.fail
 |_=>.fail
def rF(k:IntKind):Int->List (D C)->je
 |a,[]=>some a
 |a,.int k' b::l=>if k'=k then rF k (if b<a then b else a) l else none
 |_,_=>none
def rE(k:IntKind):Int->List (D C)->je
 |a,[]=>some a
 |a,.int k' b::l=>if k'=k then rE k (if a<b then b else a) l else none
 |_,_=>none
def Dz:List (D C)->Option (D C)
 |.int k a::l=>(rF k a l).map (.int k)
 |_=>none
def DA:List (D C)->Option (D C)
 |.int k a::l=>(rE k a l).map (.int k)
 |_=>none
def Qqu(t:C.Ty)(id n:Nat)(xs:List (C.A t)):Obj C->Pg C (D C)
 |.cj t' true l=>if h:t'=t then .br (Nat.beq n l.length&&Qc n) (.wr id (.cj t true (xs.take l.length++(h▸l).drop xs.length)) (.ret (.int .i64 (min xs.length l.length:Nat)))) .fail else .fail
 |_=>.fail
def Iw(t:C.Ty)(d:D C)(xs:List (C.A t)):Pg C (D C):=
 match d with
 |.vs id n=>.rd id (Qqu t id n xs)
 |_=>.fail
def MP(b:Builtin)(argTypes:cK)(args:List (D C)):Pg C (D C):=
 match b,args with
 |.len,[d]=>yV T (argTypes.getD 0 0) d
 |.append,[s,x]=>match T.ty (argTypes.getD 0 0)with
  |.sl e t=>match T.ty (argTypes.getD 1 0)with
   |.sl _ t'=>bif decide (t=t')then lf t x fun xs=>HX t (T.bytes e) s xs else .fail
   |.str=>(match T.ty e with
    |.int .u8=>(match T.kD t with
     |some f=>(match x with
      |.str b=>HX t (T.bytes e) s (f b)
      |_=>.fail)
     |none=>.fail)
    |_=>.fail)
   |_=>.fail
  |.fY e=>(match T.ty (argTypes.getD 1 0)with
   |.fY e'=>bif Nat.beq e e' then(match s,x with
    |.fY n true ds,.fY m _ es=>bif Nat.beq n ds.size&&Nat.beq m es.size&&(Nat.ble 1 m&&Nat.ble (n+m) 16777216)then .ret (.fY (n+m) false (ds.append es))else .fail
    |_,_=>.fail)else .fail
   |_=>.fail)
  |_=>.fail
 |.copy,[s,x]=>match T.ty (argTypes.getD 0 0)with
  |.sl _ t=>match T.ty (argTypes.getD 1 0)with
   |.sl _ t'=>bif decide (t=t')then lf t x fun xs=>Iw t s xs else .fail
   |_=>.fail
  |_=>.fail
 |.min,l=>.jZ (Dz l)
 |.max,l=>.jZ (DA l)
 |_,_=>.fail
def k9:Option (D C)->Int->je
 |none,n=>some n
 |some (.int _ n),_=>some n
 |_,_=>none
def uP{t:C.Ty}(cap:Bool)(l:List (C.A t))(lo hi mx:Option (D C)):Pg C (D C):=
 match k9 lo 0,k9 hi l.length with
 |some a,some b=>match mx with
  |none=>(match hi with
   |none=>.br (decide (0<=a/\a<=l.length)) (.ret (.sl t cap (l.drop a.toNat))) .fail
   |some _=>.br (decide (0<=a/\a<=b/\b<=l.length)) (.ret (.sl t false ((l.take b.toNat).drop a.toNat))) .fail)
  |some (.int _ m)=>bif hi.isSome then .br (decide (0<=a/\a<=b/\b<=l.length/\m=b)) (.ret (.sl t true ((l.take b.toNat).drop a.toNat))) .fail else .fail
  |_=>.fail
 |_,_=>.fail
def S3(ty0:C.Ty)(n:Nat)(lo hi mx:Option (D C)):Obj C->Pg C (D C)
 |.cj ty false l=>bif decide (ty=ty0)then .br (Nat.beq n l.length) (uP false l lo hi mx) .fail else .fail
 |_=>.fail
def DT(t:TypeId)(d:D C)(lo hi mx:Option (D C)):Pg C (D C):=
 match T.ty t with
 |.sl _ ty0=>match d with
  |.sl ty cap l=>bif decide (ty=ty0)then uP cap l lo hi mx else .fail
  |.vs id n=>.rd id (S3 ty0 n lo hi mx)
  |_=>.fail
 |.str=>match d with
  |.str s=>match k9 lo 0,k9 hi s.length,mx with
   |some a,some b,none=>.br (decide (0<=a/\a<=b/\b<=s.length)) (.ret (.str ((s.take b.toNat).drop a.toNat))) .fail
   |_,_,_=>.fail
  |_=>.fail
 |_=>.fail
def S4(t:TypeId)(id n:Nat)(lo hi mx:Option (D C)):Obj C->Pg C (D C)
 |.cj _ true _=>.bind (frz (.vs id n)) fun d=>DT T t d lo hi mx
 |_=>DT T t (.vs id n) lo hi mx
def Ix(t:TypeId)(id:Nat)(p:bU)(m:Nat)(lo hi mx:Option (D C)):Obj C->Pg C (D C)
 |.var u _=>bif decide (gG T u p=some t)then(match k9 lo 0,k9 hi m,mx with
  |some a,some b,none=>.br (decide (0<=a/\a<m/\a<=b/\b<=m)) (.ret (.jR t id p a.toNat (b-a).toNat)) .fail
  |_,_,_=>.fail)else .fail
 |_=>.fail
def Iy(t:TypeId)(id n:Nat)(lo hi mx:Option (D C)):Obj C->Pg C (D C)
 |.cj ty true l=>(match T.ty t with
  |.sl _ ty0=>bif decide (ty=ty0)then(match lo,hi,mx with
   |some (.int _ a),none,none=>.br (Nat.beq n l.length&&decide (0<=a/\a<=l.length)) (.ret (.jR t id [n] a.toNat (n-a.toNat))) .fail
   |none,some (.int _ b),none=>.br (Nat.beq n l.length&&decide (0<=b/\b<=l.length)) (.dl id (.nw (.cj ty true (l.take b.toNat)) fun ka=>.ret (.vs ka b.toNat))) .fail
   |_,_,_=>.fail)else .fail
  |_=>.fail)
 |_=>.fail
def Iz(t:TypeId)(id:Nat)(fs:cK):Obj C->Pg C (D C)
 |.var u d=>bif decide (u=t)&&(d.hQ&&d.eu&&Nat.beq d.size fs.length&&Nat.ble 1 fs.length)then .dl id (.ret (.fY fs.length true d))else .fail
 |_=>.fail
def NX(t:TypeId)(d:D C)(lo hi mx:Option (D C)):Pg C (D C):=
 match d with
 |.vs id n=>bif T.settle t then .rd id (S4 T t id n lo hi mx)else .rd id (Iy T t id n lo hi mx)
 |.ptr id p=>(match T.ty t with
  |.arr m _ _=>.rd id (Ix T t id p m lo hi mx)
  |.struct true fs=>(match p,lo,hi,mx with
   |[],none,none,none=>.rd id (Iz t id fs)
   |_,_,_,_=>.fail)
  |_=>.fail)
 |.fY n cap ds=>(match T.ty t with
  |.fY _=>(match lo,hi,mx with
   |none,some (.int _ b),none=>.br (decide (0<=b/\b<=n)) (.ret (.fY b.toNat false ds)) .fail
   |_,_,_=>.fail)
  |_=>.fail)
 |d=>DT T t d lo hi mx
def mq:D C->List (Nat×D C)->Option (D C)
 |d,[]=>some d
 |d,(i,v)::r=>match d.gS i v with
  |some d'=>mq d' r
  |none=>none
def v9{t:C.Ty}(l:List (C.A t)):List (Nat×D C)->Option (List (C.A t))
 |[]=>some l
 |(i,v)::r=>bif cZ T v (.inl (T.dG t))&&Nat.blt i l.length then(match T.dec t v with
  |some x=>v9 (l.set i x) r
  |none=>none)else none
def bytesOf{t:C.Ty}:List (C.A t)->fq
 |[]=>some []
 |x::l=>match T.enc t x,bytesOf l with
  |.int .u8 n,some r=>some (UInt8.ofNat n.toNat::r)
  |_,_=>none
def IA(src dst:TypeId)(x:D C):Pg C (D C):=
 match T.ty src,T.ty dst with
 |.int _,.int k=>match x with
  |.int _ n=>.ret (.int k (k.wrap n))
  |_=>.fail
 |.str,.str=>match x with
  |.str s=>.ret (.str s)
  |_=>.fail
 |.sl e t,.str=>match T.ty e with
  |.int .u8=>match T.um t with
   |some f=>lf t (YD T src x) fun xs=>.ret (.str (f xs))
   |none=>.fail
  |_=>.fail
 |.str,.sl e t=>match T.ty e with
  |.int .u8=>match T.kD t with
   |some f=>match x with
    |.str s=>.br (Qf s.length 1) (.ret (.sl t false (f s))) .fail
    |_=>.fail
   |none=>.fail
  |_=>.fail
 |_,_=>.fail
def NY(c a b:D C):Pg C (D C):=
 match c with
 |.bool t=>.br t (.ret a) (.ret b)
 |_=>.fail
def M7(t:TypeId):Pg C (D C):=
 match T.zero t with
 |some z=>bif cZ T z (.inl t)then .nw (.var t z) (fun id=>.ret (.ptr id []))else .fail
 |none=>.fail
def IB(t:TypeId)(d:D C):Pg C (D C):=
 bif cZ T d (.inl t)then .nw (.var t d) (fun id=>.ret (.ptr id []))else .fail
def M1(t:TypeId)(ps:List (Nat×D C)):Pg C (D C):=
 match T.ty t,T.zero t with
 |.struct _ fs,some z=>
  bif cZ T z (.inl t)&&ps.all (fun p=>cZ T (YD T (fs.getD p.1 0) p.2) (.inl (fs.getD p.1 0)))then .jZ (mq z (ps.map fun p=>(p.1,YD T (fs.getD p.1 0) p.2)))else .fail
 |.arr n e ty,some (.arr jn m l)=>if h:jn=ty then(match v9 T (h▸l) (ps.map fun p=>(p.1,YD T e p.2))with
  |some l'=>bif Nat.beq n m then .ret (.arr ty n l')else .fail
  |none=>.fail)else .fail
 |_,_=>.fail
def tL{α:Type}:Nat->Nat->List (Nat×α)->Bool
 |i,n,[]=>Nat.beq i n
 |i,n,(j,_)::r=>Nat.beq j i&&Nat.blt i n&&tL (i+1) n r
def Kz(t:TypeId)(n:Nat)(ps:List (Nat×D C)):Pg C (D C):=
 match T.ty t with
 |.sl e ty=>match v9 T (List.replicate n (T.fh ty)) (ps.map fun p=>(p.1,YD T e p.2))with
  |some l=>bif Nat.ble (n*T.size e) 16777216 then .ret (.sl ty true l)else .fail
  |none=>.fail
 |.fY e=>bif tL 0 n ps&&Nat.ble n 16777216&&ps.all (fun p=>cZ T (YD T e p.2) (.inl e))then .ret (.fY n true (D.ofList (ps.map fun p=>YD T e p.2)))else .fail
 |_=>.fail
def IC(t:TypeId)(p:bU):Obj C->Pg C (D C)
 |.var _ d=>match fg T d p with
  |some x=>bif cZ T x (.inl t)then .ret x else .fail
  |none=>.fail
 |_=>.fail
def S5(t:TypeId)(n:Nat)(p:bU):Obj C->Pg C (D C)
 |.cj ty _ l=>match p with
  |[i]=>.br (Nat.beq n l.length) (bif cZ T (T.enc ty (l.getD i (T.fh ty))) (.inl t)then .ret (T.enc ty (l.getD i (T.fh ty)))else .fail) .fail
  |[i,j]=>match (T.enc ty (l.getD i (T.fh ty))).nth j with
   |some x=>.br (Nat.beq n l.length) (bif cZ T x (.inl t)then .ret x else .fail) .fail
   |none=>.fail
  |_=>.fail
 |_=>.fail
def vO(t:TypeId)(a:D C):Pg C (D C):=
 match a with
 |.ptr id p=>.rd id (IC T t p)
 |.fx id n p=>.rd id (S5 T t n p)
 |.dS d=>bif cZ T d (.inl t)then .ret d else .fail
 |_=>.fail
def D.oa:D C->Bool
 |.vs _ _=>true
 |.bI a b=>a.oa||b.oa
 |_=>false
def ldS(t:TypeId)(id:Nat):Obj C->Pg C (D C)
 |.var u d=>bif decide (u=t)&&d.oa then .bind (frz d) fun d'=>bif cZ T d' (.inl t)then .wr id (.var u d') (.ret d')else .fail else IC T t [] (.var u d)
 |_=>.fail
def M2(t:TypeId)(a:D C):Pg C (D C):=
 match a with
 |.ptr id []=>match T.ty t with
  |.struct _ _=>bif T.settle t then .rd id (ldS T t id)else vO T t (.ptr id [])
  |_=>vO T t (.ptr id [])
 |a=>vO T t a
def ID(t:TypeId)(id:Nat)(p:bU)(v:D C):Obj C->Pg C (D C)
 |.var u d=>match setPath T d p v,gG T u p with
  |some d',some t'=>bif cZ T v (.inl t)&&cZ T v (.inl t')then .wr id (.var u d') (.ret (.cH .bN))else .fail
  |_,_=>.fail
 |_=>.fail
def IE(t:TypeId)(id n:Nat)(p:bU)(v:D C):Obj C->Pg C (D C)
 |.cj ty true l=>match p with
  |[i]=>match T.dec ty v with
   |some z=>.br (Nat.beq n l.length) (bif cZ T v (.inl t)then .wr id (.cj ty true (l.set i z)) (.ret (.cH .bN))else .fail) .fail
   |none=>.fail
  |_=>.fail
 |_=>.fail
def JY(t:TypeId)(a v:D C):Pg C (D C):=
 match a with
 |.ptr id p=>.rd id (ID T t id p v)
 |.fx id n p=>.rd id (IE T t id n p v)
 |_=>.fail
def S6(p:bU):Obj C->Bool
 |.var u _=>match gG T u p.dropLast with
  |some q=>(match T.ty q with
   |.arr _ _ _=>!p.isEmpty
   |_=>false)
  |none=>false
 |_=>false
def GD(t:TypeId)(a v:D C):Pg C (D C):=
 match a,v with
 |.ptr id p,.vs i n=>.rd id fun o=>bif S6 T p o then .bind (frz (.vs i n)) fun d=>JY T t (.ptr id p) d else JY T t (.ptr id p) (.vs i n)
 |a,v=>JY T t a v
def L9(x:D C):Pg C (D C):=
 match x with
 |.ptr id p=>.ret (.ptr id p)
 |.fx id n p=>.ret (.fx id n p)
 |.dS d=>.ret (.dS d)
 |.fn f c=>.ret (.fn f c)
 |_=>.fail
def ya(op:UnOp)(x:D C):Pg C (D C):=
 match op,x with
 |.not,.bool b=>.ret (.bool !b)
 |.neg,.int k n=>.ret (.int k (k.wrap (0-n)))
 |.xor,.int k n=>.ret (.int k (bits k (fun _ u v=>u ^^^ v) (bif k.signed then -1 else k.max) n))
 |_,_=>.fail
def UE(fn:Fn)(first fC:List (D C)):Pg C (D C):=
 match fn,first with
 |.func f,[]=>.ret (.fn f (D.ofList fC))
 |.func f,[.int k n]=>(match fC with
  |[]=>.ret (.bm f (.int k n))
  |_=>.fail)
 |.func f,[.ptr id p]=>(match fC with
  |[]=>.ret (.bm f (.ptr id p))
  |_=>.fail)
 |_,_=>.fail
def LA(t:TypeId)(n c:D C):Pg C (D C):=
 match T.ty t,n,c with
 |.sl e ty,.int .i64 n,.int .i64 c=>.br (decide (0<=n/\n<=c)&&Qf c.toNat (T.bytes e)) (.nw (.cj ty true (List.replicate n.toNat (T.fh ty))) fun id=>.ret (.vs id n.toNat)) .fail
 |_,_,_=>.fail
def IF(s:TypeId)(id:Nat)(p:bU)(i:Nat):Obj C->Pg C (D C)
 |.var u _=>bif decide (gG T u p=some s)then .ret (.ptr id (p++[i]))else .fail
 |_=>.fail
def HL(s:TypeId)(id n j i:Nat):Obj C->Pg C (D C)
 |.cj ty _ l=>.br (Nat.beq n l.length) (bif Nat.beq s (T.dG ty)then .ret (.fx id n [j,i])else .fail) .fail
 |_=>.fail
def VS(s:TypeId)(x:D C)(i:Nat):Pg C (D C):=
 match T.ty s with
 |.struct false fs=>bif Nat.blt i fs.length then(match x with
  |.ptr id p=>.rd id (IF T s id p i)
  |.fx id n [j]=>.rd id (HL T s id n j i)
  |.dS d=>bif cZ T d (.inl s)then(match d.nth i with|some x=>.ret (.dS x)|none=>.fail)else .fail
  |_=>.fail)else .fail
 |_=>.fail
def M3(s:TypeId)(x:D C)(i:Nat):Pg C (D C):=
 match T.ty s with
 |.struct false _=>bif cZ T x (.inl s)then(match x.nth i with|some d=>.ret d|none=>.fail)else .fail
 |_=>.fail
def HM(ty0:C.Ty)(id m:Nat)(n:Int):Obj C->Pg C (D C)
 |.cj ty _ l=>bif decide (ty=ty0)then .br (Nat.beq m l.length&&decide (0<=n/\n<l.length)) (.ret (.fx id m [n.toNat])) .fail else .fail
 |_=>.fail
def Cg(t:TypeId)(id:Nat)(p:bU)(n:Int)(m:Nat):Obj C->Pg C (D C)
 |.var u _=>bif decide (gG T u p=some t)then .br (decide (0<=n/\n<m)) (.ret (.ptr id (p++[n.toNat]))) .fail else .fail
 |_=>.fail
def VT(t:TypeId)(x i:D C):Pg C (D C):=
 match i with
 |.int _ n=>match T.ty t with
  |.sl _ ty0=>match x with
   |.sl ty _ l=>bif decide (ty=ty0)then .br (decide (0<=n/\n<l.length)) (.ret (.dS (T.enc ty (l.getD n.toNat (T.fh ty))))) .fail else .fail
   |.vs id m=>.rd id (HM ty0 id m n)
   |.jR ta id p lo m=>(match T.ty ta with
    |.arr _ _ ty=>bif decide (ty=ty0)then .br (decide (0<=n/\n<m)) (.ret (.ptr id (p++[lo+n.toNat]))) .fail else .fail
    |_=>.fail)
   |_=>.fail
  |.fY _=>match x with
   |.fY m _ ds=>.br (decide (0<=n/\n<m)) (match ds.nth n.toNat with|some x=>.ret (.dS x)|none=>.fail) .fail
   |_=>.fail
  |.arr m _ _=>match x with
   |.ptr id p=>.rd id (Cg T t id p n m)
   |.dS (.arr ty m' l)=>bif cZ T (.arr ty m' l) (.inl t)then .br (decide (0<=n/\n<m)) (.ret (.dS (T.enc ty (l.getD n.toNat (T.fh ty))))) .fail else .fail
   |_=>.fail
  |.struct true fs=>match x with
   |.ptr id p=>.rd id (Cg T t id p n fs.length)
   |.dS d=>bif cZ T d (.inl t)then .br (decide (0<=n/\n<fs.length)) (match d.nth n.toNat with|some x=>.ret (.dS x)|none=>.fail) .fail else .fail
   |_=>.fail
  |_=>.fail
 |_=>.fail
def M4(t:TypeId)(x i:D C):Pg C (D C):=
 match i with
 |.int _ n=>match x with
  |.arr ty m l=>bif cZ T (.arr ty m l) (.inl t)then .br (decide (0<=n/\n<m)) (.ret (T.enc ty (l.getD n.toNat (T.fh ty)))) .fail else .fail
  |.str s=>match T.ty t with
   |.str=>.br (decide (0<=n/\n<s.length)) (.ret (.int .u8 (s.getD n.toNat 0).toNat)) .fail
   |_=>.fail
  |.bI a b=>match T.ty t with
   |.struct true fs=>bif cZ T (.bI a b) (.inl t)then .br (decide (0<=n/\n<fs.length)) (match (D.bI a b).nth n.toNat with|some x=>.ret x|none=>.fail) .fail else .fail
   |_=>.fail
  |_=>.fail
 |_=>.fail
def Vw(t:C.Ty)(a b:C.A t):Bool:=(o5 (T.enc t a) (T.enc t b)).getD false
def oJ{α β:Type}(eq:α->α->Bool)(k:α):List (α×β)->Option β
 |[]=>none
 |(a,b)::l=>bif eq k a then some b else oJ eq k l
def iR{α β:Type}(eq:α->α->Bool)(k:α)(v:β):List (α×β)->List (α×β)
 |[]=>[(k,v)]
 |(a,b)::l=>bif eq k a then(k,v)::l else(a,b)::iR eq k v l
def Me(t:TypeId):Pg C (D C):=
 match T.ty t with
 |.map _ _ ck cv=>.nw (.map ck cv []) fun id=>.ret (.mp id)
 |_=>.fail
def IG(kt vt:TypeId)(ck cv:C.Ty)(id:Nat)(k x:D C):Obj C->Pg C (D C)
 |.map ly kM l=>if h:ly=ck then if h2:kM=cv then(match T.dec ck k,T.dec cv x with
  |some a,some b=>bif cZ T k (.inl kt)&&cZ T x (.inl vt)then .wr id (.map ck cv (iR (Vw T ck) a b (h2▸h▸l))) (.ret (.cH .bN))else .fail
  |_,_=>.fail)else .fail else .fail
 |_=>.fail
def Yt(t:TypeId)(m k x:D C):Pg C (D C):=
 match T.ty t with
 |.map kt vt ck cv=>match m with
  |.mp id=>.rd id (IG T kt vt ck cv id k (YD T vt x))
  |_=>.fail
 |_=>.fail
def Qqx(kt:TypeId)(ck cv:C.Ty)(k:D C)(ok:Bool):Obj C->Pg C (D C)
 |.map ly kM l=>if h:ly=ck then if h2:kM=cv then(match T.dec ck k with
  |some a=>bif cZ T k (.inl kt)then(match ok with
   |true=>.ret (.cH (.bI (T.enc cv ((oJ (Vw T ck) a (h2▸h▸l)).getD (T.fh cv))) (.bI (.bool (oJ (Vw T ck) a (h2▸h▸l)).isSome) .bN)))
   |false=>.ret (T.enc cv ((oJ (Vw T ck) a (h2▸h▸l)).getD (T.fh cv))))else .fail
  |none=>.fail)else .fail else .fail
 |_=>.fail
def MQ(t:TypeId)(m k:D C)(ok:Bool):Pg C (D C):=
 match T.ty t with
 |.map kt _ ck cv=>match m with
  |.mp id=>.rd id (Qqx T kt ck cv k ok)
  |_=>.fail
 |_=>.fail
def R9(id:Nat):Obj C->Pg C (D C)
 |.map ck cv l=>.dl id (.nw (.ek (.it ck cv l)) fun ka=>.ret (.ku ka))
 |_=>.fail
def M5(t:TypeId)(m:D C):Pg C (D C):=
 match T.ty t with
 |.map _ _ _ _=>match m with
  |.mp id=>.rd id (R9 id)
  |_=>.fail
 |_=>.fail
def UY(x:D C)(i:Nat):Pg C (D C):=
 match x with
 |.cH ds=>.jZ (ds.nth i)
 |_=>.fail
def Ve:Nat:=4294967296
def NZ(call:FuncId->List (D C)->Pg C (D C))(f:D C)(args:List (D C)):Pg C (D C):=
 match f with
 |.fn g fC=>bif Nat.beq g Ve then .fail else call g (args++fC.toList)
 |.bm g d=>bif Nat.beq g Ve then .fail else call g (d::args)
 |.yl nt dW ps jC body fC id=>call Ve (.yl nt dW ps jC body fC id::args)
 |_=>.fail
def Ce:cK->List (D C)->List (D C)
 |t::ts,d::ds=>YD T t d::Ce ts ds
 |_,ds=>ds
def j8(call:FuncId->List (D C)->Pg C (D C))(o:Oper)(ev:Operand->D C):Pg C (D C):=
 match o.op with
 |.move x=>.ret (YD T o.type (ev x))
 |.assign x=>.ret (YD T o.type (ev x))
 |.pick c a b=>NY (ev c) (ev a) (ev b)
 |.alloc t=>M7 T t
 |.box t x=>IB T t (YD T t (ev x))
 |.build t ps=>M1 T t (ps.toList.map fun p=>(p.1,ev p.2))
 |.buildSlice t n ps=>Kz T t n (ps.toList.map fun p=>(p.1,ev p.2))
 |.load t a=>M2 T t (ev a)
 |.store t a x=>GD T t (ev a) (YD T t (ev x))
 |.nilCheck x=>L9 (ev x)
 |.binOp op t x y _=>xS T op t (ev x) (ev y)
 |.unOp op _ x=>ya op (ev x)
 |.convert s t x=>IA T s t (ev x)
 |.makeFunc fn first fC=>UE fn (first.toList.map ev) (fC.toList.map ev)
 |.makeSlice t n c=>LA T t (ev n) (ev c)
 |.slice t x lo hi mx=>NX T t (ev x) (lo.map ev) (hi.map ev) (mx.map ev)
 |.fieldAddr s x i=>VS T s (ev x) i
 |.field s x i=>M3 T s (ev x) i
 |.indexAddr t x i=>VT T t (ev x) (ev i)
 |.index t x i=>M4 T t (ev x) (ev i)
 |.extract x i=>UY (ev x) i
 |.makeMap t none=>Me T t
 |.mapUpdate t m k x=>Yt T t (ev m) (ev k) (ev x)
 |.insert t m k x=>Yt T t (ev m) (ev k) (ev x)
 |.range t x=>M5 T t (ev x)
 |.lookup t m k ok=>MQ T t (ev m) (ev k) ok
 |.call c=>match c.callee with
  |.builtin b=>bif Nat.beq c.argTypes.toList.length c.args.toList.length then MP T b c.argTypes.toList (c.args.toList.map ev)else .fail
  |.value f=>NZ call (ev f) (Ce T c.argTypes.toList (c.args.toList.map ev))
  |_=>.fail
 |_=>.fail
def put(env:Env C)(dst:Option Tmp)(d:D C):Env C :=
 match dst with
 |some t=>(t,d)::env
 |none=>env
def iD(env:Env C):Operand->D C
 |.tmp t=>c8 env t
 |.const v=>qd v
 |.global _=>.top
 |.func f=>.fn f .bN
def lits:bY:=[0,1,2,3,4,5,6,7]
def Ci(o:Oper):Option (Nat×Nat):=
 match o.op with
 |.indexAddr t _ (.tmp i) |.index t _ (.tmp i)=>(match T.ty t with
  |.struct true fs=>some (i,fs.length)
  |_=>none)
 |_=>none
def pins(i:Nat)(k:IntKind)(n:Int)(go:Env C->Pg C (Env C))(w:Bool)(env:Env C):bY->Pg C (Env C)
 |[]=>bif w then .fail else go env
 |j::l=>.br (n==j) (go ((i,.int k j)::env)) (pins i k n go w env l)
def mO(o:Oper)(go:Env C->Pg C (Env C))(env:Env C):Pg C (Env C):=
 match Ci T o with
 |some (i,m)=>(match c8 env i with
  |.int k n=>pins i k n go (Nat.ble m 8) env (lits.take m)
  |_=>go env)
 |none=>go env
def pV(call:FuncId->List (D C)->Pg C (D C))(ops:cV)(o:Oper)(env:Env C):Pg C (Env C):=
 let go (env:Env C):Pg C (Env C):=mO T o (fun env=>.bind (j8 T call o (iD env)) fun d=>.ret (put env o.dst d)) env
 let skip (env:Env C):Pg C (Env C):=.ret (put env o.dst (.cH .bN))
 match o.guard with
 |none=>go env
 |some (j,want)=>match (ops[j]?).bind (·.dst)with
  |some d=>match c8 env d with
   |.bool b=>.br b (bif want then go (((d,.bool true)::env))else skip (((d,.bool true)::env)))
    (bif want then skip (((d,.bool false)::env))else go (((d,.bool false)::env)))
   |.cH .bN=>skip env
   |_=>.fail
  |none=>.fail
def tZ(t:Nat):Operand->Bool
 |.tmp u=>!Nat.beq u t
 |_=>true
def HN(o1 o2 o3:Oper):Option (TypeId×Operand×Operand×Operand×Nat×Nat):=
 match o1.op with
 |.mapEntry t m k=>(match o1.dst,o1.guard,o2.op,o2.dst,o2.guard,o3.op,o3.guard with
  |some d1,none,.extract (.tmp e1) 1,some d2,none,.entryStore _ (.tmp n) (.tmp e2) v,none=>(match m with
   |.tmp m=>bif(Nat.beq e1 d1&&Nat.beq e2 d2&&Nat.beq n m)&&(tZ d1 (.tmp m)&&tZ d2 (.tmp m) && !Nat.beq d1 d2)&&(tZ d1 v&&tZ d2 v)then some (t,.tmp m,k,v,d1,d2)else none
   |_=>none)
  |_,_,_,_,_,_,_=>none)
 |_=>none
def HO(o1 o2:Oper):Option (TypeId×Operand×Operand×Nat):=
 match o1.op with
 |.slice t x (some lo) none none=>(match o1.dst,o1.guard,o2.op,o2.guard with
  |some d1,none,.call c,none=>(match c.callee,c.args.toList,c.argTypes.toList with
   |.builtin .clear,[.tmp e1],[t']=>bif Nat.beq e1 d1&&Nat.beq t' t then some (t,x,lo,d1)else none
   |_,_,_=>none)
  |_,_,_,_=>none)
 |_=>none
def Sa(t:TypeId)(n id:Nat)(a:Int):Obj C->Pg C (D C)
 |.cj ty true l=>(match T.ty t with
  |.sl _ ty0=>bif decide (ty=ty0)then .br (Nat.beq n l.length&&decide (0<=a/\a<=l.length)) (.wr id (.cj ty true (l.take a.toNat++List.replicate (l.length-a.toNat) (T.fh ty))) (.ret (.cH .bN))) .fail else .fail
  |_=>.fail)
 |_=>.fail
def M6(t:TypeId)(x lo:D C):Pg C (D C):=
 match x,lo with
 |.vs id n,.int _ a=>.rd id (Sa T t n id a)
 |_,_=>.fail
def qE(call:FuncId->List (D C)->Pg C (D C))(ops:cV):ga->Env C->Pg C (Env C)
 |[],env=>.ret env
 |o::r,env=>match r with
  |[]=>.bind (pV T call ops o env) fun env=>.ret env
  |o2::r2=>match HO o o2 with
   |some (t,x,lo,d1)=>.bind (M6 T t (iD env x) (iD env lo)) fun _=>qE call ops r2 (put ((d1,.top)::env) o2.dst (.cH .bN))
   |none=>match r2 with
   |[]=>.bind (pV T call ops o env) fun env=>qE call ops (o2::[]) env
   |o3::r3=>match HN o o2 o3 with
    |some (t,m,k,v,d1,d2)=>.bind (Yt T t (iD env m) (iD env k) (iD env v)) fun _=>qE call ops r3 (put ((d2,.top)::(d1,.top)::env) o3.dst (.cH .bN))
    |none=>.bind (pV T call ops o env) fun env=>qE call ops (o2::o3::r3) env
def N0(a b:Tr):Bool:=a.all fun x=>b.all fun y=>!(Nat.beq x.1 y.1) || !(x.2||y.2)
def B8(o:Oper):Bool:=match o.op with
 |.fieldAddr _ _ _=>true
 |.indexAddr _ _ _=>true
 |_=>false
def xj(o:Oper):Bool:=match o.op with
 |.store _ _ _=>true
 |_=>false
def DU(ops:cV)(a b:Nat):Bool:=match ops[a]?,ops[b]? with
 |some x,some y=>(B8 x&&xj y)||(xj x&&B8 y)
 |_,_=>false
def Hc(ops:cV)(ts:jc):Bool :=
 ts.all fun a=>ts.all fun b=>N0 a.2 b.2 || !(Nat.blt a.1 b.1)||((Region.before ops).getD b.1 0).testBit a.1||DU ops a.1 b.1
def B9(call:FuncId->List (D C)->Pg C (D C))(ops:cV)(base span:Nat):Nat->ga->Env C->jc->Pg C (Env C)
 |i,[],env,ts=>.upto (base+i*span) (.br (Hc ops ts) (.ret env) .fail)
 |i,o::r,env,ts=>.upto (base+i*span) (.sub (pV T call ops o env) fun env t=>B9 call ops base span (i+1) r env (match t with|[]=>ts|_=>(i,t)::ts))
def QF:Code->Nat
 |.region id _ _=>id
 |.seq a _=>QF a
 |.cond _ a _=>QF a
 |.block _ a=>QF a
 |.loop a=>QF a
 |.scope a=>QF a
 |_=>0
def xl(env:Env C):List ResultVar->Pg C (List (D C))
 |[]=>.ret []
 |.tmp t::r=>.bind (xl env r) fun l=>.ret (c8 env t::l)
 |.cell a t::r=>.bind (vO T t (c8 env a)) fun d=>.bind (xl env r) fun l=>.ret (d::l)
def rH(Φ:jv C)(f:FuncId)(n0:Nat)(env:Env C)(rs:List ResultVar):Pg C (D C):=
 .bind (xl T env rs) fun l=>
  bif Φ.keeps f then .ret (match l with
   |[d]=>d
   |l=>.cH (D.ofList l))
  else .bind (match l with
   |[d]=>frz d
   |l=>frz (.cH (D.ofList l))) fun d=>.gc n0 d.refs (.ret d)
def S7(id:Nat):Obj C->Pg C Unit
 |.var u d=>bif d.oa then .bind (frz d) fun d'=>bif cZ T d' (.inl u)then .wr id (.var u d') (.ret ())else .fail else .ret ()
 |_=>.ret ()
def D4:bU->Nat->Pg C Unit
 |[],id=>.rd id (S7 T id)
 |i::p,id=>.rd id fun
  |.var _ d=>match d.nth i with
   |some (.ptr ka [])=>D4 p ka
   |_=>.fail
  |_=>.fail
def wa(env:Env C):eV->Pg C Unit
 |[]=>.ret ()
 |(t,p)::r=>match c8 env t with
  |.ptr id []=>.bind (D4 T p id) fun _=>wa env r
  |_=>.fail
def vP(Φ:jv C)(ev:FuncId->Code->Env C->Pg C (X×Env C))(g:FuncId)(args:List (D C)):Pg C (D C):=
 match Φ.fn g with
 |some fn=>match fn.body with
  |some body=>.oY fun n0 _=>.bind (ev g body (hY 0 args)) fun r=>
   match r.1 with
   |.exit _=>.fail
   |_=>.bind (wa T r.2 (Φ.rest g)) fun _=>rH T Φ g n0 r.2 fn.results.toList
  |none=>.fail
 |none=>.fail
def y4(nt:Nat)(ops:cV):Bool:=ops.toList.all fun o=>match o.dst with
 |some t=>Nat.blt t nt
 |none=>true
def IH(ops:cV):Bool :=
 let b:=Region.before ops
 ops.toList.zipIdx.all fun x=>x.1.after.toList.all (fun e=>!Region.binds .any e||Nat.blt e.on x.2) &&
  ops.toList.zipIdx.all fun y=>!(Nat.blt x.2 y.2)||(b.getD y.2 0).testBit x.2||x.1.apart ops y.1
def YV(nt:Nat):Code->Bool
 |.region _ ops draw=>y4 nt ops&&(!draw||IH ops)
 |.seq a b=>YV nt a&&YV nt b
 |.cond _ a b=>YV nt a&&YV nt b
 |.block _ a=>YV nt a
 |.loop a=>YV nt a
 |.scope a=>YV nt a
 |_=>true
def JZ:Code->Bool
 |.skip=>true
 |.label _=>true
 |.ret=>true
 |.exit _=>true
 |.region _ _ _=>true
 |.seq a b=>JZ a&&JZ b
 |.cond _ a b=>JZ a&&JZ b
 |.block _ a=>JZ a
 |_=>false
def Fx(nt:Nat)(c:Code):Bool:=YV nt c&&JZ c
def tA(nt:Nat):bU->Bool
 |[]=>true
 |t::r=>Nat.blt t nt&&(!(r.any (Nat.beq t))&&tA nt r)
def n5:bU->List (D C)->Env C
 |t::ts,d::ds=>(t,d)::n5 ts ds
 |_,_=>[]
def Sb(id ex:Nat)(x:X):Obj C->Pg C (D C)
 |.ek (.lp busy dn OQ)=>.br (busy && !dn&&Nat.beq OQ ex) (match x with
  |.normal=>.wr id (.ek (.lp false false ex)) (.ret (.bool true))
  |.exit i=>bif Nat.beq i ex then .wr id (.ek (.lp false true ex)) (.ret (.bool false))else .fail
  |.ret=>.fail) .fail
 |_=>.fail
def Sc(ev:FuncId->Code->Env C->Pg C (X×Env C))(id ex:Nat)(body:Code)(env:Env C):Obj C->Pg C (D C)
 |.ek (.lp busy dn OQ)=>.br (!busy && !dn&&Nat.beq OQ ex) (.wr id (.ek (.lp true false ex)) (.bind (ev 0 body env) fun r=>.rd id (Sb id ex r.1))) .fail
 |_=>.fail
def Sd(ev:FuncId->Code->Env C->Pg C (X×Env C))(args:List (D C)):Pg C (D C):=
 match args with
 |.yl nt dW ps jC body fC id::xs=>
  bif(fC.eu&&xs.all D.eu)&&((Nat.beq xs.length ps.length&&tA nt ps)&&(Fx nt jC&&Fx nt body))then
   .rd id fun
    |.ek (.lp _ _ ex)=>.bind (ev 0 jC (n5 ps xs++n5 dW fC.toList)) fun r=>match r.1 with
     |.normal=>.rd id (Sc ev id ex body r.2)
     |_=>.fail
    |_=>.fail
  else .fail
 |_=>.fail
def uc(Φ:jv C)(ev:FuncId->Code->Env C->Pg C (X×Env C))(g:FuncId)(args:List (D C)):Pg C (D C):=
 bif Nat.beq g Ve then Sd ev args else
 match Φ.jJ g with
 |some s=>.bind (wa T (hY 0 args) (Φ.rest g)) fun _=>s args
 |none=>match Φ.spec g with
  |some s=>bif Φ.qt g then .bind (HK args) (fun args=>match s args with
   |some (b,d)=>bif d.plain&&args.all D.eu then .br b (.ret d) .fail else .fail
   |none=>.fail)else .bind (uS args) fun args=>match s args with
   |some (b,d)=>bif Φ.total g then(bif b then .ret d else .fail)else .br b (.ret d) .fail
   |none=>.fail
  |none=>vP T Φ ev g args
def HP(b:Env C->Pg C (X×Env C))(r:X×Env C):Pg C (X×Env C):=
 match r.1 with
 |.normal=>b r.2
 |_=>.ret r
def Xz(id:Nat)(r:X×Env C):Pg C (X×Env C):=
 match r.1 with
 |.exit i=>bif Nat.beq i id then .ret (.normal,r.2)else .ret r
 |_=>.ret r
def QFx(Φ:jv C):Op->Bool
 |.move _ |.assign _ |.pick _ _ _ |.binOp _ _ _ _ _ |.unOp _ _ _ |.convert _ _ _ |.field _ _ _ |.extract _ _ |.index _ _ _=>true
 |.call c=>(match c.callee with
  |.value (.func g)=>Φ.total g
  |_=>false)
 |_=>false
def lh(Φ:jv C):Code->Bool
 |.skip=>true
 |.label _=>true
 |.region _ ops draw=>!draw&&ops.toList.all fun o=>QFx Φ o.op
 |.seq a b=>lh Φ a&&lh Φ b
 |.cond _ a b=>lh Φ a&&lh Φ b
 |_=>false
def kJ(b:Bool):D C->D C->Option (D C)
 |.bool x,.bool y=>some (.bool (bif b then x else y))
 |.int k x,.int k' y=>if k=k' then some (.int k (bif b then x else y))else none
 |.str x,.str y=>some (.str (bif b then x else y))
 |.bN,.bN=>some .bN
 |.bI x xs,.bI y ys=>match kJ b x y,kJ b xs ys with
  |some d,some ds=>some (.bI d ds)
  |_,_=>none
 |.cH .bN,.cH .bN=>some (.cH .bN)
 |.sl t c l,.sl t' c' l'=>if h:t'=t then some (.sl t (bif b then c else c') (bif b then l else h▸l'))else none
 |.arr t n l,.arr t' n' l'=>if h:t'=t then(if n=n' then some (.arr t n (bif b then l else h▸l'))else none)else none
 |.eO,.eO=>some .eO
 |.fw,.fw=>some .fw
 |.cD,.cD=>some .cD
 |_,_=>none
def tq(b:Bool):D C->D C->Option (D C)
 |.top,_=>some .top
 |_,.top=>some .top
 |x,y=>kJ b x y
def qv(b:Bool)(x y:Env C):bU->Option (Env C)
 |[]=>some []
 |t::l=>match tq b (c8 x t) (c8 y t),qv b x y l with
  |some d,some r=>some ((t,d)::r)
  |_,_=>none
def vA(m:gH)(env:Env C)(b:Bool)(p q:Pg C (X×Env C)):Pg C (X×Env C):=
 match m with
 |some l=>match p,q with
  |.ret (.normal,x),.ret (.normal,y)=>match qv b x y l with
   |some r=>.ret (.normal,r++env)
   |none=>.br b (.ret (.normal,x)) (.ret (.normal,y))
  |p,q=>.br b p q
 |none=>.br b p q
def S8(m:gH)(c:Operand)(x y:Env C->Pg C (X×Env C))(env:Env C):Pg C (X×Env C):=
 match c with
 |.tmp t=>match c8 env t with
  |.bool b=>vA m env b (x ((t,.bool true)::env)) (y ((t,.bool false)::env))
  |_=>.fail
 |.const (.bool b)=>.br b (x env) (y env)
 |_=>.fail
def FA(call:FuncId->List (D C)->Pg C (D C))(ops:cV)(env:Env C):Pg C (X×Env C):=
 .bind (qE T call ops ops.toList env) fun env=>.ret (.normal,env)
def S9(call:FuncId->List (D C)->Pg C (D C))(ops:cV)(env:Env C):Pg C (X×Env C):=
 .oY fun base span=>.bind (B9 T call ops base span 0 ops.toList env []) fun env=>.ret (.normal,env)
def P5(ops:cV)(env:Env C):eV:=
 ops.toList.filterMap fun o=>match o.op with
  |.load t (.tmp a)=>(match T.ty t with
   |.struct _ _=>bif !T.settle t||ops.toList.any (fun o=>match o.dst with|some d=>Nat.beq d a|none=>false)then none else(match c8 env a with
    |.ptr _ []=>some (a,[])
    |_=>none)
   |_=>none)
  |_=>none
def g8:Code->bU
 |.region _ ops _=>ops.toList.filterMap (·.dst)
 |.seq a b=>g8 a++g8 b
 |.cond _ a b=>g8 a++g8 b
 |.block _ a=>g8 a
 |.loop a=>g8 a
 |.scope a=>g8 a
 |_=>[]
def my(l:bU):Env C->Env C
 |[]=>[]
 |(j,d)::r=>bif l.any (Nat.beq j)then my l r else(j,d)::my l r
def II(Φ:jv C)(f:FuncId)(key:Nat)(asg:bU)(b again:Env C->Pg C (X×Env C))(env:Env C):Pg C (X×Env C):=
 match Φ.loop f key with
 |some s=>.bind (s env) fun r=>.ret (r.1,r.2++my asg env)
 |none=>.bind (b env) (HP again)
def D5:Env C->bU
 |[]=>[]
 |(j,d)::r=>bif(D5 r).any (Nat.beq j)then D5 r else(match d with
  |.top=>D5 r
  |_=>j::D5 r)
def Js:Code->bU
 |.region _ ops _=>ops.toList.flatMap fun o=>o.op.operands.toList.filterMap fun x=>match x with |.tmp t=>some t|_=>none
 |.seq a b=>Js a++Js b
 |.cond c a b=>(match c with |.tmp t=>[t]|_=>[])++(Js a++Js b)
 |.block _ a=>Js a
 |_=>[]
def vQ(used:bU)(env:Env C):bU:=(D5 env).filter fun t=>used.any (Nat.beq t)&&(c8 env t).eu
def ud:Code->Nat
 |.exit id=>id
 |.seq a b=>match ud a with|0=>ud b|n=>n
 |.cond _ a b=>match ud a with|0=>ud b|n=>n
 |.block id a=>match ud a with|0=>0|n=>bif Nat.beq n id then 0 else n
 |_=>0
def Se(id ex0:Nat)(env:Env C):Obj C->Pg C (X×Env C)
 |.ek (.lp busy dn ex)=>.br (!busy&&Nat.beq ex ex0) (.dl id (.br dn (.ret (.exit ex0,env)) (.ret (.normal,env)))) .fail
 |_=>.fail
def Sf(Φ:jv C)(call:FuncId->List (D C)->Pg C (D C))(f:FuncId)(g:D C)(ps:bU)(jC body:Code)(env:Env C):Pg C (X×Env C):=
 match Φ.fn f with
 |some fn=>(match g with
  |.fn pN fC=>bif Nat.beq pN Ve then .fail else
   .nw (.ek (.lp false false (ud body))) fun id=>
   .bind (call pN (.yl fn.ntmps (vQ (Js jC++Js body) env) ps jC body (D.ofList ((vQ (Js jC++Js body) env).map (c8 env))) id::fC.toList)) fun _=>.rd id (Se id (ud body) env)
  |_=>.fail)
 |none=>.fail
def kl(Φ:jv C):Nat->FuncId->Code->Env C->Pg C (X×Env C)
 |0,_,_,_=>.fail
 |n+1,f,c,env=>
  match c with
  |.skip=>.ret (.normal,env)
  |.label _=>.ret (.normal,env)
  |.ret=>.ret (.ret,env)
  |.exit id=>.ret (.exit id,env)
  |.region _ ops draw=>bif draw then .bind (wa T env (P5 T ops env)) fun _=>S9 T (uc T Φ (kl Φ n)) ops env else FA T (uc T Φ (kl Φ n)) ops env
  |.seq a b=>.bind (kl Φ n f a env) (HP (kl Φ n f b))
  |.cond c x y=>S8 (bif lh Φ x&&lh Φ y then some (g8 x++g8 y)else none) c (kl Φ n f x) (kl Φ n f y) env
  |.block id b=>.bind (kl Φ n f b env) (Xz id)
  |.scope b=>kl Φ n f b env
  |.loop b=>II Φ f (QF b) (g8 b) (kl Φ n f b) (kl Φ n f (.loop b)) env
  |.rangeFunc g ps jC body=>Sf Φ (uc T Φ (kl Φ n)) f (iD env g) ps.toList jC body env
  |_=>.fail
noncomputable def eU(Φ:jv C)(n:Nat)(f:FuncId)(args:List (D C)):Option (D C):=(vP T Φ (kl T Φ n) f args).run (0,0) [] 0 [] fun d _ _ _=>bif d.refs.isEmpty&&d.eu then some d else none
end
set_option linter.unusedVariables false
set_option linter.unusedSimpArgs false
section
variable {C:ij}(T:fA C)
theorem D.pI:∀{ds:D C} {i:Nat} {x:D C},ds.hQ=true->ds.nth i=some x->x.dA=false
 |.bI d ds,0,x,h,hq=>by simp[D.nth]at hq;subst hq;simp[D.hQ]at h;exact h.1
 |.bI d ds,i+1,x,h,hq=>by simp[D.hQ]at h;exact D.pI h.2 (by simpa[D.nth]using hq)
def hJ:Value->Nat
 |.slice _ n _=>n
 |_=>0
inductive qV where
 |lp (b:Nat) (rec:Loop)
 |it (bm r:Nat)
def qV.owns:qV->Nat->Prop
 |.lp b _,c=>c=b
 |.it bm r,c=>c=bm\/c=r
inductive Loc where
 |var (b:Nat) (t:TypeId)
 |cj (v:Value) (e:TypeId) (b lo hi:Nat)
 |map (b:Nat)
 |ek (s:qV)
abbrev hU:=Option Loc
def Loc.owns:Loc->Nat->Nat->Prop
 |.var b _,c,_=>c=b
 |.cj _ _ b lo hi,c,o=>c=b/\lo<=o/\o<hi
 |.map b,c,_=>c=b
 |.ek s,c,_=>s.owns c
structure Cx where
 (w:World)(ρ:Nat->hU)(O:Nat->Nat->Prop)
def Cx.dI(X:Cx)(b o:Nat):Prop:=∃id l,X.ρ id=some l/\l.owns b o
def Cx.free(X:Cx)(b o:Nat):Prop:=¬X.O b o/\¬X.dI b o
def Cx.at(X:Cx)(b off:Nat)(cs:bT):Prop :=
 ∀j v,cs[j]? = some v->X.w.cell? ⟨b,off+j,none⟩=some v/\X.free b (off+j)
def Zl:cK->Nat
 |[]=>0
 |t::ts=>T.size t+Zl ts
def er:TypeId->bU->Nat
 |_,[]=>0
 |t,i::p=>match T.ty t with
  |.struct _ fs=>Zl T (fs.take i)+er (fs.getD i 0) p
  |.arr _ e _=>i*T.size e+er e p
  |_=>0
def Zr:TypeId->bU->Prop
 |_,[]=>True
 |t,i::p=>match T.ty t with
  |.struct _ fs=>i<fs.length/\Zr (fs.getD i 0) p
  |.arr n e _=>i<n/\Zr e p
  |_=>False
inductive R(X:Cx):Bool->D C->bT->Prop
 |bool (b:Bool):R X false (.bool b) [.bool b]
 |int {k:IntKind} {n:Int} (h:k.min<=n/\n<=k.max):R X false (.int k n) [.int k n]
 |str (s:bK):R X false (.str s) [.string ⟨⟨s⟩⟩]
 |bN:R X false .bN []
 |bI {d ds:D C} {c1 c2:bT} (h1:R X false d c1) (h2:R X false ds c2):R X false (.bI d ds) (c1++c2)
 |iK (t:C.Ty):R X false (.arr t 0 []) []
 |jz {t:C.Ty} {n:Nat} {x:C.A t} {l:List (C.A t)} {c1 c2:bT} (h1:R X false (T.enc t x) c1) (h2:R X false (.arr t n l) c2):R X false (.arr t (n+1) (x::l)) (c1++c2)
 |eO:R X false .eO [.slice none 0 0]
 |li (t:C.Ty) (cap:Bool) (a:dN):R X false (.sl t cap []) [.slice a 0 0]
 |sl {t:C.Ty} {cap:Bool} {l:List (C.A t)} {b off cp:Nat} {cs:bT} (ha:X.at b off cs) (h:R X false (.arr t l.length l) cs) (hc:l.length<=cp)
  (kZ:cap=true->cp=l.length):R X false (.sl t cap l) [.slice (some ⟨b,off,none⟩) l.length cp]
 |vs {id n cp:Nat} {a:dN} (h:∀v e b lo hi,X.ρ id=some (.cj v e b lo hi)->n<=hJ v/\(hJ v=n->v=.slice a n cp)):R X false (.vs id n) [.slice a n cp]
 |ptr {id:Nat} {p:bU} {a:Addr} (h:∀b t,X.ρ id=some (.var b t)->Zr T t p/\a=⟨b,er T t p,none⟩):R X false (.ptr id p) [.pointer (some a)]
 |fx {id n i:Nat} {p:bU} {a:Addr} (h:∀v e b lo hi,X.ρ id=some (.cj v e b lo hi)->n<=hJ v /\
  (hJ v=n->∃b' off cp,v=.slice (some ⟨b',off,none⟩) n cp/\i<n/\Zr T e p/\a=⟨b',off+i*T.size e+er T e p,none⟩)):R X false (.fx id n (i::p)) [.pointer (some a)]
 |dS {d:D C} {b off:Nat} {cs:bT} (ha:X.at b off cs) (h:R X false d cs):R X false (.dS d) [.pointer (some ⟨b,off,none⟩)]
 |fw:R X false .fw [.pointer none]
 |fn {f:Nat} {fC:D C} {vs:bT} (h:R X true fC vs):R X false (.fn f fC) [.func (.func f) #[] ⟨vs⟩]
 |cD:R X false .cD [.nilFunc]
 |gz:R X false .gz [.map none]
 |bm {f:Nat} {d:D C} {v:Value} (h:R X false d [v]) (hr:d.dA=false):R X false (.bm f d) [.func (.func f) #[v] #[]]
 |yl {nt l id:Nat} {dW ps:bU} {jC body:Code} {fC:D C} {rec:Loop} (hw:∀s,X.ρ id=some (.ek s)->s=.lp l rec) (hs:rec.params.toList=ps/\rec.assign=jC/\rec.body=body/\nt<=rec.tmps.size)
  (h:R X true fC (dW.map fun t=>rec.tmps.getD t undef)):R X false (.yl nt dW ps jC body fC id) [.func (.yield l) #[] #[]]
 |fY {n b off cp:Nat} {cap:Bool} {ds:D C} {cs:bT} (ha:X.at b off cs) (h:R X true ds cs) (hn:n<=cs.length) (h1:ds.hQ=true) (hc:n<=cp/\(cap=true->cp=n/\cs.length=n)):R X false (.fY n cap ds) [.slice (some ⟨b,off,none⟩) n cp]
 |ku {id r:Nat} (h:∀s,X.ρ id=some (.ek s)->∃bm,s=.it bm r):R X false (.ku id) [.pointer (some ⟨r,0,none⟩)]
 |mp {id b:Nat} (h:∀b',X.ρ id=some (.map b')->b'=b):R X false (.mp id) [.map (some b)]
 |jR {ta id lo n cp:Nat} {p:bU} {ao:dN} (h:∀b t,X.ρ id=some (.var b t)->∃m e ty,T.ty ta=.arr m e ty/\gG T t p=some ta/\Zr T t p/\lo+n<=m/\ao=some ⟨b,er T t p+lo*T.size (T.dG ty),none⟩)
  (hs:0<n->∃b0 o0,ao=some ⟨b0,o0,none⟩) (hv:∀v e b l' hi,X.ρ id=some (.cj v e b l' hi)->p.getD 0 0<=hJ v/\(hJ v=p.getD 0 0->∃a0 xT,v=.slice a0 (p.getD 0 0) xT/\n=p.getD 0 0-lo/\cp=xT-lo /\
   ao=(if xT=lo then a0 else a0.map (·.add (lo*T.size e))))):R X false (.jR ta id p lo n) [.slice ao n cp]
 |cH {ds:D C} {vs:bT} (h:R X true ds vs):R X false (.cH ds) [.tuple ⟨vs⟩]
 |top (v:Value):R X false .top [v]
 |iV:R X true .bN []
 |jU {d ds:D C} {cs vs:bT} (h:R X false d cs) (hr:d.dA=true) (h2:R X true ds vs):R X true (.bI d ds) (.agg ⟨cs⟩::vs)
 |ju {d ds:D C} {v:Value} {vs:bT} (h:R X false d [v]) (hr:d.dA=false) (h2:R X true ds vs):R X true (.bI d ds) (v::vs)
def RV(X:Cx)(d:D C)(v:Value):Prop :=
 (d.dA=true/\∃cs,R T X false d cs/\v=.agg ⟨cs⟩)\/(d.dA=false/\R T X false d [v])
def Qo:hU->hU->Prop
 |_,none=>True
 |some (.var b t),some l=>l=.var b t
 |some (.map b),some l=>l=.map b
 |some (.ek s),some l=>l=.ek s
 |some (.cj v e _ _ _),some (.cj v' e' _ _ _)=>e'=e/\hJ v<=hJ v'/\(hJ v=hJ v'->v'=v)
 |_,_=>False
theorem Qo.refl(l:hU):Qo l l:=by
 cases l with
 |none=>trivial
 |some l=>cases l<;>simp[Qo]
theorem Qo.trans{a b c:hU}(h:Qo a b)(k:Qo b c):Qo a c:=by
 cases c with
 |none=>simp[Qo]
 |some c=>
  cases b with
  |none=>simp[Qo]at k
  |some b=>
   cases a with
   |none=>simp[Qo]at h
   |some a=>
    cases a<;>cases b<;>cases c<;>simp_all[Qo]
    obtain⟨_,h1,h2⟩:=h;obtain⟨_,k1,k2⟩:=k;refine⟨by omega,fun e=>?_⟩;have e1:=h2 (by omega);have e2:=k2 (by omega);rw[e2,e1]
structure tR(X X':Cx):Prop where
 cell:∀b o v,X.w.cell? ⟨b,o,none⟩=some v->X.free b o->X'.w.cell? ⟨b,o,none⟩=some v/\X'.free b o
theorem R.qS{X X':Cx}{y:Bool}(he:∀t x,(T.enc t x).refs=[]/\(T.enc t x).eu=true)(hX:∀b o v,X.w.cell? ⟨b,o,none⟩=some v->X.free b o->X'.w.cell? ⟨b,o,none⟩=some v/\X'.free b o)
 (hL:y=true->True)
 {m:Bool} {d:D C} {vs:bT} (h:R T X m d vs):(∀id∈d.refs,Qo (X.ρ id) (X'.ρ id))->(y=true\/d.eu=true)->R T X' m d vs:=by
 induction h with
 |bool b=>exact fun _ _=>.bool b
 |int h=>exact fun _ _=>.int h
 |str s=>exact fun _ _=>.str s
 |bN=>exact fun _ _=>.bN
 |bI _ _ i1 i2=>
  intro hr hy;simp only[D.refs,aT]at hr;exact .bI (i1 (fun id h=>hr id (.inl h)) (hy.imp id fun h=>by simp only[D.eu,ai]at h;exact h.1)) (i2 (fun id h=>hr id (.inr h)) (hy.imp id fun h=>by simp only[D.eu,ai]at h;exact h.2))
 |iK t=>exact fun _ _=>.iK t
 |jz _ _ i1 i2=>exact fun _ _=>.jz (i1 (by simp[he]) (.inr (he _ _).2)) (i2 (by simp[D.refs]) (.inr rfl))
 |eO=>exact fun _ _=>.eO
 |li t c a=>exact fun _ _=>.li t c a
 |sl ha _ hc kZ ih=>exact fun _ _=>.sl (fun j v hj=>hX _ _ _ (ha j v hj).1 (ha j v hj).2) (ih (by simp[D.refs]) (.inr rfl)) hc kZ
 | @vs id n cp a h=>
  intro hr hy;refine .vs fun v e b lo hi hv=>?_;have hc:=hr id (by simp[D.refs]);rw[hv]at hc;cases ho:X.ρ id with
  |none=>rw[ho]at hc;simp[Qo]at hc
  |some l=>
   rw[ho]at hc;cases l with
   |var b t=>simp[Qo]at hc
   |map b0=>simp[Qo]at hc
   |ek _=>simp[Qo]at hc
   |cj v0 e0 b0 rD rq=>
    simp only[Qo]at hc;have:=h _ _ _ _ _ ho;refine⟨by omega,fun hl=>?_⟩;have e1:=hc.2.2 (by omega);rw[e1];exact this.2 (by omega)
 | @ptr id p a h=>
  intro hr hy;refine .ptr fun b t hv=>?_;have hc:=hr id (by simp[D.refs]);rw[hv]at hc;cases ho:X.ρ id with
  |none=>rw[ho]at hc;simp[Qo]at hc
  |some l=>
   rw[ho]at hc;cases l with
   |var b0 t0=>
    simp only[Qo,Loc.var.injEq]at hc;obtain⟨rfl,rfl⟩:=hc;exact h _ _ ho
   |cj v0 e0 b0 rD rq=>simp[Qo]at hc
   |map b0=>simp[Qo]at hc
   |ek _=>simp[Qo]at hc
 | @jR ta id lo n cp p ao h hs hw=>
  intro hr hy;refine .jR (fun b t hv=>?_) hs (fun v e b lo hi hv=>?_)
  ·have hc:=hr id (by simp[D.refs]);rw[hv]at hc;cases ho:X.ρ id with
   |none=>rw[ho]at hc;simp[Qo]at hc
   |some l=>
    rw[ho]at hc;cases l with
    |var b0 t0=>
     simp only[Qo,Loc.var.injEq]at hc;obtain⟨rfl,rfl⟩:=hc;exact h _ _ ho
    |cj v0 e0 b0 rD rq=>simp[Qo]at hc
    |map b0=>simp[Qo]at hc
    |ek _=>simp[Qo]at hc
  ·have hc:=hr id (by simp[D.refs]);rw[hv]at hc;cases ho:X.ρ id with
   |none=>rw[ho]at hc;simp[Qo]at hc
   |some l=>
    rw[ho]at hc;cases l with
    |var b t=>simp[Qo]at hc
    |map b0=>simp[Qo]at hc
    |ek _=>simp[Qo]at hc
    |cj v0 e0 b0 rD rq=>
     simp only[Qo]at hc;have:=hw _ _ _ _ _ ho;refine⟨by omega,fun hl=>?_⟩;have e1:=hc.2.2 (by omega);rw[e1,hc.1];exact this.2 (by omega)
 | @fx id n i p a h=>
  intro hr hy;refine .fx fun v e b lo hi hv=>?_;have hc:=hr id (by simp[D.refs]);rw[hv]at hc;cases ho:X.ρ id with
  |none=>rw[ho]at hc;simp[Qo]at hc
  |some l=>
   rw[ho]at hc;cases l with
   |var b t=>simp[Qo]at hc
   |map b0=>simp[Qo]at hc
   |ek _=>simp[Qo]at hc
   |cj v0 e0 b0 rD rq=>
    simp only[Qo]at hc;have:=h _ _ _ _ _ ho;refine⟨by omega,fun hl=>?_⟩;have e1:=hc.2.2 (by omega);rw[e1,hc.1];exact this.2 (by omega)
 |dS ha _ ih=>
  intro hr hy;exact .dS (fun j v hj=>hX _ _ _ (ha j v hj).1 (ha j v hj).2) (ih (by simpa[D.refs]using hr) hy)
 |fw=>exact fun _ _=>.fw
 |fY ha _ hn h1 hc ih=>
  intro hr hy;exact .fY (fun j v hj=>hX _ _ _ (ha j v hj).1 (ha j v hj).2) (ih (by simpa[D.refs]using hr) hy) hn h1 hc
 | @ku id r h=>
  intro hr hy;refine .ku fun s hv=>?_;have hc:=hr id (by simp[D.refs]);rw[hv]at hc;cases ho:X.ρ id with
  |none=>rw[ho]at hc;simp[Qo]at hc
  |some l=>
   rw[ho]at hc;cases l with
   |ek s0=>
    simp only[Qo,Loc.ek.injEq]at hc;obtain rfl:=hc;exact h _ ho
   |_=>simp[Qo]at hc
 | @mp id b h=>
  intro hr hy;refine .mp fun b' hv=>?_;have hc:=hr id (by simp[D.refs]);rw[hv]at hc;cases ho:X.ρ id with
  |none=>rw[ho]at hc;simp[Qo]at hc
  |some l=>
   rw[ho]at hc;cases l with
   |map b0=>
    simp only[Qo,Loc.map.injEq]at hc;obtain rfl:=hc;exact h _ ho
   |_=>simp[Qo]at hc
 |fn _ ih=>exact fun hr hy=>.fn (ih (by simpa[D.refs]using hr) hy)
 |cD=>exact fun _ _=>.cD
 |gz=>exact fun _ _=>.gz
 |bm _ fU ih=>exact fun hr hy=>.bm (ih (by simpa[D.refs]using hr) hy) fU
 | @yl nt l id dW ps jC body fC rec hw hs _ ih=>
  intro hr hy;rcases hy with hy|hy
  ·refine .yl (fun s hv=>?_) hs (ih (fun i hi=>hr i (by simp[D.refs,hi])) (.inl hy));have hc:=hr id (by simp[D.refs]);rw[hv]at hc;cases ho:X.ρ id with
   |none=>rw[ho]at hc;simp[Qo]at hc
   |some l=>
    rw[ho]at hc;cases l with
    |ek s0=>
     simp only[Qo,Loc.ek.injEq]at hc;obtain rfl:=hc;exact hw _ ho
    |_=>simp[Qo]at hc
  ·cases hy
 |cH _ ih=>exact fun hr hy=>.cH (ih (by simpa[D.refs]using hr) hy)
 |top v=>exact fun _ _=>.top v
 |iV=>exact fun _ _=>.iV
 |jU _ fT _ i1 i2=>
  intro hr hy;simp only[D.refs,aT]at hr;exact .jU (i1 (fun id h=>hr id (.inl h)) (hy.imp id fun h=>by simp only[D.eu,ai]at h;exact h.1)) fT (i2 (fun id h=>hr id (.inr h)) (hy.imp id fun h=>by simp only[D.eu,ai]at h;exact h.2))
 |ju _ fT _ i1 i2=>
  intro hr hy;simp only[D.refs,aT]at hr;exact .ju (i1 (fun id h=>hr id (.inl h)) (hy.imp id fun h=>by simp only[D.eu,ai]at h;exact h.1)) fT (i2 (fun id h=>hr id (.inr h)) (hy.imp id fun h=>by simp only[D.eu,ai]at h;exact h.2))
theorem R.mono{X X':Cx}(he:∀t x,(T.enc t x).refs=[]/\(T.enc t x).eu=true)(hX:tR X X')
 {m:Bool} {d:D C} {vs:bT} (h:R T X m d vs) (hr:∀id∈d.refs,Qo (X.ρ id) (X'.ρ id)):R T X' m d vs :=
 h.qS T (y:=true) he hX.cell (fun _=>trivial) hr (.inl rfl)
theorem RV.mono{X X':Cx}(he:∀t x,(T.enc t x).refs=[]/\(T.enc t x).eu=true)(hX:tR X X')
 {d:D C} {v:Value} (h:RV T X d v) (hr:∀id∈d.refs,Qo (X.ρ id) (X'.ρ id)):RV T X' d v:=by
 rcases h with⟨h1,cs,h2,h3⟩|⟨h1,h2⟩
 ·exact .inl ⟨h1,cs,h2.mono T he hX hr,h3⟩
 ·exact .inr ⟨h1,h2.mono T he hX hr⟩
theorem RV.top(X:Cx)(v:Value):RV T X .top v:=.inr ⟨rfl,.top v⟩
theorem R.nth{X:Cx}{m:Bool}{d:D C}{vs:bT}(h:R T X m d vs):m=true->∀i x,d.nth i=some x->∃v,vs[i]? = some v/\RV T X x v:=by
 induction h with
 |iV=>intro _ i x h;simp[D.nth]at h
 |jU h hr _ _ ih=>
  intro _ i x hx;cases i with
  |zero=>simp[D.nth]at hx;subst hx;exact⟨_,rfl,.inl ⟨hr,_,h,rfl⟩⟩
  |succ i=>simpa using ih rfl i x (by simpa[D.nth]using hx)
 |ju h hr _ _ ih=>
  intro _ i x hx;cases i with
  |zero=>simp[D.nth]at hx;subst hx;exact⟨_,rfl,.inr ⟨hr,h⟩⟩
  |succ i=>simpa using ih rfl i x (by simpa[D.nth]using hx)
 |_=>intro hm;simp at hm
inductive iu(X:Cx):List (D C)->bT->Prop
 |nil:iu X [] []
 |cons {d:D C} {ds:List (D C)} {v:Value} {vs:bT} (h:RV T X d v) (r:iu X ds vs):iu X (d::ds) (v::vs)
theorem iu.row{X:Cx}{ds:List (D C)}{vs:bT}(h:iu T X ds vs):R T X true (D.ofList ds) vs:=by
 induction h with
 |nil=>exact .iV
 |cons h _ ih=>
  rcases h with⟨h1,cs,h2,rfl⟩|⟨h1,h2⟩
  ·exact .jU h2 h1 ih
  ·exact .ju h2 h1 ih
theorem R.toList{X:Cx}{m:Bool}{d:D C}{vs:bT}(h:R T X m d vs):m=true->iu T X d.toList vs:=by
 induction h with
 |iV=>exact fun _=>.nil
 |jU h hr _ _ ih=>exact fun _=>.cons (.inl ⟨hr,_,h,rfl⟩) (ih rfl)
 |ju h hr _ _ ih=>exact fun _=>.cons (.inr ⟨hr,h⟩) (ih rfl)
 |_=>intro hm;simp at hm
theorem iu.append{X:Cx}{ds es:List (D C)}{vs us:bT}(h:iu T X ds vs)(k:iu T X es us):iu T X (ds++es) (vs++us):=by
 induction h with
 |nil=>exact k
 |cons h _ ih=>exact .cons h ih
theorem iu.length{X:Cx}{ds:List (D C)}{vs:bT}(h:iu T X ds vs):ds.length=vs.length:=by
 induction h with
 |nil=>rfl
 |cons _ _ ih=>simp[ih]
end
section
variable {C:ij}
structure Laws(T:fA C):Prop where
 fI:∀t x,(T.enc t x).refs=[]
 gh:∀t x,cZ T (T.enc t x) (.inl (T.dG t))=true
 mH:∀X t d x cs,T.dec t d=some x->R T X false d cs->R T X false (T.enc t x) cs
 um:∀t f l,T.um t=some f->bytesOf T l=some (f l)
 kD:∀t g l,T.kD t=some g->(g l).map (T.enc t)=l.map fun b=>.int .u8 (b.toNat:Int)
 jN:∀u a fs,T.ty u=.struct a fs->T.size u=Zl T fs
 lj:∀u n e t,T.ty u=.arr n e t->T.size u=n*T.size e/\T.ty e=T.ty (T.dG t)/\T.size e=T.size (T.dG t)
 mP:∀u e t,T.ty u=.sl e t->T.size u=1/\T.ty e=T.ty (T.dG t)/\T.size e=T.size (T.dG t)
 zg:∀u,T.ty u=.bool->T.size u=1
 tN:∀u k,T.ty u=.int k->T.size u=1
 FP:∀u,T.ty u=.str->T.size u=1
 FO:∀u e,T.ty u=.ptr e->T.size u=1
 Rl:∀u,T.ty u=.fn->T.size u=1
 FM:∀u e,T.ty u=.fY e->T.size u=1
 FN:∀u k v ck cv,T.ty u=.map k v ck cv->T.size u=1
 pos:∀u,(∀h:T.ty u=.none,False)->0<T.size u
variable {T:fA C}(L:Laws T)
theorem Ji:∀(d:D C) (u:TypeId ⊕ cK),cZ T d u=true->d.eu=true
 |.bI d ds,.inl t,h=>by
  simp only[cZ]at h
  split at h
  ·simp only[ai]at h;simp only[D.eu,Ji d _ h.1,Ji ds _ h.2,au]
  ·cases h
 |.bI d ds,.inr [],h=>by simp[cZ]at h
 |.bI d ds,.inr (a::fs),h=>by
  simp only[cZ,ai]at h;simp only[D.eu,Ji d _ h.1,Ji ds _ h.2,au]
 |.cH _,.inl _,h=>by simp[cZ]at h
 |.cH _,.inr _,h=>by simp[cZ]at h
 |.yl _ _ _ _ _ _ _,.inl _,h=>by simp[cZ]at h
 |.yl _ _ _ _ _ _ _,.inr _,h=>by simp[cZ]at h
 |.ku _,_,_=>rfl
 |.fn _ _,.inr _,h=>by simp[cZ]at h
 |.dS _,.inr _,h=>by simp[cZ]at h
 |.fY _ _ _,.inr _,h=>by simp[cZ]at h
 |.bm _ _,.inr _,h=>by simp[cZ]at h
 |.bm _ d,.inl _,h=>by
  simp only[cZ]at h
  split at h
  ·exact h
  ·cases h
 |.fn _ d,.inl _,h=>by
  simp only[cZ]at h
  split at h
  ·exact h
  ·cases h
 |.dS d,.inl _,h=>by
  simp only[cZ]at h
  split at h
  ·exact h
  ·cases h
 |.fY _ _ d,.inl _,h=>by
  simp only[cZ]at h
  split at h
  ·exact h
  ·cases h
 |.mp _,_,_=>rfl
 |.vs _ _,_,_=>rfl
 |.ptr _ _,_,_=>rfl
 |.jR _ _ _ _ _,_,_=>rfl
 |.fx _ _ _,_,_=>rfl
 |.bool _,_,_=>rfl
 |.int _ _,_,_=>rfl
 |.str _,_,_=>rfl
 |.bN,_,_=>rfl
 |.arr _ _ _,_,_=>rfl
 |.eO,_,_=>rfl
 |.sl _ _ _,_,_=>rfl
 |.fw,_,_=>rfl
 |.cD,_,_=>rfl
 |.gz,_,_=>rfl
 |.top,_,_=>rfl
theorem Laws.iv(L:Laws T)(t:C.Ty)(x:C.A t):(T.enc t x).refs=[]/\(T.enc t x).eu=true:=⟨L.fI t x,Ji _ _ (L.gh t x)⟩
theorem YG{d:D C}{e e':TypeId}(h:T.ty e=T.ty e'):cZ T d (.inl e)=cZ T d (.inl e'):=by
 cases d<;>simp[cZ,h]
include L
theorem R.xc{X:Cx}{m:Bool}{d:D C}{cs:bT}(h:R T X m d cs):m=false ->
 (∀t,cZ T d (.inl t)=true->cs.length=T.size t)/\(∀fs,cZ T d (.inr fs)=true->cs.length=Zl T fs) /\
 (∀t n l,d=.arr t n l->cs.length=n*T.size (T.dG t)/\l.length=n):=by
 have e1:∀(d:D C) (u:TypeId) (v:Value),d.dA=false->cZ T d (.inl u)=true->[v].length=T.size u:=by
  intro d u v hr hf;simp only[List.length_singleton];cases hd:T.ty u<;>cases d<;>simp_all[cZ,D.dA]
  all_goals first|exact(L.zg _ hd).symm|exact(L.tN _ _ hd).symm|exact(L.FP _ hd).symm|exact(L.mP _ _ _ hd).1.symm|exact(L.FO _ _ hd).symm|exact(L.Rl _ hd).symm|exact(L.FM _ _ hd).symm|exact(L.FN _ _ _ _ _ hd).symm
 have e2:∀(d:D C) (fs:cK) (P:Prop),d.dA=false->cZ T d (.inr fs)=true->P:=by
  intro d fs P hr hf;cases d<;>simp_all[cZ,D.dA]
 have e3:∀(d:D C) (P:Prop),d.dA=false->∀t n l,d=.arr t n l->P:=by
  intro d P hr t n l hd;subst hd;simp[D.dA]at hr
 induction h with
 |bN=>
  refine fun _=>⟨fun t hf=>?_,fun fs hf=>?_,fun t n l hd=>by simp at hd⟩
  ·cases hd:T.ty t<;>simp[cZ,hd]at hf
   rename_i fs;cases fs with
   |nil=>simp[L.jN _ _ _ hd,Zl]
   |cons=>simp at hf
  ·cases fs with
   |nil=>rfl
   |cons=>simp[cZ]at hf
 | @bI d ds c1 c2 _ _ i1 i2=>
  intro hm;have i1:=i1 hm;have i2:=i2 hm
  have key:∀f fs,(cZ T d (.inl f)&&cZ T ds (.inr fs))=true->(c1++c2).length=Zl T (f::fs):=by
   intro f fs hf;simp only[ai]at hf;simp[Zl,i1.1 f hf.1,i2.2.1 fs hf.2]
  refine⟨fun t hf=>?_,fun fs hf=>?_,fun t n l hd=>by simp at hd⟩
  ·cases hd:T.ty t<;>simp only[cZ,hd,bu]at hf
   rename_i fs;cases fs with
   |nil=>simp at hf
   |cons f fs=>rw[L.jN _ _ _ hd];exact key f fs hf
  ·cases fs with
   |nil=>simp[cZ]at hf
   |cons f fs=>exact key f fs hf
 |iK t=>
  refine fun _=>⟨fun u hf=>?_,fun fs hf=>by simp[cZ]at hf,fun t n l hd=>by simp at hd;obtain⟨rfl,rfl,hd⟩:=hd;subst hd;simp⟩;cases hd:T.ty u<;>simp[cZ,hd]at hf
  obtain⟨rfl,rfl⟩:=hf;simp[(L.lj _ _ _ _ hd).1]
 | @jz t n x l c1 c2 _ _ i1 i2=>
  intro hm;have h1:=(i1 hm).1 (T.dG t) (L.gh t x);have h2:=(i2 hm).2.2 t n l rfl;refine⟨fun u hf=>?_,fun fs hf=>by simp[cZ]at hf,fun t' n' l' hd=>?_⟩
  ·cases hd:T.ty u<;>simp[cZ,hd]at hf
   obtain⟨hn,rfl⟩:=hf;have:=L.lj _ _ _ _ hd;rw[this.1,this.2.2,hn,aC,h1,h2.1,Nat.add_mul];omega
  ·simp at hd;obtain⟨rfl,rfl,hd⟩:=hd;simp at hd;subst hd;simp[h1,h2.1,h2.2,Nat.add_mul];omega
 |bool|int|str|eO|li|sl|vs|jR|ptr|fx|dS|fw|fn|cD|gz|bm|yl|fY|mp|ku|cH|top=>
  exact fun _=>⟨fun u hf=>e1 _ u _ rfl hf,fun fs hf=>e2 _ fs _ rfl hf,fun t n l hd=>e3 _ _ rfl t n l hd⟩
 |iV|jU|ju=>intro hm;simp at hm
theorem R.len{X:Cx}{d:D C}{cs:bT}(h:R T X false d cs){t:TypeId}(hf:cZ T d (.inl t)=true):cs.length=T.size t:=(h.xc L rfl).1 t hf
theorem R.gE{X:Cx}{t:C.Ty}{n:Nat}{l:List (C.A t)}{cs:bT}(h:R T X false (.arr t n l) cs):cs.length=n*T.size (T.dG t)/\l.length=n:=(h.xc L rfl).2.2 t n l rfl
theorem R.part{X:Cx}{d:D C}:∀{fs:cK} {i:Nat} {x:D C} {cs:bT},cZ T d (.inr fs)=true->R T X false d cs->d.nth i=some x ->
 ∃c1 c2 c3,cs=c1++c2++c3/\c1.length=Zl T (fs.take i)/\R T X false x c2/\i<fs.length/\cZ T x (.inl (fs.getD i 0))=true:=by
 induction d with
 |bI d ds _ ih=>
  intro fs i x cs hf h hx;cases fs with
  |nil=>simp[cZ]at hf
  |cons f fs=>
   simp only[cZ,ai]at hf;cases h with
   | @bI _ _ c1 c2 h1 h2=>
    cases i with
    |zero=>
     simp[D.nth]at hx;subst hx;exact⟨[],c1,c2,by simp,by simp[Zl],h1,by simp,hf.1⟩
    |succ i=>
     obtain⟨a,b,c,hc,hl,hr,hi,mT⟩:=ih hf.2 h2 (by simpa[D.nth]using hx);exact⟨c1++a,b,c,by simp[hc],by simp[Zl,hl,h1.len L hf.1],hr,by simpa using hi,by simpa using mT⟩
 |_=>intro fs i x cs _ _ hx;simp[D.nth]at hx
theorem R.od{X:Cx}{d:D C}{t:TypeId}{fs:cK}{a:Bool}(ht:T.ty t=.struct a fs){i:Nat}{x:D C}{cs:bT}(hf:cZ T d (.inl t)=true)(h:R T X false d cs)(hx:d.nth i=some x) :
 ∃c1 c2 c3,cs=c1++c2++c3/\c1.length=Zl T (fs.take i)/\R T X false x c2/\i<fs.length/\cZ T x (.inl (fs.getD i 0))=true:=by
 refine h.part L (fs:=fs) ?_ hx;cases d with
 |bI a b=>
  cases fs with
  |nil=>simp[cZ,ht]at hf
  |cons f fs=>simpa[cZ,ht]using hf
 |_=>simp[D.nth]at hx
theorem R.qU{X:Cx}{d:D C}:∀{fs:cK} {i:Nat} {x d':D C} {cs cx:bT},cZ T d (.inr fs)=true->R T X false d cs->d.gS i x=some d' ->
 R T X false x cx->cZ T x (.inl (fs.getD i 0))=true ->
 ∃c1 c2 c3,cs=c1++c2++c3/\c1.length=Zl T (fs.take i)/\c2.length=cx.length/\i<fs.length/\R T X false d' (c1++cx++c3)/\cZ T d' (.inr fs)=true:=by
 induction d with
 |bI d ds _ ih=>
  intro fs i x d' cs cx hf h hx PV CM;cases fs with
  |nil=>simp[cZ]at hf
  |cons f fs=>
   simp only[cZ,ai]at hf;cases h with
   | @bI _ _ c1 c2 h1 h2=>
    cases i with
    |zero=>
     simp[D.gS]at hx;subst hx;simp at CM;refine⟨[],c1,c2,by simp,by simp[Zl],by rw[h1.len L hf.1,PV.len L CM],by simp,by simpa using R.bI PV h2,?_⟩;simp[cZ,CM,hf.2]
    |succ i=>
     simp only[D.gS,Option.map_eq_some_iff]at hx;obtain⟨y,hy,rfl⟩:=hx;obtain⟨a,b,c,hc,hl,dc,hi,hr,mT⟩:=ih hf.2 h2 hy PV (by simpa using CM);refine⟨c1++a,b,c,by simp[hc],by simp[Zl,hl,h1.len L hf.1],dc,by simpa using hi,by simpa using R.bI h1 hr,?_⟩;simp[cZ,hf.1,mT]
 |_=>intro fs i x d' cs cx _ _ hx;simp[D.gS]at hx
omit L in
theorem Dx{d:D C}{t:TypeId}{fs:cK}{a:Bool}(ht:T.ty t=.struct a fs)(hr:∃a b,d=.bI a b):cZ T d (.inl t)=cZ T d (.inr fs):=by
 obtain⟨a,b,rfl⟩:=hr;cases fs with
 |nil=>simp[cZ,ht]
 |cons f fs=>simp[cZ,ht]
omit L in
theorem Tv{d x d':D C}{i:Nat}(h:d.gS i x=some d'):(∃a b,d=.bI a b)/\∃a b,d'=.bI a b:=by
 cases d with
 |bI a b=>
  cases i with
  |zero=>simp[D.gS]at h;subst h;exact⟨⟨_,_,rfl⟩,⟨_,_,rfl⟩⟩
  |succ i=>simp[D.gS]at h;obtain⟨y,_,rfl⟩:=h;exact⟨⟨_,_,rfl⟩,⟨_,_,rfl⟩⟩
 |_=>simp[D.gS]at h
theorem R.elem{X:Cx}{t:C.Ty}:∀{n:Nat} {l:List (C.A t)} {cs:bT} (i:Nat),R T X false (.arr t n l) cs->i<n ->
 ∃c1 c2 c3,cs=c1++c2++c3/\c1.length=i*T.size (T.dG t)/\R T X false (T.enc t (l.getD i (T.fh t))) c2:=by
 intro n l
 induction l generalizing n with
 |nil=>
  intro cs i h hi;cases h with
  |iK=>omega
 |cons x l ih=>
  intro cs i h hi;cases h with
  | @jz _ n _ _ c1 c2 h1 h2=>
   cases i with
   |zero=>exact⟨[],c1,c2,by simp,by simp,by simpa using h1⟩
   |succ i=>
    obtain⟨a,b,c,hc,hl,hr⟩:=ih i h2 (by omega);refine⟨c1++a,b,c,by simp[hc],?_,by simpa using hr⟩;have:=h1.len L (L.gh t x);simp[hl,this,Nat.add_mul];omega
theorem R.oN{X:Cx}{t:C.Ty}:∀{n:Nat} {l:List (C.A t)} {cs:bT} (i:Nat) (z:C.A t) {cz:bT},R T X false (.arr t n l) cs->i<n->R T X false (T.enc t z) cz ->
 ∃c1 c2 c3,cs=c1++c2++c3/\c1.length=i*T.size (T.dG t)/\c2.length=cz.length/\R T X false (.arr t n (l.set i z)) (c1++cz++c3):=by
 intro n l
 induction l generalizing n with
 |nil=>
  intro cs i z cz h hi;cases h with
  |iK=>omega
 |cons x l ih=>
  intro cs i z cz h hi hz;cases h with
  | @jz _ n _ _ c1 c2 h1 h2=>
   have e1:=h1.len L (L.gh t x);have e2:=hz.len L (L.gh t z);cases i with
   |zero=>exact⟨[],c1,c2,by simp,by simp,by omega,by simpa using R.jz hz h2⟩
   |succ i=>
    obtain⟨a,b,c,hc,hl,dc,hr⟩:=ih i z h2 (by omega) hz;refine⟨c1++a,b,c,by simp[hc],?_,dc,by simpa using R.jz h1 hr⟩;simp[hl,e1,Nat.add_mul];omega
omit L in
theorem R.jB{X:Cx}{t:C.Ty}:∀{n m:Nat} {l k:List (C.A t)} {cs ds:bT},R T X false (.arr t n l) cs->R T X false (.arr t m k) ds->R T X false (.arr t (n+m) (l++k)) (cs++ds):=by
 intro n m l
 induction l generalizing n with
 |nil=>intro k cs ds h g;cases h with|iK=>simpa using g
 |cons x l ih=>
  intro k cs ds h g;cases h with
  | @jz _ n _ _ c1 c2 h1 h2=>
   have:=R.jz h1 (ih h2 g);rw[show n+1+m=n+m+1 by omega]
   simpa using this
theorem R.jF{X:Cx}{t:C.Ty}:∀{n:Nat} {l:List (C.A t)} {cs:bT} (i:Nat),R T X false (.arr t n l) cs->i<=n ->
 ∃c1 c2,cs=c1++c2/\c1.length=i*T.size (T.dG t)/\R T X false (.arr t i (l.take i)) c1/\R T X false (.arr t (n-i) (l.drop i)) c2:=by
 intro n l
 induction l generalizing n with
 |nil=>
  intro cs i h hi;cases h with
  |iK=>
   obtain rfl:i=0:=by omega
   exact⟨[],[],rfl,by simp,.iK t,.iK t⟩
 |cons x l ih=>
  intro cs i h hi;cases h with
  | @jz _ n _ _ c1 c2 h1 h2=>
   cases i with
   |zero=>exact⟨[],c1++c2,rfl,by simp,.iK t,by simpa using R.jz h1 h2⟩
   |succ i=>
    obtain⟨a,b,hc,hl,hr,fT⟩:=ih i h2 (by omega);refine⟨c1++a,b,by simp[hc],?_,by simpa using R.jz h1 hr,by rw[show n+1-(i+1)=n-i by omega];simpa using fT⟩;have:=h1.len L (L.gh t x);simp[hl,this,Nat.add_mul];omega
theorem R.path{X:Cx}:∀(p:bU) {d x:D C} {t:TypeId} {cs:bT},Zr T t p->cZ T d (.inl t)=true->R T X false d cs->fg T d p=some x ->
 ∃c1 c2 c3,cs=c1++c2++c3/\c1.length=er T t p/\R T X false x c2/\∀t',gG T t p=some t'->cZ T x (.inl t')=true:=by
 intro p
 induction p with
 |nil=>
  intro d x t cs _ hf h hx;simp[fg]at hx;subst hx;exact⟨[],cs,[],by simp,by simp[er],h,fun t' ht=>by simp[gG]at ht;exact ht▸hf⟩
 |cons i p ih=>
  intro d x t cs hp hf h hx;cases d with
  |bI d ds=>
   simp only[fg]at hx;cases hn:(D.bI d ds).nth i with
   |none=>simp[hn]at hx
   |some y=>
    simp only[hn]at hx;cases ht:T.ty t<;>simp[Zr,ht]at hp
    case struct a fs=>
     obtain⟨a,b,c,hc,hl,hr,hi,kw⟩:=h.od L ht hf hn;obtain⟨a',b',c',rT,kR,fT,jf⟩:=ih (by simpa using hp.2) (by simpa using kw) hr hx;refine⟨a++a',b',c'++c,by simp[hc,rT],?_,fT,fun t' h'=>jf t' ?_⟩
     ·simp[er,ht,hl,kR]
     ·simp only[gG,ht]at h';have:fs[i]? = some (fs.getD i 0):=by simp[hi]
      rw[this]at h'
      simpa using h'
    case arr n e ty=>simp[cZ,ht]at hf
  |arr ty n l=>
   simp only[fg]at hx;cases ht:T.ty t<;>simp[Zr,ht]at hp
   case struct a fs=>simp[cZ,ht]at hf
   case arr m e jn=>
    simp only[cZ,ht,ai,Nat.beq_eq,aa]at hf;obtain⟨rfl,rfl⟩:=hf;obtain⟨a,b,c,hc,hl,hr⟩:=h.elem L i hp.1;have hs:=L.lj _ _ _ _ ht;have yn:cZ T (T.enc ty (l.getD i (T.fh ty))) (.inl e)=true:=by rw[YG hs.2.1];exact L.gh _ _
    obtain⟨a',b',c',rT,kR,fT,jf⟩:=ih hp.2 yn hr hx;refine⟨a++a',b',c'++c,by simp[hc,rT],?_,fT,fun t' h'=>jf t' ?_⟩
    ·simp[er,ht,hl,kR,hs.2.2]
    ·simpa[gG,ht]using h'
  |_=>simp[fg]at hx
theorem R.setPath{X:Cx}:∀(p:bU) {d v d':D C} {t t':TypeId} {cs cv:bT},Zr T t p->cZ T d (.inl t)=true->R T X false d cs->setPath T d p v=some d' ->
 R T X false v cv->gG T t p=some t'->cZ T v (.inl t')=true ->
 ∃c1 c2 c3,cs=c1++c2++c3/\c1.length=er T t p/\c2.length=cv.length/\R T X false d' (c1++cv++c3)/\cZ T d' (.inl t)=true:=by
 intro p
 induction p with
 |nil=>
  intro d v d' t t' cs cv _ hf h hx hv ht EW;simp[Ev.setPath]at hx;subst hx;simp[gG]at ht;subst ht;exact⟨[],cs,[],by simp,by simp[er],by rw[h.len L hf,hv.len L EW],by simpa using hv,EW⟩
 |cons i p ih=>
  intro d v d' t t' cs cv hp hf h hx hv Ik EW;cases d with
  |bI d ds=>
   simp only[Ev.setPath]at hx;cases hn:(D.bI d ds).nth i with
   |none=>simp[hn]at hx
   |some y=>
    simp only[hn]at hx;cases hs:Ev.setPath T y p v with
    |none=>simp[hs]at hx
    |some y'=>
     simp only[hs]at hx;cases ht:T.ty t<;>simp[Zr,ht]at hp
     case struct a fs=>
      obtain⟨a,b,c,hc,hl,hr,hi,kw⟩:=h.od L ht hf hn
      have PR:gG T (fs.getD i 0) p=some t':=by
       simp only[gG,ht]at Ik;have:fs[i]? = some (fs.getD i 0):=by simp[hi]
       rw[this]at Ik
       simpa using Ik
      obtain⟨a',b',c',rT,kR,dc,fT,jf⟩:=ih (by simpa using hp.2) (by simpa using kw) hr hs hv PR EW;have CB:cZ T (D.bI d ds) (.inr fs)=true:=by rw[<-Dx ht ⟨_,_,rfl⟩];exact hf
      obtain⟨e1,e2,e3,EF,hle,sQ,_,PG,yn⟩:=h.qU L CB hx fT jf
      have hb:e1=a/\e2=b/\e3=c:=by
       have h1:e1.length=a.length:=by omega
       have h2:e2.length=b.length:=by rw[sQ,rT];simp[dc]
       have:=hc.symm.trans EF;simp only[ay]at this;have q1:=List.append_inj this h1.symm;have q2:=List.append_inj q1.2 h2.symm;exact⟨q1.1.symm,q2.1.symm,q2.2.symm⟩
      obtain⟨rfl,rfl,rfl⟩:=hb;refine⟨e1++a',b',c'++e3,by simp[EF,rT],by simp[er,ht,hle,kR],dc,by simpa using PG,?_⟩;rw[Dx ht (Tv hx).2];exact yn
     case arr n e ty=>simp[cZ,ht]at hf
  |arr ty n l=>
   simp only[Ev.setPath]at hx;cases hs:Ev.setPath T (T.enc ty (l.getD i (T.fh ty))) p v with
   |none=>rw[hs]at hx;simp at hx
   |some y'=>
    simp only[hs]at hx;cases hd:T.dec ty y' with
    |none=>simp[hd]at hx
    |some z=>
     simp[hd]at hx;subst hx;cases ht:T.ty t<;>simp[Zr,ht]at hp
     case struct a fs=>simp[cZ,ht]at hf
     case arr m e jn=>
      have hf0:=hf;simp only[cZ,ht,ai,Nat.beq_eq,aa]at hf;obtain⟨rfl,rfl⟩:=hf;obtain⟨a,b,c,hc,hl,hr⟩:=h.elem L i hp.1;have hz:=L.lj _ _ _ _ ht;have yn:cZ T (T.enc ty (l.getD i (T.fh ty))) (.inl e)=true:=by rw[YG hz.2.1];exact L.gh _ _
      obtain⟨a',b',c',rT,kR,dc,fT,jf⟩:=ih hp.2 yn hr hs hv (by simpa[gG,ht]using Ik) EW;have pQ:=L.mH X ty _ _ _ hd fT;obtain⟨e1,e2,e3,EF,hle,sQ,PG⟩:=h.oN L i z hp.1 pQ
      have hb:e1=a/\e2=b/\e3=c:=by
       have h1:e1.length=a.length:=by omega
       have h2:e2.length=b.length:=by rw[sQ,rT];simp[dc]
       have:=hc.symm.trans EF;simp only[ay]at this;have q1:=List.append_inj this h1.symm;have q2:=List.append_inj q1.2 h2.symm;exact⟨q1.1.symm,q2.1.symm,q2.2.symm⟩
      obtain⟨rfl,rfl,rfl⟩:=hb;refine⟨e1++a',b',c'++e3,by simp[EF,rT],by simp[er,ht,hle,kR,hz.2.2],dc,by simpa using PG,?_⟩;simp[cZ,ht]
  |_=>simp[Ev.setPath]at hx
omit L in
theorem J0{s:TypeId}:∀{p:bU} {t:TypeId},Zr T t p->gG T t p=some s->∀i q,Zr T s (i::q)->Zr T t (p++i::q)/\er T t (p++i::q)=er T t p+er T s (i::q):=by
 intro p
 induction p with
 |nil=>intro t _ h i q hq;simp[gG]at h;subst h;exact⟨by simpa using hq,by simp[er]⟩
 |cons j p ih=>
  intro t hp ht i q hq;simp only[aP];cases jg:T.ty t<;>simp only[Zr,jg]at hp<;>simp only[gG,jg]at ht
  case struct a fs=>
   have hj:fs[j]? = some (fs.getD j 0):=by simp[hp.1]
   rw[hj]at ht;obtain⟨h1,h2⟩:=ih hp.2 ht i q hq;have e1:∀r,er T t (j::r)=Zl T (fs.take j)+er T (fs.getD j 0) r:=fun r=>by simp only[er,jg]
   exact⟨by simp only[Zr,jg];exact⟨hp.1,h1⟩,by rw[e1,e1,h2];omega⟩
  case arr n e ty=>
   obtain⟨h1,h2⟩:=ih hp.2 ht i q hq;have e1:∀r,er T t (j::r)=j*T.size e+er T e r:=fun r=>by simp only[er,jg]
   exact⟨by simp only[Zr,jg];exact⟨hp.1,h1⟩,by rw[e1,e1,h2];omega⟩
end
section
variable {C:ij}
def Obj.refs:Obj C->bU
 |.var _ d=>d.refs
 |.cj _ _ _=>[]
 |.map _ _ _=>[]
 |.ek _=>[]
structure eL where
 lo:Nat
 top:Nat
 H:Nat->Prop
 ok:∀id,lo<=id->id<top->¬H id
def fL(nx:Nat)(lim:eL)(id:Nat):Prop:=(id<nx\/lim.top<=id)/\¬lim.H id
theorem fL.mono{nx cM:Nat}{lim:eL}{id:Nat}(h:fL nx lim id)(hn:nx<=cM):fL cM lim id:=⟨by have:=h.1;omega,h.2⟩
variable (T:fA C)
def Vx(X:Cx)(t:C.Ty)(dM:Bool)(l:List (C.A t))(v:Value)(b lo hi:Nat):Prop :=
 ((∃a,v=.slice a 0 0/\∀b off,a≠some ⟨b,off,none⟩)/\l=[]/\hi<=lo) \/
 ∃off cp,v=.slice (some ⟨b,off,none⟩) l.length cp/\l.length<=cp/\hi=off+cp*T.size (T.dG t) /\
  ((dM=true/\lo=off/\(cp=0\/∃c e,X.w.heap[b]? = some (.cells c e (0,0))/\hi<=c.size/\R T X false (.arr t l.length l) ((c.toList.drop off).take (l.length*T.size (T.dG t))))) \/
   (dM=false/\lo=off+l.length*T.size (T.dG t)/\(∃cs,X.at b off cs/\R T X false (.arr t l.length l) cs) /\
    (cp=l.length\/∃c e,X.w.heap[b]? = some (.cells c e (0,0))/\hi<=c.size)))
inductive Yx(X:Cx)(ck cv:C.Ty):List (C.A ck×C.A cv)->ec->Prop
 |nil:Yx X ck cv [] []
 |cons {x:C.A ck×C.A cv} {l:List (C.A ck×C.A cv)} {e:MapEntry} {es:ec} (hk:R T X false (T.enc ck x.1) [e.key]) (hv:RV T X (T.enc cv x.2) e.val) (h:Yx X ck cv l es):Yx X ck cv (x::l) (e::es)
structure J1(X:Cx)(ck cv:C.Ty)(l:List (C.A ck×C.A cv))(es:eB)(clock:Nat):Prop where
 (rj:Yx T X ck cv l es.toList)(born:∀x∈es.toList,x.born<clock)(nodup:(es.toList.map (·.born)).Nodup)
theorem J1.nil(X:Cx)(ck cv:C.Ty)(k:Nat):J1 T X ck cv [] #[] k:=⟨.nil,fun x hx=>by simp at hx,List.nodup_nil⟩
def oI(busy dn:Bool):LoopState:=if busy then .busy else if dn then .done else .ready
def uG(X:Cx):rN C->qV->Prop
 |.lp busy dn ex,.lp b rec=>∃pend,X.w.heap[b]? = some (.loop { rec with state:=oI busy dn,pending:=pend })/\(dn=false->pend=none)/\(dn=true->pend=some (.exit ex))
 |.it ck cv l,.it bm r=>bm≠r/\∃es since seen clock,X.w.heap[bm]? = some (.map es clock)/\X.w.heap[r]? = some (.mapIter (some bm) since seen clock)/\Yx T X ck cv l (es.toList.filter fun e=>!seen.contains e.born) /\
  (∀x∈es.toList,x.born<since)/\since<=clock/\(es.toList.map (·.born)).Nodup
 |_,_=>False
def HQ(X:Cx):Prop:=∀p∈T.pre,(∃t f,X.w.heap[p.1]? = some (.cells p.2 t f))/\∀o,¬X.dI p.1 o
structure G(X:Cx)(h:Heap C)(nx:Nat)(lim:eL):Prop where
 var:∀id t d,h.get id=some (.var t d)->∃b c,X.ρ id=some (.var b t)/\X.w.heap[b]? = some (.cells c t (0,0))/\R T X false d c.toList/\cZ T d (.inl t)=true
 cj:∀id t dM l,h.get id=some (.cj t dM l)->∃v b lo hi,X.ρ id=some (.cj v (T.dG t) b lo hi)/\Vx T X t dM l v b lo hi
 map:∀id ck cv l,h.get id=some (.map ck cv l)->∃b es clock,X.ρ id=some (.map b)/\X.w.heap[b]? = some (.map es clock)/\J1 T X ck cv l es clock
 ek:∀id c,h.get id=some (.ek c)->∃s,X.ρ id=some (.ek s)/\uG T X c s
 kg:∀id l,X.ρ id=some l->(h.get id).isSome=true
 eY:∀id o,h.get id=some o->fL nx lim id/\∀r∈o.refs,fL nx lim r
 apart:∀id ka l l' b o o',X.ρ id=some l->X.ρ ka=some l'->l.owns b o->l'.owns b o'->id=ka
 outer:∀b o,X.dI b o->¬X.O b o/\b<X.w.heap.size
 outs:∀b o,X.O b o->b<X.w.heap.size
 low:lim.lo<=nx
 pre:HQ T X
structure Step(X:Cx)(nx:Nat)(lim:eL)(X':Cx):Prop where
 O:X'.O=X.O
 os:X'.w.os=X.w.os
 tape:X'.w.tape=X.w.tape
 output:X'.w.output=X.w.output
 size:X.w.heap.size<=X'.w.heap.size
 ρ:∀id,fL nx lim id->Qo (X.ρ id) (X'.ρ id)
 dI:∀b o,b<X.w.heap.size->X'.dI b o->X.dI b o
 cell:∀b o,b<X.w.heap.size->¬X.dI b o->X'.w.cell? ⟨b,o,none⟩=X.w.cell? ⟨b,o,none⟩
 block:∀b,b<X.w.heap.size->(∀o,¬X.dI b o)->X'.w.heap[b]? = X.w.heap[b]?
 frz:∀a:Addr,a.block<X.w.heap.size->X'.w.frozen? a=X.w.frozen? a
theorem QBQ{w:World}{a:Addr}{v:Value}(h:w.cell? a=some v):a.block<w.heap.size:=by
 unfold World.cell? at h;rcases Nat.lt_or_ge a.block w.heap.size with hl|hl
 ·exact hl
 ·rw[Array.getElem?_eq_none hl]at h;simp at h
theorem Step.refl(X:Cx)(nx:Nat)(lim:eL):Step X nx lim X :=
 ⟨rfl,rfl,rfl,rfl,aq _,fun _ _=>.refl _,fun _ _ _ h=>h,fun _ _ _ _=>rfl,fun _ _ _=>rfl,fun _ _=>rfl⟩
theorem Step.trans{X Y Z:Cx}{nx ny:Nat}{lim:eL}(h:Step X nx lim Y)(k:Step Y ny lim Z)(hn:nx<=ny):Step X nx lim Z where
 O:=k.O.trans h.O
 os:=k.os.trans h.os
 tape:=k.tape.trans h.tape
 output:=k.output.trans h.output
 size:=bk h.size k.size
 ρ id ho:=(h.ρ id ho).trans (k.ρ id (ho.mono hn))
 dI b o hb hm:=h.dI b o hb (k.dI b o (bj hb h.size) hm)
 cell b o hb hm:=(k.cell b o (bj hb h.size) (fun hy=>hm (h.dI b o hb hy))).trans (h.cell b o hb hm)
 block b hb hm:=(k.block b (bj hb h.size) (fun o hy=>hm o (h.dI b o hb hy))).trans (h.block b hb hm)
 frz a ha:=(k.frz a (bj ha h.size)).trans (h.frz a ha)
theorem HQ.step{T:fA C}{X X':Cx}{nx:Nat}{lim:eL}(h:HQ T X)(s:Step X nx lim X'):HQ T X':=by
 intro p hp;obtain⟨⟨t,f,h1⟩,h2⟩:=h p hp;have hb:=(aI.1 h1).1;exact⟨⟨t,f,(s.block p.1 hb h2).trans h1⟩,fun o hm=>h2 o (s.dI p.1 o hb hm)⟩
theorem Step.keeps{X X':Cx}{nx:Nat}{lim:eL}(h:Step X nx lim X'):tR X X' where
 cell:=by
  intro b o v hc hf;have hb:=QBQ hc;exact⟨by rw[h.cell b o hb hf.2];exact hc,by rw[h.O];exact hf.1,fun hm=>hf.2 (h.dI b o hb hm)⟩
def RO(X:Cx)(nx:Nat)(lim:eL)(d:D C)(v:Value):Prop:=RV T X d v/\∀id∈d.refs,fL nx lim id
variable {T}(L:Laws T)
include L in
theorem R.step{X X':Cx}{nx:Nat}{lim:eL}(s:Step X nx lim X'){m:Bool}{d:D C}{vs:bT}(h:R T X m d vs)(hr:∀id∈d.refs,fL nx lim id):R T X' m d vs :=
 h.mono T L.iv s.keeps fun id hi=>s.ρ id (hr id hi)
include L in
theorem RO.step{X X':Cx}{nx cM:Nat}{lim:eL}(s:Step X nx lim X'){d:D C}{v:Value}(h:RO T X nx lim d v)(hn:nx<=cM):RO T X' cM lim d v :=
 ⟨h.1.mono T L.iv s.keeps fun id hi=>s.ρ id (h.2 id hi),fun id hi=>(h.2 id hi).mono hn⟩
include L in
theorem Yx.step{X X':Cx}{nx:Nat}{lim:eL}(s:Step X nx lim X'){ck cv:C.Ty}{l:List (C.A ck×C.A cv)}{es:ec}(h:Yx T X ck cv l es):Yx T X' ck cv l es:=by
 induction h with
 |nil=>exact .nil
 |cons hk hv _ ih=>exact .cons (hk.step L s (by simp[L.fI])) (hv.mono T L.iv s.keeps fun id hi=>by simp[L.fI]at hi) ih
include L in
theorem J1.step{X X':Cx}{nx:Nat}{lim:eL}(s:Step X nx lim X'){ck cv:C.Ty}{l:List (C.A ck×C.A cv)}{es:eB}{k:Nat}(h:J1 T X ck cv l es k):J1 T X' ck cv l es k :=
 ⟨h.rj.step L s,h.born,h.nodup⟩
theorem Cx.at.step{X X':Cx}{nx:Nat}{lim:eL}(s:Step X nx lim X'){b off:Nat}{cs:bT}(h:X.at b off cs):X'.at b off cs :=
 fun j v hj=>s.keeps.cell _ _ _ (h j v hj).1 (h j v hj).2
def QE(T:fA C)(X:Cx)(nx:Nat)(lim:eL)(env:Env C)(tmps:b7):Prop:=∀t,RO T X nx lim (c8 env t) (tmps.getD t undef)
include L in
theorem QE.step{X X':Cx}{nx cM:Nat}{lim:eL}(s:Step X nx lim X'){env:Env C}{tmps:b7}(h:QE T X nx lim env tmps)(hn:nx<=cM):QE T X' cM lim env tmps :=
 fun t=>(h t).step L s hn
namespace Pg
def Ex{α:Type}(e:Lv)(p:Pg C α)(h:Heap C)(n:Nat)(a:α)(h':Heap C)(n':Nat)(t:Tr):Prop :=
 p.run e h n [] (fun a h n t=>some (a,h,n,t))=some (a,h',n',t)
theorem run_eq{α:Type}(p:Pg C α):∀{β:Type} (e:Lv) (h:Heap C) (n:Nat) (l:Tr) (k:α->Heap C->Nat->Tr->Option β),
 p.run e h n l k=(p.run e h n [] (fun a h n t=>some (a,h,n,t))).bind fun r=>k r.1 r.2.1 r.2.2.1 (r.2.2.2++l):=by
 induction p with
 |ret a=>intro β e h n l k;simp[run]
 |fail=>intro β e h n l k;simp[run]
 |br b x y ix iy=>intro β e h n l k;cases b<;>simp only[run,ag,ah]<;>first|exact ix e h n l k|exact iy e h n l k
 |rd id f ih=>
  intro β e h n l k;simp only[run];cases h.get id with
  |none=>rfl
  |some o=>
   simp only;rw[ih o e h n ((id,false)::l) k,ih o e h n [(id,false)]];simp[Option.bind_assoc]
 |wr id o f ih=>
  intro β e h n l k;simp only[run];cases h.get id with
  |none=>rfl
  |some _=>
   simp only;rw[ih e _ n ((id,true)::l) k,ih e _ n [(id,true)]];simp[Option.bind_assoc]
 |nw o f ih=>
  intro β e h n l k;simp only[run];rw[ih n e _ _ ((n,true)::l) k,ih n e _ _ [(n,true)]];simp[Option.bind_assoc]
 |dl id f ih=>
  intro β e h n l k;simp only[run];cases h.get id with
  |none=>rfl
  |some _=>
   simp only;rw[ih e _ n ((id,true)::l) k,ih e _ n [(id,true)]];simp[Option.bind_assoc]
 |oY f ih=>intro β e h n l k;simp only[run];exact ih _ _ e h n l k
 |upto m f ih=>
  intro β e h n l k;simp only[run];cases Nat.ble n m with
  |true=>exact ih e h m l k
  |false=>rfl
 |gc lo iZ f ih=>
  intro β e h n l k;simp only[run];cases Nat.ble e.2 lo with
  |true=>exact ih e _ n l k
  |false=>rfl
 |sub p f ip ik=>
  intro β e h n l k;simp only[run];rw[ip (e.1+1,n) h n [],ip (e.1+1,n) h n [] (fun a h n t=>(f a t).run e h n (t++[]) fun a h n t=>some (a,h,n,t))];simp only[aR,Option.bind_assoc]
  congr 1
  funext r
  rw[ik r.1 r.2.2.2 e r.2.1 r.2.2.1 (r.2.2.2++l) k,ik r.1 r.2.2.2 e r.2.1 r.2.2.1 r.2.2.2];simp[Option.bind_assoc]
theorem fK{α β:Type}{p:Pg C α}{e:Lv}{h:Heap C}{n:Nat}{l:Tr}{k:α->Heap C->Nat->Tr->Option β}{b:β}(hr:p.run e h n l k=some b) :
 ∃a h' n' t,Ex e p h n a h' n' t/\k a h' n' (t++l)=some b:=by
 rw[run_eq]at hr;cases hx:p.run e h n [] (fun a h n t=>some (a,h,n,t))with
 |none=>simp[hx]at hr
 |some r=>obtain⟨a,h',n',t⟩:=r;simp[hx]at hr;exact⟨a,h',n',t,hx,hr⟩
variable {α β:Type}{e:Lv}{h h':Heap C}{n n':Nat}{t:Tr}
theorem Ex.ret{a a':α}(hx:Ex e (.ret a:Pg C α) h n a' h' n' t):a'=a/\h'=h/\n'=n/\t=[]:=by
 simp[Ex,run]at hx;obtain⟨rfl,rfl,rfl,rfl⟩:=hx;exact⟨rfl,rfl,rfl,rfl⟩
theorem Ex.fail{a:α}(hx:Ex e (.fail:Pg C α) h n a h' n' t):False:=by simp[Ex,run]at hx
theorem Ex.cI{a:α}{q:Prop}(hx:Ex e (.fail:Pg C α) h n a h' n' t):q:=(Ex.fail hx).elim
theorem Ex.br{b:Bool}{x y:Pg C α}{a:α}(hx:Ex e (.br b x y) h n a h' n' t):(b=true/\Ex e x h n a h' n' t)\/(b=false/\Ex e y h n a h' n' t):=by
 cases b
 ·exact .inr ⟨rfl,by simpa[Ex,run]using hx⟩
 ·exact .inl ⟨rfl,by simpa[Ex,run]using hx⟩
theorem Ex.rd{id:Nat}{f:Obj C->Pg C α}{a:α}(hx:Ex e (.rd id f) h n a h' n' t):∃o t',h.get id=some o/\Ex e (f o) h n a h' n' t'/\t=t'++[(id,false)]:=by
 unfold Ex at hx;simp only[run]at hx;cases hg:h.get id with
 |none=>simp[hg]at hx
 |some o=>
  simp only[hg]at hx;obtain⟨a1,h1,n1,t1,h2,h3⟩:=fK hx;simp at h3;obtain⟨rfl,rfl,rfl,rfl⟩:=h3;exact⟨o,t1,rfl,h2,rfl⟩
theorem Ex.wr{id:Nat}{o:Obj C}{f:Pg C α}{a:α}(hx:Ex e (.wr id o f) h n a h' n' t):∃o' t',h.get id=some o'/\Ex e f (h.put id o) n a h' n' t'/\t=t'++[(id,true)]:=by
 unfold Ex at hx;simp only[run]at hx;cases hg:h.get id with
 |none=>simp[hg]at hx
 |some o'=>
  simp only[hg]at hx;obtain⟨a1,h1,n1,t1,h2,h3⟩:=fK hx;simp at h3;obtain⟨rfl,rfl,rfl,rfl⟩:=h3;exact⟨o',t1,rfl,h2,rfl⟩
theorem Ex.nw{o:Obj C}{f:Nat->Pg C α}{a:α}(hx:Ex e (.nw o f) h n a h' n' t):∃t',Ex e (f n) ((n,o)::h) (n+1) a h' n' t'/\t=t'++[(n,true)]:=by
 unfold Ex at hx;simp only[run]at hx;obtain⟨a1,h1,n1,t1,h2,h3⟩:=fK hx;simp at h3;obtain⟨rfl,rfl,rfl,rfl⟩:=h3;exact⟨t1,h2,rfl⟩
theorem Ex.dl{id:Nat}{f:Pg C α}{a:α}(hx:Ex e (.dl id f) h n a h' n' t):∃o' t',h.get id=some o'/\Ex e f (h.del id) n a h' n' t'/\t=t'++[(id,true)]:=by
 unfold Ex at hx;simp only[run]at hx;cases hg:h.get id with
 |none=>simp[hg]at hx
 |some o'=>
  simp only[hg]at hx;obtain⟨a1,h1,n1,t1,h2,h3⟩:=fK hx;simp at h3;obtain⟨rfl,rfl,rfl,rfl⟩:=h3;exact⟨o',t1,rfl,h2,rfl⟩
theorem Ex.oY{f:Nat->Nat->Pg C α}{a:α}(hx:Ex e (.oY f) h n a h' n' t):Ex e (f n (span e.1)) h n a h' n' t:=by simpa[Ex,run]using hx
theorem Ex.upto{m:Nat}{f:Pg C α}{a:α}(hx:Ex e (.upto m f) h n a h' n' t):n<=m/\Ex e f h m a h' n' t:=by
 unfold Ex at hx;simp only[run]at hx;cases hb:Nat.ble n m with
 |true=>simp only[hb,ag]at hx;exact⟨Nat.le_of_ble_eq_true hb,hx⟩
 |false=>simp[hb]at hx
theorem Ex.gc{lo:Nat}{iZ:bU}{f:Pg C α}{a:α}(hx:Ex e (.gc lo iZ f) h n a h' n' t):e.2<=lo/\Ex e f (h.drop lo n iZ) n a h' n' t:=by
 unfold Ex at hx;simp only[run]at hx;cases hb:Nat.ble e.2 lo with
 |true=>simp only[hb,ag]at hx;exact⟨Nat.le_of_ble_eq_true hb,hx⟩
 |false=>simp[hb]at hx
theorem Ex.sub{p:Pg C (Env C)}{f:Env C->Tr->Pg C α}{a:α}(hx:Ex e (.sub p f) h n a h' n' t) :
 ∃v h1 n1 t1 t2,Ex (e.1+1,n) p h n v h1 n1 t1/\Ex e (f v t1) h1 n1 a h' n' t2/\t=t2++t1:=by
 unfold Ex at hx;simp only[run]at hx;obtain⟨a1,h1,n1,t1,h2,h3⟩:=fK hx;simp only[aR]at h3;obtain⟨a2,h4,n4,t4,h5,h6⟩:=fK h3;simp at h6;obtain⟨rfl,rfl,rfl,rfl⟩:=h6;exact⟨a1,h1,n1,t1,t4,h2,h5,rfl⟩
theorem run_bind{γ:Type}(p:Pg C α)(f:α->Pg C β):∀(e:Lv) (h:Heap C) (n:Nat) (l:Tr) (k:β->Heap C->Nat->Tr->Option γ),
 (p.bind f).run e h n l k=p.run e h n l fun a h n l=>(f a).run e h n l k:=by
 induction p with
 |ret a=>intro e h n l k;rfl
 |fail=>intro e h n l k;rfl
 |br b x y ix iy=>intro e h n l k;cases b<;>simp only[bind,run,ag,ah]<;>first|exact ix f e h n l k|exact iy f e h n l k
 |rd id g ih=>intro e h n l k;simp only[bind,run];cases h.get id<;>simp only<;>exact ih _ f e h n _ k
 |wr id o g ih=>intro e h n l k;simp only[bind,run];cases h.get id<;>simp only<;>exact ih f e _ n _ k
 |nw o g ih=>intro e h n l k;simp only[bind,run];exact ih _ f e _ _ _ k
 |dl id g ih=>intro e h n l k;simp only[bind,run];cases h.get id<;>simp only<;>exact ih f e _ n _ k
 |oY g ih=>intro e h n l k;simp only[bind,run];exact ih _ _ f e h n l k
 |upto m g ih=>intro e h n l k;simp only[bind,run];cases Nat.ble n m<;>simp only[ag,ah];exact ih f e h m l k
 |gc lo iZ g ih=>intro e h n l k;simp only[bind,run];cases Nat.ble e.2 lo<;>simp only[ag,ah];exact ih f e _ n l k
 |sub p g ip ik=>intro e h n l k;simp only[bind,run];congr 1;funext a h n t;exact ik _ _ f e _ _ _ k
theorem Ex.bind{p:Pg C α}{f:α->Pg C β}{b:β}(hx:Ex e (p.bind f) h n b h' n' t) :
 ∃a h1 n1 t1 t2,Ex e p h n a h1 n1 t1/\Ex e (f a) h1 n1 b h' n' t2/\t=t2++t1:=by
 unfold Ex at hx;rw[run_bind]at hx;obtain⟨a1,h1,n1,t1,h2,h3⟩:=fK hx;simp only[aR]at h3;obtain⟨a2,h4,n4,t4,h5,h6⟩:=fK h3;simp at h6;obtain⟨rfl,rfl,rfl,rfl⟩:=h6;exact⟨a1,h1,n1,t1,t4,h2,h5,rfl⟩
theorem Ex.jZ{o:Option α}{a:α}(hx:Ex e (.jZ o:Pg C α) h n a h' n' t):o=some a/\h'=h/\n'=n/\t=[]:=by
 cases o with
 |none=>exact Ex.cI hx
 |some b=>obtain⟨rfl,h1,h2,h3⟩:=Ex.ret hx;exact⟨rfl,h1,h2,h3⟩
theorem Ex.le{p:Pg C α}:∀{e:Lv} {h:Heap C} {n:Nat} {a:α} {h':Heap C} {n':Nat} {t:Tr},Ex e p h n a h' n' t->n<=n':=by
 induction p with
 |ret a=>intro e h n a' h' n' t hx;have:=Ex.ret hx;omega
 |fail=>intro e h n a' h' n' t hx;exact Ex.cI hx
 |br b x y ix iy=>intro e h n a h' n' t hx;rcases Ex.br hx with⟨_,h1⟩|⟨_,h1⟩<;>first|exact ix h1|exact iy h1
 |rd id f ih=>intro e h n a h' n' t hx;obtain⟨_,_,_,h1,_⟩:=Ex.rd hx;exact ih _ h1
 |wr id o f ih=>intro e h n a h' n' t hx;obtain⟨_,_,_,h1,_⟩:=Ex.wr hx;exact ih h1
 |nw o f ih=>intro e h n a h' n' t hx;obtain⟨_,h1,_⟩:=Ex.nw hx;have:=ih _ h1;omega
 |dl id f ih=>intro e h n a h' n' t hx;obtain⟨_,_,_,h1,_⟩:=Ex.dl hx;exact ih h1
 |oY f ih=>intro e h n a h' n' t hx;exact ih _ _ (Ex.oY hx)
 |upto m f ih=>intro e h n a h' n' t hx;obtain⟨h0,h1⟩:=Ex.upto hx;have:=ih h1;omega
 |gc lo iZ f ih=>intro e h n a h' n' t hx;exact ih (Ex.gc hx).2
 |sub p f ip ik=>intro e h n a h' n' t hx;obtain⟨_,_,_,_,_,h1,h2,_⟩:=Ex.sub hx;have:=ip h1;have:=ik _ _ h2;omega
end Pg
end
section
variable {C:ij}{T:fA C}(L:Laws T)
theorem mZ{a b:Nat}(h:¬a=b):Nat.beq a b=false:=by
 cases hb:Nat.beq a b with
 |false=>rfl
 |true=>exact absurd (az hb) h
theorem Qu{h:Heap C}{id ka:Nat}{o:Obj C}(hi:(h.get id).isSome=true):(Heap.put id o h).get ka=if ka=id then some o else h.get ka:=by
 induction h with
 |nil=>simp[Heap.get]at hi
 |cons x h ih=>
  obtain⟨j,p⟩:=x;simp only[Heap.put,Heap.get]at hi ⊢
  by_cases hj:id=j
  ·subst hj;simp only[Nat.beq_refl,ag,Heap.get]
   by_cases h':ka=id
   ·subst h';simp
   ·have:Nat.beq ka id=false:=mZ h';simp[this,h']
  ·have e1:Nat.beq id j=false:=mZ hj;simp only[e1,ah]at hi ⊢;simp only[Heap.get]
   by_cases h':ka=j
   ·subst h';have:¬ka=id:=fun e=>hj e.symm;simp[this]
   ·have e2:Nat.beq ka j=false:=mZ h';simp only[e2,ah];exact ih hi
theorem Zp{h:Heap C}{id ka:Nat}:(Heap.del id h).get ka=if ka=id then none else h.get ka:=by
 induction h with
 |nil=>simp[Heap.del,Heap.get]
 |cons x h ih=>
  obtain⟨j,p⟩:=x;simp only[Heap.del]
  by_cases hj:id=j
  ·subst hj;simp only[Nat.beq_refl,ag,ih,Heap.get]
   by_cases h':ka=id
   ·simp[h']
   ·have:Nat.beq ka id=false:=mZ h';simp[this,h']
  ·have e1:Nat.beq id j=false:=mZ hj;simp only[e1,ah,Heap.get]
   by_cases h':ka=j
   ·subst h';have:¬ka=id:=fun e=>hj e.symm;simp[this]
   ·have e2:Nat.beq ka j=false:=mZ h';simp only[e2,ah];exact ih
theorem VF{h:Heap C}{lo hi:Nat}{iZ:bU}{id:Nat}:(Heap.drop lo hi iZ h).get id=if(Nat.ble lo id&&Nat.blt id hi && !(iZ.any (Nat.beq id)))=true then none else h.get id:=by
 induction h with
 |nil=>simp[Heap.drop,Heap.get]
 |cons x h ih=>
  obtain⟨j,p⟩:=x;simp only[Heap.drop];cases hb:Nat.ble lo j&&Nat.blt j hi && !(iZ.any (Nat.beq j))with
  |true=>
   simp only[ag,ih,Heap.get]
   by_cases h':id=j
   ·subst h';simp[hb]
   ·have e2:Nat.beq id j=false:=mZ h';simp[e2]
  |false=>
   simp only[ah,Heap.get]
   by_cases h':id=j
   ·subst h';simp[hb]
   ·have e2:Nat.beq id j=false:=mZ h';simp only[e2,ah];exact ih
theorem Qz{h:Heap C}{n id:Nat}{o:Obj C}:Heap.get id ((n,o)::h)=if id=n then some o else h.get id:=by
 simp only[Heap.get]
 by_cases h':id=n
 ·subst h';simp
 ·have e2:Nat.beq id n=false:=mZ h';simp[e2,h']
theorem G.new{X:Cx}{h:Heap C}{nx:Nat}{lim:eL}(g:G T X h nx lim)(hn:nx<lim.top):fL (nx+1) lim nx:=⟨.inl (by omega),lim.ok nx g.low hn⟩
theorem G.fresh{X:Cx}{h:Heap C}{nx:Nat}{lim:eL}(g:G T X h nx lim)(hn:nx<lim.top):X.ρ nx=none:=by
 cases hr:X.ρ nx with
 |none=>rfl
 |some l=>
  have:=g.kg nx l hr;cases ho:h.get nx with
  |none=>simp[ho]at this
  |some o=>have:=(g.eY nx o ho).1.1;omega
theorem G.mz{X:Cx}{h:Heap C}{nx cM:Nat}{lim:eL}(g:G T X h nx lim)(hn:nx<=cM):∀id o,h.get id=some o->fL cM lim id/\∀r∈o.refs,fL cM lim r :=
 fun id o ho=>⟨(g.eY id o ho).1.mono hn,fun r hr=>((g.eY id o ho).2 r hr).mono hn⟩
structure Ch(X X':Cx)(nx:Nat)(lim:eL)(qo:Nat):Prop where
 step:Step X nx lim X'
 same:∀id,id≠qo->X'.ρ id=X.ρ id
 El:∀b c e f,X.w.heap[b]? = some (.cells c e f)->∃c',X'.w.heap[b]? = some (.cells c' e f)/\c'.size=c.size/\∀o,(∀l,X.ρ qo=some l->¬l.owns b o)->c'[o]? = c[o]?
 mp:∀b (o:Go.Obj),X.w.heap[b]? = some o->(∀c e f,o ≠ .cells c e f)->(∀l,X.ρ qo=some l->¬l.owns b 0)->X'.w.heap[b]? = some o
include L in
theorem uG.same{X X':Cx}{nx:Nat}{lim:eL}{cc:rN C}{s:qV}(h:uG T X cc s)(hs:Step X nx lim X')(hw:X'.w=X.w):uG T X' cc s:=by
 cases cc with
 |lp busy dn ex=>
  cases s with
  |lp b rec=>obtain⟨pend,h3,h4⟩:=h;exact⟨pend,by rw[hw];exact h3,h4⟩
  |it bm r=>exact h.elim
 |it ck cv l=>
  cases s with
  |lp b rec=>exact h.elim
  |it bm r=>
   obtain⟨gm,es,si,se,k,h3,h4,h5,h6⟩:=h;exact⟨gm,es,si,se,k,by rw[hw];exact h3,by rw[hw];exact h4,h5.step L hs,h6⟩
include L in
theorem G.ej{X X':Cx}{h:Heap C}{nx qo:Nat}{lim:eL}(g:G T X h nx lim)(c:Ch X X' nx lim qo) :
 (∀id t d,id≠qo->h.get id=some (.var t d)->∃b c,X'.ρ id=some (.var b t)/\X'.w.heap[b]? = some (.cells c t (0,0))/\R T X' false d c.toList/\cZ T d (.inl t)=true) /\
 (∀id t dM l,id≠qo->h.get id=some (.cj t dM l)->∃v b lo hi,X'.ρ id=some (.cj v (T.dG t) b lo hi)/\Vx T X' t dM l v b lo hi) /\
 (∀id ck cv l,id≠qo->h.get id=some (.map ck cv l)->∃b es k,X'.ρ id=some (.map b)/\X'.w.heap[b]? = some (.map es k)/\J1 T X' ck cv l es k) /\
 (∀id cc,id≠qo->h.get id=some (.ek cc)->∃s,X'.ρ id=some (.ek s)/\uG T X' cc s):=by
 refine⟨?_,?_,?_,?_⟩
 ·intro id t d gm ho;obtain⟨b,cs,h1,h2,h3,h4⟩:=g.var id t d ho;obtain⟨c',h5,h6,h7⟩:=c.El b cs _ _ h2
  have e:c'=cs:=by
   apply Array.ext';apply List.ext_getElem?;intro o;have:=h7 o fun l hl kI=>gm (g.apart id qo _ _ b o o h1 hl rfl kI)
   simpa using this
  subst e;refine⟨b,c',by rw[c.same id gm];exact h1,h5,h3.step L c.step ?_,h4⟩;intro r hr;exact(g.eY id _ ho).2 r hr
 ·intro id t dM l gm ho;obtain⟨v,b,lo,hi,h1,h2⟩:=g.cj id t dM l ho;refine⟨v,b,lo,hi,by rw[c.same id gm];exact h1,?_⟩;rcases h2 with h2|⟨off,cp,h2,h3,h4,h5⟩
  ·exact .inl h2
  ·refine .inr ⟨off,cp,h2,h3,h4,?_⟩;rcases h5 with⟨ht,gk,h5|⟨cs,e,h5,h6,h7⟩⟩|⟨ht,gk,⟨cs,h5,h6⟩,h7⟩
   ·exact .inl ⟨ht,gk,.inl h5⟩
   ·obtain⟨c',h8,h9,H5⟩:=c.El b cs _ _ h5;refine .inl ⟨ht,gk,.inr ⟨c',e,h8,by omega,?_⟩⟩
    have e:(c'.toList.drop off).take (l.length*T.size (T.dG t))=(cs.toList.drop off).take (l.length*T.size (T.dG t)):=by
     apply List.ext_getElem?;intro o;simp only[List.getElem?_take]
     split
     ·rename_i cY;simp only[List.getElem?_drop];have hmul:l.length*T.size (T.dG t)<=cp*T.size (T.dG t):=Nat.mul_le_mul_right _ h3;have:=H5 (off+o) fun l' hl kI=>gm (g.apart id qo _ _ b (off+o) (off+o) h1 hl ⟨rfl,by omega,by omega⟩ kI)
      simpa using this
     ·rfl
    rw[e];exact h7.step L c.step (by simp[D.refs])
   ·refine .inr ⟨ht,gk,⟨cs,h5.step c.step,h6.step L c.step (by simp[D.refs])⟩,?_⟩;rcases h7 with h7|⟨c0,e,h7,h8⟩
    ·exact .inl h7
    ·obtain⟨c',h9,H5,_⟩:=c.El b c0 _ _ h7;exact .inr ⟨c',e,h9,by omega⟩
 ·intro id ck cv l gm ho;obtain⟨b,es,k,h1,h2,h3⟩:=g.map id ck cv l ho;exact⟨b,es,k,by rw[c.same id gm];exact h1,c.mp b _ h2 (fun _ _ _ h=>by cases h) fun l' hl kI=>gm (g.apart id qo _ _ b 0 0 h1 hl rfl kI),h3.step L c.step⟩
 ·intro id cc gm ho;obtain⟨s,h1,h2⟩:=g.ek id cc ho;refine⟨s,by rw[c.same id gm];exact h1,?_⟩;cases cc with
  |lp busy dn ex=>
   cases s with
   |lp b rec=>
    obtain⟨pend,h3,h4⟩:=h2;exact⟨pend,c.mp b _ h3 (fun _ _ _ h=>by cases h) fun l' hl kI=>gm (g.apart id qo _ _ b 0 0 h1 hl rfl kI),h4⟩
   |it bm r=>exact h2.elim
  |it ck cv l=>
   cases s with
   |lp b rec=>exact h2.elim
   |it bm r=>
    obtain⟨O5,es,si,se,k,h3,h4,h5,h6⟩:=h2
    exact⟨O5,es,si,se,k,c.mp bm _ h3 (fun _ _ _ h=>by cases h) fun l' hl kI=>gm (g.apart id qo _ _ bm 0 0 h1 hl (.inl rfl) kI),
     c.mp r _ h4 (fun _ _ _ h=>by cases h) fun l' hl kI=>gm (g.apart id qo _ _ r 0 0 h1 hl (.inr rfl) kI),h5.step L c.step,h6⟩
def Cx.newVar(X:Cx)(nx:Nat)(t:TypeId)(c:b7):Cx :=
 ⟨X.w.alloc (.cells c t),fun id=>if id=nx then some (.var X.w.heap.size t)else X.ρ id,X.O⟩
theorem QD(w:World)(o:Go.Obj)(b:Nat)(hb:b<w.heap.size):(w.alloc o).heap[b]? = w.heap[b]? := RowKit.Below.heap_alloc w o b hb
theorem Zf(w:World)(o:Go.Obj):(w.alloc o).heap[w.heap.size]? = some o:=by
 show(w.heap.push o)[w.heap.size]? = _;simp
theorem ZO{w w':World}{b:Nat}(h:w'.heap[b]? = w.heap[b]?)(o:Nat):w'.cell? ⟨b,o,none⟩=w.cell? ⟨b,o,none⟩:=by
 simp[World.cell?,h]
theorem Yy{w w':World}{a:Addr}(h:w'.heap[a.block]? = w.heap[a.block]?):w'.frozen? a=w.frozen? a:=by
 unfold World.frozen?;rw[h]
theorem Step.oq{X:Cx}{h:Heap C}{nx:Nat}{lim:eL}(g:G T X h nx lim)(hn:nx<lim.top)(ob:Go.Obj)(l:Loc)(hl:∀b o,l.owns b o->b=X.w.heap.size) :
 Step X nx lim ⟨X.w.alloc ob,fun id=>if id=nx then some l else X.ρ id,X.O⟩ where
 O:=rfl
 os:=rfl
 tape:=rfl
 output:=rfl
 size:=by simp
 ρ id ho:=by
  have:id≠nx:=by have:=ho.1;omega
  simp[this,Qo.refl]
 dI b o hb hm:=by
  obtain⟨id,l',h1,h2⟩:=hm
  by_cases hi:id=nx
  ·simp[hi]at h1;subst h1;have:=hl b o h2;omega
  ·simp[hi]at h1;exact⟨id,l',h1,h2⟩
 cell b o hb _:=ZO (QD _ _ _ hb) o
 block b hb _:=QD _ _ _ hb
 frz a ha:=Yy (QD _ _ _ ha)
theorem Step.alloc{X:Cx}{h:Heap C}{nx:Nat}{lim:eL}(g:G T X h nx lim)(hn:nx<lim.top)(c:b7)(t:TypeId)(l:Loc)(hl:∀b o,l.owns b o->b=X.w.heap.size) :
 Step X nx lim ⟨X.w.alloc (.cells c t),fun id=>if id=nx then some l else X.ρ id,X.O⟩:=Step.oq g hn _ l hl
theorem Ch.alloc{X:Cx}{h:Heap C}{nx:Nat}{lim:eL}(g:G T X h nx lim)(hn:nx<lim.top)(ob:Go.Obj)(l:Loc)(hl:∀b o,l.owns b o->b=X.w.heap.size) :
 Ch X ⟨X.w.alloc ob,fun id=>if id=nx then some l else X.ρ id,X.O⟩ nx lim nx where
 step:=Step.oq g hn ob l hl
 same id hi:=by simp[hi]
 El b c' e f hb:=by
  have cY:b<X.w.heap.size:=(aI.1 hb).1;exact⟨c',by rw[QD _ _ _ cY];exact hb,rfl,fun _ _=>rfl⟩
 mp b o hb _ _:=by
  have cY:b<X.w.heap.size:=(aI.1 hb).1;rw[QD _ _ _ cY];exact hb
theorem G.ky{X:Cx}{h:Heap C}{nx:Nat}{lim:eL}(g:G T X h nx lim)(hn:nx<lim.top)(ob:Go.Obj)(l:Loc)(hl:∀b o,l.owns b o->b=X.w.heap.size)(o:Obj C) :
 let X':Cx:=⟨X.w.alloc ob,fun id=>if id=nx then some l else X.ρ id,X.O⟩
 (∀id l,X'.ρ id=some l->(Heap.get id ((nx,o)::h)).isSome=true) /\
 (∀id ka l l' b o o',X'.ρ id=some l->X'.ρ ka=some l'->l.owns b o->l'.owns b o'->id=ka)/\(∀b o,X'.dI b o->(¬X.O b o\/b=X.w.heap.size)/\b<X'.w.heap.size):=by
 refine⟨?_,?_,?_⟩
 ·intro id l' hr;rw[Qz]
  by_cases hi:id=nx
  ·simp[hi]
  ·simp[hi]at hr ⊢;exact g.kg id l' hr
 ·intro id ka l1 l2 b o o' h1 h2 h3 h4
  by_cases hi:id=nx<;>by_cases hj:ka=nx
  ·rw[hi,hj]
  ·simp[hi]at h1;simp[hj]at h2;subst h1;have:=hl b o h3;have:=(g.outer b o' ⟨ka,l2,h2,h4⟩).2;omega
  ·simp[hi]at h1;simp[hj]at h2;subst h2;have:=hl b o' h4;have:=(g.outer b o ⟨id,l1,h1,h3⟩).2;omega
  ·simp[hi]at h1;simp[hj]at h2;exact g.apart id ka l1 l2 b o o' h1 h2 h3 h4
 ·rintro b o ⟨id,l',h1,h2⟩
  by_cases hi:id=nx
  ·simp[hi]at h1;subst h1;have:=hl b o h2;exact⟨.inr this,by simp;omega⟩
  ·simp[hi]at h1;have:=g.outer b o ⟨id,l',h1,h2⟩;exact⟨.inl this.1,by simp;omega⟩
include L in
theorem G.newVar{X:Cx}{h:Heap C}{nx:Nat}{lim:eL}(g:G T X h nx lim)(hn:nx<lim.top){d:D C}{t:TypeId}{c:b7}(hR:R T X false d c.toList)(hf:cZ T d (.inl t)=true)
 (hr:∀id∈d.refs,fL nx lim id) :
 G T (X.newVar nx t c) ((nx,.var t d)::h) (nx+1) lim/\Step X nx lim (X.newVar nx t c):=by
 have hl:∀b o,(Loc.var X.w.heap.size t).owns b o->b=X.w.heap.size:=fun b o h=>h;have hO:=g.outs;have hs:Step X nx lim (X.newVar nx t c):=Step.alloc g hn c t _ hl;have hc:Ch X (X.newVar nx t c) nx lim nx:=Ch.alloc g hn _ _ hl;obtain⟨m1,m2,m3⟩:=G.ky g hn (.cells c t) _ hl (.var t d);obtain⟨o1,o2,o3,o4⟩:=G.ej L g hc;refine⟨⟨?_,?_,?_,?_,m1,?_,m2,?_,fun b o ho=>bj (hO b o ho) hs.size,Nat.le_succ_of_le g.low,g.pre.step hs⟩,hs⟩
 ·intro id t' d' hg;rw[Qz]at hg
  by_cases hi:id=nx
  ·simp[hi]at hg;obtain⟨rfl,rfl⟩:=hg;exact⟨X.w.heap.size,c,by simp[Cx.newVar,hi],Zf _ _,hR.step L hs hr,hf⟩
  ·simp[hi]at hg;exact o1 id t' d' hi hg
 ·intro id t' dM l hg;rw[Qz]at hg
  by_cases hi:id=nx
  ·simp[hi]at hg
  ·simp[hi]at hg;exact o2 id t' dM l hi hg
 ·intro id ck cv l hg;rw[Qz]at hg
  by_cases hi:id=nx
  ·simp[hi]at hg
  ·simp[hi]at hg;exact o3 id ck cv l hi hg
 ·intro id cc hg;rw[Qz]at hg
  by_cases hi:id=nx
  ·simp[hi]at hg
  ·simp[hi]at hg;exact o4 id cc hi hg
 ·intro id o hg;rw[Qz]at hg
  by_cases hi:id=nx
  ·simp[hi]at hg;subst hg;exact⟨hi▸g.new hn,fun r fT=>(hr r fT).mono (by omega)⟩
  ·simp[hi]at hg;exact g.mz (by omega) id o hg
 ·intro b o hm;have:=m3 b o hm;refine⟨?_,this.2⟩;rcases this.1 with h1|h1
  ·exact h1
  ·intro uT;have:=hO b o uT;omega
def Cx.qx(X:Cx)(nx:Nat)(t:C.Ty)(e:TypeId)(c:b7)(n cp:Nat):Cx :=
 ⟨X.w.alloc (.cells c e),fun id=>if id=nx then some (.cj (.slice (some ⟨X.w.heap.size,0,none⟩) n cp) (T.dG t) X.w.heap.size 0 (cp*T.size (T.dG t)))else X.ρ id,X.O⟩
include L in
theorem G.qx{X:Cx}{h:Heap C}{nx:Nat}{lim:eL}(g:G T X h nx lim)(hn:nx<lim.top){t:C.Ty}{l:List (C.A t)}{c:b7}{e:TypeId}{cp:Nat}(dM:Bool)
 (hR:R T X false (.arr t l.length l) (c.toList.take (l.length*T.size (T.dG t)))) (nK:l.length<=cp) (hc:cp*T.size (T.dG t)<=c.size) :
 ∃X',X'.w=X.w.alloc (.cells c e)/\G T X' ((nx,.cj t dM l)::h) (nx+1) lim/\Step X nx lim X'/\R T X' false (.vs nx l.length) [.slice (some ⟨X.w.heap.size,0,none⟩) l.length cp]:=by
 let v:Value:=.slice (some ⟨X.w.heap.size,0,none⟩) l.length cp
 let lo:=if dM then 0 else l.length*T.size (T.dG t)
 let l0:Loc:=.cj v (T.dG t) X.w.heap.size lo (cp*T.size (T.dG t))
 have hl:∀b o,l0.owns b o->b=X.w.heap.size:=fun b o h=>h.1;have hO:=g.outs
 let X':Cx:=⟨X.w.alloc (.cells c e),fun id=>if id=nx then some l0 else X.ρ id,X.O⟩
 have hs:Step X nx lim X':=Step.alloc g hn c e _ hl;have nI:Ch X X' nx lim nx:=Ch.alloc g hn _ _ hl;obtain⟨m1,m2,m3⟩:=G.ky g hn (.cells c e) _ hl (.cj t dM l);obtain⟨o1,o2,o3,o4⟩:=G.ej L g nI;have hRs:R T X' false (.arr t l.length l) (c.toList.take (l.length*T.size (T.dG t))):=hR.step L hs (by simp[D.refs]);have hmul:l.length*T.size (T.dG t)<=cp*T.size (T.dG t):=Nat.mul_le_mul_right _ nK;refine⟨X',rfl,⟨?_,?_,?_,?_,m1,?_,m2,?_,fun b o ho=>bj (hO b o ho) hs.size,Nat.le_succ_of_le g.low,g.pre.step hs⟩,hs,?_⟩
 ·intro id t' d' hg;rw[Qz]at hg
  by_cases hi:id=nx
  ·simp[hi]at hg
  ·simp[hi]at hg;exact o1 id t' d' hi hg
 ·intro id t' gF l' hg;rw[Qz]at hg
  by_cases hi:id=nx
  ·simp[hi]at hg;obtain⟨rfl,rfl,hg⟩:=hg;simp at hg;subst hg;refine⟨v,X.w.heap.size,lo,cp*T.size (T.dG t),by simp[X',hi,l0],.inr ⟨0,cp,rfl,nK,by simp,?_⟩⟩;cases dM with
   |true=>exact .inl ⟨rfl,by simp[lo],.inr ⟨c,e,Zf _ _,hc,by simpa using hRs⟩⟩
   |false=>
    refine .inr ⟨rfl,by simp[lo],⟨_,?_,hRs⟩,.inr ⟨c,e,Zf _ _,hc⟩⟩;intro j u hj
    have mr:j<l.length*T.size (T.dG t):=by
     have:=(av.1 hj).1;simp at this;omega
    refine⟨?_,?_,?_⟩
    ·simp only[World.cell?,aN];rw[show X'.w.heap[X.w.heap.size]? = some (.cells c e)from Zf _ _];rw[List.getElem?_take,ax mr]at hj
     simpa using hj
    ·intro ho;have:=hO _ _ ho;omega
    ·rintro ⟨ka,l',h1,h2⟩
     by_cases ks:ka=nx
     ·simp[X',ks,l0]at h1;subst h1;simp[Loc.owns,lo]at h2;omega
     ·simp[X',ks]at h1;have:=(g.outer _ _ ⟨ka,l',h1,h2⟩).2;omega
  ·simp[hi]at hg;exact o2 id t' gF l' hi hg
 ·intro id ck cv l hg;rw[Qz]at hg
  by_cases hi:id=nx
  ·simp[hi]at hg
  ·simp[hi]at hg;exact o3 id ck cv l hi hg
 ·intro id cc hg;rw[Qz]at hg
  by_cases hi:id=nx
  ·simp[hi]at hg
  ·simp[hi]at hg;exact o4 id cc hi hg
 ·intro id o hg;rw[Qz]at hg
  by_cases hi:id=nx
  ·simp[hi]at hg;subst hg;exact⟨hi▸g.new hn,fun r fT=>by simp[Obj.refs]at fT⟩
  ·simp[hi]at hg;exact g.mz (by omega) id o hg
 ·intro b o hm;have:=m3 b o hm;refine⟨?_,this.2⟩;rcases this.1 with h1|h1
  ·exact h1
  ·intro uT;have:=hO b o uT;omega
 ·refine .vs fun v' e' b' jt ks hv=>?_;simp[X',l0]at hv;obtain⟨rfl,_⟩:=hv;exact⟨aq _,fun _=>rfl⟩
theorem G.upto{X:Cx}{h:Heap C}{nx cM:Nat}{lim:eL}(g:G T X h nx lim)(hn:nx<=cM):G T X h cM lim :=
 ⟨g.var,g.cj,g.map,g.ek,g.kg,g.mz hn,g.apart,g.outer,g.outs,bk g.low hn,g.pre⟩
include L in
theorem G.drop{X:Cx}{h h':Heap C}{nx:Nat}{lim:eL}(g:G T X h nx lim)(hh:∀id,h'.get id=h.get id\/h'.get id=none) :
 ∃X',X'.w=X.w/\G T X' h' nx lim/\Step X nx lim X'/\∀id l,X'.ρ id=some l->X.ρ id=some l:=by
 let X':Cx:=⟨X.w,fun id=>if(h'.get id).isSome then X.ρ id else none,X.O⟩
 have gu:∀b o,X'.dI b o->X.dI b o:=by
  rintro b o ⟨id,l,h1,h2⟩
  simp only[X']at h1
  split at h1
  ·exact⟨id,l,h1,h2⟩
  ·simp at h1
 have hs:Step X nx lim X':=by
  refine⟨rfl,rfl,rfl,rfl,aq _,?_,fun b o _ hm=>gu b o hm,fun _ _ _ _=>rfl,fun _ _ _=>rfl,fun _ _=>rfl⟩;intro id _;simp only[X']
  split
  ·exact .refl _
  ·cases X.ρ id<;>simp[Qo]
 refine⟨X',rfl,⟨?_,?_,?_,?_,?_,?_,?_,?_,g.outs,g.low,g.pre.step hs⟩,hs,fun id l h1=>by simp only[X']at h1;split at h1<;>simp_all⟩
 ·intro id t d ho;have gU:h.get id=some (.var t d):=by rcases hh id with e|e<;>rw[e]at ho<;>simp_all
  obtain⟨b,c,h1,h2,h3,h4⟩:=g.var id t d gU;exact⟨b,c,by simp[X',ho,h1],h2,h3.step L hs (g.eY id _ gU).2,h4⟩
 ·intro id t dM l ho;have gU:h.get id=some (.cj t dM l):=by rcases hh id with e|e<;>rw[e]at ho<;>simp_all
  obtain⟨v,b,lo,hi,h1,h2⟩:=g.cj id t dM l gU;refine⟨v,b,lo,hi,by simp[X',ho,h1],?_⟩;rcases h2 with h2|⟨off,cp,h2,h3,h4,h5⟩
  ·exact .inl h2
  ·refine .inr ⟨off,cp,h2,h3,h4,?_⟩;rcases h5 with⟨ht,gk,h5|⟨cs,e,h5,h6,h7⟩⟩|⟨ht,gk,⟨cs,h5,h6⟩,h7⟩
   ·exact .inl ⟨ht,gk,.inl h5⟩
   ·exact .inl ⟨ht,gk,.inr ⟨cs,e,h5,h6,h7.step L hs (by simp[D.refs])⟩⟩
   ·exact .inr ⟨ht,gk,⟨cs,h5.step hs,h6.step L hs (by simp[D.refs])⟩,h7⟩
 ·intro id ck cv l ho;have gU:h.get id=some (.map ck cv l):=by rcases hh id with e|e<;>rw[e]at ho<;>simp_all
  obtain⟨b,es,k,h1,h2,h3⟩:=g.map id ck cv l gU;exact⟨b,es,k,by simp[X',ho,h1],h2,h3.step L hs⟩
 ·intro id cc ho;have gU:h.get id=some (.ek cc):=by rcases hh id with e|e<;>rw[e]at ho<;>simp_all
  obtain⟨s,h1,h2⟩:=g.ek id cc gU;exact⟨s,by simp[X',ho,h1],h2.same L hs rfl⟩
 ·intro id l hr;simp only[X']at hr
  split at hr
  ·assumption
  ·simp at hr
 ·intro id o ho;have gU:h.get id=some o:=by rcases hh id with e|e<;>rw[e]at ho<;>simp_all
  exact g.eY id o gU
 ·intro id ka l l' b o o' h1 h2
  have e1:X.ρ id=some l:=by
   simp only[X']at h1
   split at h1
   ·exact h1
   ·simp at h1
  have e2:X.ρ ka=some l':=by
   simp only[X']at h2
   split at h2
   ·exact h2
   ·simp at h2
  exact g.apart id ka l l' b o o' e1 e2
 ·intro b o hm;exact g.outer b o (gu b o hm)
theorem Ym(w:World)(g:Nat)(cs:b7)(b:Nat)(h:b≠g):(w.setRow g cs).heap[b]? = w.heap[b]? := by
 simp only[World.setRow,Array.getElem?_modify];rw[aw (fun e=>h e.symm)]
theorem Qgw(w:World)(g:Nat)(cs fL:b7)(t:TypeId)(f:Nat×Nat)(hg:w.heap[g]? = some (.cells fL t f))(a:Addr):(w.setRow g cs).frozen? a=w.frozen? a:=by
 unfold World.frozen?
 by_cases h:a.block=g
 ·rw[h,setRow_heap w g fL cs t f hg,hg]
 ·rw[Ym _ _ _ _ h]
theorem LB(w:World)(g:Nat)(cs:b7):(w.setRow g cs).heap.size=w.heap.size:=by simp[World.setRow]
theorem Ch.setRow{X:Cx}{nx id:Nat}{lim:eL}{b:Nat}{c c':b7}{e:TypeId}(hb:X.w.heap[b]? = some (.cells c e (0,0)))(fN:c'.size=c.size)(l l':Loc)(hl:X.ρ id=some l)
 (hc:∀o,¬l.owns b o->c'[o]? = c[o]?) (kR:∀b o,l'.owns b o->l.owns b o) (nK:Qo (some l) (some l')) :
 Ch X ⟨X.w.setRow b c',fun j=>if j=id then some l' else X.ρ j,X.O⟩ nx lim id where
 same j hj:=by simp[hj]
 El g k u f hg:=by
  by_cases jX:g=b
  ·subst jX;rw[hb]at hg;simp at hg;obtain⟨rfl,rfl,rfl⟩:=hg;exact⟨c',setRow_heap _ _ _ _ _ _ hb,fN,fun o ho=>hc o (ho l hl)⟩
  ·exact⟨k,by rw[Ym _ _ _ _ jX];exact hg,rfl,fun _ _=>rfl⟩
 mp g o hg gT _:=by
  by_cases jX:g=b
  ·subst jX;rw[hb]at hg;cases hg;exact absurd rfl (gT _ _ _)
  ·rw[Ym _ _ _ _ jX];exact hg
 step:=by
  have hm:∀g o,Cx.dI ⟨X.w.setRow b c',fun j=>if j=id then some l' else X.ρ j,X.O⟩ g o->X.dI g o:=by
   rintro g o ⟨j,k,h1,h2⟩
   by_cases hj:j=id
   ·simp[hj]at h1;subst h1;exact⟨id,l,hl,kR g o h2⟩
   ·simp[hj]at h1;exact⟨j,k,h1,h2⟩
  refine⟨rfl,rfl,rfl,rfl,by simp[LB],?_,fun g o _=>hm g o,?_,?_,fun a _=>Qgw _ _ _ _ _ _ hb a⟩
  ·intro j _
   by_cases hj:j=id
   ·simp only[hj,aU];rw[hl];exact nK
   ·simp[hj,Qo.refl]
  ·intro g o _ gT
   by_cases jX:g=b
   ·subst jX;have:=hc o fun kI=>gT ⟨id,l,hl,kI⟩;simp only[World.cell?,setRow_heap _ _ _ _ _ _ hb,hb]
    simpa using this
   ·exact ZO (Ym _ _ _ _ jX) o
  ·intro g _ gT
   by_cases jX:g=b
   ·subst jX
    have e:c'=c:=by
     apply Array.ext';apply List.ext_getElem?;intro o;have:=hc o fun kI=>gT o ⟨id,l,hl,kI⟩
     simpa using this
    rw[setRow_heap _ _ _ _ _ _ hb,hb,e]
   ·exact Ym _ _ _ _ jX
theorem G.pF{X:Cx}{h:Heap C}{nx id:Nat}{lim:eL}(g:G T X h nx lim)(l l':Loc)(hl:X.ρ id=some l)(kR:∀b o,l'.owns b o->l.owns b o)(w':World)(hs:X.w.heap.size<=w'.heap.size)(o:Obj C) :
 let X':Cx:=⟨w',fun j=>if j=id then some l' else X.ρ j,X.O⟩
 (∀j l,X'.ρ j=some l->((h.put id o).get j).isSome=true) /\
 (∀j j' l l' b o o',X'.ρ j=some l->X'.ρ j'=some l'->l.owns b o->l'.owns b o'->j=j')/\(∀b o,X'.dI b o->¬X'.O b o/\b<X'.w.heap.size)/\(∀b o,X'.O b o->b<X'.w.heap.size):=by
 have dK:=g.kg id l hl
 have m9:∀j k b o,(if j=id then some l' else X.ρ j)=some k->k.owns b o->∃k',X.ρ j=some k'/\k'.owns b o:=by
  intro j k b o h1 h2
  by_cases hj:j=id
  ·simp[hj]at h1;subst h1;exact⟨l,by rw[hj];exact hl,kR b o h2⟩
  ·simp[hj]at h1;exact⟨k,h1,h2⟩
 refine⟨?_,?_,?_,?_⟩
 ·intro j k hr;rw[Qu dK]
  by_cases hj:j=id
  ·simp[hj]
  ·simp[hj]at hr ⊢;exact g.kg j k hr
 ·intro j j' k k' b o o' h1 h2 h3 h4;obtain⟨k1,h5,h6⟩:=m9 j k b o h1 h3;obtain⟨k2,h7,h8⟩:=m9 j' k' b o' h2 h4;exact g.apart j j' k1 k2 b o o' h5 h7 h6 h8
 ·rintro b o ⟨j,k,h1,h2⟩
  obtain⟨k1,h5,h6⟩:=m9 j k b o h1 h2;have:=g.outer b o ⟨j,k1,h5,h6⟩;exact⟨this.1,by show b<w'.heap.size;omega⟩
 ·intro b o ho;have:=g.outs b o ho;show b<w'.heap.size;omega
include L in
theorem G.zd{X:Cx}{h:Heap C}{nx id b:Nat}{lim:eL}{t:TypeId}{d d':D C}{c c':b7}(g:G T X h nx lim)(ho:h.get id=some (.var t d))(hρ:X.ρ id=some (.var b t))
 (hb:X.w.heap[b]? = some (.cells c t (0,0))) (hR:R T X false d' c'.toList) (fN:c'.size=c.size) (hf:cZ T d' (.inl t)=true) (hr:∀r∈d'.refs,fL nx lim r) :
 ∃X',X'.w=X.w.setRow b c'/\G T X' (h.put id (.var t d')) nx lim/\Step X nx lim X':=by
 have nI:Ch X ⟨X.w.setRow b c',fun j=>if j=id then some (.var b t)else X.ρ j,X.O⟩ nx lim id :=
  Ch.setRow hb fN _ _ hρ (fun o ho=>absurd rfl ho) (fun _ _ h=>h) (by simp[Qo])
 obtain⟨m1,m2,m3,m4⟩:=G.pF (h:=h) g _ (.var b t) hρ (fun _ _ h=>h) (X.w.setRow b c') (by simp[LB]) (.var t d');obtain⟨o1,o2,o3,o4⟩:=G.ej L g nI;have dK:=g.kg id _ hρ;refine⟨_,rfl,⟨?_,?_,?_,?_,m1,?_,m2,m3,m4,g.low,g.pre.step nI.step⟩,nI.step⟩
 ·intro j t' e hg;rw[Qu dK]at hg
  by_cases hj:j=id
  ·simp[hj]at hg;obtain⟨rfl,rfl⟩:=hg;exact⟨b,c',by simp[hj],setRow_heap _ _ _ _ _ _ hb,hR.step L nI.step hr,hf⟩
  ·simp[hj]at hg;exact o1 j t' e hj hg
 ·intro j t' dM l hg;rw[Qu dK]at hg
  by_cases hj:j=id
  ·simp[hj]at hg
  ·simp[hj]at hg;exact o2 j t' dM l hj hg
 ·intro j ck cv k hg;rw[Qu dK]at hg
  by_cases hj:j=id
  ·simp[hj]at hg
  ·simp[hj]at hg;exact o3 j ck cv k hj hg
 ·intro j cc hg;rw[Qu dK]at hg
  by_cases hj:j=id
  ·simp[hj]at hg
  ·simp[hj]at hg;exact o4 j cc hj hg
 ·intro j o hg;rw[Qu dK]at hg
  by_cases hj:j=id
  ·simp[hj]at hg;subst hg;exact⟨hj▸(g.eY id _ ho).1,hr⟩
  ·simp[hj]at hg;exact g.eY j o hg
end
section
variable {C:ij}{T:fA C}(L:Laws T)
include L in
theorem G.world{X:Cx}{h:Heap C}{nx:Nat}{lim:eL}(g:G T X h nx lim)(w':World)(hh:w'.heap=X.w.heap)(h1:w'.os=X.w.os)(h2:w'.tape=X.w.tape)(h3:w'.output=X.w.output) :
 G T ⟨w',X.ρ,X.O⟩ h nx lim/\Step X nx lim ⟨w',X.ρ,X.O⟩:=by
 have hs:Step X nx lim ⟨w',X.ρ,X.O⟩:=⟨rfl,h1,h2,h3,by simp[hh],fun _ _=>.refl _,fun _ _ _ hm=>hm,fun b o _ _=>by simp[World.cell?,hh],fun b _ _=>by simp[hh],fun a _=>by simp[World.frozen?,hh]⟩;have hc:∀n,Ch X ⟨w',X.ρ,X.O⟩ nx lim n:=fun n=>⟨hs,fun _ _=>rfl,fun b c e f hb=>⟨c,by simp[hh,hb],rfl,fun _ _=>rfl⟩,fun b o hb _ _=>by simp[hh,hb]⟩;refine⟨⟨?_,?_,?_,?_,g.kg,g.eY,g.apart,?_,?_,g.low,g.pre.step hs⟩,hs⟩
 ·intro id t d ho
  by_cases hi:id=0
  ·exact(G.ej L g (hc 1)).1 id t d (by omega) ho
  ·exact(G.ej L g (hc 0)).1 id t d hi ho
 ·intro id t dM l ho
  by_cases hi:id=0
  ·exact(G.ej L g (hc 1)).2.1 id t dM l (by omega) ho
  ·exact(G.ej L g (hc 0)).2.1 id t dM l hi ho
 ·intro id ck cv l ho
  by_cases hi:id=0
  ·exact(G.ej L g (hc 1)).2.2.1 id ck cv l (by omega) ho
  ·exact(G.ej L g (hc 0)).2.2.1 id ck cv l hi ho
 ·intro id cc ho
  by_cases hi:id=0
  ·exact(G.ej L g (hc 1)).2.2.2 id cc (by omega) ho
  ·exact(G.ej L g (hc 0)).2.2.2 id cc hi ho
 ·intro b o hm;simpa[hh]using g.outer b o hm
 ·intro b o hm;simpa[hh]using g.outs b o hm
include L in
theorem G.data{X:Cx}{h:Heap C}{nx:Nat}{lim:eL}(g:G T X h nx lim)(c:b7)(e:TypeId) :
 G T ⟨X.w.alloc (.cells c e),X.ρ,X.O⟩ h nx lim/\Step X nx lim ⟨X.w.alloc (.cells c e),X.ρ,X.O⟩ /\
  ∀o,Cx.free ⟨X.w.alloc (.cells c e),X.ρ,X.O⟩ X.w.heap.size o:=by
 have hs:Step X nx lim ⟨X.w.alloc (.cells c e),X.ρ,X.O⟩:=
  ⟨rfl,rfl,rfl,rfl,by simp,fun _ _=>.refl _,fun _ _ _ hm=>hm,fun b o hb _=>ZO (QD _ _ _ hb) o,fun b hb _=>QD _ _ _ hb,fun a ha=>Yy (QD _ _ _ ha)⟩
 have hc:∀n,Ch X ⟨X.w.alloc (.cells c e),X.ρ,X.O⟩ nx lim n:=fun n=>⟨hs,fun _ _=>rfl,fun b c' e' f hb=>
  ⟨c',by rw[QD _ _ _ (aI.1 hb).1];exact hb,rfl,fun _ _=>rfl⟩,fun b o hb _ _=>by rw[QD _ _ _ (aI.1 hb).1];exact hb⟩
 refine⟨⟨?_,?_,?_,?_,g.kg,g.eY,g.apart,?_,?_,g.low,g.pre.step hs⟩,hs,?_⟩
 ·intro id t d ho
  by_cases hi:id=0
  ·exact(G.ej L g (hc 1)).1 id t d (by omega) ho
  ·exact(G.ej L g (hc 0)).1 id t d hi ho
 ·intro id t dM l ho
  by_cases hi:id=0
  ·exact(G.ej L g (hc 1)).2.1 id t dM l (by omega) ho
  ·exact(G.ej L g (hc 0)).2.1 id t dM l hi ho
 ·intro id ck cv l ho
  by_cases hi:id=0
  ·exact(G.ej L g (hc 1)).2.2.1 id ck cv l (by omega) ho
  ·exact(G.ej L g (hc 0)).2.2.1 id ck cv l hi ho
 ·intro id cc ho
  by_cases hi:id=0
  ·exact(G.ej L g (hc 1)).2.2.2 id cc (by omega) ho
  ·exact(G.ej L g (hc 0)).2.2.2 id cc hi ho
 ·intro b o hm;have:=g.outer b o hm;exact⟨this.1,by simp;omega⟩
 ·intro b o hm;have:=g.outs b o hm;simp;omega
 ·intro o;refine⟨fun ho=>?_,fun hm=>?_⟩
  ·have:=g.outs _ _ ho;omega
  ·have:=(g.outer _ _ hm).2;omega
include L in
theorem G.oP{X:Cx}{h:Heap C}{nx id b lo hi jt:Nat}{lim:eL}{t:C.Ty}{dM:Bool}{l l':List (C.A t)}{v v':Value}{c c':b7}{e:TypeId}(g:G T X h nx lim)
 (ho:h.get id=some (.cj t dM l)) (hρ:X.ρ id=some (.cj v (T.dG t) b lo hi)) (hb:X.w.heap[b]? = some (.cells c e (0,0))) (fN:c'.size=c.size)
 (hc:∀o,¬(lo<=o/\o<hi)->c'[o]? = c[o]?) (gk:lo<=jt) (hlh:jt<=hi\/jt=lo) (nK:hJ v<=hJ v'/\(hJ v=hJ v'->v'=v))
 (jk:∀X':Cx,X'.w=X.w.setRow b c'->X'.O=X.O->(∀b o,X'.dI b o->X.dI b o)->(∀o,lo<=o->o<jt->¬X'.dI b o)->Step X nx lim X'->Vx T X' t dM l' v' b jt hi) :
 ∃X',X'.w=X.w.setRow b c'/\X'.ρ id=some (.cj v' (T.dG t) b jt hi)/\G T X' (h.put id (.cj t dM l')) nx lim/\Step X nx lim X':=by
 have kI:∀b o,(Loc.cj v' (T.dG t) b jt hi).owns b o->(Loc.cj v (T.dG t) b lo hi).owns b o:=fun b o h=>⟨h.1,by have:=h.2;omega,h.2.2⟩;have sU:∀g o,(Loc.cj v' (T.dG t) b jt hi).owns g o->(Loc.cj v (T.dG t) b lo hi).owns g o:=fun g o h=>⟨h.1,by have:=h.2;omega,h.2.2⟩
 have nI:Ch X ⟨X.w.setRow b c',fun j=>if j=id then some (.cj v' (T.dG t) b jt hi)else X.ρ j,X.O⟩ nx lim id :=
  Ch.setRow hb fN _ _ hρ (fun o ho=>hc o fun h=>ho ⟨rfl,h⟩) sU ⟨rfl,nK.1,nK.2⟩
 obtain⟨m1,m2,m3,m4⟩:=G.pF (h:=h) g _ (.cj v' (T.dG t) b jt hi) hρ sU (X.w.setRow b c') (by simp[LB]) (.cj t dM l');obtain⟨o1,o2,o3,o4⟩:=G.ej L g nI;have dK:=g.kg id _ hρ
 have gu:∀b' o,Cx.dI ⟨X.w.setRow b c',fun j=>if j=id then some (.cj v' (T.dG t) b jt hi)else X.ρ j,X.O⟩ b' o->X.dI b' o:=by
  rintro b' o ⟨j,k,h1,h2⟩
  by_cases hj:j=id
  ·simp[hj]at h1;subst h1;exact⟨id,_,hρ,sU _ _ h2⟩
  ·simp[hj]at h1;exact⟨j,k,h1,h2⟩
 have hV:=jk ⟨X.w.setRow b c',fun j=>if j=id then some (.cj v' (T.dG t) b jt hi)else X.ρ j,X.O⟩ rfl rfl gu (by
  rintro o h1 h2 ⟨j,k,h3,h4⟩
  by_cases hj:j=id
  ·simp[hj]at h3;subst h3;have:=h4.2;omega
  ·simp[hj]at h3;exact hj (g.apart j id _ _ b o o h3 hρ h4 ⟨rfl,h1,by omega⟩)) nI.step
 refine⟨_,rfl,by simp,⟨?_,?_,?_,?_,m1,?_,m2,m3,m4,g.low,g.pre.step nI.step⟩,nI.step⟩
 ·intro j t' e hg;rw[Qu dK]at hg
  by_cases hj:j=id
  ·simp[hj]at hg
  ·simp[hj]at hg;exact o1 j t' e hj hg
 ·intro j t' gF k hg;rw[Qu dK]at hg
  by_cases hj:j=id
  ·simp[hj]at hg;obtain⟨rfl,rfl,hg⟩:=hg;simp at hg;subst hg;exact⟨v',b,jt,hi,by simp[hj],hV⟩
  ·simp[hj]at hg;exact o2 j t' gF k hj hg
 ·intro j ck cv k hg;rw[Qu dK]at hg
  by_cases hj:j=id
  ·simp[hj]at hg
  ·simp[hj]at hg;exact o3 j ck cv k hj hg
 ·intro j cc hg;rw[Qu dK]at hg
  by_cases hj:j=id
  ·simp[hj]at hg
  ·simp[hj]at hg;exact o4 j cc hj hg
 ·intro j o hg;rw[Qu dK]at hg
  by_cases hj:j=id
  ·simp[hj]at hg;subst hg;exact⟨hj▸(g.eY id _ ho).1,by simp[Obj.refs]⟩
  ·simp[hj]at hg;exact g.eY j o hg
include L in
theorem G.Fz{X:Cx}{h:Heap C}{nx id b lo hi jt:Nat}{lim:eL}{t:C.Ty}{dM gF:Bool}{l:List (C.A t)}{v:Value}(g:G T X h nx lim)
 (ho:h.get id=some (.cj t dM l)) (hρ:X.ρ id=some (.cj v (T.dG t) b lo hi)) (gk:lo<=jt)
 (jk:∀X':Cx,X'.w=X.w->X'.O=X.O->(∀o,lo<=o->o<jt->o<hi->¬X'.dI b o)->Step X nx lim X'->Vx T X' t gF l v b jt hi) :
 ∃X',X'.w=X.w/\X'.ρ id=some (.cj v (T.dG t) b jt hi)/\G T X' (h.put id (.cj t gF l)) nx lim/\Step X nx lim X'/\Vx T X' t gF l v b jt hi:=by
 let X':Cx:=⟨X.w,fun j=>if j=id then some (.cj v (T.dG t) b jt hi)else X.ρ j,X.O⟩
 have gu:∀b' o,X'.dI b' o->X.dI b' o:=by
  rintro b' o ⟨j,k,h1,h2⟩
  by_cases hj:j=id
  ·simp[X',hj]at h1;subst h1;exact⟨id,_,hρ,h2.1,by have:=h2.2.1;omega,h2.2.2⟩
  ·simp[X',hj]at h1;exact⟨j,k,h1,h2⟩
 have hs:Step X nx lim X':=by
  refine⟨rfl,rfl,rfl,rfl,aq _,?_,fun b' o _ hm=>gu b' o hm,fun _ _ _ _=>rfl,fun _ _ _=>rfl,fun _ _=>rfl⟩;intro j _
  by_cases hj:j=id
  ·simp only[X',hj,aU];rw[hρ];exact⟨rfl,aq _,fun _=>rfl⟩
  ·simp[X',hj,Qo.refl]
 have nI:Ch X X' nx lim id:=⟨hs,fun j hj=>by simp[X',hj],fun b c' e' f hb=>⟨c',hb,rfl,fun _ _=>rfl⟩,fun b o hb _ _=>hb⟩;obtain⟨o1,o2,o3,o4⟩:=G.ej L g nI;have dK:=g.kg id _ hρ
 have hV:=jk X' rfl rfl (by
  rintro o h1 h2 h5 ⟨j,k,h3,h4⟩
  by_cases hj:j=id
  ·simp[X',hj]at h3;subst h3;have:=h4.2.1;omega
  ·simp[X',hj]at h3;exact hj (g.apart j id _ _ b o o h3 hρ h4 ⟨rfl,h1,h5⟩)) hs
 refine⟨X',rfl,by simp[X'],⟨?_,?_,?_,?_,?_,?_,?_,?_,?_,g.low,g.pre.step hs⟩,hs,hV⟩
 ·intro j t' e hg;rw[Qu dK]at hg
  by_cases hj:j=id
  ·simp[hj]at hg
  ·simp[hj]at hg;exact o1 j t' e hj hg
 ·intro j t' gF k hg;rw[Qu dK]at hg
  by_cases hj:j=id
  ·simp[hj]at hg;obtain⟨rfl,rfl,hg⟩:=hg;simp at hg;subst hg;exact⟨v,b,jt,hi,by simp[X',hj],hV⟩
  ·simp[hj]at hg;exact o2 j t' gF k hj hg
 ·intro j ck cv k hg;rw[Qu dK]at hg
  by_cases hj:j=id
  ·simp[hj]at hg
  ·simp[hj]at hg;exact o3 j ck cv k hj hg
 ·intro j cc hg;rw[Qu dK]at hg
  by_cases hj:j=id
  ·simp[hj]at hg
  ·simp[hj]at hg;exact o4 j cc hj hg
 ·intro j k hr;rw[Qu dK]
  by_cases hj:j=id
  ·simp[hj]
  ·simp[X',hj]at hr ⊢;exact g.kg j k hr
 ·intro j o hg;rw[Qu dK]at hg
  by_cases hj:j=id
  ·simp[hj]at hg;subst hg;exact⟨hj▸(g.eY id _ ho).1,by simp[Obj.refs]⟩
  ·simp[hj]at hg;exact g.eY j o hg
 ·intro j j' k k' b' o o' h1 h2 h3 h4
  have up:∀j k,X'.ρ j=some k->∀b o,k.owns b o->∃k0,X.ρ j=some k0/\k0.owns b o:=by
   intro j k h1 b0 o h2
   by_cases hj:j=id
   ·simp[X',hj]at h1;subst h1;exact⟨.cj v (T.dG t) b lo hi,hj▸hρ,show b0=b/\lo<=o/\o<hi from⟨h2.1,by have:=h2.2.1;omega,h2.2.2⟩⟩
   ·simp[X',hj]at h1;exact⟨k,h1,h2⟩
  obtain⟨k0,q1,q2⟩:=up j k h1 b' o h3;obtain⟨k1,q3,q4⟩:=up j' k' h2 b' o' h4;exact g.apart j j' k0 k1 b' o o' q1 q3 q2 q4
 ·intro b' o hm;exact g.outer b' o (gu b' o hm)
 ·intro b' o ho;exact g.outs b' o ho
include L in
theorem G.vz{X:Cx}{h:Heap C}{nx id b lo hi jt ks:Nat}{lim:eL}{t:C.Ty}{dM gF:Bool}{l l':List (C.A t)}{v v':Value}{c:b7}{e:TypeId}(g:G T X h nx lim)
 (ho:h.get id=some (.cj t dM l)) (hρ:X.ρ id=some (.cj v (T.dG t) b lo hi)) (nK:hJ v<=hJ v'/\(hJ v=hJ v'->v'=v))
 (jk:∀X':Cx,X'.w=X.w.alloc (.cells c e)->X'.O=X.O->(∀o,o<jt->¬X'.dI X.w.heap.size o)->(∀o,¬X'.O X.w.heap.size o)->Step X nx lim X'->Vx T X' t gF l' v' X.w.heap.size jt ks) :
 ∃X',X'.w=X.w.alloc (.cells c e)/\X'.ρ id=some (.cj v' (T.dG t) X.w.heap.size jt ks)/\G T X' (h.put id (.cj t gF l')) nx lim/\Step X nx lim X':=by
 let X':Cx:=⟨X.w.alloc (.cells c e),fun j=>if j=id then some (.cj v' (T.dG t) X.w.heap.size jt ks)else X.ρ j,X.O⟩
 have gu:∀b' o,X'.dI b' o->X.dI b' o\/(b'=X.w.heap.size/\jt<=o):=by
  rintro b' o ⟨j,k,h1,h2⟩
  by_cases hj:j=id
  ·simp[X',hj]at h1;subst h1;exact .inr ⟨h2.1,h2.2.1⟩
  ·simp[X',hj]at h1;exact .inl ⟨j,k,h1,h2⟩
 have hs:Step X nx lim X':=by
  refine⟨rfl,rfl,rfl,rfl,by simp[X'],?_,?_,fun b o hb _=>ZO (QD _ _ _ hb) o,fun b hb _=>QD _ _ _ hb,fun a ha=>Yy (QD _ _ _ ha)⟩
  ·intro j _
   by_cases hj:j=id
   ·simp only[X',hj,aU];rw[hρ];exact⟨rfl,nK.1,nK.2⟩
   ·simp[X',hj,Qo.refl]
  ·intro b' o jV hm;rcases gu b' o hm with h1|h1
   ·exact h1
   ·omega
 have nI:Ch X X' nx lim id:=⟨hs,fun j hj=>by simp[X',hj],fun b c' e' f hb=>⟨c',by show(X.w.alloc _).heap[b]? = _;rw[QD _ _ _ (aI.1 hb).1];exact hb,rfl,fun _ _=>rfl⟩,fun b o hb _ _=>by show(X.w.alloc _).heap[b]? = _;rw[QD _ _ _ (aI.1 hb).1];exact hb⟩;obtain⟨o1,o2,o3,o4⟩:=G.ej L g nI;have dK:=g.kg id _ hρ
 have hV:=jk X' rfl rfl (by
  intro o h1 hm;rcases gu _ o hm with h2|h2
  ·have:=(g.outer _ _ h2).2;omega
  ·omega) (fun o ho=>by have:=g.outs _ _ ho;omega) hs
 refine⟨X',rfl,by simp[X'],⟨?_,?_,?_,?_,?_,?_,?_,?_,?_,g.low,g.pre.step hs⟩,hs⟩
 ·intro j t' e hg;rw[Qu dK]at hg
  by_cases hj:j=id
  ·simp[hj]at hg
  ·simp[hj]at hg;exact o1 j t' e hj hg
 ·intro j t' gF k hg;rw[Qu dK]at hg
  by_cases hj:j=id
  ·simp[hj]at hg;obtain⟨rfl,rfl,hg⟩:=hg;simp at hg;subst hg;exact⟨v',X.w.heap.size,jt,ks,by simp[X',hj],hV⟩
  ·simp[hj]at hg;exact o2 j t' gF k hj hg
 ·intro j ck cv k hg;rw[Qu dK]at hg
  by_cases hj:j=id
  ·simp[hj]at hg
  ·simp[hj]at hg;exact o3 j ck cv k hj hg
 ·intro j cc hg;rw[Qu dK]at hg
  by_cases hj:j=id
  ·simp[hj]at hg
  ·simp[hj]at hg;exact o4 j cc hj hg
 ·intro j k hr;rw[Qu dK]
  by_cases hj:j=id
  ·simp[hj]
  ·simp[X',hj]at hr ⊢;exact g.kg j k hr
 ·intro j o hg;rw[Qu dK]at hg
  by_cases hj:j=id
  ·simp[hj]at hg;subst hg;exact⟨hj▸(g.eY id _ ho).1,by simp[Obj.refs]⟩
  ·simp[hj]at hg;exact g.eY j o hg
 ·intro j j' k k' b' o o' h1 h2 h3 h4
  by_cases hj:j=id<;>by_cases mr:j'=id
  ·rw[hj,mr]
  ·simp[X',hj]at h1;simp[X',mr]at h2;subst h1;have h5:=h3.1;have:=(g.outer b' o' ⟨j',k',h2,h4⟩).2;omega
  ·simp[X',hj]at h1;simp[X',mr]at h2;subst h2;have h5:=h4.1;have:=(g.outer b' o ⟨j,k,h1,h3⟩).2;omega
  ·simp[X',hj]at h1;simp[X',mr]at h2;exact g.apart j j' k k' b' o o' h1 h2 h3 h4
 ·intro b' o hm;rcases gu b' o hm with h1|h1
  ·have:=g.outer b' o h1;exact⟨this.1,by simp[X'];omega⟩
  ·refine⟨fun ho=>?_,by simp[X'];omega⟩;have:=g.outs b' o ho;omega
 ·intro b' o ho;have:=g.outs b' o ho;simp[X'];omega
theorem Zs(w:World)(b:Nat)(o:Go.Obj)(j:Nat)(h:j≠b):({ w with heap:=w.heap.setIfInBounds b o }:World).heap[j]? = w.heap[j]? := by
 simp[Array.getElem?_setIfInBounds,Ne.symm h]
theorem KA(w:World)(b:Nat)(o o':Go.Obj)(h:w.heap[b]? = some o'):({ w with heap:=w.heap.setIfInBounds b o }:World).heap[b]? = some o:=by
 have:=(aI.1 h).1;simp[Array.getElem?_setIfInBounds,this]
include L in
theorem G.yY{X:Cx}{h:Heap C}{nx:Nat}{lim:eL}(g:G T X h nx lim)(hn:nx<lim.top)(ck cv:C.Ty) :
 ∃X',X'.w=X.w.alloc (.map #[] 0)/\G T X' ((nx,.map ck cv [])::h) (nx+1) lim/\Step X nx lim X'/\R T X' false (.mp nx) [.map (some X.w.heap.size)]:=by
 have hl:∀b o,(Loc.map X.w.heap.size).owns b o->b=X.w.heap.size:=fun b o h=>h;have hO:=g.outs
 let X':Cx:=⟨X.w.alloc (.map #[] 0),fun id=>if id=nx then some (.map X.w.heap.size)else X.ρ id,X.O⟩
 have hs:Step X nx lim X':=Step.oq g hn (.map #[] 0) _ hl;have hc:Ch X X' nx lim nx:=Ch.alloc g hn (.map #[] 0) _ hl;obtain⟨m1,m2,m3⟩:=G.ky g hn (.map #[] 0) _ hl (.map ck cv []);obtain⟨o1,o2,o3,o4⟩:=G.ej L g hc;refine⟨X',rfl,⟨?_,?_,?_,?_,m1,?_,m2,?_,fun b o ho=>bj (hO b o ho) hs.size,Nat.le_succ_of_le g.low,g.pre.step hs⟩,hs,?_⟩
 ·intro id t' d' hg;rw[Qz]at hg
  by_cases hi:id=nx
  ·simp[hi]at hg
  ·simp[hi]at hg;exact o1 id t' d' hi hg
 ·intro id t' dM l hg;rw[Qz]at hg
  by_cases hi:id=nx
  ·simp[hi]at hg
  ·simp[hi]at hg;exact o2 id t' dM l hi hg
 ·intro id ly kM l hg;rw[Qz]at hg
  by_cases hi:id=nx
  ·simp[hi]at hg;obtain⟨rfl,rfl,hg⟩:=hg;simp at hg;subst hg;exact⟨X.w.heap.size,#[],0,by simp[X',hi],Zf _ _,.nil _ _ _ _ _⟩
  ·simp[hi]at hg;exact o3 id ly kM l hi hg
 ·intro id cc hg;rw[Qz]at hg
  by_cases hi:id=nx
  ·simp[hi]at hg
  ·simp[hi]at hg;exact o4 id cc hi hg
 ·intro id o hg;rw[Qz]at hg
  by_cases hi:id=nx
  ·simp[hi]at hg;subst hg;exact⟨hi▸g.new hn,fun r fT=>by simp[Obj.refs]at fT⟩
  ·simp[hi]at hg;exact g.mz (by omega) id o hg
 ·intro b o hm;have:=m3 b o hm;refine⟨?_,this.2⟩;rcases this.1 with h1|h1
  ·exact h1
  ·intro uT;have:=hO b o uT;omega
 ·refine .mp fun b' hv=>?_;simp[X']at hv;exact hv.symm
include L in
theorem G.oO{X:Cx}{h:Heap C}{nx id b:Nat}{lim:eL}{ck cv:C.Ty}{l l':List (C.A ck×C.A cv)}{es wG:eB}{k k':Nat}(g:G T X h nx lim)
 (ho:h.get id=some (.map ck cv l)) (hρ:X.ρ id=some (.map b)) (hb:X.w.heap[b]? = some (.map es k)) (hE:J1 T X ck cv l' wG k') :
 ∃X',X'.w={ X.w with heap:=X.w.heap.setIfInBounds b (.map wG k') }/\G T X' (h.put id (.map ck cv l')) nx lim/\Step X nx lim X':=by
 let X':Cx:=⟨{ X.w with heap:=X.w.heap.setIfInBounds b (.map wG k') },X.ρ,X.O⟩
 have jV:∀o,X.dI b o:=fun o=>⟨id,_,hρ,rfl⟩
 have hs:Step X nx lim X':=by
  refine⟨rfl,rfl,rfl,rfl,by simp[X'],fun _ _=>.refl _,fun _ _ _ hm=>hm,fun g o _ gT=>?_,fun g _ gT=>?_,fun a ha=>?_⟩
  ·have jX:g≠b:=fun e=>gT (e▸jV o);exact ZO (Zs _ _ _ _ jX) o
  ·have jX:g≠b:=fun e=>gT 0 (e▸jV 0);exact Zs _ _ _ _ jX
  ·by_cases jX:a.block=b
   ·unfold World.frozen?;rw[jX,show X'.w.heap[b]? = _ from KA _ _ _ _ hb,hb]
   ·exact Yy (Zs _ _ _ _ jX)
 have nI:Ch X X' nx lim id:=by
  refine⟨hs,fun _ _=>rfl,fun g c e f hg=>?_,fun g o2 hg _ gT=>?_⟩
  ·have jX:g≠b:=by rintro rfl;rw[hb]at hg;cases hg
   exact⟨c,by rw[show X'.w.heap[g]? = _ from Zs _ _ _ _ jX];exact hg,rfl,fun _ _=>rfl⟩
  ·have jX:g≠b:=by rintro rfl;exact gT _ hρ rfl
   rw[show X'.w.heap[g]? = _ from Zs _ _ _ _ jX];exact hg
 obtain⟨o1,o2,o3,o4⟩:=G.ej L g nI;have dK:=g.kg id _ hρ;refine⟨X',rfl,⟨?_,?_,?_,?_,?_,?_,g.apart,fun b o hm=>⟨(g.outer b o hm).1,?_⟩,fun b o hm=>?_,g.low,g.pre.step hs⟩,hs⟩
 ·intro j t' e hg;rw[Qu dK]at hg
  by_cases hj:j=id
  ·simp[hj]at hg
  ·simp[hj]at hg;exact o1 j t' e hj hg
 ·intro j t' gF k hg;rw[Qu dK]at hg
  by_cases hj:j=id
  ·simp[hj]at hg
  ·simp[hj]at hg;exact o2 j t' gF k hj hg
 ·intro j ly kM k hg;rw[Qu dK]at hg
  by_cases hj:j=id
  ·simp[hj]at hg;obtain⟨rfl,rfl,hg⟩:=hg;simp at hg;subst hg;exact⟨b,wG,k',by simp[X',hj,hρ],KA _ _ _ _ hb,hE.step L hs⟩
  ·simp[hj]at hg;exact o3 j ly kM k hj hg
 ·intro j cc hg;rw[Qu dK]at hg
  by_cases hj:j=id
  ·simp[hj]at hg
  ·simp[hj]at hg;exact o4 j cc hj hg
 ·intro j k hr;rw[Qu dK]
  by_cases hj:j=id
  ·simp[hj]
  ·simp[hj];exact g.kg j k hr
 ·intro j o hg;rw[Qu dK]at hg
  by_cases hj:j=id
  ·simp[hj]at hg;subst hg;exact⟨hj▸(g.eY id _ ho).1,by simp[Obj.refs]⟩
  ·simp[hj]at hg;exact g.eY j o hg
 ·have:=(g.outer b o hm).2;simp[X'];exact this
 ·have:=g.outs b o hm;simp[X'];exact this
include L in
theorem G.Fv{X:Cx}{h:Heap C}{nx:Nat}{lim:eL}(g:G T X h nx lim)(hn:nx<lim.top)(rec:Loop)(ex:Nat)(eI:rec.state=.ready)(hp:rec.pending=none) :
 ∃X',X'.w=X.w.alloc (.loop rec)/\X'.O=X.O/\X'.ρ nx=some (.ek (.lp X.w.heap.size rec))/\G T X' ((nx,.ek (.lp false false ex))::h) (nx+1) lim/\Step X nx lim X':=by
 have hl:∀b o,(Loc.ek (.lp X.w.heap.size rec)).owns b o->b=X.w.heap.size:=fun b o h=>h;have hO:=g.outs
 let X':Cx:=⟨X.w.alloc (.loop rec),fun id=>if id=nx then some (.ek (.lp X.w.heap.size rec))else X.ρ id,X.O⟩
 have hs:Step X nx lim X':=Step.oq g hn (.loop rec) _ hl;have hc:Ch X X' nx lim nx:=Ch.alloc g hn (.loop rec) _ hl;obtain⟨m1,m2,m3⟩:=G.ky g hn (.loop rec) _ hl (.ek (.lp false false ex));obtain⟨o1,o2,o3,o4⟩:=G.ej L g hc;refine⟨X',rfl,rfl,by simp[X'],⟨?_,?_,?_,?_,m1,?_,m2,?_,fun b o ho=>bj (hO b o ho) hs.size,Nat.le_succ_of_le g.low,g.pre.step hs⟩,hs⟩
 ·intro id t' d' hg;rw[Qz]at hg
  by_cases hi:id=nx
  ·simp[hi]at hg
  ·simp[hi]at hg;exact o1 id t' d' hi hg
 ·intro id t' dM l hg;rw[Qz]at hg
  by_cases hi:id=nx
  ·simp[hi]at hg
  ·simp[hi]at hg;exact o2 id t' dM l hi hg
 ·intro id ly kM l hg;rw[Qz]at hg
  by_cases hi:id=nx
  ·simp[hi]at hg
  ·simp[hi]at hg;exact o3 id ly kM l hi hg
 ·intro id cc hg;rw[Qz]at hg
  by_cases hi:id=nx
  ·simp[hi]at hg;subst hg;refine⟨.lp X.w.heap.size rec,by simp[X',hi],none,?_,fun _=>rfl,fun h=>by cases h⟩;show(X.w.alloc (.loop rec)).heap[X.w.heap.size]? = _;rw[Zf]
   have:({ rec with state:=oI false false,pending:=none }:Loop)=rec:=by
    show({ rec with state:=LoopState.ready,pending:=none }:Loop)=rec;rw[<-eI,<-hp]
   rw[this]
  ·simp[hi]at hg;exact o4 id cc hi hg
 ·intro id o hg;rw[Qz]at hg
  by_cases hi:id=nx
  ·simp[hi]at hg;subst hg;exact⟨hi▸g.new hn,fun r fT=>by simp[Obj.refs]at fT⟩
  ·simp[hi]at hg;exact g.mz (by omega) id o hg
 ·intro b o hm;have:=m3 b o hm;refine⟨?_,this.2⟩;rcases this.1 with h1|h1
  ·exact h1
  ·intro uT;have:=hO b o uT;omega
include L in
theorem G.tM{X:Cx}{h:Heap C}{nx id b:Nat}{lim:eL}{rec:Loop}{cc:rN C}{busy dn:Bool}{ex:Nat}{o0:Go.Obj}{pend:Option Code}(g:G T X h nx lim)
 (ho:h.get id=some (.ek cc)) (hρ:X.ρ id=some (.ek (.lp b rec))) (hb:X.w.heap[b]? = some o0) (hn:∀c e f,o0 ≠ .cells c e f) (hp:(dn=false->pend=none)/\(dn=true->pend=some (.exit ex))) :
 ∃X',X'.w={ X.w with heap:=X.w.heap.setIfInBounds b (.loop { rec with state:=oI busy dn,pending:=pend }) }/\X'.ρ=X.ρ/\G T X' (h.put id (.ek (.lp busy dn ex))) nx lim/\Step X nx lim X':=by
 let X':Cx:=⟨{ X.w with heap:=X.w.heap.setIfInBounds b (.loop { rec with state:=oI busy dn,pending:=pend }) },X.ρ,X.O⟩
 have jV:∀o,X.dI b o:=fun o=>⟨id,_,hρ,rfl⟩
 have hs:Step X nx lim X':=by
  refine⟨rfl,rfl,rfl,rfl,by simp[X'],fun _ _=>.refl _,fun _ _ _ hm=>hm,fun g o _ gT=>?_,fun g _ gT=>?_,fun a ha=>?_⟩
  ·have jX:g≠b:=fun e=>gT (e▸jV o);exact ZO (Zs _ _ _ _ jX) o
  ·have jX:g≠b:=fun e=>gT 0 (e▸jV 0);exact Zs _ _ _ _ jX
  ·by_cases jX:a.block=b
   ·unfold World.frozen?;rw[jX,show X'.w.heap[b]? = _ from KA _ _ _ _ hb,hb];cases o0<;>first|rfl|exact absurd rfl (hn _ _ _)
   ·exact Yy (Zs _ _ _ _ jX)
 have nI:Ch X X' nx lim id:=by
  refine⟨hs,fun _ _=>rfl,fun g c e f hg=>?_,fun g o2 hg _ gT=>?_⟩
  ·have jX:g≠b:=by rintro rfl;rw[hb]at hg;cases hg;exact hn _ _ _ rfl
   exact⟨c,by rw[show X'.w.heap[g]? = _ from Zs _ _ _ _ jX];exact hg,rfl,fun _ _=>rfl⟩
  ·have jX:g≠b:=by rintro rfl;exact gT _ hρ rfl
   rw[show X'.w.heap[g]? = _ from Zs _ _ _ _ jX];exact hg
 obtain⟨o1,o2,o3,o4⟩:=G.ej L g nI;have dK:=g.kg id _ hρ;refine⟨X',rfl,rfl,⟨?_,?_,?_,?_,?_,?_,g.apart,fun b o hm=>⟨(g.outer b o hm).1,?_⟩,fun b o hm=>?_,g.low,g.pre.step hs⟩,hs⟩
 ·intro j t' e hg;rw[Qu dK]at hg
  by_cases hj:j=id
  ·simp[hj]at hg
  ·simp[hj]at hg;exact o1 j t' e hj hg
 ·intro j t' gF k hg;rw[Qu dK]at hg
  by_cases hj:j=id
  ·simp[hj]at hg
  ·simp[hj]at hg;exact o2 j t' gF k hj hg
 ·intro j ly kM k hg;rw[Qu dK]at hg
  by_cases hj:j=id
  ·simp[hj]at hg
  ·simp[hj]at hg;exact o3 j ly kM k hj hg
 ·intro j c2 hg;rw[Qu dK]at hg
  by_cases hj:j=id
  ·simp[hj]at hg;subst hg;exact⟨.lp b rec,by simp[X',hj,hρ],pend,KA _ _ _ _ hb,hp⟩
  ·simp[hj]at hg;exact o4 j c2 hj hg
 ·intro j k hr;rw[Qu dK]
  by_cases hj:j=id
  ·simp[hj]
  ·simp[hj];exact g.kg j k hr
 ·intro j o hg;rw[Qu dK]at hg
  by_cases hj:j=id
  ·simp[hj]at hg;subst hg;exact⟨hj▸(g.eY id _ ho).1,by simp[Obj.refs]⟩
  ·simp[hj]at hg;exact g.eY j o hg
 ·have:=(g.outer b o hm).2;simp[X'];exact this
 ·have:=g.outs b o hm;simp[X'];exact this
include L in
theorem G.FH{X:Cx}{h:Heap C}{nx id bm r:Nat}{lim:eL}{cc:rN C}{o0 ob:Go.Obj}{c2:rN C}(g:G T X h nx lim)
 (ho:h.get id=some (.ek cc)) (hρ:X.ρ id=some (.ek (.it bm r))) (hb:X.w.heap[r]? = some o0) (hn:∀c e f,o0 ≠ .cells c e f) (ng:∀c e f,ob ≠ .cells c e f)
 (jk:∀X':Cx,X'.w={ X.w with heap:=X.w.heap.setIfInBounds r ob }->Step X nx lim X'->uG T X' c2 (.it bm r)) :
 ∃X',X'.w={ X.w with heap:=X.w.heap.setIfInBounds r ob }/\X'.ρ=X.ρ/\G T X' (h.put id (.ek c2)) nx lim/\Step X nx lim X':=by
 let X':Cx:=⟨{ X.w with heap:=X.w.heap.setIfInBounds r ob },X.ρ,X.O⟩
 have jV:∀o,X.dI r o:=fun o=>⟨id,_,hρ,.inr rfl⟩
 have hs:Step X nx lim X':=by
  refine⟨rfl,rfl,rfl,rfl,by simp[X'],fun _ _=>.refl _,fun _ _ _ hm=>hm,fun g o _ gT=>?_,fun g _ gT=>?_,fun a ha=>?_⟩
  ·have jX:g≠r:=fun e=>gT (e▸jV o);exact ZO (Zs _ _ _ _ jX) o
  ·have jX:g≠r:=fun e=>gT 0 (e▸jV 0);exact Zs _ _ _ _ jX
  ·by_cases jX:a.block=r
   ·unfold World.frozen?;rw[jX,show X'.w.heap[r]? = _ from KA _ _ _ _ hb,hb];cases o0<;>cases ob<;>first|rfl|exact absurd rfl (hn _ _ _)|exact absurd rfl (ng _ _ _)
   ·exact Yy (Zs _ _ _ _ jX)
 have nI:Ch X X' nx lim id:=by
  refine⟨hs,fun _ _=>rfl,fun g c e f hg=>?_,fun g o2 hg _ gT=>?_⟩
  ·have jX:g≠r:=by rintro rfl;rw[hb]at hg;cases hg;exact hn _ _ _ rfl
   exact⟨c,by rw[show X'.w.heap[g]? = _ from Zs _ _ _ _ jX];exact hg,rfl,fun _ _=>rfl⟩
  ·have jX:g≠r:=by rintro rfl;exact gT _ hρ (.inr rfl)
   rw[show X'.w.heap[g]? = _ from Zs _ _ _ _ jX];exact hg
 obtain⟨o1,o2,o3,o4⟩:=G.ej L g nI;have dK:=g.kg id _ hρ;refine⟨X',rfl,rfl,⟨?_,?_,?_,?_,?_,?_,g.apart,fun b o hm=>⟨(g.outer b o hm).1,?_⟩,fun b o hm=>?_,g.low,g.pre.step hs⟩,hs⟩
 ·intro j t' e hg;rw[Qu dK]at hg
  by_cases hj:j=id
  ·simp[hj]at hg
  ·simp[hj]at hg;exact o1 j t' e hj hg
 ·intro j t' gF k hg;rw[Qu dK]at hg
  by_cases hj:j=id
  ·simp[hj]at hg
  ·simp[hj]at hg;exact o2 j t' gF k hj hg
 ·intro j ly kM k hg;rw[Qu dK]at hg
  by_cases hj:j=id
  ·simp[hj]at hg
  ·simp[hj]at hg;exact o3 j ly kM k hj hg
 ·intro j c3 hg;rw[Qu dK]at hg
  by_cases hj:j=id
  ·simp[hj]at hg;subst hg;exact⟨.it bm r,by simp[X',hj,hρ],jk X' rfl hs⟩
  ·simp[hj]at hg;exact o4 j c3 hj hg
 ·intro j k hr;rw[Qu dK]
  by_cases hj:j=id
  ·simp[hj]
  ·simp[hj];exact g.kg j k hr
 ·intro j o hg;rw[Qu dK]at hg
  by_cases hj:j=id
  ·simp[hj]at hg;subst hg;exact⟨hj▸(g.eY id _ ho).1,by simp[Obj.refs]⟩
  ·simp[hj]at hg;exact g.eY j o hg
 ·have:=(g.outer b o hm).2;simp[X'];exact this
 ·have:=g.outs b o hm;simp[X'];exact this
include L in
theorem G.Fu{X:Cx}{h:Heap C}{nx id b:Nat}{lim:eL}{ck cv:C.Ty}{l:List (C.A ck×C.A cv)}{es:eB}{k:Nat}(g:G T X h nx lim)(hn:nx<lim.top)
 (ho:h.get id=some (.map ck cv l)) (hρ:X.ρ id=some (.map b)) (hb:X.w.heap[b]? = some (.map es k)) (hE:J1 T X ck cv l es k) :
 ∃X',X'.w=X.w.alloc (.mapIter (some b) k #[] k)/\G T X' ((nx,.ek (.it ck cv l))::h.del id) (nx+1) lim/\Step X nx lim X'/\R T X' false (.ku nx) [.pointer (some ⟨X.w.heap.size,0,none⟩)]:=by
 let ob:Go.Obj:=.mapIter (some b) k #[] k
 let X':Cx:=⟨X.w.alloc ob,fun j=>if j=nx then some (.ek (.it b X.w.heap.size))else if j=id then none else X.ρ j,X.O⟩
 have cY:b<X.w.heap.size:=(aI.1 hb).1;have yr:id≠nx:=by rintro rfl;rw[g.fresh hn]at hρ;cases hρ
 have gu:∀b' o,X'.dI b' o->X.dI b' o\/b'=X.w.heap.size:=by
  rintro b' o ⟨j,l',h1,h2⟩
  by_cases hj:j=nx
  ·simp[X',hj]at h1;subst h1;rcases h2 with h2|h2
   ·exact .inl ⟨id,_,hρ,h2⟩
   ·exact .inr h2
  ·by_cases kH:j=id
   ·simp only[X',hj,kH,yr,aL,aU]at h1;cases h1
   ·simp only[X',hj,kH,aL]at h1;exact .inl ⟨j,l',h1,h2⟩
 have hs:Step X nx lim X':=by
  refine⟨rfl,rfl,rfl,rfl,by simp[X'],?_,?_,fun b o hb _=>ZO (QD _ _ _ hb) o,fun b hb _=>QD _ _ _ hb,fun a ha=>Yy (QD _ _ _ ha)⟩
  ·intro j gU;have hj:j≠nx:=by have:=gU.1;omega
   by_cases kH:j=id
   ·simp only[X',hj,kH,yr,aL,aU];cases X.ρ id<;>simp[Qo]
   ·simp[X',hj,kH,Qo.refl]
  ·intro b' o jV hm;rcases gu b' o hm with h1|h1
   ·exact h1
   ·omega
 have gD:∀b',b'<X.w.heap.size->X'.w.heap[b']? = X.w.heap[b']? := fun b' jV=>QD _ _ _ jV;have nI:Ch X X' nx lim nx->True:=fun _=>trivial;have sub:∀j,j≠nx->j≠id->X'.ρ j=X.ρ j:=fun j h1 h2=>by simp[X',h1,h2]
 obtain⟨gd,H9⟩:∃X0:Cx,X0=⟨X.w,fun j=>if j=id then none else X.ρ j,X.O⟩:=⟨_,rfl⟩
 -- vI aaf tw is aab up,a new block is made
 obtain⟨X1,w1,g1,s1,m9⟩:=G.drop L g (h':=h.del id) (fun j=>by rw[Zp];by_cases hj:j=id<;>simp[hj])
 have qn:X1.ρ id=none:=by
  cases hq:X1.ρ id with
  |none=>rfl
  |some l'=>
   have:=g1.kg id l' hq;rw[Zp]at this;simp at this
 have hO1:X1.O=X.O:=s1.O;refine⟨X',rfl,⟨?_,?_,?_,?_,?_,?_,?_,?_,?_,Nat.le_succ_of_le g.low,g.pre.step hs⟩,hs,?_⟩
 ·intro j t' d' hg;rw[Qz]at hg
  by_cases hj:j=nx
  ·simp[hj]at hg
  ·simp only[hj,aL]at hg;rw[Zp]at hg
   by_cases kH:j=id
   ·simp[kH]at hg
   ·simp only[kH,aL]at hg;obtain⟨b',c,h1,h2,h3,h4⟩:=g.var j t' d' hg;exact⟨b',c,by rw[sub j hj kH];exact h1,by rw[gD b' (aI.1 h2).1];exact h2,h3.step L hs (g.eY j _ hg).2,h4⟩
 ·intro j t' dM l' hg;rw[Qz]at hg
  by_cases hj:j=nx
  ·simp[hj]at hg
  ·simp only[hj,aL]at hg;rw[Zp]at hg
   by_cases kH:j=id
   ·simp[kH]at hg
   ·simp only[kH,aL]at hg;obtain⟨v,b',lo,hi,h1,h2⟩:=g.cj j t' dM l' hg;refine⟨v,b',lo,hi,by rw[sub j hj kH];exact h1,?_⟩;rcases h2 with h2|⟨off,cp,h2,h3,h4,h5⟩
    ·exact .inl h2
    ·refine .inr ⟨off,cp,h2,h3,h4,?_⟩;rcases h5 with⟨ht,gk,h5|⟨cs,e,h5,h6,h7⟩⟩|⟨ht,gk,⟨cs,h5,h6⟩,h7⟩
     ·exact .inl ⟨ht,gk,.inl h5⟩
     ·exact .inl ⟨ht,gk,.inr ⟨cs,e,by rw[gD b' (aI.1 h5).1];exact h5,h6,h7.step L hs (by simp[D.refs])⟩⟩
     ·refine .inr ⟨ht,gk,⟨cs,h5.step hs,h6.step L hs (by simp[D.refs])⟩,?_⟩;rcases h7 with h7|⟨c0,e,h7,h8⟩
      ·exact .inl h7
      ·exact .inr ⟨c0,e,by rw[gD b' (aI.1 h7).1];exact h7,h8⟩
 ·intro j ly kM l' hg;rw[Qz]at hg
  by_cases hj:j=nx
  ·simp[hj]at hg
  ·simp only[hj,aL]at hg;rw[Zp]at hg
   by_cases kH:j=id
   ·simp[kH]at hg
   ·simp only[kH,aL]at hg;obtain⟨b',wG,k',h1,h2,h3⟩:=g.map j ly kM l' hg;exact⟨b',wG,k',by rw[sub j hj kH];exact h1,by rw[gD b' (aI.1 h2).1];exact h2,h3.step L hs⟩
 ·intro j cc hg;rw[Qz]at hg
  by_cases hj:j=nx
  ·simp[hj]at hg;subst hg;refine⟨.it b X.w.heap.size,by simp[X',hj],Nat.ne_of_lt cY,es,k,#[],k,by rw[gD b cY];exact hb,Zf _ _,?_,hE.born,aq _,hE.nodup⟩;have:(es.toList.filter fun e=>!(#[]:Array Nat).contains e.born)=es.toList:=List.filter_eq_self.2 fun x _=>by simp
   rw[this];exact(hE.step L hs).rj
  ·simp only[hj,aL]at hg;rw[Zp]at hg
   by_cases kH:j=id
   ·simp[kH]at hg
   ·simp only[kH,aL]at hg;obtain⟨s,h1,h2⟩:=g.ek j cc hg;refine⟨s,by rw[sub j hj kH];exact h1,?_⟩;cases cc with
    |lp busy dn ex=>
     cases s with
     |lp b2 rec=>
      obtain⟨pend,h3,h4⟩:=h2;exact⟨pend,by rw[gD b2 (aI.1 h3).1];exact h3,h4⟩
     |it bm r=>exact h2.elim
    |it ly kM l'=>
     cases s with
     |lp b rec=>exact h2.elim
     |it bm r=>
      obtain⟨O5,wG,si,se,k',h3,h4,h5,h6⟩:=h2;exact⟨O5,wG,si,se,k',by rw[gD bm (aI.1 h3).1];exact h3,by rw[gD r (aI.1 h4).1];exact h4,h5.step L hs,h6⟩
 ·intro j l' hr;rw[Qz]
  by_cases hj:j=nx
  ·simp[hj]
  ·by_cases kH:j=id
   ·subst kH;simp[X',hj]at hr
   ·rw[sub j hj kH]at hr;simp only[hj,aL];rw[Zp];simp only[kH,aL];exact g.kg j l' hr
 ·intro j o hg;rw[Qz]at hg
  by_cases hj:j=nx
  ·simp[hj]at hg;subst hg;exact⟨hj▸g.new hn,fun r fT=>by simp[Obj.refs]at fT⟩
  ·simp only[hj,aL]at hg;rw[Zp]at hg
   by_cases kH:j=id
   ·simp[kH]at hg
   ·simp only[kH,aL]at hg;exact g.mz (by omega) j o hg
 ·have up:∀j l',X'.ρ j=some l'->∀b' o,l'.owns b' o->b'<X.w.heap.size->∃l0,X.ρ (if j=nx then id else j)=some l0/\l0.owns b' o:=by
   intro j l' h1 b' o h2 jV
   by_cases hj:j=nx
   ·simp only[X',hj,aU,aD]at h1;subst h1;rcases h2 with h2|h2
    ·exact⟨.map b,by rw[ax hj];exact hρ,h2⟩
    ·omega
   ·by_cases kH:j=id
    ·subst kH;simp[X',hj]at h1
    ·rw[sub j hj kH]at h1;exact⟨l',by rw[aw hj];exact h1,h2⟩
  have P3:∀j l',X'.ρ j=some l'->j≠id:=fun j l' h1 e=>by subst e;simp[X',yr]at h1
  have top:∀j l',X'.ρ j=some l'->∀o,l'.owns X.w.heap.size o->j=nx:=by
   intro j l' h1 o h2;refine Classical.byContradiction fun hj=>?_;have kH:=P3 j l' h1;rw[sub j hj kH]at h1;have:=(g.outer _ o ⟨j,l',h1,h2⟩).2;omega
  intro i j l1 l2 b' o o' h1 h2 h3 h4
  by_cases jV:b'<X.w.heap.size
  ·obtain⟨k1,q1,q2⟩:=up i l1 h1 b' o h3 jV;obtain⟨k2,q3,q4⟩:=up j l2 h2 b' o' h4 jV;have e:=g.apart _ _ _ _ _ _ _ q1 q3 q2 q4
   by_cases hi:i=nx<;>by_cases hj:j=nx
   ·rw[hi,hj]
   ·simp only[hi,hj,aU,aL]at e;exact absurd e.symm (P3 j l2 h2)
   ·simp only[hi,hj,aU,aL]at e;exact absurd e (P3 i l1 h1)
   ·simpa only[hi,hj,aL]using e
  ·have hbs:b'=X.w.heap.size:=by
    rcases gu b' o ⟨i,l1,h1,h3⟩with q|q
    ·exact absurd (g.outer b' o q).2 jV
    ·exact q
   subst hbs;rw[top i l1 h1 o h3,top j l2 h2 o' h4]
 ·intro b' o hm;rcases gu b' o hm with h1|h1
  ·have:=g.outer b' o h1;exact⟨this.1,by simp[X'];omega⟩
  ·refine⟨fun gU=>?_,by simp[X'];omega⟩;have:=g.outs b' o gU;omega
 ·intro b' o gU;have:=g.outs b' o gU;simp[X'];omega
 ·refine .ku fun s hv=>?_;simp[X']at hv;exact⟨b,hv.symm⟩
include L in
theorem G.grow{X:Cx}{h:Heap C}{nx:Nat}{lim:eL}(g:G T X h nx lim)(w':World)(fN:X.w.heap.size<=w'.heap.size)(hh:∀b,b<X.w.heap.size->w'.heap[b]? = X.w.heap[b]?)(h1:w'.os=X.w.os)(h2:w'.tape=X.w.tape)(h3:w'.output=X.w.output)
 (h4:∀a:Addr,a.block<X.w.heap.size->w'.frozen? a=X.w.frozen? a):G T ⟨w',X.ρ,X.O⟩ h nx lim/\Step X nx lim ⟨w',X.ρ,X.O⟩:=by
 have hs:Step X nx lim ⟨w',X.ρ,X.O⟩:=⟨rfl,h1,h2,h3,fN,fun _ _=>.refl _,fun _ _ _ hm=>hm,fun b o hb _=>by simp[World.cell?,hh b hb],fun b hb _=>hh b hb,h4⟩;have hc:∀n,Ch X ⟨w',X.ρ,X.O⟩ nx lim n:=fun n=>⟨hs,fun _ _=>rfl,fun b c e f hb=>⟨c,by simp only;rw[hh b (aI.1 hb).1];exact hb,rfl,fun _ _=>rfl⟩,fun b o hb _ _=>by simp only;rw[hh b (aI.1 hb).1];exact hb⟩;refine⟨⟨?_,?_,?_,?_,g.kg,g.eY,g.apart,?_,?_,g.low,g.pre.step hs⟩,hs⟩
 ·intro id t d ho
  by_cases hi:id=0
  ·exact(G.ej L g (hc 1)).1 id t d (by omega) ho
  ·exact(G.ej L g (hc 0)).1 id t d hi ho
 ·intro id t dM l ho
  by_cases hi:id=0
  ·exact(G.ej L g (hc 1)).2.1 id t dM l (by omega) ho
  ·exact(G.ej L g (hc 0)).2.1 id t dM l hi ho
 ·intro id ck cv l ho
  by_cases hi:id=0
  ·exact(G.ej L g (hc 1)).2.2.1 id ck cv l (by omega) ho
  ·exact(G.ej L g (hc 0)).2.2.1 id ck cv l hi ho
 ·intro id cc ho
  by_cases hi:id=0
  ·exact(G.ej L g (hc 1)).2.2.2 id cc (by omega) ho
  ·exact(G.ej L g (hc 0)).2.2.2 id cc hi ho
 ·intro b o hm;have:=g.outer b o hm;exact⟨this.1,by simp only;omega⟩
 ·intro b o hm;have:=g.outs b o hm;simp only at this ⊢;omega
end
section
variable {C:ij}
structure Zq(P:Program)(T:fA C):Prop where
 base:Laws T
 ol:∀u,T.ty u=.bool->P.underlying u=some .bool
 nG:∀u k,T.ty u=.int k->P.underlying u=some (.int k)
 lv:∀u,T.ty u=.str->P.underlying u=some .string
 kA:∀u fs,T.ty u=.struct false fs->∃db:Array Field,P.underlying u=some (.struct db)/\db.toList.map (·.type)=fs /\
  (∀ i (f : Field),db[i]? = some f->f.offset=Zl T (fs.take i)) /\ P.stoodInHeld u=false /\ P.eqGuardType P.depth u=false /\ (∀ f ∈ db.toList,f.name ≠ "_")
 qB:∀u fs f,T.ty u=.struct false fs->f∈fs->∃i,P.info? f=some i/\i.size=T.size f/\0<T.size f
 qC:∀u fs,T.ty u=.struct true fs->∃e,P.underlying u=some (.array fs.length e)/\fs=List.replicate fs.length e/\0<fs.length/\∃i,P.info? e=some i/\i.size=T.size e
 nZ:∀u n e t,T.ty u=.arr n e t->P.underlying u=some (.array n e)/\P.eqGuardType P.depth u=false
 oT:∀u e t,T.ty u=.sl e t->P.underlying u=some (.slice e)
 ll:∀u e t,(∃n,T.ty u=.arr n e t)\/T.ty u=.sl e t->∃i z,P.info? e=some i/\i.size=T.size e/\i.bytes=T.bytes e/\0<T.bytes e/\0<T.size e/\i.zero=some z/\z.cells.size=T.size e /\
  ∀X,R T X false (T.enc t (T.fh t)) z.cells.toList
 qA:∀u e,T.ty u=.fY e->P.underlying u=some (.slice e)/\(∀d,cZ T d (.inl e)=true->d.dA=false)/\∃i z,P.info? e=some i/\i.size=1/\i.zero=some z/\z.cells.size=1/\i.bytes<=1024
 tP:∀u k v ck cv,T.ty u=.map k v ck cv->P.underlying u=some (.map k v)/\T.ty k=T.ty (T.dG ck)/\T.ty v=T.ty (T.dG cv)/\((∃ik,T.ty k=.int ik)\/T.ty k=.str\/T.ty k=.bool) /\
  ∃i z,P.info? v=some i/\i.zero=some z/\∀X,RV T X (T.enc cv (T.fh cv)) z
 FU:∀u e,T.ty u=.ptr e->P.underlying u=some (.pointer e)
 uFn:∀u,T.ty u=.fn->∃a b c,P.underlying u=some (.func a b c)
 vl:∀u d,cZ T d (.inl u)=true->∃i,P.info? u=some i/\i.size=T.size u
 zero:∀u z,T.zero u=some z->∃i v,P.info? u=some i/\i.zero=some v/\z.refs=[]/\∀X,R T X false z v.cells.toList
 sy:∀t a b r,T.sy t a b=some r->o5 (T.enc t a) (T.enc t b)=some r
 order:P.follows .mixedOrders=true
variable {P:Program}{T:fA C}(K:Zq P T)
section inversions
variable {X:Cx}{v:Value}
theorem RV.int{k:IntKind}{n:Int}(h:RV T X (.int k n) v):v=.int k n/\k.min<=n/\n<=k.max:=by
 rcases h with⟨h,_⟩|⟨_,h⟩
 ·simp[D.dA]at h
 ·cases h with|int h=>exact⟨rfl,h⟩
theorem RV.bool{b:Bool}(h:RV T X (.bool b) v):v=.bool b:=by
 rcases h with⟨h,_⟩|⟨_,h⟩
 ·simp[D.dA]at h
 ·cases h;rfl
theorem RV.str{s:bK}(h:RV T X (.str s) v):v=.string ⟨⟨s⟩⟩:=by
 rcases h with⟨h,_⟩|⟨_,h⟩
 ·simp[D.dA]at h
 ·cases h;rfl
theorem RV.eO(h:RV T X .eO v):v=.slice none 0 0:=by
 rcases h with⟨h,_⟩|⟨_,h⟩
 ·simp[D.dA]at h
 ·cases h;rfl
theorem RV.one{d:D C}(hd:d.dA=false)(h:RV T X d v):R T X false d [v]:=by
 rcases h with⟨h,_⟩|⟨_,h⟩
 ·simp[hd]at h
 ·exact h
theorem RV.row{d:D C}(hd:d.dA=true)(h:RV T X d v):∃cs,R T X false d cs/\v=.agg ⟨cs⟩:=by
 rcases h with⟨_,h⟩|⟨h,_⟩
 ·exact h
 ·simp[hd]at h
theorem RV.mk{d:D C}(hd:d.dA=false)(h:R T X false d [v]):RV T X d v:=.inr ⟨hd,h⟩
end inversions
theorem RO.mk{X:Cx}{nx:Nat}{lim:eL}{d:D C}{v:Value}(h:RV T X d v)(hr:d.refs=[]):RO T X nx lim d v:=⟨h,by simp[hr]⟩
theorem R.hQ{X:Cx}(L:Laws T){m:Bool}{d:D C}{cs:bT}(h:R T X m d cs):m=false->((∃u,cZ T d u=true)\/∃t n l,d=.arr t n l)->∀v∈cs,v.oneCell'=true:=by
 induction h with
 | @bI d ds c1 c2 _ _ i1 i2=>
  rintro hm (⟨u,hf⟩|⟨t,n,l,hd⟩)
  ·have:(∃u,cZ T d u=true)/\(∃u,cZ T ds u=true):=by
    cases u with
    |inl t=>
     cases ht:T.ty t<;>simp only[cZ,ht,bu]at hf
     rename_i fs;cases fs with
     |nil=>simp at hf
     |cons f fs=>simp only[ai]at hf;exact⟨⟨_,hf.1⟩,⟨_,hf.2⟩⟩
    |inr fs=>
     cases fs with
     |nil=>simp[cZ]at hf
     |cons f fs=>simp only[cZ,ai]at hf;exact⟨⟨_,hf.1⟩,⟨_,hf.2⟩⟩
   intro v hv;rcases aT.1 hv with hv|hv
   ·exact i1 hm (.inl this.1) v hv
   ·exact i2 hm (.inl this.2) v hv
  ·simp at hd
 |jz _ _ i1 i2=>
  intro hm _ v hv;rcases aT.1 hv with hv|hv
  ·exact i1 hm (.inl ⟨_,L.gh _ _⟩) v hv
  ·exact i2 hm (.inr ⟨_,_,_,rfl⟩) v hv
 |cH|top=>
  rintro _ (⟨u,hf⟩|⟨t,n,l,hd⟩)
  ·cases u<;>simp[cZ]at hf
  ·simp at hd
 |iV|jU|ju=>intro hm;simp at hm
 |_=>intro _ _ v hv;first|(simp at hv;done)|(simp only[bE]at hv;subst hv;rfl)
include K in
theorem RV.cells{X:Cx}{d:D C}{v:Value}(h:RV T X d v){t:TypeId}(hf:cZ T d (.inl t)=true):R T X false d v.cells.toList:=by
 rcases h with⟨_,cs,h,rfl⟩|⟨_,h⟩
 ·exact h
 ·have:=h.hQ K.base rfl (.inl ⟨_,hf⟩) v (by simp);cases v<;>simp[Value.oneCell']at this<;>exact h
theorem J2{d:D C}{t:TypeId}(hf:cZ T d (.inl t)=true):d.dA=true↔((∃a fs,T.ty t=.struct a fs)\/∃n e ty,T.ty t=.arr n e ty):=by
 cases d<;>cases ht:T.ty t<;>simp[cZ,ht,D.dA]at hf ⊢
include K in
theorem Gn{d:D C}{t:TypeId}(hf:cZ T d (.inl t)=true)(w:World):(isAgg t).run P w=.ok d.dA w:=by
 have hr:=J2 hf;cases hb:d.dA with
 |true=>
  rcases hr.1 hb with⟨a,fs,ht⟩|⟨n,e,ty,ht⟩
  ·cases a with
   |false=>
    obtain⟨db,hu,_⟩:=K.kA _ _ ht;simp[isAgg,aB hu]
   |true=>
    obtain⟨e,hu,_⟩:=K.qC _ _ ht;simp[isAgg,aB hu]
  ·simp[isAgg,aB (K.nZ _ _ _ _ ht).1]
 |false=>
  cases ht:T.ty t with
  |struct a fs=>have:=hr.2 (.inl ⟨a,fs,ht⟩);simp[hb]at this
  |arr n e ty=>have:=hr.2 (.inr ⟨n,e,ty,ht⟩);simp[hb]at this
  |bool=>simp[isAgg,aB (K.ol _ ht)]
  |int k=>simp[isAgg,aB (K.nG _ _ ht)]
  |str=>simp[isAgg,aB (K.lv _ ht)]
  |sl e ty=>simp[isAgg,aB (K.oT _ _ _ ht)]
  |ptr e=>simp[isAgg,aB (K.FU _ _ ht)]
  |fn=>obtain⟨a,b,c,hu⟩:=K.uFn _ ht;simp[isAgg,aB hu]
  |fY e=>simp[isAgg,aB (K.qA _ _ ht).1]
  |map k v ck cv=>simp[isAgg,aB (K.tP _ _ _ _ _ ht).1]
  |none=>cases d<;>simp[cZ,ht]at hf
include K in
theorem Gf{d:D C}{t:TypeId}(hf:cZ T d (.inl t)=true)(w:World):(sizeOf t).run P w=.ok (T.size t) w:=by
 obtain⟨i,hi,hs⟩:=K.vl _ _ hf;simp[sizeOf,typeInfo,hi,hs]
include K in
theorem J3{X:Cx}{x:D C}{t:TypeId}{b off:Nat}{cs:bT}{w:World}(hf:cZ T x (.inl t)=true)(h:R T X false x cs)(hc:∀j v,cs[j]? = some v->w.cell? ⟨b,off+j,none⟩=some v) :
 ∃v,(loadVar t ⟨b,off,none⟩).run P w=.ok v w/\RV T X x v:=by
 have hl:=h.len K.base hf;cases hb:x.dA with
 |true=>
  refine⟨.agg ⟨cs⟩,?_,.inl ⟨hb,cs,h,rfl⟩⟩;have:=run_loadCells_list (P:=P) w ⟨b,off,none⟩ cs (fun j v hj=>by rw[Addr.add_lit];exact hc j v hj);rw[hl]at this;simp[loadVar,Gn K hf,hb,Gf K hf,this]
 |false=>
  have h1:∃v,cs=[v]:=by
   cases h<;>simp[D.dA]at hb<;>exact⟨_,rfl⟩
  obtain⟨v,rfl⟩:=h1;have h0:=hc 0 v rfl;exact⟨v,by simp[loadVar,Gn K hf,hb];simp at h0;rw[h0],.inr ⟨hb,h⟩⟩
def dz(P:Program)(T:fA C)(X:Cx)(nx:Nat)(lim:eL)(h':Heap C)(cM:Nat)(d:D C)(s:Sem Value):Prop :=
 ∃v X',s.run P X.w=.ok v X'.w/\G T X' h' cM lim/\Step X nx lim X'/\RO T X' cM lim d v
theorem dz.same{X:Cx}{nx:Nat}{lim:eL}{h:Heap C}{d:D C}{s:Sem Value}(g:G T X h nx lim)(v:Value)(hs:s.run P X.w=.ok v X.w)(hv:RO T X nx lim d v):dz P T X nx lim h nx d s :=
 ⟨v,X,hs,g,.refl _ _ _,hv⟩
def xE(P:Program)(T:fA C)(X:Cx)(nx:Nat)(lim:eL)(h h':Heap C)(n n':Nat)(d:D C)(s:Sem Value):Prop :=
 ∃v,s.run P X.w=.ok v X.w/\h'=h/\n'=n/\RO T X nx lim d v
theorem xE.same{X:Cx}{nx n:Nat}{lim:eL}{h:Heap C}{d:D C}{s:Sem Value}(v:Value)(hs:s.run P X.w=.ok v X.w)(hv:RO T X nx lim d v):xE P T X nx lim h h n n d s:=⟨v,hs,rfl,rfl,hv⟩
theorem VG:∀(q:D C) (i:Nat) (y:D C),q.nth i=some y->∀r∈y.refs,r∈q.refs:=by
 intro q
 induction q with
 |bI a b _ ih=>
  intro i y hy r hr;cases i with
  |zero=>simp[D.nth]at hy;subst hy;simp[D.refs,hr]
  |succ i=>simp[D.refs];exact .inr (ih i y (by simpa[D.nth]using hy) r hr)
 |_=>intro i y hy;simp[D.nth]at hy
theorem mD:∀(q:D C) (i:Nat) (y q':D C),q.gS i y=some q'->∀r∈q'.refs,r∈q.refs\/r∈y.refs:=by
 intro q
 induction q with
 |bI a b _ ih=>
  intro i y q' hy r hr;cases i with
  |zero=>simp[D.gS]at hy;subst hy;simp[D.refs]at hr ⊢;rcases hr with hr|hr<;>simp[hr]
  |succ i=>
   simp[D.gS]at hy;obtain⟨z,hz,rfl⟩:=hy;simp[D.refs]at hr ⊢;rcases hr with hr|hr
   ·simp[hr]
   ·rcases ih i y z hz r hr with h|h<;>simp[h]
 |_=>intro i y q' hy;simp[D.gS]at hy
theorem QqC(L:Laws T):∀(p:bU) {d x:D C},fg T d p=some x->∀r∈x.refs,r∈d.refs:=by
 intro p
 induction p with
 |nil=>intro d x hx;simp[fg]at hx;subst hx;exact fun _ h=>h
 |cons i p ih=>
  intro d x hx r hr;cases d with
  |bI a b=>
   simp only[fg]at hx;cases hn:(D.bI a b).nth i with
   |none=>simp[hn]at hx
   |some y=>
    simp only[hn]at hx;exact VG _ i y hn r (ih hx r hr)
  |arr t n l=>
   simp only[fg]at hx;have:=ih hx r hr;rw[L.fI]at this;simp at this
  |_=>simp[fg]at hx
theorem lI(L:Laws T):∀(p:bU) {d v d':D C},setPath T d p v=some d'->∀r∈d'.refs,r∈d.refs\/r∈v.refs:=by
 intro p
 induction p with
 |nil=>intro d v d' hx;simp[Ev.setPath]at hx;subst hx;exact fun _ h=>.inr h
 |cons i p ih=>
  intro d v d' hx r hr;cases d with
  |bI a b=>
   simp only[Ev.setPath]at hx;cases hn:(D.bI a b).nth i with
   |none=>simp[hn]at hx
   |some y=>
    simp only[hn]at hx;cases hs:Ev.setPath T y p v with
    |none=>simp[hs]at hx
    |some y'=>
     simp only[hs]at hx;rcases mD _ i y' d' hx r hr with h|h
     ·exact .inl h
     ·rcases ih hs r h with h|h
      ·exact .inl (VG _ i y hn r h)
      ·exact .inr h
  |arr t n l=>
   simp only[Ev.setPath]at hx;cases hs:Ev.setPath T (T.enc t (l.getD i (T.fh t))) p v with
   |none=>rw[hs]at hx;simp at hx
   |some y'=>
    simp only[hs]at hx;cases hd:T.dec t y' with
    |none=>simp[hd]at hx
    |some z=>simp[hd]at hx;subst hx;simp[D.refs]at hr
  |_=>simp[Ev.setPath]at hx
theorem Vx.cells{X:Cx}{ty:C.Ty}{dM:Bool}{l:List (C.A ty)}{v:Value}{b lo hi:Nat}(hv:Vx T X ty dM l v b lo hi){b' off n cp:Nat}(he:v=.slice (some ⟨b',off,none⟩) n cp) :
 b'=b/\n=l.length/\l.length<=cp/\∃cs,R T X false (.arr ty l.length l) cs/\∀j u,cs[j]? = some u->X.w.cell? ⟨b,off+j,none⟩=some u:=by
 rcases hv with⟨⟨a,h1,ha⟩,_⟩|⟨mN,lz,h1,h2,h3,h4⟩
 ·rw[h1]at he;simp only[Value.slice.injEq]at he;exact(ha _ _ he.1).elim
 ·rw[h1]at he;simp at he;obtain⟨⟨rfl,rfl⟩,rfl,rfl⟩:=he;refine⟨rfl,rfl,h2,?_⟩;rcases h4 with⟨_,_,h4|⟨c,e,h4,h5,h6⟩⟩|⟨_,_,⟨cs,h4,h5⟩,_⟩
  ·have:l=[]:=List.length_eq_zero_iff.1 (by omega);subst this;exact⟨[],.iK _,by simp⟩
  ·refine⟨_,h6,fun j u hj=>?_⟩;rw[List.getElem?_take]at hj
   split at hj
   ·rw[List.getElem?_drop]at hj;simp only[World.cell?,h4]
    simpa using hj
   ·simp at hj
  ·exact⟨cs,h5,fun j u hj=>(h4 j u hj).1⟩
theorem Vx.len{X:Cx}{ty:C.Ty}{dM:Bool}{l:List (C.A ty)}{v:Value}{b lo hi:Nat}(hv:Vx T X ty dM l v b lo hi):hJ v=l.length:=by
 rcases hv with⟨⟨a,h1,_⟩,h2,_⟩|⟨mN,lz,h1,_⟩
 ·rw[h1,h2];rfl
 ·rw[h1];rfl
section ops
open Pg (Ex)
variable {X:Cx}{h h':Heap C}{nx cM:Nat}{e:Pg.Lv}{lim:eL}{tr:Tr}(g:G T X h nx lim)
include K g in
theorem UZ{t:TypeId}{a d:D C}{va:Value}(ha:RO T X nx lim a va)(hx:Ex e (vO T t a) h nx d h' cM tr):xE P T X nx lim h h' nx cM d (Instr.loadAt t va):=by
 unfold vO at hx;cases a with
 |ptr id p=>
  simp only at hx;obtain⟨o,la,ho,hx,_⟩:=Ex.rd hx;cases o with
  |cj ty dM l=>exact Ex.cI hx
  |map _ _ _=>exact Ex.cI hx
  |ek _=>exact Ex.cI hx
  |var u d0=>
   simp only[IC]at hx;cases hp:fg T d0 p with
   |none=>rw[hp]at hx;exact Ex.cI hx
   |some x=>
    simp only[hp]at hx;cases hf:cZ T x (.inl t)with
    |false=>rw[hf]at hx;exact Ex.cI hx
    |true=>
     rw[hf]at hx;obtain⟨rfl,rfl,rfl,rfl⟩:=Ex.ret hx;obtain⟨b,c,h1,h2,h3,h4⟩:=g.var id u d0 ho;have hR:=ha.1.one rfl;cases hR with
     | @ptr _ _ a' hq=>
      obtain⟨jk,rfl⟩:=hq b u h1;obtain⟨c1,c2,c3,hc,hl,hr,_⟩:=h3.path K.base p jk h4 hp
      obtain⟨v,hv,mU⟩:=J3 K (w:=X.w) (b:=b) (off:=er T u p) hf hr (by
       intro j w hj;simp only[World.cell?,h2]
       have:c.toList[er T u p+j]? = some w:=by
        rw[hc,<-hl,ay,List.getElem?_append_right (by omega)];simp;rw[List.getElem?_append_left (av.1 hj).1];exact hj
       simpa using this)
      refine xE.same v (by simp[Instr.loadAt,Instr.sureAddr,hv]) ⟨mU,fun r fT=>(g.eY id _ ho).2 r (QqC K.base p hp r fT)⟩
 |fx id n p=>
  simp only at hx;obtain⟨o,la,ho,hx,_⟩:=Ex.rd hx;cases o with
  |var u d0=>exact Ex.cI hx
  |map _ _ _=>exact Ex.cI hx
  |ek _=>exact Ex.cI hx
  |cj ty dM l=>
   obtain⟨v0,b,lo,hi,h1,h2⟩:=g.cj id ty dM l ho
   have key:∀i q x,p=i::q->Nat.beq n l.length=true->cZ T x (.inl t)=true->(∀c2,R T X false (T.enc ty (l.getD i (T.fh ty))) c2->Zr T (T.dG ty) q->∃a1 a2 a3,c2=a1++a2++a3/\a1.length=er T (T.dG ty) q/\R T X false x a2) ->
    ∃v,(Instr.loadAt t va).run P X.w=.ok v X.w/\RV T X x v:=by
    rintro i q x rfl hn hf hq
    have hn:n=l.length:=az hn;have hR:=ha.1.one rfl;cases hR with
    |fx hh=>
     obtain⟨b',off,cp,jI,ks,jk,rfl⟩:=(hh _ _ _ _ _ h1).2 (by rw[h2.len,hn]);obtain⟨rfl,_,_,cs,oc,EG⟩:=h2.cells jI;obtain⟨c1,c2,c3,hc,hl,hr⟩:=oc.elem K.base i (by omega);obtain⟨a1,a2,a3,rl,kR,fT⟩:=hq c2 hr jk
     obtain⟨v,hv,mU⟩:=J3 K (w:=X.w) (b:=b') (off:=off+i*T.size (T.dG ty)+er T (T.dG ty) q) hf fT (by
      intro j w hj;rw[Nat.add_assoc,Nat.add_assoc];refine EG _ w ?_;rw[hc,rl,<-hl,<-kR];simp only[ay];rw[List.getElem?_append_right (by omega)];rw[show c1.length+(a1.length+j)-c1.length=a1.length+j by omega];rw[List.getElem?_append_right (by omega)];rw[show a1.length+j-a1.length=j by omega];rw[List.getElem?_append_left (av.1 hj).1];exact hj)
     exact⟨v,by simp[Instr.loadAt,Instr.sureAddr,hv],mU⟩
   simp only[S5]at hx
   match p,hx with
   |[],hx=>exact Ex.cI hx
   |[i],hx=>
    simp only at hx;rcases Ex.br hx with⟨yf,hx⟩|⟨_,hx⟩
    ·skip
     cases hb:(cZ T (T.enc ty (l.getD i (T.fh ty))) (.inl t))with
     |false=>rw[hb]at hx;exact Ex.cI hx
     |true=>
     rw[hb]at hx;obtain⟨rfl,rfl,rfl,rfl⟩:=Ex.ret hx;obtain⟨v,hv,mU⟩:=key i [] _ rfl yf hb (fun c2 uV _=>⟨[],c2,[],by simp,by simp[er],uV⟩);exact xE.same v hv (RO.mk mU (K.base.fI _ _))
    ·exact Ex.cI hx
   |[i,j],hx=>
    simp only at hx;cases hn:(T.enc ty (l.getD i (T.fh ty))).nth j with
    |none=>rw[hn]at hx;exact Ex.cI hx
    |some x=>
     simp only[hn]at hx;rcases Ex.br hx with⟨yf,hx⟩|⟨_,hx⟩
     ·cases hb:(cZ T x (.inl t))with
      |false=>rw[hb]at hx;exact Ex.cI hx
      |true=>
      rw[hb]at hx;obtain⟨rfl,rfl,rfl,rfl⟩:=Ex.ret hx
      obtain⟨v,hv,mU⟩:=key i [j] _ rfl yf hb (fun c2 uV jk=>by
       have hp:fg T (T.enc ty (l.getD i (T.fh ty))) [j]=some d:=by
        have he:∃a b,T.enc ty (l.getD i (T.fh ty))=.bI a b:=by
         generalize T.enc ty (l.getD i (T.fh ty))=q at hn;cases q with
         |bI a b=>exact⟨_,_,rfl⟩
         |_=>simp[D.nth]at hn
        obtain⟨a,b,he⟩:=he;rw[he]at hn ⊢;simp[fg,hn]
       obtain⟨a1,a2,a3,h1,h2,h3,_⟩:=uV.path K.base [j] jk (K.base.gh _ _) hp;exact⟨a1,a2,a3,h1,h2,h3⟩)
      refine xE.same v hv ⟨mU,fun r hr=>?_⟩;have:=VG _ _ _ hn r hr;rw[K.base.fI]at this;simp at this
     ·exact Ex.cI hx
   |i::j::k::q,hx=>exact Ex.cI hx
 |dS x=>
  simp only at hx;cases hf:cZ T x (.inl t)with
  |false=>rw[hf]at hx;exact Ex.cI hx
  |true=>
   rw[hf]at hx;obtain⟨rfl,rfl,rfl,rfl⟩:=Ex.ret hx;have hR:=ha.1.one rfl;cases hR with
   | @dS _ b off cs jq hr=>
    obtain⟨v,hv,mU⟩:=J3 K (w:=X.w) (b:=b) (off:=off) hf hr (fun j w hj=>(jq j w hj).1);exact xE.same v (by simp[Instr.loadAt,Instr.sureAddr,hv]) ⟨mU,by simpa[D.refs]using ha.2⟩
 |_=>exact Ex.cI hx
include K g in
theorem Hd{t:TypeId}{a d:D C}{va:Value}(ha:RO T X nx lim a va)(hx:Ex e (vO T t a) h nx d h' cM tr):dz P T X nx lim h' cM d (Instr.loadAt t va):=by
 obtain⟨v,h1,rfl,rfl,h2⟩:=UZ K g ha hx;exact dz.same g v h1 h2
end ops
end
section
variable {C:ij}{P:Program}{T:fA C}(K:Zq P T)
open Pg (Ex)
variable {X:Cx}{h h':Heap C}{nx cM:Nat}{e:Pg.Lv}{lim:eL}{tr:Tr}(g:G T X h nx lim)
theorem Gg{α:Type}(l:List α)(k:Nat)(vs:List α)(h:k+vs.length<=l.length):(l.take k++vs++l.drop (k+vs.length)).length=l.length:=by
 simp only[aC,bp,bq];omega
theorem Gh{α:Type}(l:List α)(k:Nat)(vs:List α)(h:k+vs.length<=l.length)(o:Nat)(ho:o<k\/k+vs.length<=o):(l.take k++vs++l.drop (k+vs.length))[o]? = l[o]? := by
 rcases ho with ho|ho
 ·rw[ay,List.getElem?_append_left (by simp only[bp];omega),List.getElem?_take,ax ho]
 ·rw[List.getElem?_append_right (by simp only[aC,bp];omega),List.getElem?_drop]
  congr 1
  simp only[aC,bp];omega
theorem Gi{α:Type}(l1 a1 a2 a3 l3 vs:List α)(hl:a2.length=vs.length) :
 (l1++(a1++a2++a3)++l3).take (l1.length+a1.length)++vs++(l1++(a1++a2++a3)++l3).drop (l1.length+a1.length+vs.length)=l1++(a1++vs++a3)++l3:=by
 have e1:l1++(a1++a2++a3)++l3=(l1++a1)++(a2++(a3++l3)):=by simp
 have e2:(l1++(a1++a2++a3)++l3).take (l1.length+a1.length)=l1++a1:=by
  rw[e1];exact List.take_left' (by simp)
 have e3:(l1++(a1++a2++a3)++l3).drop (l1.length+a1.length+vs.length)=a3++l3:=by
  rw[show l1++(a1++a2++a3)++l3=(l1++a1++a2)++(a3++l3)by simp];exact List.drop_left' (by simp;omega)
 rw[e2,e3];simp
theorem Ma{α:Type}(l:List α)(off n:Nat)(a1 a2 a3 vs:List α)(h:(l.drop off).take n=a1++a2++a3)(hn:off+n<=l.length)(hl:a2.length=vs.length) :
 ((l.take (off+a1.length)++vs++l.drop (off+a1.length+vs.length)).drop off).take n=a1++vs++a3:=by
 have dc:a1.length+a2.length+a3.length=n:=by
  have:=ap List.length h;simp at this;omega
 have e:l=l.take off++(a1++a2++a3)++l.drop (off+n):=by
  rw[<-h,<-bD,ay,bn,bn]
 have h1:(l.take off).length=off:=by simp;omega
 have:=Gi (l.take off) a1 a2 a3 (l.drop (off+n)) vs hl;rw[<-e,h1]at this;rw[this,ay,List.drop_left' h1,List.take_left' (by simp;omega)]
include K g in
theorem XA{t:TypeId}{a v d:D C}{va vv:Value}(ha:RO T X nx lim a va)(hv:RO T X nx lim v vv)(hx:Ex e (JY T t a v) h nx d h' cM tr) :
 ∃X',(Instr.storeAt t va vv).run P X.w=.ok () X'.w/\G T X' h' cM lim/\Step X nx lim X'/\d=.cH .bN:=by
 unfold JY at hx;cases a with
 |ptr id p=>
  simp only at hx;obtain⟨o,la,ho,hx,_⟩:=Ex.rd hx;cases o with
  |cj ty dM l=>exact Ex.cI hx
  |map _ _ _=>exact Ex.cI hx
  |ek _=>exact Ex.cI hx
  |var u d0=>
   simp only[ID]at hx;cases hp:setPath T d0 p v with
   |none=>rw[hp]at hx;exact Ex.cI hx
   |some d1=>
    cases ht:gG T u p with
    |none=>rw[hp,ht]at hx;exact Ex.cI hx
    |some t'=>
     simp only[hp,ht]at hx;cases hf:cZ T v (.inl t)&&cZ T v (.inl t')with
     |false=>rw[hf]at hx;exact Ex.cI hx
     |true=>
      rw[hf]at hx;simp only[ag]at hx;obtain⟨o',mQ,_,hx,_⟩:=Ex.wr hx;obtain⟨rfl,rfl,rfl,rfl⟩:=Ex.ret hx;simp only[ai]at hf;obtain⟨b,c,h1,h2,h3,h4⟩:=g.var id u d0 ho;have hR:=ha.1.one rfl;cases hR with
      | @ptr _ _ a' hq=>
       obtain⟨jk,rfl⟩:=hq b u h1;have rB:=hv.1.cells K hf.1;obtain⟨c1,c2,c3,hc,hl,dc,hr,hfd⟩:=h3.setPath K.base p jk h4 hp rB ht hf.2;have lD:=rB.hQ K.base rfl (.inl ⟨_,hf.1⟩);have fN:=rB.len K.base hf.1
       have eI:=run_storeCells_at P b (er T u p) u vv.cells.toList 0 c X.w h2 (by
        have:c.size=c.toList.length:=by simp
        rw[this,hc];simp only[aC];omega) lD
       have yN:=Gi [] c1 c2 c3 [] vv.cells.toList dc;simp only[aH,aR,bH,aN]at yN;rw[<-hc,hl]at yN;simp only[Nat.add_zero]at eI;rw[yN]at eI
       obtain⟨X',pu,hg,hs⟩:=G.zd K.base g ho h1 h2 (c':=(c1++vv.cells.toList++c3).toArray) (by simpa using hr) (by
        have:c.size=c.toList.length:=by simp
        rw[this,hc];simp only[List.size_toArray,aC];omega) hfd (fun r fT=>by
         rcases lI K.base p hp r fT with h5|h5
         ·exact(g.eY id _ ho).2 r h5
         ·exact hv.2 r h5)
       refine⟨X',?_,hg,hs,rfl⟩;have ma:vv.cells.size=T.size t:=by simpa using fN
       simp[Instr.storeAt,Instr.sureAddr,storeVar,Gf K hf.1,ma,eI,pu]
 |fx id n p=>
  simp only at hx;obtain⟨o,la,ho,hx,_⟩:=Ex.rd hx;cases o with
  |var u d0=>exact Ex.cI hx
  |map _ _ _=>exact Ex.cI hx
  |ek _=>exact Ex.cI hx
  |cj ty dM l=>
   cases dM with
   |false=>exact Ex.cI hx
   |true=>
    simp only[IE]at hx
    match p,hx with
    |[],hx=>exact Ex.cI hx
    |i::j::q,hx=>exact Ex.cI hx
    |[i],hx=>
     simp only at hx;cases hd:T.dec ty v with
     |none=>rw[hd]at hx;exact Ex.cI hx
     |some z=>
      simp only[hd]at hx;rcases Ex.br hx with⟨yf,hx⟩|⟨_,hx⟩
      case inr=>exact Ex.cI hx
      cases hb:(cZ T v (.inl t))with
      |false=>rw[hb]at hx;exact Ex.cI hx
      |true=>
       rw[hb]at hx;simp only[ag]at hx;obtain⟨o',mQ,_,hx,_⟩:=Ex.wr hx;obtain⟨rfl,rfl,rfl,rfl⟩:=Ex.ret hx;have hn:n=l.length:=az yf;obtain⟨v0,b,lo,hi,h1,h2⟩:=g.cj id ty true l ho;have aad:=h2.len;have hR:=ha.1.one rfl;cases hR with
       |fx hh=>
        obtain⟨b',off,cp,jI,ks,jk,rfl⟩:=(hh _ _ _ _ _ h1).2 (by rw[h2.len,hn]);have rB:=hv.1.cells K hb;have lD:=rB.hQ K.base rfl (.inl ⟨_,hb⟩);have fN:=rB.len K.base hb;have pQ:=K.base.mH X ty _ _ _ hd rB;have tg:=pQ.len K.base (K.base.gh _ _);rcases h2 with⟨⟨a,q1,qa⟩,_⟩|⟨mN,lz,q1,q2,q3,q4⟩
        ·rw[q1]at jI;simp only[Value.slice.injEq]at jI;exact(qa _ _ jI.1).elim
        ·rw[q1]at jI;simp at jI;obtain⟨⟨rfl,rfl⟩,_,rfl⟩:=jI;rcases q4 with⟨_,q5,q6|⟨c,ee,q6,q7,q8⟩⟩|⟨q5,_⟩
         ·omega
         ·obtain⟨a1,a2,a3,hc,hl,dc,hr⟩:=q8.oN K.base i z (by omega) pQ;have hmul:l.length*T.size (T.dG ty)<=lz*T.size (T.dG ty):=Nat.mul_le_mul_right _ q2;have oc:c.toList.length=c.size:=by simp
          have aar:a1.length+a2.length+a3.length=l.length*T.size (T.dG ty):=by
           have:=ap List.length hc;simp only[aC,bp,bq]at this;omega
          have eI:=run_storeCells_at P b (mN+i*T.size (T.dG ty)) ee vv.cells.toList 0 c X.w q6 (by omega) lD;simp only[Nat.add_zero,<-hl]at eI;have nm:=Ma c.toList mN (l.length*T.size (T.dG ty)) a1 a2 a3 vv.cells.toList hc (by omega) dc;have rV:=Gh c.toList (mN+a1.length) vv.cells.toList (by omega);have o6:=Gg c.toList (mN+a1.length) vv.cells.toList (by omega);generalize rT:c.toList.take (mN+a1.length)++vv.cells.toList++c.toList.drop (mN+a1.length+vv.cells.toList.length)=k at eI nm rV o6
          obtain⟨X',pu,_,hg,hs⟩:=G.oP K.base g ho h1 q6 (c':=k.toArray) (l':=l.set i z) (v':=v0) (jt:=lo) (by simp[o6]) (by
           intro o gU;have:=rV o (by omega)
           simpa using this) (aq _) (.inr rfl) ⟨aq _,fun _=>rfl⟩ (by
           intro X' hw hO hm _ hs;refine .inr ⟨mN,lz,by simp[q1],by simpa using q2,q3,.inl ⟨rfl,q5,.inr ⟨_,ee,by rw[hw];exact setRow_heap _ _ _ _ _ _ q6,by simpa[o6]using q7,?_⟩⟩⟩;have fT:=hr.step K.base hs (by simp[D.refs])
           simpa[nm]using fT)
          refine⟨X',?_,hg,hs,rfl⟩;have ma:vv.cells.size=T.size t:=by simpa using fN
          rw[hl]at eI;simp only[er,Nat.add_zero];simp[Instr.storeAt,Instr.sureAddr,storeVar,Gf K hb,ma,eI,pu]
         ·simp at q5
 |_=>exact Ex.cI hx
include K
omit g in
theorem QqD{s:TypeId}{fs:cK}(hs:T.ty s=.struct false fs){i:Nat}(hi:i<fs.length) :
 ∃(db:Array Field) (f:Field),P.underlying s=some (.struct db)/\db[i]? = some f/\f.type=fs.getD i 0/\f.type∈fs/\f.offset=Zl T (fs.take i):=by
 obtain⟨db,hu,hm,ho,_⟩:=K.kA _ _ hs;have h1:(db.toList.map (·.type))[i]? = some (fs.getD i 0):=by rw[hm];simp[hi]
 rw[bB,Option.map_eq_some_iff]at h1;obtain⟨f,hf,ht⟩:=h1;have H6:db[i]? = some f:=by simpa using hf
 refine⟨db,f,hu,H6,ht,?_,ho i f H6⟩;rw[ht];simp[hi]
omit g in
theorem LC{s:TypeId}{fs:cK}(hs:T.ty s=.struct false fs){i:Nat}(hi:i<fs.length)(w:World)(b off:Nat) :
 (Instr.fieldAt s (.pointer (some ⟨b,off,none⟩)) i).run P w=.ok (.pointer (some ⟨b,off+Zl T (fs.take i),none⟩)) w:=by
 obtain⟨db,f,hu,hf,_,l7,ho⟩:=QqD K hs hi;obtain⟨inf,h1,h2,h3⟩:=K.qB _ _ _ hs l7;have gm:¬inf.size=0:=by omega
 simp[Instr.fieldAt,aB hu,hf,Instr.sureAddr,fieldPlace,sizeOf,typeInfo,h1,gm,Addr.add_lit,ho]
include g
theorem QhN{s:TypeId}{i:Nat}{a d:D C}{va:Value}(ha:RO T X nx lim a va)(hx:Ex e (VS T s a i) h nx d h' cM tr):dz P T X nx lim h' cM d (Instr.fieldAt s va i):=by
 unfold VS at hx;cases hs:T.ty s with
 |struct nX fs=>
  cases nX with
  |true=>rw[hs]at hx;exact Ex.cI hx
  |false=>?_
  simp only[hs]at hx;cases hi:Nat.blt i fs.length with
  |false=>rw[hi]at hx;exact Ex.cI hx
  |true=>
   rw[hi]at hx;simp only[ag]at hx;have hi:i<fs.length:=by simpa[Nat.blt_eq]using hi
   have pA:Zr T s [i]:=by simp[Zr,hs,hi]
   have mv:er T s [i]=Zl T (fs.take i):=by simp[er,hs]
   match a,ha,hx with
   |.ptr id p,ha,hx=>
    obtain⟨o,la,ho,hx,_⟩:=Ex.rd hx;cases o with
    |cj ty dM l=>exact Ex.cI hx
    |map _ _ _=>exact Ex.cI hx
    |ek _=>exact Ex.cI hx
    |var u d0=>
     simp only[IF]at hx;cases jg:decide (gG T u p=some s)with
     |false=>rw[jg]at hx;exact Ex.cI hx
     |true=>
      rw[jg]at hx;obtain⟨rfl,rfl,rfl,rfl⟩:=Ex.ret hx;have jg:gG T u p=some s:=by simpa using jg
      obtain⟨b,c,h1,h2,h3,h4⟩:=g.var id u d0 ho;have hR:=ha.1.one rfl;cases hR with
      | @ptr _ _ a' hq=>
       obtain⟨jk,rfl⟩:=hq b u h1;obtain⟨k1,k2⟩:=J0 jk jg i [] pA;refine dz.same g _ (LC K hs hi X.w b _) ⟨.mk rfl (.ptr fun b' t' h5=>?_),?_⟩
       ·rw[h1]at h5;simp at h5;obtain⟨rfl,rfl⟩:=h5;exact⟨k1,by rw[k2,mv]⟩
       ·simpa[D.refs]using ha.2
   |.fx id n [j],ha,hx=>
    obtain⟨o,la,ho,hx,_⟩:=Ex.rd hx;cases o with
    |var u d0=>exact Ex.cI hx
    |map _ _ _=>exact Ex.cI hx
    |ek _=>exact Ex.cI hx
    |cj ty dM l=>
     simp only[HL]at hx;rcases Ex.br hx with⟨yf,hx⟩|⟨_,hx⟩
     case inr=>exact Ex.cI hx
     cases hb:(Nat.beq s (T.dG ty))with
     |false=>rw[hb]at hx;exact Ex.cI hx
     |true=>
      rw[hb]at hx;obtain⟨rfl,rfl,rfl,rfl⟩:=Ex.ret hx;have hn:n=l.length:=az yf;have mV:s=T.dG ty:=az hb;obtain⟨v0,b,lo,ks,h1,h2⟩:=g.cj id ty dM l ho;have hR:=ha.1.one rfl;cases hR with
      |fx hh=>
       obtain⟨b',off,cp,jI,hj,jk,rfl⟩:=(hh _ _ _ _ _ h1).2 (by rw[h2.len,hn]);refine dz.same g _ (LC K hs hi X.w b' _) ⟨.mk rfl (.fx fun v e b lo Pm h5=>?_),?_⟩
       ·rw[h1]at h5;simp at h5;obtain⟨rfl,rfl,rfl,rfl,rfl⟩:=h5;refine⟨by rw[h2.len];omega,fun _=>⟨b',off,cp,jI,hj,by rw[<-mV];exact pA,?_⟩⟩;rw[<-mV,mv];simp[er]
       ·simpa[D.refs]using ha.2
   |.dS q,ha,hx=>
    simp only at hx;cases hf:cZ T q (.inl s)with
    |false=>rw[hf]at hx;exact Ex.cI hx
    |true=>
     rw[hf]at hx;simp only[ag]at hx;cases hn:q.nth i with
     |none=>rw[hn]at hx;exact Ex.cI hx
     |some x=>
      rw[hn]at hx;obtain⟨rfl,rfl,rfl,rfl⟩:=Ex.ret hx;have hR:=ha.1.one rfl;cases hR with
      | @dS _ b off cs jq hr=>
       obtain⟨c1,c2,c3,hc,hl,fT,_,_⟩:=hr.od K.base hs hf hn;refine dz.same g _ (LC K hs hi X.w b off) ⟨.mk rfl (.dS (cs:=c2) (fun j v hj=>?_) fT),?_⟩
       ·rw[<-hl,Nat.add_assoc];refine jq _ v ?_;rw[hc,ay,List.getElem?_append_right (by omega)];rw[show c1.length+j-c1.length=j by omega,List.getElem?_append_left (av.1 hj).1];exact hj
       ·intro r kK;exact ha.2 r (by simpa[D.refs]using VG _ _ _ hn r (by simpa[D.refs]using kK))
   |.fx id n [],ha,hx=>exact Ex.cI hx
   |.fx id n (_::_::_),ha,hx=>exact Ex.cI hx
   |.bool _,ha,hx=>exact Ex.cI hx
   |.int _ _,ha,hx=>exact Ex.cI hx
   |.str _,ha,hx=>exact Ex.cI hx
   |.bN,ha,hx=>exact Ex.cI hx
   |.bI _ _,ha,hx=>exact Ex.cI hx
   |.arr _ _ _,ha,hx=>exact Ex.cI hx
   |.cH _,ha,hx=>exact Ex.cI hx
   |.eO,ha,hx=>exact Ex.cI hx
   |.sl _ _ _,ha,hx=>exact Ex.cI hx
   |.vs _ _,ha,hx=>exact Ex.cI hx
   |.fw,ha,hx=>exact Ex.cI hx
   |.fn _ _,ha,hx=>exact Ex.cI hx
   |.cD,ha,hx=>exact Ex.cI hx
   |.gz,ha,hx=>exact Ex.cI hx
   |.bm _ _,ha,hx=>exact Ex.cI hx
   |.yl _ _ _ _ _ _ _,ha,hx=>exact Ex.cI hx
   |.top,ha,hx=>exact Ex.cI hx
 |_=>rw[hs]at hx;exact Ex.cI hx
omit g in
theorem J4{x:D C}{t:TypeId}{c1 c2 c3:bT}(hf:cZ T x (.inl t)=true)(hr:R T X false x c2)(w:World) :
 ∃v,(part t ⟨c1++c2++c3⟩ c1.length).run P w=.ok v w/\RV T X x v:=by
 have hl:=hr.len K.base hf;cases hb:x.dA with
 |true=>
  refine⟨.agg ⟨c2⟩,?_,.inl ⟨hb,c2,hr,rfl⟩⟩
  have:((⟨c1++c2++c3⟩:b7).extract c1.length (c1.length+T.size t))=⟨c2⟩:=by
   apply Array.ext';simp only[Array.toList_extract,List.extract_eq_take_drop];rw[<-hl,show c1.length+c2.length-c1.length=c2.length by omega,ay,List.drop_left' rfl,List.take_left' rfl]
  simp only[part,aG,Gn K hf,hb,aA,Gf K hf,aU,aF,this]
 |false=>
  have h1:∃v,c2=[v]:=by
   cases hr<;>simp[D.dA]at hb<;>exact⟨_,rfl⟩
  obtain⟨v,rfl⟩:=h1;exact⟨v,by simp[part,Gn K hf,hb],.inr ⟨hb,hr⟩⟩
theorem Qx0{s:TypeId}{i:Nat}{a d:D C}{va:Value}(ha:RO T X nx lim a va)(hx:Ex e (M3 T s a i) h nx d h' cM tr):dz P T X nx lim h' cM d (Instr.field s va i):=by
 unfold M3 at hx;cases hs:T.ty s with
 |struct nX fs=>
  cases nX with
  |true=>rw[hs]at hx;exact Ex.cI hx
  |false=>?_
  simp only[hs]at hx;cases hf:cZ T a (.inl s)with
  |false=>rw[hf]at hx;exact Ex.cI hx
  |true=>
   rw[hf]at hx;simp only[ag]at hx;cases hn:a.nth i with
   |none=>rw[hn]at hx;exact Ex.cI hx
   |some x=>
    rw[hn]at hx;obtain⟨rfl,rfl,rfl,rfl⟩:=Ex.ret hx;obtain⟨cs,hr,rfl⟩:=ha.1.row ((J2 hf).2 (.inl ⟨_,fs,hs⟩));obtain⟨c1,c2,c3,hc,hl,fT,hi,jf⟩:=hr.od K.base hs hf hn;obtain⟨db,f,hu,mT,jg,_,ho⟩:=QqD K hs hi;obtain⟨v,hv,mU⟩:=J4 K (c1:=c1) (c3:=c3) jf fT X.w;refine dz.same g v ?_ ⟨mU,fun r kK=>ha.2 r (VG _ _ _ hn r kK)⟩;rw[<-hc,hl]at hv;simp only[Instr.field,aG,aB hu,aA,mT,asAgg,aF,ho];rw[jg];exact hv
 |_=>rw[hs]at hx;exact Ex.cI hx
end
section
variable {C:ij}{P:Program}{T:fA C}(K:Zq P T)
open Pg (Ex)
variable {X:Cx}{h h':Heap C}{nx cM:Nat}{e:Pg.Lv}{lim:eL}{tr:Tr}(g:G T X h nx lim)
include K
omit g
theorem ZA{u el:TypeId}{ty:C.Ty}(hu:(∃n,T.ty u=.arr n el ty)\/T.ty u=.sl el ty)(w:World):(sizeOf el).run P w=.ok (T.size el) w/\T.size el=T.size (T.dG ty)/\T.ty el=T.ty (T.dG ty):=by
 obtain⟨i,z,h1,h2,_⟩:=K.ll _ _ _ hu;refine⟨by simp[sizeOf,typeInfo,h1,h2],?_⟩;rcases hu with⟨n,hu⟩|hu
 ·exact⟨(K.base.lj _ _ _ _ hu).2.2,(K.base.lj _ _ _ _ hu).2.1⟩
 ·exact⟨(K.base.mP _ _ _ hu).2.2,(K.base.mP _ _ _ hu).2.1⟩
theorem Jt{t el:TypeId}{ty:C.Ty}(ht:T.ty t=.sl el ty)(b off len cp:Nat)(k:IntKind)(n:Int)(h0:0<=n)(h1:n<len)(w:World) :
 (Instr.indexAt t (.slice (some ⟨b,off,none⟩) len cp) (.int k n)).run P w=.ok (.pointer (some ⟨b,off+n.toNat*T.size (T.dG ty),none⟩)) w:=by
 have hs:=ZA K (.inr ht) w;rw[<-hs.2.1];simp[Instr.indexAt,asIntOf,aB (K.oT _ _ _ ht),h0,h1,hs.1,Addr.add_lit]
theorem Qd1{t el:TypeId}(ht:T.ty t=.fY el)(b off len cp:Nat)(k:IntKind)(n:Int)(h0:0<=n)(h1:n<len)(w:World) :
 (Instr.indexAt t (.slice (some ⟨b,off,none⟩) len cp) (.int k n)).run P w=.ok (.pointer (some ⟨b,off+n.toNat,none⟩)) w:=by
 obtain⟨hu,_,i,z,hi,hs,_,_,_⟩:=K.qA _ _ ht;have fN:(sizeOf el).run P w=.ok 1 w:=by simp[sizeOf,typeInfo,hi,hs]
 simp[Instr.indexAt,asIntOf,aB hu,h0,h1,fN,Addr.add_lit]
theorem KC{t el:TypeId}{ty:C.Ty}{m:Nat}(ht:T.ty t=.arr m el ty)(b off:Nat)(k:IntKind)(n:Int)(h0:0<=n)(h1:n<m)(w:World) :
 (Instr.indexAt t (.pointer (some ⟨b,off,none⟩)) (.int k n)).run P w=.ok (.pointer (some ⟨b,off+n.toNat*T.size (T.dG ty),none⟩)) w:=by
 have hs:=ZA K (.inl ⟨_,ht⟩) w;rw[<-hs.2.1];simp[Instr.indexAt,asIntOf,aB (K.nZ _ _ _ _ ht).1,h0,h1,hs.1,Addr.add_lit,Instr.sureAddr]
theorem IJ{t:TypeId}{fs:cK}(ht:T.ty t=.struct true fs):∃el,P.underlying t=some (.array fs.length el)/\(∀w,(sizeOf el).run P w=.ok (T.size el) w)/\(∀i,i<fs.length->fs.getD i 0=el) /\
 ∀i,i<=fs.length->Zl T (fs.take i)=i*T.size el:=by
 obtain⟨el,h1,h2,_,i,h3,h4⟩:=K.qC _ _ ht;refine⟨el,h1,fun w=>by simp[sizeOf,typeInfo,h3,h4],fun i hi=>?_,?_⟩
 ·rw[h2];simp[ar,List.getElem?_replicate,hi]
 ·intro i hi;rw[h2,List.take_replicate,Nat.min_eq_left hi];clear hi
  induction i with
  |zero=>simp[Zl]
  |succ i ih=>simp only[List.replicate_succ,Zl,ih];rw[Nat.succ_mul];omega
theorem KD{t:TypeId}{fs:cK}(ht:T.ty t=.struct true fs)(b off:Nat)(k:IntKind)(n:Int)(h0:0<=n)(h1:n<fs.length)(w:World) :
 (Instr.indexAt t (.pointer (some ⟨b,off,none⟩)) (.int k n)).run P w=.ok (.pointer (some ⟨b,off+Zl T (fs.take n.toNat),none⟩)) w:=by
 obtain⟨el,hu,hs,_,ho⟩:=IJ K ht;rw[ho _ (by omega)];simp[Instr.indexAt,asIntOf,aB hu,h0,h1,hs,Addr.add_lit,Instr.sureAddr]
theorem QqE{ty:C.Ty}{n:Nat}{l:List (C.A ty)}{b off:Nat}{cs:bT}(jq:X.at b off cs)(hr:R T X false (.arr ty n l) cs)(i:Nat)(hi:i<n) :
 R T X false (.dS (T.enc ty (l.getD i (T.fh ty)))) [.pointer (some ⟨b,off+i*T.size (T.dG ty),none⟩)]:=by
 obtain⟨c1,c2,c3,hc,hl,fT⟩:=hr.elem K.base i hi;refine .dS (cs:=c2) (fun j v hj=>?_) fT;rw[<-hl,Nat.add_assoc];refine jq _ v ?_;rw[hc,ay,List.getElem?_append_right (by omega)];rw[show c1.length+j-c1.length=j by omega,List.getElem?_append_left (av.1 hj).1];exact hj
include g
theorem QhO{t:TypeId}{a i d:D C}{va vi:Value}(ha:RO T X nx lim a va)(hi:RO T X nx lim i vi)(hx:Ex e (VT T t a i) h nx d h' cM tr):dz P T X nx lim h' cM d (Instr.indexAt t va vi):=by
 unfold VT at hx;cases i with
 |int k n=>
  obtain⟨rfl,_⟩:=hi.1.int;simp only at hx;cases ht:T.ty t with
  |fY el=>
   simp only[ht]at hx;cases a with
   |fY m xT ds=>
    simp only at hx;rcases Ex.br hx with⟨hb,hx⟩|⟨_,hx⟩
    ·have hb:0<=n/\n<m:=by simpa using hb
     cases hq:ds.nth n.toNat with
     |none=>rw[hq]at hx;exact Ex.cI hx
     |some x=>
      rw[hq]at hx;obtain⟨rfl,rfl,rfl,rfl⟩:=Ex.ret hx;have hR:=ha.1.one rfl;cases hR with
      | @fY _ b off cp _ _ cs jq hr hn h1 hc=>
       obtain⟨v,hv,mU⟩:=hr.nth T rfl _ _ hq;have fU:x.dA=false:=D.pI h1 hq;refine dz.same g _ (Qd1 K ht b off m cp k n hb.1 hb.2 X.w) ⟨.mk rfl (.dS (cs:=[v]) (fun j u hj=>?_) (mU.one fU)),?_⟩
       ·cases j with
        |zero=>simp at hj;subst hj;exact jq _ _ hv
        |succ j=>simp at hj
       ·intro r fT;exact ha.2 r (VG _ _ _ hq r (by simpa[D.refs]using fT))
    ·exact Ex.cI hx
   |_=>exact Ex.cI hx
  |sl el ty0=>
   simp only[ht]at hx;cases a with
   |sl ty cap l=>
    simp only at hx;cases hd:decide (ty=ty0)with
    |false=>rw[hd]at hx;exact Ex.cI hx
    |true=>
     rw[hd]at hx;simp only[ag]at hx;have hd:ty=ty0:=by simpa using hd
     subst hd;rcases Ex.br hx with⟨hb,hx⟩|⟨_,hx⟩
     ·obtain⟨rfl,rfl,rfl,rfl⟩:=Ex.ret hx;have hb:0<=n/\n<l.length:=by simpa using hb
      have hR:=ha.1.one rfl;cases hR with
      |li=>simp at hb;omega
      | @sl _ _ _ b off cp cs jq hr hc kZ=>
       refine dz.same g _ (Jt K ht b off l.length cp k n hb.1 hb.2 X.w) ⟨.mk rfl (QqE K jq hr n.toNat (by omega)),?_⟩;simp[D.refs,K.base.fI]
     ·exact Ex.cI hx
   |vs id m=>
    simp only at hx;obtain⟨o,la,ho,hy,_⟩:=Ex.rd hx;clear hx;cases o with
    |var u d0=>exact Ex.cI hy
    |map _ _ _=>exact Ex.cI hy
    |ek _=>exact Ex.cI hy
    |cj ty dM l=>
     simp only[HM]at hy;cases hd:decide (ty=ty0)with
     |false=>rw[hd]at hy;exact Ex.cI hy
     |true=>
      rw[hd]at hy;simp only[ag]at hy;have hd:ty=ty0:=by simpa using hd
      subst hd;rcases Ex.br hy with⟨hb,hx⟩|⟨_,hx⟩
      ·obtain⟨rfl,rfl,rfl,rfl⟩:=Ex.ret hx;simp only[ai,aa]at hb;have hm:m=l.length:=az hb.1;obtain⟨v0,b,lo,ks,h1,h2⟩:=g.cj id ty dM l ho;have hR:=ha.1.one rfl;cases hR with
       | @vs _ _ cp a0 hh=>
        have jI:=(hh _ _ _ _ _ h1).2 (by rw[h2.len,hm]);cases a0 with
        |none=>
         rcases h2 with⟨q1,q2,_⟩|⟨mN,lz,q1,_⟩
         ·subst q2;simp at hb;omega
         ·rw[q1]at jI;simp at jI
        |some a1=>
         have OZ:∃off,a1=⟨b,off,none⟩:=by
          rcases h2 with⟨q1,q2,_⟩|⟨mN,lz,q1,_⟩
          ·subst q2;simp at hb;omega
          ·rw[q1]at jI;simp at jI;exact⟨mN,jI.1.symm⟩
         obtain⟨off,rfl⟩:=OZ;refine dz.same g _ (Jt K ht b off m cp k n hb.2.1 (by omega) X.w) ⟨.mk rfl (.fx fun v e b' jt Pm h5=>?_),by simpa[D.refs]using ha.2⟩;rw[h1]at h5;simp at h5;obtain⟨rfl,rfl,rfl,rfl,rfl⟩:=h5;exact⟨by rw[h2.len];omega,fun _=>⟨b,off,cp,jI,by omega,by simp[Zr],by simp[er]⟩⟩
      ·exact Ex.cI hx
   |jR ta id p lo m=>
    simp only at hx;cases CJ:T.ty ta with
    |arr mm ee ty=>
     simp only[CJ]at hx;cases hd:decide (ty=ty0)with
     |false=>rw[hd]at hx;exact Ex.cI hx
     |true=>
      rw[hd]at hx;simp only[ag]at hx;have hd:ty=ty0:=by simpa using hd
      subst hd;rcases Ex.br hx with⟨hb,hx⟩|⟨_,hx⟩
      ·obtain⟨rfl,rfl,rfl,rfl⟩:=Ex.ret hx;have hb:0<=n/\n<m:=by simpa using hb
       have hR:=ha.1.one rfl;cases hR with
       | @jR _ _ _ _ cp _ ao hq hs _=>
        obtain⟨b0,o0,rfl⟩:=hs (by omega);refine dz.same g _ (Jt K ht b0 o0 m cp k n hb.1 hb.2 X.w) ⟨.mk rfl (.ptr fun b' t' h5=>?_),by simpa[D.refs]using ha.2⟩;obtain⟨m1,e1,ty1,q1,q2,q3,q4,q56⟩:=hq b' t' h5;simp only[aD,Addr.mk.injEq,and_true]at q56;obtain⟨q5,q6⟩:=q56;rw[CJ]at q1;cases q1;have pA:Zr T ta [lo+n.toNat]:=by simp[Zr,CJ];omega
        have mv:er T ta [lo+n.toNat]=(lo+n.toNat)*T.size (T.dG ty):=by simp[er,CJ,(K.base.lj _ _ _ _ CJ).2.2]
        obtain⟨k1,k2⟩:=J0 q3 q2 (lo+n.toNat) [] pA;exact⟨k1,by rw[k2,mv,q5,q6,Nat.add_mul,Nat.add_assoc]⟩
      ·exact Ex.cI hx
    |_=>rw[CJ]at hx;exact Ex.cI hx
   |_=>exact Ex.cI hx
  |arr m el ty0=>
   simp only[ht]at hx
   match a,ha,hx with
   |.ptr id p,ha,hx=>
    simp only at hx;obtain⟨o,la,ho,hx,_⟩:=Ex.rd hx;cases o with
    |cj ty dM l=>exact Ex.cI hx
    |map _ _ _=>exact Ex.cI hx
    |ek _=>exact Ex.cI hx
    |var u d0=>
     simp only[Cg]at hx;cases jg:decide (gG T u p=some t)with
     |false=>rw[jg]at hx;exact Ex.cI hx
     |true=>
      rw[jg]at hx;simp only[ag]at hx;rcases Ex.br hx with⟨hb,hx⟩|⟨_,hx⟩
      ·obtain⟨rfl,rfl,rfl,rfl⟩:=Ex.ret hx;have hb:0<=n/\n<m:=by simpa using hb
       have jg:gG T u p=some t:=by simpa using jg
       obtain⟨b,c,h1,h2,h3,h4⟩:=g.var id u d0 ho;have hR:=ha.1.one rfl;cases hR with
       | @ptr _ _ a' hq=>
        obtain⟨jk,rfl⟩:=hq b u h1;have pA:Zr T t [n.toNat]:=by simp[Zr,ht];omega
        have mv:er T t [n.toNat]=n.toNat*T.size (T.dG ty0):=by simp[er,ht,(K.base.lj _ _ _ _ ht).2.2]
        obtain⟨k1,k2⟩:=J0 jk jg n.toNat [] pA;refine dz.same g _ (KC K ht b _ k n hb.1 hb.2 X.w) ⟨.mk rfl (.ptr fun b' t' h5=>?_),by simpa[D.refs]using ha.2⟩;rw[h1]at h5;simp at h5;obtain⟨rfl,rfl⟩:=h5;exact⟨k1,by rw[k2,mv]⟩
      ·exact Ex.cI hx
   |.dS (.arr ty m' l),ha,hx=>
    simp only at hx;cases hf:cZ T (.arr ty m' l) (.inl t)with
    |false=>rw[hf]at hx;exact Ex.cI hx
    |true=>
     rw[hf]at hx;simp only[ag]at hx;simp only[cZ,ht,ai,Nat.beq_eq,aa]at hf;obtain⟨rfl,rfl⟩:=hf;rcases Ex.br hx with⟨hb,hx⟩|⟨_,hx⟩
     ·obtain⟨rfl,rfl,rfl,rfl⟩:=Ex.ret hx;have hb:0<=n/\n<m:=by simpa using hb
      have hR:=ha.1.one rfl;cases hR with
      | @dS _ b off cs jq hr=>
       refine dz.same g _ (KC K ht b off k n hb.1 hb.2 X.w) ⟨.mk rfl (QqE K jq hr n.toNat (by omega)),?_⟩;simp[D.refs,K.base.fI]
     ·exact Ex.cI hx
   |.dS (.bool _),ha,hx |.dS (.int _ _),ha,hx |.dS (.str _),ha,hx |.dS .bN,ha,hx |.dS (.bI _ _),ha,hx |.dS (.cH _),ha,hx |.dS .eO,ha,hx |.dS (.sl _ _ _),ha,hx
   |.dS (.vs _ _),ha,hx |.dS (.ptr _ _),ha,hx |.dS (.jR _ _ _ _ _),ha,hx |.dS (.fx _ _ _),ha,hx |.dS (.dS _),ha,hx |.dS .fw,ha,hx |.dS (.fn _ _),ha,hx |.dS .cD,ha,hx |.dS .gz,ha,hx |.dS (.bm _ _),ha,hx |.dS (.yl _ _ _ _ _ _ _),ha,hx |.dS .top,ha,hx |.dS (.ku _),ha,hx |.ku _,ha,hx
   |.bool _,ha,hx |.int _ _,ha,hx |.str _,ha,hx |.bN,ha,hx |.bI _ _,ha,hx |.arr _ _ _,ha,hx |.cH _,ha,hx |.eO,ha,hx |.sl _ _ _,ha,hx |.vs _ _,ha,hx |.jR _ _ _ _ _,ha,hx
   |.fx _ _ _,ha,hx |.fw,ha,hx |.fn _ _,ha,hx |.cD,ha,hx |.gz,ha,hx |.bm _ _,ha,hx |.yl _ _ _ _ _ _ _,ha,hx |.top,ha,hx=>exact Ex.cI hx
  |struct nX fs=>
   cases nX with
   |false=>rw[ht]at hx;exact Ex.cI hx
   |true=>
    simp only[ht]at hx;cases a with
    |ptr id p=>
     simp only at hx;obtain⟨o,la,ho,hx,_⟩:=Ex.rd hx;cases o with
     |cj ty dM l=>exact Ex.cI hx
     |map _ _ _=>exact Ex.cI hx
     |ek _=>exact Ex.cI hx
     |var u d0=>
      simp only[Cg]at hx;cases jg:decide (gG T u p=some t)with
      |false=>rw[jg]at hx;exact Ex.cI hx
      |true=>
       rw[jg]at hx;simp only[ag]at hx;rcases Ex.br hx with⟨hb,hx⟩|⟨_,hx⟩
       ·obtain⟨rfl,rfl,rfl,rfl⟩:=Ex.ret hx;have hb:0<=n/\n<fs.length:=by simpa using hb
        have jg:gG T u p=some t:=by simpa using jg
        obtain⟨b,c,h1,h2,h3,h4⟩:=g.var id u d0 ho;have hR:=ha.1.one rfl;cases hR with
        | @ptr _ _ a' hq=>
         obtain⟨jk,rfl⟩:=hq b u h1;have pA:Zr T t [n.toNat]:=by simp[Zr,ht];omega
         have mv:er T t [n.toNat]=Zl T (fs.take n.toNat):=by simp[er,ht]
         obtain⟨k1,k2⟩:=J0 jk jg n.toNat [] pA;refine dz.same g _ (KD K ht b _ k n hb.1 hb.2 X.w) ⟨.mk rfl (.ptr fun b' t' h5=>?_),by simpa[D.refs]using ha.2⟩;rw[h1]at h5;simp at h5;obtain⟨rfl,rfl⟩:=h5;exact⟨k1,by rw[k2,mv]⟩
       ·exact Ex.cI hx
    |dS q=>
     simp only at hx;cases hf:cZ T q (.inl t)with
     |false=>rw[hf]at hx;exact Ex.cI hx
     |true=>
      rw[hf]at hx;simp only[ag]at hx;rcases Ex.br hx with⟨hb,hx⟩|⟨_,hx⟩
      ·cases hn:q.nth n.toNat with
       |none=>rw[hn]at hx;exact Ex.cI hx
       |some x=>
        rw[hn]at hx;obtain⟨rfl,rfl,rfl,rfl⟩:=Ex.ret hx;have hb:0<=n/\n<fs.length:=by simpa using hb
        have hR:=ha.1.one rfl;cases hR with
        | @dS _ b off cs jq hr=>
         obtain⟨c1,c2,c3,hc,hl,fT,_,_⟩:=hr.od K.base ht hf hn;refine dz.same g _ (KD K ht b off k n hb.1 hb.2 X.w) ⟨.mk rfl (.dS (cs:=c2) (fun j v hj=>?_) fT),?_⟩
         ·rw[<-hl,Nat.add_assoc];refine jq _ v ?_;rw[hc,ay,List.getElem?_append_right (by omega)];rw[show c1.length+j-c1.length=j by omega,List.getElem?_append_left (av.1 hj).1];exact hj
         ·intro r kK;exact ha.2 r (by simpa[D.refs]using VG _ _ _ hn r (by simpa[D.refs]using kK))
      ·exact Ex.cI hx
    |_=>exact Ex.cI hx
  |_=>rw[ht]at hx;exact Ex.cI hx
 |_=>exact Ex.cI hx
theorem Qx1{t:TypeId}{a i d:D C}{va vi:Value}(ha:RO T X nx lim a va)(hi:RO T X nx lim i vi)(hx:Ex e (M4 T t a i) h nx d h' cM tr):dz P T X nx lim h' cM d (Instr.index t va vi):=by
 unfold M4 at hx;cases i with
 |int k n=>
  obtain⟨rfl,_⟩:=hi.1.int;cases a with
  |arr ty m l=>
   simp only at hx;cases hf:cZ T (.arr ty m l) (.inl t)with
   |false=>rw[hf]at hx;exact Ex.cI hx
   |true=>
    rw[hf]at hx;simp only[ag]at hx;rcases Ex.br hx with⟨hb,hx⟩|⟨_,hx⟩
    ·obtain⟨rfl,rfl,rfl,rfl⟩:=Ex.ret hx;have hb:0<=n/\n<m:=by simpa using hb
     cases ht:T.ty t with
     |arr m2 el CS=>
      simp only[cZ,ht,ai,Nat.beq_eq,aa]at hf;obtain⟨rfl,rfl⟩:=hf;obtain⟨cs,hr,rfl⟩:=ha.1.row rfl;obtain⟨c1,c2,c3,hc,hl,fT⟩:=hr.elem K.base n.toNat (by omega);have hs:=ZA K (.inl ⟨_,ht⟩) X.w;have yn:cZ T (T.enc ty (l.getD n.toNat (T.fh ty))) (.inl el)=true:=by rw[YG hs.2.2];exact K.base.gh _ _
      obtain⟨v,hv,mU⟩:=J4 K (c1:=c1) (c3:=c3) yn fT X.w;refine dz.same g v ?_ (RO.mk mU (K.base.fI _ _));rw[<-hc,hl,<-hs.2.1]at hv;simp only[Instr.index,asIntOf,aG,aF,aA,aB (K.nZ _ _ _ _ ht).1];simp[hb,hs.1,hv]
     |_=>simp[cZ,ht]at hf
    ·exact Ex.cI hx
  |str s=>
   simp only at hx;cases ht:T.ty t with
   |str=>
    simp only[ht]at hx;rcases Ex.br hx with⟨hb,hx⟩|⟨_,hx⟩
    ·obtain⟨rfl,rfl,rfl,rfl⟩:=Ex.ret hx;have hb:0<=n/\n<s.length:=by simpa using hb
     have hv:=ha.1.str;subst hv;have cY:n.toNat<s.length:=by omega
     have fN:(⟨⟨s⟩⟩:ByteArray).size=s.length:=rfl;refine dz.same g (.int .u8 (s.getD n.toNat 0).toNat) ?_ (RO.mk (.mk rfl (.int ?_)) rfl)
     ·have e1:(⟨⟨s⟩⟩:ByteArray)[n.toNat]? = some (s.getD n.toNat 0):=by
       rw[getElem?_pos _ _ (by rw[fN];exact cY)];simp[ByteArray.getElem_eq_getElem_data,cY]
      simp only[Instr.index,asIntOf,aG,aF,aA,aB (K.lv _ ht)];simp[hb.1,e1]
     ·generalize s.getD n.toNat 0=q;have:=q.toNat_lt;simp[IntKind.min,IntKind.max,IntKind.signed,IntKind.bits];omega
    ·exact Ex.cI hx
   |_=>rw[ht]at hx;exact Ex.cI hx
  |bI p q=>
   simp only at hx;cases ht:T.ty t with
   |struct nX fs=>
    cases nX with
    |false=>rw[ht]at hx;exact Ex.cI hx
    |true=>
     simp only[ht]at hx;cases hf:cZ T (.bI p q) (.inl t)with
     |false=>rw[hf]at hx;exact Ex.cI hx
     |true=>
      rw[hf]at hx;simp only[ag]at hx;rcases Ex.br hx with⟨hb,hx⟩|⟨_,hx⟩
      ·cases hn:(D.bI p q).nth n.toNat with
       |none=>rw[hn]at hx;exact Ex.cI hx
       |some x=>
        rw[hn]at hx;obtain⟨rfl,rfl,rfl,rfl⟩:=Ex.ret hx;have hb:0<=n/\n<fs.length:=by simpa using hb
        obtain⟨cs,hr,rfl⟩:=ha.1.row rfl;obtain⟨c1,c2,c3,hc,hl,fT,hi,jf⟩:=hr.od K.base ht hf hn;obtain⟨el,hu,hs,he,ho⟩:=IJ K ht;obtain⟨v,hv,mU⟩:=J4 K (c1:=c1) (c3:=c3) jf fT X.w;refine dz.same g v ?_ ⟨mU,fun r kK=>ha.2 r (VG _ _ _ hn r kK)⟩;rw[<-hc,hl,ho _ (by omega),he _ hi]at hv;simp only[Instr.index,asIntOf,aG,aF,aA,aB hu];simp[hb,hs,hv]
      ·exact Ex.cI hx
   |_=>rw[ht]at hx;exact Ex.cI hx
  |_=>exact Ex.cI hx
 |_=>exact Ex.cI hx
end
theorem Gj(k:IntKind)(n:Int):k.min<=k.wrap n/\k.wrap n<=k.max:=by
 unfold IntKind.wrap IntKind.min IntKind.max;cases k<;>simp[IntKind.signed,IntKind.bits]<;>(try split)<;>omega
theorem Tx(k:IntKind):k.min<=0/\0<=k.max:=by
 cases k<;>simp[IntKind.min,IntKind.max,IntKind.signed,IntKind.bits]
theorem QqF{a:Int}(h0:0<=a)(b:Int):a.tmod b<=a:=by
 obtain⟨m,rfl⟩:=Int.eq_ofNat_of_zero_le h0;cases b with
 |ofNat n=>exact Int.ofNat_le.2 (Nat.mod_le m n)
 |negSucc n=>exact Int.ofNat_le.2 (Nat.mod_le m (n+1))
theorem QoE{k:IntKind}{a:Int}(ha:k.min<=a/\a<=k.max)(b:Int):k.min<=a.tmod b/\a.tmod b<=k.max:=by
 have hz:=Tx k;rcases Int.le_total 0 a with h0|h0
 ·have h1:=Int.tmod_nonneg b h0;have h2:a.tmod b<=a:=QqF h0 b;omega
 ·have e:a.tmod b = -((-a).tmod b):=by rw[Int.neg_tmod,Int.neg_neg]
  have h1:=Int.tmod_nonneg b (by omega:0 <= -a);have h2:(-a).tmod b <= -a:=QqF (by omega) b;omega
theorem QoF{k:IntKind}{a:Int}(ha:k.min<=a/\a<=k.max)(n:Nat):k.min<=a.fdiv (2^n)/\a.fdiv (2^n)<=k.max:=by
 have hz:=Tx k;have hp:(0:Int)<2^n:=Int.pow_pos (by decide);rw[aQ _ (by omega)];rcases Int.le_total 0 a with h0|h0
 ·have h1:=Int.ediv_nonneg h0 (by omega:(0:Int)<=2^n);have h2:=Int.ediv_le_self (2^n) h0;omega
 ·have h1:a/2^n<=0:=Int.ediv_nonpos_of_nonpos_of_neg h0 (by omega)
  have h2:a<=a/2^n:=by
   rw[Int.le_ediv_iff_mul_le hp];have:a*2^n<=a*1:=Int.mul_le_mul_of_nonpos_left h0 (by omega);omega
  omega
section
variable {C:ij}{P:Program}{T:fA C}(K:Zq P T)
open Pg (Ex)
variable {X:Cx}{h h':Heap C}{nx cM:Nat}{e:Pg.Lv}{lim:eL}{tr:Tr}(g:G T X h nx lim)
include g
theorem QqG{op:BinOp}{k k':IntKind}{a b:Int}{d:D C}(t:TypeId)(x y:Operand)(ha:k.min<=a/\a<=k.max)(hk:Hb op=true\/k=k')(hx:Ex e (R7 op k a b) h nx d h' cM tr) :
 dz P T X nx lim h' cM d (do eqGuard op t x y (.int k a) (.int k' b);binOp op t (.int k a) (.int k' b)):=by
 have hb:∀(c:Bool),RO T X nx lim (.bool c) (.bool c):=fun c=>RO.mk (.mk rfl (.bool c)) rfl;have hi:∀(n:Int),k.min<=n/\n<=k.max->RO T X nx lim (.int k n) (.int k n):=fun n hn=>RO.mk (.mk rfl (.int hn)) rfl;have hw:∀n,RO T X nx lim (.int k (k.wrap n)) (.int k (k.wrap n)):=fun n=>hi _ (Gj k n);cases op
 case shl=>
  rcases Ex.br hx with⟨_,hx⟩|⟨rn,hx⟩
  ·exact Ex.cI hx
  ·obtain⟨rfl,rfl,rfl,rfl⟩:=Ex.ret hx;exact dz.same g _ (by simp[eqGuard_at_int,binOp,Op.shift,show ¬b<0 by simpa using rn]) (hw _)
 case shr=>
  rcases Ex.br hx with⟨_,hx⟩|⟨rn,hx⟩
  ·exact Ex.cI hx
  ·obtain⟨rfl,rfl,rfl,rfl⟩:=Ex.ret hx;exact dz.same g _ (by simp[eqGuard_at_int,binOp,Op.shift,show ¬b<0 by simpa using rn]) (hi _ (QoF ha _))
 all_goals
  have hk:k=k':=by simpa[Hb]using hk
  subst hk
 case quo=>
  rcases Ex.br hx with⟨_,hx⟩|⟨rn,hx⟩
  ·exact Ex.cI hx
  ·obtain⟨rfl,rfl,rfl,rfl⟩:=Ex.ret hx;exact dz.same g _ (by simp[eqGuard_at_int,binOp,Op.intDiv,show ¬b=0 by simpa using rn]) (hw _)
 case rem=>
  rcases Ex.br hx with⟨_,hx⟩|⟨rn,hx⟩
  ·exact Ex.cI hx
  ·obtain⟨rfl,rfl,rfl,rfl⟩:=Ex.ret hx;exact dz.same g _ (by simp[eqGuard_at_int,binOp,Op.intDiv,show ¬b=0 by simpa using rn]) (hi _ (QoE ha _))
 all_goals obtain⟨rfl,rfl,rfl,rfl⟩:=Ex.ret hx
 case add|sub|mul=>exact dz.same g _ (by simp[eqGuard_at_int,binOp,Op.intArith]) (hw _)
 case and|or|xor|andNot=>exact dz.same g _ (by simp only[eqGuard_at_int,binOp_and,binOp_or,binOp_xor,binOp_andNot,aG,aF,aA];rfl) (hw _)
 all_goals exact dz.same g _ (by simp[eqGuard_at_int,binOp,Op.intCmp]) (hb _)
theorem QqH{op:BinOp}{a b:bK}{d:D C}(t:TypeId)(x y:Operand)(hx:Ex e (NW op a b) h nx d h' cM tr) :
 dz P T X nx lim h' cM d (do eqGuard op t x y (.string ⟨⟨a⟩⟩) (.string ⟨⟨b⟩⟩);binOp op t (.string ⟨⟨a⟩⟩) (.string ⟨⟨b⟩⟩)):=by
 have hb:∀(c:Bool),RO T X nx lim (.bool c) (.bool c):=fun c=>RO.mk (.mk rfl (.bool c)) rfl;have hl:∀q:bK,(⟨⟨q⟩⟩:ByteArray).toList=q:=fun q=>by rw[ByteArray.toList_eq]
 cases op<;>simp only[NW]at hx
 case eql=>
  obtain⟨rfl,rfl,rfl,rfl⟩:=Ex.ret hx;exact dz.same g _ (by simp[eqGuard_at_string,binOp,Op.stringOp,hl]) (hb _)
 case neq=>
  obtain⟨rfl,rfl,rfl,rfl⟩:=Ex.ret hx;exact dz.same g _ (by simp[eqGuard_at_string,binOp,Op.stringOp,hl]) (hb _)
 case add=>
  rcases Ex.br hx with⟨rn,hx⟩|⟨_,hx⟩
  ·obtain⟨rfl,rfl,rfl,rfl⟩:=Ex.ret hx;have hle:a.length+b.length<=1000000000:=by simpa using rn
   refine dz.same g (.string ⟨⟨a++b⟩⟩) ?_ (RO.mk (.mk rfl (.str _)) rfl);have h1:(⟨⟨a⟩⟩:ByteArray).size=a.length:=rfl;have h2:(⟨⟨b⟩⟩:ByteArray).size=b.length:=rfl;have h3:¬(((⟨⟨a⟩⟩:ByteArray).size+(⟨⟨b⟩⟩:ByteArray).size:Nat):Int)>IntKind.i64.max:=by rw[h1,h2,IntKind.max_i64];omega
   have h4:(⟨⟨a⟩⟩:ByteArray)++⟨⟨b⟩⟩=⟨⟨a++b⟩⟩:=by
    apply ByteArray.ext;simp
   simp only[eqGuard_at_string,binOp,Op.stringOp,aG,aF,aA];rw[aw h3,h4];rfl
  ·exact Ex.cI hx
 all_goals exact Ex.cI hx
include K in
omit g in
theorem Sg{x y:D C}{b:Bool}{t:TypeId}{vx vy:Value}(he:o5 x y=some b)(hf:cZ T x (.inl t)=true)(hx:RV T X x vx)(hy:RV T X y vy)(n:Nat)(w:World) :
 (Op.equalIn (n+1) t vx vy).run P w=.ok b w:=by
 have hl:∀q:bK,(⟨⟨q⟩⟩:ByteArray).toList=q:=fun q=>by rw[ByteArray.toList_eq]
 have ex:∀q:D C,(∃c,o5 x y=some c/\x=q)->True:=fun _ _=>trivial;cases x<;>cases y<;>simp[o5]at he
 case bool.bool a c=>
  rw[hx.bool,hy.bool];cases ht:T.ty t<;>simp[cZ,ht]at hf
  rw[run_equalIn_bool w n t a c (K.ol _ ht),<-he]
 case int.int k a k' c=>
  obtain⟨rfl,rfl⟩:=he;rw[hx.int.1,hy.int.1];cases ht:T.ty t<;>simp[cZ,ht]at hf
  rw[run_equalIn_int w n t k _ a c (K.nG _ _ ht)]
 case str.str a c=>
  rw[hx.str,hy.str];cases ht:T.ty t<;>simp[cZ,ht]at hf
  rw[run_equalIn_string w n t _ _ (K.lv _ ht),hl,hl,<-he]
 all_goals
  have q1:=hx.one rfl;have q2:=hy.one rfl;cases ht:T.ty t<;>simp[cZ,ht]at hf
  cases q1;cases q2;subst he
  first
   |simp[Op.equalIn,aB (K.FU _ _ ht)]
   |(obtain⟨a,b,c,hu⟩:=K.uFn _ ht;simp[Op.equalIn,aB hu])
def xm(d:Nat)(el:TypeId)(n:Nat)(xs ys:b7):bU->Sem Bool
 |[]=>pure true
 |i::is=>do
  let a <-part el xs (i*n)
  let b <-part el ys (i*n)
  let r <-Op.equalIn d el a b
  if(!r)=true then pure false else xm d el n xs ys is
omit g in
theorem Qcz(d:Nat)(t el:TypeId)(n len:Nat)(xs ys:b7)(ht:P.underlying t=some (.array len el))(hn:∀w,(sizeOf el).run P w=.ok n w)(w:World) :
 (Op.equalIn (d+1) t (.agg xs) (.agg ys)).run P w=(xm d el n xs ys (List.range' 0 len)).run P w:=by
 simp only[Op.equalIn,aG,aB ht,aA,hn];rw[Std.Legacy.Range.forIn_eq_forIn_range'];have hs:Std.Legacy.Range.size [:len]=len:=by simp[Std.Legacy.Range.size]
 rw[hs];generalize List.range' 0 len=is;show((forIn (m:=Sem) is _ _).run P w).andThen _=_
 induction is generalizing w with
 |nil=>simp[xm]
 |cons i is ih=>
  simp only[List.forIn_cons,xm,aG,Sem.run_ite];generalize (part el xs (i*n)).run P w=r1;cases r1 with
  |ok a w1=>
   simp only[aA];generalize (part el ys (i*n)).run P w1=r2;cases r2 with
   |ok b w2=>
    simp only[aA];generalize (Op.equalIn d el a b).run P w2=r3;cases r3 with
    |ok r w3=>
     cases r
     ·simp only[aA,bh,aU,aF]
     ·simp only[aA,bg,bu,aL,aF];exact ih w3
    |halt x w3=>simp[Result.andThen]
   |halt x w2=>simp[Result.andThen]
  |halt x w1=>simp[Result.andThen]
include K in
omit g in
theorem QEo{ty:C.Ty}{t el:TypeId}{n:Nat}(ht:T.ty t=.arr n el ty){l m:List (C.A ty)}{cx cy:bT}(hx:R T X false (.arr ty n l) cx)(hy:R T X false (.arr ty n m) cy)(d:Nat)(w:World) :
 ∀(j k:Nat) (b:Bool),j+k=n->Cs T (l.drop k) (m.drop k)=some b->(xm (d+1) el (T.size el) ⟨cx⟩ ⟨cy⟩ (List.range' k j)).run P w=.ok b w:=by
 have ve:=(hx.gE K.base).2;have hly:=(hy.gE K.base).2;have hs:=ZA K (.inl ⟨_,ht⟩) w;intro j
 induction j with
 |zero=>
  intro k b hk he;rw[aO (by omega),aO (by omega)]at he;simp[Cs]at he;subst he;simp[xm]
 |succ j ih=>
  intro k b hk he;have CD:k<l.length:=by omega
  have hky:k<m.length:=by omega
  rw[aJ CD,aJ hky]at he;simp only[Cs]at he;cases h1:T.sy ty l[k] m[k]with
  |none=>rw[h1]at he;simp at he
  |some b1=>
   cases h2:Cs T (l.drop (k+1)) (m.drop (k+1))with
   |none=>rw[h1,h2]at he;simp at he
   |some b2=>
    rw[h1,h2]at he;simp at he;subst he;obtain⟨c1,c2,c3,hc,hl,hr⟩:=hx.elem K.base k (by omega);obtain⟨d1,d2,d3,hd,kR,fT⟩:=hy.elem K.base k (by omega);have gx:l.getD k (T.fh ty)=l[k]:=by simp[CD]
    have gy:m.getD k (T.fh ty)=m[k]:=by simp[hky]
    rw[gx]at hr;rw[gy]at fT;have jf:cZ T (T.enc ty l[k]) (.inl el)=true:=by rw[YG hs.2.2];exact K.base.gh _ _
    have kw:cZ T (T.enc ty m[k]) (.inl el)=true:=by rw[YG hs.2.2];exact K.base.gh _ _
    obtain⟨vx,yR,o8⟩:=J4 K (c1:=c1) (c3:=c3) jf hr w;obtain⟨vy,CK,PK⟩:=J4 K (c1:=d1) (c3:=d3) kw fT w;rw[<-hc,hl,<-hs.2.1]at yR;rw[<-hd,kR,<-hs.2.1]at CK;have ER:=Sg K (K.sy _ _ _ _ h1) jf o8 PK d w;have Ib:=ih (k+1) b2 (by omega) h2;simp only[List.range'_succ,xm,aG,yR,aA,CK,ER];cases b1
    ·simp
    ·simp[Ib]
include K in
omit g in
theorem QEp(x:D C):(∀(y:D C) (b:Bool) (t:TypeId) (vx vy:Value) (n:Nat) (w:World),x.rh<=n->oZ T x y=some b->rf T x (.inl t)=true->cZ T x (.inl t)=true->cZ T y (.inl t)=true->RV T X x vx->RV T X y vy ->
 (Op.equalIn (n+1) t vx vy).run P w=.ok b w) /\
 (∀(y:D C) (b:Bool) (fs:cK) (db:List Field) (px py cx cy:bT) (n:Nat) (w:World),x.rh<=n->oZ T x y=some b->rf T x (.inr fs)=true->cZ T x (.inr fs)=true->cZ T y (.inr fs)=true ->
  R T X false x cx->R T X false y cy->px.length=py.length->db.map (·.type)=fs->(∀ (j : Nat) (f : Field),db[j]? = some f->f.offset=px.length+Zl T (fs.take j))->(∀ f ∈ db,f.name ≠ "_") ->
  (Op.eqFields n ⟨px++cx⟩ ⟨py++cy⟩ db).run P w=.ok b w):=by
 induction x with
 |bI d ds i1 i2=>
  have row:∀(y:D C) (b:Bool) (fs:cK) (db:List Field) (px py cx cy:bT) (n:Nat) (w:World),(D.bI d ds).rh<=n->oZ T (D.bI d ds) y=some b->rf T (D.bI d ds) (.inr fs)=true->cZ T (D.bI d ds) (.inr fs)=true->cZ T y (.inr fs)=true ->
   R T X false (D.bI d ds) cx->R T X false y cy->px.length=py.length->db.map (·.type)=fs->(∀ (j : Nat) (f : Field),db[j]? = some f->f.offset=px.length+Zl T (fs.take j))->(∀ f ∈ db,f.name ≠ "_") ->
   (Op.eqFields n ⟨px++cx⟩ ⟨py++cy⟩ db).run P w=.ok b w:=by
   intro y b fs db px py cx cy n w hn he iH jf kw hx hy hp yo qk vg;cases y with
   |bI d' ri=>
    simp only[oZ]at he;cases h1:oZ T d d' with
    |none=>rw[h1]at he;simp at he
    |some b1=>
     cases h2:oZ T ds ri with
     |none=>rw[h1,h2]at he;simp at he
     |some b2=>
      rw[h1,h2]at he;simp at he;subst he;cases fs with
      |nil=>simp[cZ]at jf
      |cons f fs=>
       simp only[cZ,ai]at jf kw;simp only[rf,ai]at iH;cases db with
       |nil=>simp at yo
       |cons fd db=>
        simp at yo;obtain⟨H7,ET⟩:=yo;cases hx with
        | @bI _ _ c1 c2 mw fW=>
         cases hy with
         | @bI _ _ e1 e2 hy1 Fk=>
          have uY:d.rh+1<=n/\ds.rh<=n:=by simp[D.rh]at hn;omega
          obtain⟨m,rfl⟩:∃m,n=m+1:=⟨n-1,by omega⟩;have ho:=qk 0 fd rfl;simp[Zl]at ho;rw[<-H7]at jf kw iH;obtain⟨vx,yR,o8⟩:=J4 K (c1:=px) (c3:=c2) jf.1 mw w;obtain⟨vy,CK,PK⟩:=J4 K (c1:=py) (c3:=e2) kw.1 hy1 w;have ER:=i1.1 d' b1 fd.type vx vy m w (by omega) h1 iH.1 jf.1 kw.1 o8 PK;have yB:=mw.len K.base jf.1;have nR:=hy1.len K.base kw.1
          have Ib:=i2.2 ri b2 fs db (px++c1) (py++e1) c2 e2 (m+1) w uY.2 h2 iH.2 jf.2 kw.2 fW Fk (by simp;omega) ET (by
           intro j f' hj;have:=qk (j+1) f' (by simpa using hj);rw[this];simp[Zl,yB,H7];omega) (fun q hq=>vg q (by simp[hq]))
          simp only[ay]at yR CK Ib;rw[<-hp]at CK;simp only[Op.eqFields,vg fd (by simp),ne_eq,not_false_eq_true,aU,aG,ho,yR,aA,CK,ER];cases b1
          ·simp
          ·simp[Ib]
   |_=>simp[oZ,o5]at he
  refine⟨?_,row⟩;intro y b t vx vy n w hn he iH jf kw hx hy;cases ht:T.ty t with
  |struct nX fs=>
   have sN:nX=false/\rf T (D.bI d ds) (.inr fs)=true:=by
    cases nX<;>cases fs<;>simp[rf,ht]at iH ⊢
    exact iH
   obtain⟨rfl,sN⟩:=sN;obtain⟨cx,fW,rfl⟩:=hx.row rfl;have PW:y.dA=true:=(J2 kw).2 (.inl ⟨_,fs,ht⟩);obtain⟨cy,Fk,rfl⟩:=hy.row PW;obtain⟨db,hu,hm,ho,eI,_,vg⟩:=K.kA _ _ ht;have lq:P.fieldsOf t=db:=by simp[Program.fieldsOf,hu]
   rw[run_equalIn_struct w n t _ _ (by rw[lq];exact hu) eI,lq]
   have hyc:∃a b,y=.bI a b:=by
    cases y<;>simp[oZ,o5]at he
    exact⟨_,_,rfl⟩
   refine row y b fs db.toList [] [] cx cy n w hn he sN (by rw[<-Dx ht ⟨_,_,rfl⟩];exact jf) (by rw[<-Dx ht hyc];exact kw) fW Fk rfl hm (fun j f hj=>?_) vg
   simpa using ho j f (by simpa using hj)
  |_=>simp[cZ,ht]at jf
 |bN=>
  refine⟨?_,?_⟩
  ·intro y b t vx vy n w hn he iH jf kw hx hy;cases ht:T.ty t<;>simp[cZ,ht]at jf
   rename_i fs;cases fs with
   |nil=>
    have:=K.base.pos t (fun h=>by simp[ht]at h);rw[K.base.jN _ _ _ ht]at this;simp[Zl]at this
   |cons=>simp at jf
  ·intro y b fs db px py cx cy n w hn he iH jf kw hx hy hp yo qk vg;cases fs with
   |nil=>
    cases db with
    |nil=>
     cases y<;>simp[oZ,o5]at he
     subst he;simp[Op.eqFields]
    |cons=>simp at yo
   |cons=>simp[cZ]at jf
 |arr ty m l=>
  refine⟨?_,fun y b fs db px py cx cy n w _ _ _ hf=>by simp[cZ]at hf⟩;intro y b t vx vy n w hn he iH jf kw hx hy;cases ht:T.ty t with
  |arr m2 el CS=>
   simp only[cZ,ht,ai,Nat.beq_eq,aa]at jf;obtain⟨rfl,rfl⟩:=jf;cases y with
   |arr pf m3 l3=>
    simp only[cZ,ht,ai,Nat.beq_eq,aa]at kw;obtain⟨rfl,rfl⟩:=kw;simp[oZ]at he;obtain⟨cx,fW,rfl⟩:=hx.row rfl;obtain⟨cy,Fk,rfl⟩:=hy.row rfl;have fN:=fun w=>(ZA K (.inl ⟨_,ht⟩) w).1;obtain⟨k,rfl⟩:∃k,n=k+1:=⟨n-1,by simp[D.rh]at hn;omega⟩;rw[Qcz (k+1) t el (T.size el) m2 _ _ (K.nZ _ _ _ _ ht).1 fN];exact QEo K ht fW Fk k w m2 0 b (by omega) (by simpa using he)
   |_=>simp[oZ,o5]at he
  |_=>simp[cZ,ht]at jf
 |_=>
  refine⟨?_,fun y b fs db px py cx cy n w _ _ _ hf=>by simp[cZ]at hf⟩;intro y b t vx vy n w hn he iH jf kw hx hy;refine Sg K (x:=_) (y:=y) ?_ jf hx hy n w;cases y<;>simpa[oZ]using he
include K
theorem Qx2{op:BinOp}{x y d:D C}{t:TypeId}{vx vy:Value}(ox oy:Operand)(hx:RO T X nx lim x vx)(hy:RO T X nx lim y vy)(hxi:¬ ∃k n,x=.int k n/\∃k n,y=.int k n)(uk:¬ ∃s,x=.str s/\∃s,y=.str s)
 (dX:Ex e (Iv T op t x y) h nx d h' cM tr):dz P T X nx lim h' cM d (do eqGuard op t ox oy vx vy;binOp op t vx vy):=by
 unfold Iv at dX;cases hc:cZ T x (.inl t)&&cZ T y (.inl t)&&(Nat.ble x.rh 1000&&rf T x (.inl t))with
 |false=>rw[hc]at dX;exact Ex.cI dX
 |true=>
  rw[hc]at dX;simp only[ag]at dX;simp only[ai]at hc;obtain⟨⟨jf,kw⟩,uY,iH⟩:=hc;have uY:=Nat.le_of_ble_eq_true uY;have key:∀b,oZ T x y=some b->∀w,(Op.equalIn 10000 t vx vy).run P w=.ok b w:=fun b hb w=>(QEp K x).1 y b t vx vy 9999 w (by omega) hb iH jf kw hx.1 hy.1
  have fin:(∀w,(eqGuard op t ox oy vx vy).run P w=.ok () w)->(∀b w,(Op.equalIn 10000 t vx vy).run P w=.ok b w->(binOp .eql t vx vy).run P w=.ok (.bool b) w/\(binOp .neq t vx vy).run P w=.ok (.bool !b) w) ->
   dz P T X nx lim h' cM d (do eqGuard op t ox oy vx vy;binOp op t vx vy):=by
   intro h1 h2;cases op<;>simp only at dX
   case eql=>
    obtain⟨b,h3,n3,t3,t4,rp,EO,_⟩:=Ex.bind dX;obtain⟨hb,rfl,rfl,rfl⟩:=Ex.jZ rp;obtain⟨rfl,rfl,rfl,rfl⟩:=Ex.ret EO;refine dz.same g (.bool b) ?_ (RO.mk (.mk rfl (.bool b)) rfl);simp only[aG,h1,aA];exact(h2 b _ (key b hb _)).1
   case neq=>
    obtain⟨b,h3,n3,t3,t4,rp,EO,_⟩:=Ex.bind dX;obtain⟨hb,rfl,rfl,rfl⟩:=Ex.jZ rp;obtain⟨rfl,rfl,rfl,rfl⟩:=Ex.ret EO;refine dz.same g (.bool !b) ?_ (RO.mk (.mk rfl (.bool !b)) rfl);simp only[aG,h1,aA];exact(h2 b _ (key b hb _)).2
   all_goals exact Ex.cI dX
  have none:oZ T x y=none->False:=by
   intro hn;cases op<;>simp only at dX
   case eql=>obtain⟨b,_,_,_,_,rp,_⟩:=Ex.bind dX;rw[hn]at rp;exact Ex.fail rp
   case neq=>obtain⟨b,_,_,_,_,rp,_⟩:=Ex.bind dX;rw[hn]at rp;exact Ex.fail rp
   all_goals exact Ex.fail dX
  have Eg:∀cx cy:bT,vx=.agg ⟨cx⟩->vy=.agg ⟨cy⟩->P.eqGuardType P.depth t=false->dz P T X nx lim h' cM d (do eqGuard op t ox oy vx vy;binOp op t vx vy):=by
   rintro cx cy rfl rfl hg
   refine fin (fun w=>?_) (fun b w hb=>⟨by rw[run_eql_struct,hb];rfl,by rw[run_neq_struct,hb];rfl⟩);unfold eqGuard;cases op<;>simp[hg]
  cases ht:T.ty t with
  |struct nX fs=>
   obtain⟨cx,_,h1⟩:=hx.1.row ((J2 jf).2 (.inl ⟨_,fs,ht⟩));obtain⟨cy,_,h2⟩:=hy.1.row ((J2 kw).2 (.inl ⟨_,fs,ht⟩))
   have sN:nX=false:=by
    cases nX with
    |false=>rfl
    |true=>
     have nj:=K.base.pos t (fun h=>by simp[ht]at h);rw[K.base.jN _ _ _ ht]at nj;exfalso;cases x<;>simp[cZ,ht]at jf
     ·cases fs with
      |nil=>simp[Zl]at nj
      |cons=>simp at jf
     ·cases fs<;>simp[rf,ht]at iH
   subst sN;obtain⟨_,_,_,_,_,hg,_⟩:=K.kA _ _ ht;exact Eg cx cy h1 h2 hg
  |arr n el ty=>
   obtain⟨cx,_,h1⟩:=hx.1.row ((J2 jf).2 (.inr ⟨_,_,_,ht⟩));obtain⟨cy,_,h2⟩:=hy.1.row ((J2 kw).2 (.inr ⟨_,_,_,ht⟩));exact Eg cx cy h1 h2 (K.nZ _ _ _ _ ht).2
  |bool=>
   cases x<;>simp[cZ,ht]at jf
   cases y<;>simp[cZ,ht]at kw
   rw[hx.1.bool,hy.1.bool];rw[hx.1.bool,hy.1.bool]at fin;refine fin (fun w=>by rw[eqGuard_at_bool];rfl) (fun b w hb=>?_);constructor<;>simp only[binOp,Op.equal,Op.maxDepth,aG,hb,aA,aF]
  |int k=>
   cases x<;>simp[cZ,ht]at jf
   cases y<;>simp[cZ,ht]at kw
   exact absurd ⟨_,_,rfl,_,_,rfl⟩ hxi
  |str=>
   cases x<;>simp[cZ,ht]at jf
   cases y<;>simp[cZ,ht]at kw
   exact absurd ⟨_,rfl,_,rfl⟩ uk
  |sl el ty=>
   exfalso;apply none;cases x<;>simp[cZ,ht]at jf<;>cases y<;>simp[cZ,ht]at kw<;>rfl
  |ptr el=>
   have h1:∃a,vx=.pointer a:=by
    cases x<;>simp[cZ,ht]at jf<;>have q:=hx.1.one rfl<;>cases q<;>exact⟨_,rfl⟩
   have h2:∃a,vy=.pointer a:=by
    cases y<;>simp[cZ,ht]at kw<;>have q:=hy.1.one rfl<;>cases q<;>exact⟨_,rfl⟩
   obtain⟨a,rfl⟩:=h1;obtain⟨b,rfl⟩:=h2;refine fin (fun w=>by rw[eqGuard_at_pointer];rfl) (fun b w hb=>?_);constructor<;>simp only[binOp,Op.equal,Op.maxDepth,aG,hb,aA,aF]
  |fn=>
   have h1:(∃a b c,vx=.func a b c)\/vx=.nilFunc:=by
    cases x<;>simp[cZ,ht]at jf<;>have q:=hx.1.one rfl<;>cases q
    ·exact .inl ⟨_,_,_,rfl⟩
    ·exact .inr rfl
    ·exact .inl ⟨_,_,_,rfl⟩
   have h2:(∃a b c,vy=.func a b c)\/vy=.nilFunc:=by
    cases y<;>simp[cZ,ht]at kw<;>have q:=hy.1.one rfl<;>cases q
    ·exact .inl ⟨_,_,_,rfl⟩
    ·exact .inr rfl
    ·exact .inl ⟨_,_,_,rfl⟩
   refine fin (fun w=>?_) (fun b w hb=>?_)
   ·rcases h1 with⟨_,_,_,rfl⟩|rfl
    ·rw[eqGuard_at_func];rfl
    ·rw[eqGuard_at_nilFunc];rfl
   ·rcases h1 with⟨_,_,_,rfl⟩|rfl<;>rcases h2 with⟨_,_,_,rfl⟩|rfl<;>
     constructor<;>simp only[binOp,Op.equal,Op.maxDepth,aG,hb,aA,aF]
  |fY el=>
   exfalso;apply none;cases x<;>simp[cZ,ht]at jf<;>cases y<;>simp[cZ,ht]at kw<;>rfl
  |map kt vt ck cv=>
   exfalso;apply none;cases x<;>simp[cZ,ht]at jf<;>cases y<;>simp[cZ,ht]at kw<;>rfl
  |none=>cases x<;>simp[cZ,ht]at jf
theorem QEq{op:BinOp}{x y d:D C}{t:TypeId}{vx vy:Value}(ox oy:Operand)(hx:RO T X nx lim x vx)(hy:RO T X nx lim y vy)(dX:Ex e (xS T op t x y) h nx d h' cM tr) :
 dz P T X nx lim h' cM d (do eqGuard op t ox oy vx vy;binOp op t vx vy):=by
 unfold xS at dX
 by_cases h1:∃k n,x=.int k n/\∃k n,y=.int k n
 ·obtain⟨k,a,rfl,k',b,rfl⟩:=h1;simp only at dX;cases hc:Hb op||decide (k=k')with
  |false=>rw[hc]at dX;exact Ex.cI dX
  |true=>
   rw[hc]at dX;obtain⟨rfl,ha⟩:=hx.1.int;obtain⟨rfl,_⟩:=hy.1.int;exact QqG g t ox oy ha (by simpa using hc) dX
 ·by_cases h2:∃s,x=.str s/\∃s,y=.str s
  ·obtain⟨a,rfl,b,rfl⟩:=h2;rw[hx.1.str,hy.1.str];exact QqH g t ox oy dX
  ·by_cases h3:∃ty c l,x=.sl ty c l/\y=.eO
   ·obtain⟨ty,c,l,rfl,rfl⟩:=h3;simp only at dX
    split at dX
    ·rename_i el jn ht;have hu:=K.oT _ _ _ ht;rw[hy.1.eO]
     have gm:∀{op:BinOp} {d:D C} {r:Bool},l.isEmpty=false->op=.eql/\r=false\/op=.neq/\r=true->d=.bool r->dz P T X nx lim h nx d (do eqGuard op t ox oy vx (.slice none 0 0);binOp op t vx (.slice none 0 0)):=by
      rintro op d r hl hop rfl
      have hR:=hx.1.one rfl;cases hR with
      |li=>simp at hl
      | @sl _ _ _ b off cp cs jq hr hc kZ=>
       refine dz.same g (.bool r) ?_ (RO.mk (.mk rfl (.bool r)) rfl)
       have hq:∀n w,(Op.equalIn (n+1) t (.slice (some ⟨b,off,none⟩) l.length cp) (.slice none 0 0)).run P w=.ok false w:=by
        intro n w;unfold Op.equalIn;simp only[aG,aB hu,aA,aF]
       have H9:∀w,(eqGuard op t ox oy (.slice (some ⟨b,off,none⟩) l.length cp) (.slice none 0 0)).run P w=.ok () w:=by
        intro w;unfold eqGuard;cases op<;>rfl
       have hb:=hq 9999 X.w;simp only[Nat.reduceAdd]at hb;rw[aG,H9,aA];rcases hop with⟨rfl,rfl⟩|⟨rfl,rfl⟩<;>simp only[binOp,Op.equal,Op.maxDepth,aG,hb,aA,aF]<;>rfl
     unfold R8 at dX;cases op<;>simp only at dX
     case eql=>
      rcases Ex.br dX with⟨_,dX⟩|⟨hb,dX⟩
      ·exact Ex.cI dX
      ·obtain⟨rfl,rfl,rfl,rfl⟩:=Ex.ret dX;exact gm hb (.inl ⟨rfl,rfl⟩) rfl
     case neq=>
      rcases Ex.br dX with⟨_,dX⟩|⟨hb,dX⟩
      ·exact Ex.cI dX
      ·obtain⟨rfl,rfl,rfl,rfl⟩:=Ex.ret dX;exact gm hb (.inr ⟨rfl,rfl⟩) rfl
     all_goals exact Ex.cI dX
    ·exact Ex.cI dX
   ·refine Qx2 (e:=e) (tr:=tr) K g ox oy hx hy h1 h2 ?_;cases x<;>cases y<;>first|exact dX|(exfalso;apply h1;exact⟨_,_,rfl,_,_,rfl⟩)|(exfalso;apply h2;exact⟨_,rfl,_,rfl⟩)|(exfalso;apply h3;exact⟨_,_,_,rfl,rfl⟩)
end
end Go.Ev
