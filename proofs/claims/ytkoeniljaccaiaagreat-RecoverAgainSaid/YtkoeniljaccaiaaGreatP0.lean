/-
  A part of the proof of a statement of this seat: the model is run over values by content, proved sound; what the functions come to. No condition beyond the given statements. (text 1)
-/
import Derived.Orders
import Derived.Laws.CopyRow
import Derived.Laws.Append
import Derived.Below
import Derived.Laws.StructEq
import Derived.Laws.BytesString
noncomputable section
namespace Go.Ev
theorem aa{p:Prop}[Decidable p]:(decide p=true)=p:=decide_eq_true_eq
theorem ab{p:Prop}[i:Decidable p]:p->decide p=true:=decide_eq_true
theorem ad{p:Prop}[i:Decidable p]:¬p->decide p=false:=decide_eq_false
theorem ae{p:Prop}[Decidable p]:(decide p=false)↔¬p:=decide_eq_false_iff_not
theorem af{p:Prop}[i:Decidable p]:decide p=true->p:=of_decide_eq_true
theorem ag{α:Type _}(a b:α):cond true a b=a:=rfl
theorem ah{α:Type _}(a b:α):cond false a b=b:=rfl
theorem ai(a b:Bool):((a&&b)=true)=(a=true∧b=true):=Bool.and_eq_true a b
theorem aj{α:Type _}{a b:α}(h:some a=some b):a=b:=Option.some.inj h
theorem ak{α β:Type _}{a c:α}{b d:β}(h:some (a,b)=some (c,d)):a=c∧b=d:=by cases h;exact⟨rfl,rfl⟩
abbrev ap:=@congrArg
abbrev aq:=@Nat.le_refl
abbrev ar:=@List.getD_eq_getElem?_getD
abbrev au:=@Bool.and_self
abbrev av:=@List.getElem?_eq_some_iff
abbrev aw:=@if_neg
abbrev ax:=@if_pos
abbrev ay:=@List.append_assoc
abbrev az:=@Nat.eq_of_beq_eq_true
abbrev aA:=@Result.andThen_ok
abbrev aB:=@run_underlying
abbrev aC:=@List.length_append
abbrev aD:=@Option.some.injEq
abbrev aE:=@List.length_cons
abbrev aF:=@Sem.run_pure
abbrev aG:=@Sem.run_bind
abbrev aH:=@List.nil_append
abbrev aI:=@Array.getElem?_eq_some_iff
abbrev aJ:=@List.drop_eq_getElem_cons
abbrev aK:=@Nat.zero_le
abbrev aL:=@if_false
abbrev aM:=@decide_true
abbrev aN:=@Nat.zero_add
abbrev aO:=@List.drop_eq_nil_of_le
abbrev aP:=@List.cons_append
abbrev aQ:=@Int.fdiv_eq_ediv_of_nonneg
abbrev aR:=@List.append_nil
abbrev aS:=@List.mem_cons_of_mem
abbrev aT:=@List.mem_append
abbrev aU:=@if_true
abbrev aV:=@List.mem_cons_self
abbrev aW:=@decide_false
abbrev aX:=@List.all_eq_true
abbrev aY:=@List.getElem?_eq_getElem
abbrev aZ:=@List.mem_cons
abbrev ba:=@Option.getD_some
abbrev bc:=@List.getElem?_eq_none
abbrev bf:=@List.length_set
abbrev bg:=@Bool.not_true
abbrev bh:=@Bool.not_false
abbrev bi:=@beq_iff_eq
abbrev bj:=@Nat.lt_of_lt_of_le
abbrev bk:=@Nat.le_trans
abbrev bn:=@List.take_append_drop
abbrev bp:=@List.length_take
abbrev bq:=@List.length_drop
abbrev bt:=@List.length_replicate
abbrev bu:=@Bool.false_eq_true
abbrev bw:=@Int.toNat_natCast
abbrev bA:=@List.getElem_mem
abbrev bB:=@List.getElem?_map
abbrev bC:=@Option.map_some
abbrev bD:=@List.drop_drop
abbrev bE:=@List.mem_singleton
abbrev bF:=@List.replicate_zero
abbrev bG:=@List.drop_zero
abbrev bH:=@List.length_nil
abbrev iG:=Option Int
abbrev fQ:=List Oper
abbrev dX:=Option Value
abbrev dR:=Array MapEntry
abbrev dF:=List MapEntry
abbrev dw:=Option Addr
abbrev df:=List Bool
abbrev dg:=Option Nat
abbrev dq:=Option Bool
abbrev cO:=Array Oper
abbrev cD:=List TypeId
abbrev bY:=Array Value
abbrev bU:=List Nat
abbrev bQ:=List Int
abbrev bT:=List Value
abbrev bL:=List UInt8
abbrev gE:=Option (Int×bL)
abbrev gu:=Option bU
abbrev fH:=Option bT
abbrev fG:=Option bL
abbrev fq:=List (Nat×bY)
abbrev eJ:=List (Nat×Value)
abbrev eI:=List (Nat×bU)
abbrev bZ:=List (Int×Int)
theorem ga{i n:Nat}(h:i<n):decide ((i:Int)<n)=true:=by simp;omega
theorem fL{i n:Nat}(h:i<n):decide (0<=(i:Int)/\(i:Int)<n)=true:=by simp;omega
structure gR where
 (Ty:Type)(deq:DecidableEq Ty)(A:Ty->Type)
instance instDecTy(C:gR):DecidableEq C.Ty:=C.deq
inductive D(C:gR):Type where
 |bool (b:Bool)
 |int (k:IntKind) (n:Int)
 |str (s:bL)
 |bN
 |bI (d ds:D C)
 |arr (t:C.Ty) (n:Nat) (l:List (C.A t))
 |cG (ds:D C)
 |ez
 |sl (t:C.Ty) (cap:Bool) (l:List (C.A t))
 |vs (id n:Nat)
 |ptr (id:Nat) (path:bU)
 |eY (id n:Nat) (path:bU)
 |dC (d:D C)
 |eX
 |fn (f:Nat) (fj:D C)
 |cm
 |gf
 |bm (f:Nat) (d:D C)
 |yl (nt:Nat) (dE ps:bU) (iV body:Code) (fj:D C) (id:Nat)
 |fO (n:Nat) (cap:Bool) (ds:D C)
 |jN (id:Nat)
 |mp (id:Nat)
 |jg (t:TypeId) (id:Nat) (path:bU) (lo n:Nat)
 |top
inductive ru(C:gR):Type where
 |lp (busy dn:Bool) (ex:Nat)
 |it (k v:C.Ty) (l:List (C.A k×C.A v))
inductive Obj(C:gR):Type where
 |var (t:TypeId) (d:D C)
 |vec (t:C.Ty) (own:Bool) (l:List (C.A t))
 |map (k v:C.Ty) (l:List (C.A k×C.A v))
 |dG (c:ru C)
abbrev Heap(C:gR):=List (Nat×Obj C)
namespace Heap
variable {C:gR}
def get(id:Nat):Heap C->Option (Obj C)
 |[]=>none
 |(j,o)::h=>bif Nat.beq id j then some o else get id h
def put(id:Nat)(o:Obj C):Heap C->Heap C
 |[]=>[]
 |(j,p)::h=>bif Nat.beq id j then(j,o)::h else(j,p)::put id o h
def del(id:Nat):Heap C->Heap C
 |[]=>[]
 |(j,p)::h=>bif Nat.beq id j then del id h else(j,p)::del id h
def drop(lo hi:Nat)(iC:bU):Heap C->Heap C
 |[]=>[]
 |(j,p)::h=>bif Nat.ble lo j&&Nat.blt j hi && !(iC.any (Nat.beq j))then drop lo hi iC h else(j,p)::drop lo hi iC h
end Heap
abbrev Tr:=List (Nat×Bool)
abbrev iE:=List (Nat×Tr)
abbrev Env(C:gR):=List (Nat×D C)
inductive Pg(C:gR):Type->Type 1 where
 |ret {α:Type} (a:α):Pg C α
 |fail {α:Type}:Pg C α
 |br {α:Type} (b:Bool) (x y:Pg C α):Pg C α
 |rd {α:Type} (id:Nat) (k:Obj C->Pg C α):Pg C α
 |wr {α:Type} (id:Nat) (o:Obj C) (k:Pg C α):Pg C α
 |nw {α:Type} (o:Obj C) (k:Nat->Pg C α):Pg C α
 |dl {α:Type} (id:Nat) (k:Pg C α):Pg C α
 |oY {α:Type} (k:Nat->Nat->Pg C α):Pg C α
 |upto {α:Type} (n:Nat) (k:Pg C α):Pg C α
 |gc {α:Type} (lo:Nat) (iC:bU) (k:Pg C α):Pg C α
 |sub {α:Type} (p:Pg C (Env C)) (k:Env C->Tr->Pg C α):Pg C α
namespace Pg
variable {C:gR}
def bind{α β:Type}:Pg C α->(α->Pg C β)->Pg C β
 |.ret a,f=>f a
 |.fail,_=>.fail
 |.br b x y,f=>.br b (x.bind f) (y.bind f)
 |.rd id k,f=>.rd id fun o=>(k o).bind f
 |.wr id o k,f=>.wr id o (k.bind f)
 |.nw o k,f=>.nw o fun id=>(k id).bind f
 |.dl id k,f=>.dl id (k.bind f)
 |.oY k,f=>.oY fun n s=>(k n s).bind f
 |.upto n k,f=>.upto n (k.bind f)
 |.gc lo l k,f=>.gc lo l (k.bind f)
 |.sub p k,f=>.sub p fun e t=>(k e t).bind f
def jq{α:Type}:Option α->Pg C α
 |some a=>.ret a
 |none=>.fail
def span(rH:Nat):Nat:=2^(24*(40-rH))
abbrev Lv:=Nat×Nat
def run{α β:Type}:Pg C α->Lv->Heap C->Nat->Tr->(α->Heap C->Nat->Tr->Option β)->Option β
 |.ret a,_,h,n,l,k=>k a h n l
 |.fail,_,_,_,_,_=>none
 |.br b x y,e,h,n,l,k=>bif b then x.run e h n l k else y.run e h n l k
 |.rd id f,e,h,n,l,k=>match h.get id with
  |some o=>(f o).run e h n ((id,false)::l) k
  |none=>none
 |.wr id o f,e,h,n,l,k=>match h.get id with
  |some _=>f.run e (h.put id o) n ((id,true)::l) k
  |none=>none
 |.nw o f,e,h,n,l,k=>(f n).run e ((n,o)::h) (n+1) ((n,true)::l) k
 |.dl id f,e,h,n,l,k=>match h.get id with
  |some _=>f.run e (h.del id) n ((id,true)::l) k
  |none=>none
 |.oY f,e,h,n,l,k=>(f n (span e.1)).run e h n l k
 |.upto m f,e,h,n,l,k=>bif Nat.ble n m then f.run e h m l k else none
 |.gc lo iC f,e,h,n,l,k=>bif Nat.ble e.2 lo then f.run e (h.drop lo n iC) n l k else none
 |.sub p f,e,h,n,l,k=>p.run (e.1+1,n) h n [] fun a h n t=>(f a t).run e h n (t++l) k
end Pg
inductive GT(C:gR):Type where
 |bool|int (k:IntKind)|str
 |struct (aah:Bool) (fs:cD)
 |arr (n:Nat) (e:TypeId) (t:C.Ty)
 |sl (e:TypeId) (t:C.Ty)
 |fO (e:TypeId)
 |map (k v:TypeId) (ck cv:C.Ty)
 |ptr (e:TypeId)|fn|none
structure fh(C:gR) where
 ty:TypeId->GT C
 size:TypeId->Nat
 bytes:TypeId->Nat
 enc:(t:C.Ty)->C.A t->D C
 dec:(t:C.Ty)->D C->Option (C.A t)
 eU:(t:C.Ty)->C.A t
 dp:C.Ty->TypeId
 sM:(t:C.Ty)->C.A t->C.A t->dq
 zero:TypeId->Option (D C)
 uK:(t:C.Ty)->Option (List (C.A t)->bL)
 jZ:(t:C.Ty)->Option (bL->List (C.A t))
 pre:fq:=[]
 settle:TypeId->Bool:=fun _=>true
inductive X where
 |normal|exit (id:Nat)|ret
structure iR(C:gR) where
 fn:FuncId->Option Func
 keeps:FuncId->Bool
 rest:FuncId->eI
 total:FuncId->Bool
 qD:FuncId->Bool:=fun _=>false
 jd:FuncId->Option (List (D C)->Pg C (D C))
 spec:FuncId->Option (List (D C)->Option (Bool×D C))
 loop:FuncId->Nat->Option (List (Nat×D C)->Pg C (X×List (Nat×D C)))
section
variable {C:gR}(T:fh C)
def cR:Env C->Nat->D C
 |[],_=>.top
 |(j,d)::r,t=>bif Nat.beq t j then d else cR r t
def gG:Nat->List (D C)->Env C
 |_,[]=>[]
 |n,d::l=>(n,d)::gG (n+1) l
namespace D
def nth:D C->Nat->Option (D C)
 |.bI d _,0=>some d
 |.bI _ ds,n+1=>ds.nth n
 |_,_=>none
def gF:D C->Nat->D C->Option (D C)
 |.bI _ ds,0,v=>some (.bI v ds)
 |.bI d ds,n+1,v=>(ds.gF n v).map (.bI d)
 |_,_,_=>none
def toList:D C->List (D C)
 |.bI d ds=>d::ds.toList
 |_=>[]
def ofList:List (D C)->D C
 |[]=>.bN
 |d::l=>.bI d (ofList l)
def size:D C->Nat
 |.bI _ ds=>ds.size+1
 |_=>0
def append:D C->D C->D C
 |.bI d ds,x=>.bI d (ds.append x)
 |_,x=>x
def de:D C->Bool
 |.bN |.bI _ _ |.arr _ _ _=>true
 |_=>false
def gK:D C->Bool
 |.bI d ds=>!d.de&&ds.gK
 |.bN=>true
 |_=>false
def refs:D C->bU
 |.bI d ds=>d.refs++ds.refs
 |.cG d |.fn _ d |.dC d |.fO _ _ d |.bm _ d=>d.refs
 |.yl _ _ _ _ _ d id=>d.refs++[id]
 |.jN id |.mp id |.vs id _ |.ptr id _ |.eY id _ _ |.jg _ id _ _ _=>[id]
 |_=>[]
def dM:D C->Bool
 |.bI d ds=>d.dM&&ds.dM
 |.cG d |.fn _ d |.dC d |.fO _ _ d |.bm _ d=>d.dM
 |.yl _ _ _ _ _ _ _=>false
 |_=>true
def rH:D C->Nat
 |.bI d ds=>max (d.rH+1) ds.rH
 |.arr _ _ _=>1
 |_=>0
def js(t:C.Ty):D C->Option (List (C.A t))
 |.ez=>some []
 |.sl t' _ l=>if h:t'=t then some (h▸l)else Option.none
 |_=>Option.none
end D
def qn:Value->D C
 |.bool b=>.bool b
 |.int k n=>bif decide (k.min<=n)&&decide (n<=k.max)then .int k n else .top
 |.string s=>.str s.data.toList
 |.slice none 0 0=>.ez
 |.pointer none=>.eX
 |.nilFunc=>.cm
 |.tuple ⟨[]⟩=>.cG .bN
 |.map none=>.gf
 |_=>.top
def YK(t:TypeId)(d:D C):D C :=
 match d with
 |.ez=>match T.ty t with
  |.sl _ ty=>.sl ty true []
  |_=>.ez
 |d=>d
def fit:D C->TypeId ⊕ cD->Bool
 |.bN,.inl t=>match T.ty t with |.struct _ []=>true|_=>false
 |.bN,.inr fs=>fs.isEmpty
 |.bI d ds,.inl t=>match T.ty t with
  |.struct _ (f::fs)=>fit d (.inl f)&&fit ds (.inr fs)
  |_=>false
 |.bI d ds,.inr (f::fs)=>fit d (.inl f)&&fit ds (.inr fs)
 |.arr t n _,.inl u=>match T.ty u with
  |.arr m _ t'=>Nat.beq m n&&decide (t=t')
  |_=>false
 |.bool _,.inl u=>match T.ty u with |.bool=>true|_=>false
 |.int k _,.inl u=>match T.ty u with |.int k'=>decide (k=k')|_=>false
 |.str _,.inl u=>match T.ty u with |.str=>true|_=>false
 |.sl t _ _,.inl u=>match T.ty u with |.sl _ t'=>decide (t=t')|_=>false
 |.vs _ _,.inl u=>match T.ty u with |.sl _ _=>true|_=>false
 |.jg _ _ _ _ _,.inl u=>match T.ty u with |.sl _ _=>true|_=>false
 |.ptr _ _,.inl u=>match T.ty u with |.ptr _=>true|_=>false
 |.eY _ _ _,.inl u=>match T.ty u with |.ptr _=>true|_=>false
 |.dC d,.inl u=>match T.ty u with |.ptr _=>d.dM|_=>false
 |.eX,.inl u=>match T.ty u with |.ptr _=>true|_=>false
 |.fn _ d,.inl u=>match T.ty u with |.fn=>d.dM|_=>false
 |.cm,.inl u=>match T.ty u with |.fn=>true|_=>false
 |.gf,.inl u=>match T.ty u with |.map _ _ _ _=>true|_=>false
 |.bm _ d,.inl u=>match T.ty u with |.fn=>d.dM|_=>false
 |.fO _ _ d,.inl u=>match T.ty u with |.fO _=>d.dM|_=>false
 |.mp _,.inl u=>match T.ty u with |.map _ _ _ _=>true|_=>false
 |_,_=>false
def eT:D C->bU->Option (D C)
 |d,[]=>some d
 |.bI d ds,i::p=>match (D.bI d ds).nth i with
  |some x=>eT x p
  |none=>none
 |.arr t _ l,i::p=>eT (T.enc t (l.getD i (T.eU t))) p
 |_,_=>none
def setPath:D C->bU->D C->Option (D C)
 |_,[],v=>some v
 |.bI d ds,i::p,v=>match (D.bI d ds).nth i with
  |some x=>match setPath x p v with
   |some y=>(D.bI d ds).gF i y
   |none=>none
  |none=>none
 |.arr t n l,i::p,v=>match setPath (T.enc t (l.getD i (T.eU t))) p v with
  |some y=>match T.dec t y with
   |some z=>some (.arr t n (l.set i z))
   |none=>none
  |none=>none
 |_,_,_=>none
def gn:TypeId->bU->Option TypeId
 |t,[]=>some t
 |t,i::p=>match T.ty t with
  |.struct _ fs=>match fs[i]? with
   |some f=>gn f p
   |none=>none
  |.arr _ e _=>gn e p
  |_=>none
def o5:D C->D C->dq
 |.bool a,.bool b=>some (a==b)
 |.int k a,.int k' b=>if k=k' then some (a==b)else none
 |.str a,.str b=>some (a==b)
 |.eX,.eX=>some true
 |.eX,.ptr _ _ |.eX,.dC _ |.ptr _ _,.eX |.dC _,.eX=>some false
 |.cm,.cm=>some true
 |.cm,.fn _ _ |.fn _ _,.cm=>some false
 |_,_=>none
def C6{t:C.Ty}:List (C.A t)->List (C.A t)->dq
 |[],[]=>some true
 |x::l,y::m=>match T.sM t x y,C6 l m with
  |some a,some b=>some (a&&b)
  |_,_=>none
 |_,_=>none
def oZ:D C->D C->dq
 |.bN,.bN=>some true
 |.bI a iV,.bI b bs=>match oZ a b,oZ iV bs with
  |some x,some y=>some (x&&y)
  |_,_=>none
 |.arr t n l,.arr t' n' l'=>if h:t=t' then(if n=n' then C6 T l (h▸l')else none)else none
 |x,y=>o5 x y
def bits(k:IntKind)(f:(n:Nat)->BitVec n->BitVec n->BitVec n)(a b:Int):Int :=
 k.wrap (f k.bits (BitVec.ofInt k.bits a) (BitVec.ofInt k.bits b)).toNat
def TO(op:BinOp)(k:IntKind)(a b:Int):Pg C (D C):=
 match op with
 |.add=>.ret (.int k (k.wrap (a+b)))
 |.sub=>.ret (.int k (k.wrap (a-b)))
 |.mul=>.ret (.int k (k.wrap (a*b)))
 |.quo=>.br (b==0) .fail (.ret (.int k (k.wrap (a.tdiv b))))
 |.rem=>.br (b==0) .fail (.ret (.int k (a.tmod b)))
 |.and=>.ret (.int k (bits k (fun _ u v=>u&&&v) a b))
 |.or=>.ret (.int k (bits k (fun _ u v=>u|||v) a b))
 |.xor=>.ret (.int k (bits k (fun _ u v=>u ^^^ v) a b))
 |.andNot=>.ret (.int k (bits k (fun _ u v=>u &&& ~~~v) a b))
 |.eql=>.ret (.bool (a==b))
 |.neq=>.ret (.bool (a !=b))
 |.lss=>.ret (.bool (decide (a<b)))
 |.leq=>.ret (.bool (decide (a<=b)))
 |.gtr=>.ret (.bool (decide (b<a)))
 |.geq=>.ret (.bool (decide (b<=a)))
 |.shl=>.br (decide (b<0)) .fail (.ret (.int k (k.wrap (a*2^min b.toNat k.bits))))
 |.shr=>.br (decide (b<0)) .fail (.ret (.int k (a.fdiv (2^min b.toNat k.bits))))
def II:BinOp->Bool
 |.shl |.shr=>true
 |_=>false
def PJ(op:BinOp)(a b:bL):Pg C (D C):=
 match op with
 |.eql=>.ret (.bool (a==b))
 |.neq=>.ret (.bool (!(a==b)))
 |.add=>.br (decide (a.length+b.length<=1000000000)) (.ret (.str (a++b))) .fail
 |_=>.fail
def rD:D C->TypeId ⊕ cD->Bool
 |.bI d ds,.inl t=>match T.ty t with
  |.struct false (f::fs)=>rD d (.inl f)&&rD ds (.inr fs)
  |_=>false
 |.bI d ds,.inr (f::fs)=>rD d (.inl f)&&rD ds (.inr fs)
 |.bI _ _,.inr []=>false
 |_,_=>true
def Mi(op:BinOp)(t:TypeId)(x y:D C):Pg C (D C):=
 bif fit T x (.inl t)&&fit T y (.inl t)&&(Nat.ble x.rH 1000&&rD T x (.inl t))then(match op with
  |.eql=>.bind (.jq (oZ T x y)) fun b=>.ret (.bool b)
  |.neq=>.bind (.jq (oZ T x y)) fun b=>.ret (.bool !b)
  |_=>.fail)else .fail
def TP(op:BinOp)(empty:Bool):Pg C (D C):=
 match op with
 |.eql=>.br empty .fail (.ret (.bool false))
 |.neq=>.br empty .fail (.ret (.bool true))
 |_=>.fail
def yy(op:BinOp)(t:TypeId)(x y:D C):Pg C (D C):=
 match x,y with
 |.int k a,.int k' b=>bif II op||decide (k=k')then TO op k a b else .fail
 |.str a,.str b=>PJ op a b
 |.sl _ _ l,.ez=>(match T.ty t with
  |.sl _ _=>TP op l.isEmpty
  |_=>.fail)
 |x,y=>Mi T op t x y
def frz:D C->Pg C (D C)
 |.bI d ds=>.bind (frz d) fun d'=>.bind (frz ds) fun rI=>.ret (.bI d' rI)
 |.cG d=>.bind (frz d) fun d'=>.ret (.cG d')
 |.vs id n=>.rd id fun
  |.vec t _ l=>.br (Nat.beq n l.length) (.wr id (.vec t false l) (.ret (.sl t false l))) .fail
  |_=>.fail
 |.jg _ _ _ _ _=>.fail
 |d=>.ret d
def qS:D C->Pg C (D C)
 |.bI d ds=>.bind (qS d) fun d'=>.bind (qS ds) fun rI=>.ret (.bI d' rI)
 |.cG d=>.bind (qS d) fun d'=>.ret (.cG d')
 |.vs id n=>.rd id fun
  |.vec t _ l=>.br (Nat.beq n l.length) (.ret (.sl t false l)) .fail
  |_=>.fail
 |.jg _ id p lo _=>.rd id fun
  |.vec t _ l=>.br (Nat.beq (p.getD 0 0) l.length&&Nat.ble lo l.length) (.ret (.sl t false (l.drop lo))) .fail
  |_=>.fail
 |d=>.ret d
def Li:List (D C)->Pg C (List (D C))
 |[]=>.ret []
 |d::ds=>.bind (qS d) fun d'=>.bind (Li ds) fun rI=>.ret (d'::rI)
def D.plain:D C->Bool
 |.bool _ |.int _ _ |.str _ |.bN |.ez |.eX |.cm |.gf=>true
 |.bI a b=>a.plain&&b.plain
 |.cG d=>d.plain
 |_=>false
def vD:List (D C)->Pg C (List (D C))
 |[]=>.ret []
 |d::ds=>.bind (frz d) fun d'=>.bind (vD ds) fun rI=>.ret (d'::rI)
def Qg(n bytes:Nat):Bool:=decide (n*bytes<=1099511627776)
def Lp(t:C.Ty)(bytes:Nat)(s:D C)(xs:List (C.A t)):Pg C (D C):=
 match s with
 |.ez=>.br (Qg xs.length bytes) (.nw (.vec t true xs) fun id=>.ret (.vs id xs.length)) .fail
 |.sl t' cap l=>if h:t'=t then(match cap with
  |true=>.br (Qg (l.length+xs.length) bytes) (.nw (.vec t l.isEmpty ((h▸l)++xs)) fun id=>.ret (.vs id (l.length+xs.length))) .fail
  |false=>.fail)else .fail
 |.vs id n=>.rd id fun
  |.vec t' own l=>if h:t'=t then .br (Nat.beq n l.length&&Qg (n+xs.length) bytes) (.wr id (.vec t own ((h▸l)++xs)) (.ret (.vs id (l.length+xs.length)))) .fail else .fail
  |_=>.fail
 |_=>.fail
def kI(t:C.Ty)(d:D C)(k:List (C.A t)->Pg C (D C)):Pg C (D C):=
 match d with
 |.ez=>k []
 |.sl t' _ l=>if h:t'=t then k (h▸l)else .fail
 |.vs id n=>.rd id fun
  |.vec t' _ l=>if h:t'=t then .br (Nat.beq n l.length) (k (h▸l)) .fail else .fail
  |_=>.fail
 |_=>.fail
def Qd(n:Nat):Bool:=Nat.ble n 9223372036854775807
theorem Qe{n:Nat}(h:n<=9223372036854775807):Qd n=true:=Nat.ble_eq_true_of_le h
theorem VM{n:Nat}(h:Qd n=true):n<=9223372036854775807:=Nat.le_of_ble_eq_true h
def zn(t:TypeId)(d:D C):Pg C (D C):=
 match T.ty t with
 |.sl _ _=>match d with
  |.ez=>.ret (.int .i64 0)
  |.sl _ _ l=>.br (Qd l.length) (.ret (.int .i64 l.length)) .fail
  |.vs _ n=>.br (Qd n) (.ret (.int .i64 n)) .fail
  |.jg _ _ _ _ n=>.br (Qd n) (.ret (.int .i64 n)) .fail
  |_=>.fail
 |.str=>match d with
  |.str s=>.br (Qd s.length) (.ret (.int .i64 s.length)) .fail
  |_=>.fail
 |.arr n _ _=>bif Nat.ble n 9223372036854775807 then .ret (.int .i64 n)else .fail
 |.struct true fs=>bif Nat.ble fs.length 9223372036854775807 then .ret (.int .i64 fs.length)else .fail
 |.fO _=>match d with
  |.fO n _ _=>.br (Qd n) (.ret (.int .i64 n)) .fail
  |_=>.fail
 |_=>.fail
def r6(k:IntKind):Int->List (D C)->iG
 |a,[]=>some a
 |a,.int k' b::l=>if k'=k then r6 k (if b<a then b else a) l else none
 |_,_=>none
def r5(k:IntKind):Int->List (D C)->iG
 |a,[]=>some a
 |a,.int k' b::l=>if k'=k then r5 k (if a<b then b else a) l else none
 |_,_=>none
def EJ:List (D C)->Option (D C)
 |.int k a::l=>(r6 k a l).map (.int k)
 |_=>none
def EK:List (D C)->Option (D C)
 |.int k a::l=>(r5 k a l).map (.int k)
 |_=>none
def Qsk(t:C.Ty)(id n:Nat)(xs:List (C.A t)):Obj C->Pg C (D C)
 |.vec t' true l=>if h:t'=t then .br (Nat.beq n l.length&&Qd n) (.wr id (.vec t true (xs.take l.length++(h▸l).drop xs.length)) (.ret (.int .i64 (min xs.length l.length:Nat)))) .fail else .fail
 |_=>.fail
def Mj(t:C.Ty)(d:D C)(xs:List (C.A t)):Pg C (D C):=
 match d with
 |.vs id n=>.rd id (Qsk t id n xs)
 |_=>.fail
def Oz(b:Builtin)(argTypes:cD)(args:List (D C)):Pg C (D C):=
 match b,args with
 |.len,[d]=>zn T (argTypes.getD 0 0) d
 |.append,[s,x]=>match T.ty (argTypes.getD 0 0)with
  |.sl e t=>match T.ty (argTypes.getD 1 0)with
   |.sl _ t'=>bif decide (t=t')then kI t x fun xs=>Lp t (T.bytes e) s xs else .fail
   |.str=>(match T.ty e with
    |.int .u8=>(match T.jZ t with
     |some f=>(match x with
      |.str b=>Lp t (T.bytes e) s (f b)
      |_=>.fail)
     |none=>.fail)
    |_=>.fail)
   |_=>.fail
  |.fO e=>(match T.ty (argTypes.getD 1 0)with
   |.fO e'=>bif Nat.beq e e' then(match s,x with
    |.fO n true ds,.fO m _ es=>bif Nat.beq n ds.size&&Nat.beq m es.size&&(Nat.ble 1 m&&Nat.ble (n+m) 16777216)then .ret (.fO (n+m) false (ds.append es))else .fail
    |_,_=>.fail)else .fail
   |_=>.fail)
  |_=>.fail
 |.copy,[s,x]=>match T.ty (argTypes.getD 0 0)with
  |.sl _ t=>match T.ty (argTypes.getD 1 0)with
   |.sl _ t'=>bif decide (t=t')then kI t x fun xs=>Mj t s xs else .fail
   |_=>.fail
  |_=>.fail
 |.min,l=>.jq (EJ l)
 |.max,l=>.jq (EK l)
 |_,_=>.fail
def kF:Option (D C)->Int->iG
 |none,n=>some n
 |some (.int _ n),_=>some n
 |_,_=>none
def vz{t:C.Ty}(cap:Bool)(l:List (C.A t))(lo hi mx:Option (D C)):Pg C (D C):=
 match kF lo 0,kF hi l.length with
 |some a,some b=>match mx with
  |none=>(match hi with
   |none=>.br (decide (0<=a/\a<=l.length)) (.ret (.sl t cap (l.drop a.toNat))) .fail
   |some _=>.br (decide (0<=a/\a<=b/\b<=l.length)) (.ret (.sl t false ((l.take b.toNat).drop a.toNat))) .fail)
  |some (.int _ m)=>bif hi.isSome then .br (decide (0<=a/\a<=b/\b<=l.length/\m=b)) (.ret (.sl t true ((l.take b.toNat).drop a.toNat))) .fail else .fail
  |_=>.fail
 |_,_=>.fail
def Wb(ty0:C.Ty)(n:Nat)(lo hi mx:Option (D C)):Obj C->Pg C (D C)
 |.vec ty false l=>bif decide (ty=ty0)then .br (Nat.beq n l.length) (vz false l lo hi mx) .fail else .fail
 |_=>.fail
def E2(t:TypeId)(d:D C)(lo hi mx:Option (D C)):Pg C (D C):=
 match T.ty t with
 |.sl _ ty0=>match d with
  |.sl ty cap l=>bif decide (ty=ty0)then vz cap l lo hi mx else .fail
  |.vs id n=>.rd id (Wb ty0 n lo hi mx)
  |_=>.fail
 |.str=>match d with
  |.str s=>match kF lo 0,kF hi s.length,mx with
   |some a,some b,none=>.br (decide (0<=a/\a<=b/\b<=s.length)) (.ret (.str ((s.take b.toNat).drop a.toNat))) .fail
   |_,_,_=>.fail
  |_=>.fail
 |_=>.fail
def Wc(t:TypeId)(id n:Nat)(lo hi mx:Option (D C)):Obj C->Pg C (D C)
 |.vec _ true _=>.bind (frz (.vs id n)) fun d=>E2 T t d lo hi mx
 |_=>E2 T t (.vs id n) lo hi mx
def Mk(t:TypeId)(id:Nat)(p:bU)(m:Nat)(lo hi mx:Option (D C)):Obj C->Pg C (D C)
 |.var u _=>bif decide (gn T u p=some t)then(match kF lo 0,kF hi m,mx with
  |some a,some b,none=>.br (decide (0<=a/\a<m/\a<=b/\b<=m)) (.ret (.jg t id p a.toNat (b-a).toNat)) .fail
  |_,_,_=>.fail)else .fail
 |_=>.fail
def Ml(t:TypeId)(id n:Nat)(lo hi mx:Option (D C)):Obj C->Pg C (D C)
 |.vec ty true l=>(match T.ty t with
  |.sl _ ty0=>bif decide (ty=ty0)then(match lo,hi,mx with
   |some (.int _ a),none,none=>.br (Nat.beq n l.length&&decide (0<=a/\a<=l.length)) (.ret (.jg t id [n] a.toNat (n-a.toNat))) .fail
   |none,some (.int _ b),none=>.br (Nat.beq n l.length&&decide (0<=b/\b<=l.length)) (.dl id (.nw (.vec ty true (l.take b.toNat)) fun jv=>.ret (.vs jv b.toNat))) .fail
   |_,_,_=>.fail)else .fail
  |_=>.fail)
 |_=>.fail
def Mm(t:TypeId)(id:Nat)(fs:cD):Obj C->Pg C (D C)
 |.var u d=>bif decide (u=t)&&(d.gK&&d.dM&&Nat.beq d.size fs.length&&Nat.ble 1 fs.length)then .dl id (.ret (.fO fs.length true d))else .fail
 |_=>.fail
def PK(t:TypeId)(d:D C)(lo hi mx:Option (D C)):Pg C (D C):=
 match d with
 |.vs id n=>bif T.settle t then .rd id (Wc T t id n lo hi mx)else .rd id (Ml T t id n lo hi mx)
 |.ptr id p=>(match T.ty t with
  |.arr m _ _=>.rd id (Mk T t id p m lo hi mx)
  |.struct true fs=>(match p,lo,hi,mx with
   |[],none,none,none=>.rd id (Mm t id fs)
   |_,_,_,_=>.fail)
  |_=>.fail)
 |.fO n cap ds=>(match T.ty t with
  |.fO _=>(match lo,hi,mx with
   |none,some (.int _ b),none=>.br (decide (0<=b/\b<=n)) (.ret (.fO b.toNat false ds)) .fail
   |_,_,_=>.fail)
  |_=>.fail)
 |d=>E2 T t d lo hi mx
def ma:D C->List (Nat×D C)->Option (D C)
 |d,[]=>some d
 |d,(i,v)::r=>match d.gF i v with
  |some d'=>ma d' r
  |none=>none
def wU{t:C.Ty}(l:List (C.A t)):List (Nat×D C)->Option (List (C.A t))
 |[]=>some l
 |(i,v)::r=>bif fit T v (.inl (T.dp t))&&Nat.blt i l.length then(match T.dec t v with
  |some x=>wU (l.set i x) r
  |none=>none)else none
def bytesOf{t:C.Ty}:List (C.A t)->fG
 |[]=>some []
 |x::l=>match T.enc t x,bytesOf l with
  |.int .u8 n,some r=>some (UInt8.ofNat n.toNat::r)
  |_,_=>none
def Mn(src dst:TypeId)(x:D C):Pg C (D C):=
 match T.ty src,T.ty dst with
 |.int _,.int k=>match x with
  |.int _ n=>.ret (.int k (k.wrap n))
  |_=>.fail
 |.str,.str=>match x with
  |.str s=>.ret (.str s)
  |_=>.fail
 |.sl e t,.str=>match T.ty e with
  |.int .u8=>match T.uK t with
   |some f=>kI t (YK T src x) fun xs=>.ret (.str (f xs))
   |none=>.fail
  |_=>.fail
 |.str,.sl e t=>match T.ty e with
  |.int .u8=>match T.jZ t with
   |some f=>match x with
    |.str s=>.br (Qg s.length 1) (.ret (.sl t false (f s))) .fail
    |_=>.fail
   |none=>.fail
  |_=>.fail
 |_,_=>.fail
def PL(c a b:D C):Pg C (D C):=
 match c with
 |.bool t=>.br t (.ret a) (.ret b)
 |_=>.fail
def O7(t:TypeId):Pg C (D C):=
 match T.zero t with
 |some z=>bif fit T z (.inl t)then .nw (.var t z) (fun id=>.ret (.ptr id []))else .fail
 |none=>.fail
def Mo(t:TypeId)(d:D C):Pg C (D C):=
 bif fit T d (.inl t)then .nw (.var t d) (fun id=>.ret (.ptr id []))else .fail
def O8(t:TypeId)(ps:List (Nat×D C)):Pg C (D C):=
 match T.ty t,T.zero t with
 |.struct _ fs,some z=>
  bif fit T z (.inl t)&&ps.all (fun p=>fit T (YK T (fs.getD p.1 0) p.2) (.inl (fs.getD p.1 0)))then .jq (ma z (ps.map fun p=>(p.1,YK T (fs.getD p.1 0) p.2)))else .fail
 |.arr n e ty,some (.arr iM m l)=>if h:iM=ty then(match wU T (h▸l) (ps.map fun p=>(p.1,YK T e p.2))with
  |some l'=>bif Nat.beq n m then .ret (.arr ty n l')else .fail
  |none=>.fail)else .fail
 |_,_=>.fail
def ug{α:Type}:Nat->Nat->List (Nat×α)->Bool
 |i,n,[]=>Nat.beq i n
 |i,n,(j,_)::r=>Nat.beq j i&&Nat.blt i n&&ug (i+1) n r
def KX(t:TypeId)(n:Nat)(ps:List (Nat×D C)):Pg C (D C):=
 match T.ty t with
 |.sl e ty=>match wU T (List.replicate n (T.eU ty)) (ps.map fun p=>(p.1,YK T e p.2))with
  |some l=>bif Nat.ble (n*T.size e) 16777216 then .ret (.sl ty true l)else .fail
  |none=>.fail
 |.fO e=>bif ug 0 n ps&&Nat.ble n 16777216&&ps.all (fun p=>fit T (YK T e p.2) (.inl e))then .ret (.fO n true (D.ofList (ps.map fun p=>YK T e p.2)))else .fail
 |_=>.fail
def Mp(t:TypeId)(p:bU):Obj C->Pg C (D C)
 |.var _ d=>match eT T d p with
  |some x=>bif fit T x (.inl t)then .ret x else .fail
  |none=>.fail
 |_=>.fail
def Wd(t:TypeId)(n:Nat)(p:bU):Obj C->Pg C (D C)
 |.vec ty _ l=>match p with
  |[i]=>.br (Nat.beq n l.length) (bif fit T (T.enc ty (l.getD i (T.eU ty))) (.inl t)then .ret (T.enc ty (l.getD i (T.eU ty)))else .fail) .fail
  |[i,j]=>match (T.enc ty (l.getD i (T.eU ty))).nth j with
   |some x=>.br (Nat.beq n l.length) (bif fit T x (.inl t)then .ret x else .fail) .fail
   |none=>.fail
  |_=>.fail
 |_=>.fail
def wQ(t:TypeId)(a:D C):Pg C (D C):=
 match a with
 |.ptr id p=>.rd id (Mp T t p)
 |.eY id n p=>.rd id (Wd T t n p)
 |.dC d=>bif fit T d (.inl t)then .ret d else .fail
 |_=>.fail
def D.ol:D C->Bool
 |.vs _ _=>true
 |.bI a b=>a.ol||b.ol
 |_=>false
def ldS(t:TypeId)(id:Nat):Obj C->Pg C (D C)
 |.var u d=>bif decide (u=t)&&d.ol then .bind (frz d) fun d'=>bif fit T d' (.inl t)then .wr id (.var u d') (.ret d')else .fail else Mp T t [] (.var u d)
 |_=>.fail
def O9(t:TypeId)(a:D C):Pg C (D C):=
 match a with
 |.ptr id []=>match T.ty t with
  |.struct _ _=>bif T.settle t then .rd id (ldS T t id)else wQ T t (.ptr id [])
  |_=>wQ T t (.ptr id [])
 |a=>wQ T t a
def Mq(t:TypeId)(id:Nat)(p:bU)(v:D C):Obj C->Pg C (D C)
 |.var u d=>match setPath T d p v,gn T u p with
  |some d',some t'=>bif fit T v (.inl t)&&fit T v (.inl t')then .wr id (.var u d') (.ret (.cG .bN))else .fail
  |_,_=>.fail
 |_=>.fail
def Mr(t:TypeId)(id n:Nat)(p:bU)(v:D C):Obj C->Pg C (D C)
 |.vec ty true l=>match p with
  |[i]=>match T.dec ty v with
   |some z=>.br (Nat.beq n l.length) (bif fit T v (.inl t)then .wr id (.vec ty true (l.set i z)) (.ret (.cG .bN))else .fail) .fail
   |none=>.fail
  |_=>.fail
 |_=>.fail
def J9(t:TypeId)(a v:D C):Pg C (D C):=
 match a with
 |.ptr id p=>.rd id (Mq T t id p v)
 |.eY id n p=>.rd id (Mr T t id n p v)
 |_=>.fail
def We(p:bU):Obj C->Bool
 |.var u _=>match gn T u p.dropLast with
  |some q=>(match T.ty q with
   |.arr _ _ _=>!p.isEmpty
   |_=>false)
  |none=>false
 |_=>false
def Ij(t:TypeId)(a v:D C):Pg C (D C):=
 match a,v with
 |.ptr id p,.vs i n=>.rd id fun o=>bif We T p o then .bind (frz (.vs i n)) fun d=>J9 T t (.ptr id p) d else J9 T t (.ptr id p) (.vs i n)
 |a,v=>J9 T t a v
def NA(x:D C):Pg C (D C):=
 match x with
 |.ptr id p=>.ret (.ptr id p)
 |.eY id n p=>.ret (.eY id n p)
 |.dC d=>.ret (.dC d)
 |.fn f c=>.ret (.fn f c)
 |_=>.fail
def yG(op:UnOp)(x:D C):Pg C (D C):=
 match op,x with
 |.not,.bool b=>.ret (.bool !b)
 |.neg,.int k n=>.ret (.int k (k.wrap (0-n)))
 |.xor,.int k n=>.ret (.int k (bits k (fun _ u v=>u ^^^ v) (bif k.signed then -1 else k.max) n))
 |_,_=>.fail
def XU(fn:Fn)(first fj:List (D C)):Pg C (D C):=
 match fn,first with
 |.func f,[]=>.ret (.fn f (D.ofList fj))
 |.func f,[.int k n]=>(match fj with
  |[]=>.ret (.bm f (.int k n))
  |_=>.fail)
 |.func f,[.ptr id p]=>(match fj with
  |[]=>.ret (.bm f (.ptr id p))
  |_=>.fail)
 |_,_=>.fail
def No(t:TypeId)(n c:D C):Pg C (D C):=
 match T.ty t,n,c with
 |.sl e ty,.int .i64 n,.int .i64 c=>.br (decide (0<=n/\n<=c)&&Qg c.toNat (T.bytes e)) (.nw (.vec ty true (List.replicate n.toNat (T.eU ty))) fun id=>.ret (.vs id n.toNat)) .fail
 |_,_,_=>.fail
def Ms(s:TypeId)(id:Nat)(p:bU)(i:Nat):Obj C->Pg C (D C)
 |.var u _=>bif decide (gn T u p=some s)then .ret (.ptr id (p++[i]))else .fail
 |_=>.fail
def Lj(s:TypeId)(id n j i:Nat):Obj C->Pg C (D C)
 |.vec ty _ l=>.br (Nat.beq n l.length) (bif Nat.beq s (T.dp ty)then .ret (.eY id n [j,i])else .fail) .fail
 |_=>.fail
def VZ(s:TypeId)(x:D C)(i:Nat):Pg C (D C):=
 match T.ty s with
 |.struct false fs=>bif Nat.blt i fs.length then(match x with
  |.ptr id p=>.rd id (Ms T s id p i)
  |.eY id n [j]=>.rd id (Lj T s id n j i)
  |.dC d=>bif fit T d (.inl s)then(match d.nth i with|some x=>.ret (.dC x)|none=>.fail)else .fail
  |_=>.fail)else .fail
 |_=>.fail
def Pa(s:TypeId)(x:D C)(i:Nat):Pg C (D C):=
 match T.ty s with
 |.struct false _=>bif fit T x (.inl s)then(match x.nth i with|some d=>.ret d|none=>.fail)else .fail
 |_=>.fail
def Lk(ty0:C.Ty)(id m:Nat)(n:Int):Obj C->Pg C (D C)
 |.vec ty _ l=>bif decide (ty=ty0)then .br (Nat.beq m l.length&&decide (0<=n/\n<l.length)) (.ret (.eY id m [n.toNat])) .fail else .fail
 |_=>.fail
def CN(t:TypeId)(id:Nat)(p:bU)(n:Int)(m:Nat):Obj C->Pg C (D C)
 |.var u _=>bif decide (gn T u p=some t)then .br (decide (0<=n/\n<m)) (.ret (.ptr id (p++[n.toNat]))) .fail else .fail
 |_=>.fail
def V0(t:TypeId)(x i:D C):Pg C (D C):=
 match i with
 |.int _ n=>match T.ty t with
  |.sl _ ty0=>match x with
   |.sl ty _ l=>bif decide (ty=ty0)then .br (decide (0<=n/\n<l.length)) (.ret (.dC (T.enc ty (l.getD n.toNat (T.eU ty))))) .fail else .fail
   |.vs id m=>.rd id (Lk ty0 id m n)
   |.jg ta id p lo m=>(match T.ty ta with
    |.arr _ _ ty=>bif decide (ty=ty0)then .br (decide (0<=n/\n<m)) (.ret (.ptr id (p++[lo+n.toNat]))) .fail else .fail
    |_=>.fail)
   |_=>.fail
  |.fO _=>match x with
   |.fO m _ ds=>.br (decide (0<=n/\n<m)) (match ds.nth n.toNat with|some x=>.ret (.dC x)|none=>.fail) .fail
   |_=>.fail
  |.arr m _ _=>match x with
   |.ptr id p=>.rd id (CN T t id p n m)
   |.dC (.arr ty m' l)=>bif fit T (.arr ty m' l) (.inl t)then .br (decide (0<=n/\n<m)) (.ret (.dC (T.enc ty (l.getD n.toNat (T.eU ty))))) .fail else .fail
   |_=>.fail
  |.struct true fs=>match x with
   |.ptr id p=>.rd id (CN T t id p n fs.length)
   |.dC d=>bif fit T d (.inl t)then .br (decide (0<=n/\n<fs.length)) (match d.nth n.toNat with|some x=>.ret (.dC x)|none=>.fail) .fail else .fail
   |_=>.fail
  |_=>.fail
 |_=>.fail
def Pb(t:TypeId)(x i:D C):Pg C (D C):=
 match i with
 |.int _ n=>match x with
  |.arr ty m l=>bif fit T (.arr ty m l) (.inl t)then .br (decide (0<=n/\n<m)) (.ret (T.enc ty (l.getD n.toNat (T.eU ty)))) .fail else .fail
  |.str s=>match T.ty t with
   |.str=>.br (decide (0<=n/\n<s.length)) (.ret (.int .u8 (s.getD n.toNat 0).toNat)) .fail
   |_=>.fail
  |.bI a b=>match T.ty t with
   |.struct true fs=>bif fit T (.bI a b) (.inl t)then .br (decide (0<=n/\n<fs.length)) (match (D.bI a b).nth n.toNat with|some x=>.ret x|none=>.fail) .fail else .fail
   |_=>.fail
  |_=>.fail
 |_=>.fail
def VI(t:C.Ty)(a b:C.A t):Bool:=(o5 (T.enc t a) (T.enc t b)).getD false
def oP{α β:Type}(eq:α->α->Bool)(k:α):List (α×β)->Option β
 |[]=>none
 |(a,b)::l=>bif eq k a then some b else oP eq k l
def g8{α β:Type}(eq:α->α->Bool)(k:α)(v:β):List (α×β)->List (α×β)
 |[]=>[(k,v)]
 |(a,b)::l=>bif eq k a then(k,v)::l else(a,b)::g8 eq k v l
def NX(t:TypeId):Pg C (D C):=
 match T.ty t with
 |.map _ _ ck cv=>.nw (.map ck cv []) fun id=>.ret (.mp id)
 |_=>.fail
def Mt(kt vt:TypeId)(ck cv:C.Ty)(id:Nat)(k x:D C):Obj C->Pg C (D C)
 |.map lc ka l=>if h:lc=ck then if h2:ka=cv then(match T.dec ck k,T.dec cv x with
  |some a,some b=>bif fit T k (.inl kt)&&fit T x (.inl vt)then .wr id (.map ck cv (g8 (VI T ck) a b (h2▸h▸l))) (.ret (.cG .bN))else .fail
  |_,_=>.fail)else .fail else .fail
 |_=>.fail
def Yy(t:TypeId)(m k x:D C):Pg C (D C):=
 match T.ty t with
 |.map kt vt ck cv=>match m with
  |.mp id=>.rd id (Mt T kt vt ck cv id k (YK T vt x))
  |_=>.fail
 |_=>.fail
def Qsn(kt:TypeId)(ck cv:C.Ty)(k:D C)(ok:Bool):Obj C->Pg C (D C)
 |.map lc ka l=>if h:lc=ck then if h2:ka=cv then(match T.dec ck k with
  |some a=>bif fit T k (.inl kt)then(match ok with
   |true=>.ret (.cG (.bI (T.enc cv ((oP (VI T ck) a (h2▸h▸l)).getD (T.eU cv))) (.bI (.bool (oP (VI T ck) a (h2▸h▸l)).isSome) .bN)))
   |false=>.ret (T.enc cv ((oP (VI T ck) a (h2▸h▸l)).getD (T.eU cv))))else .fail
  |none=>.fail)else .fail else .fail
 |_=>.fail
def OA(t:TypeId)(m k:D C)(ok:Bool):Pg C (D C):=
 match T.ty t with
 |.map kt _ ck cv=>match m with
  |.mp id=>.rd id (Qsn T kt ck cv k ok)
  |_=>.fail
 |_=>.fail
def TQ(id:Nat):Obj C->Pg C (D C)
 |.map ck cv l=>.dl id (.nw (.dG (.it ck cv l)) fun jv=>.ret (.jN jv))
 |_=>.fail
def Pc(t:TypeId)(m:D C):Pg C (D C):=
 match T.ty t with
 |.map _ _ _ _=>match m with
  |.mp id=>.rd id (TQ id)
  |_=>.fail
 |_=>.fail
def QiV(x:D C)(i:Nat):Pg C (D C):=
 match x with
 |.cG ds=>.jq (ds.nth i)
 |_=>.fail
def Vr:Nat:=4294967296
def PM(call:FuncId->List (D C)->Pg C (D C))(f:D C)(args:List (D C)):Pg C (D C):=
 match f with
 |.fn g fj=>bif Nat.beq g Vr then .fail else call g (args++fj.toList)
 |.bm g d=>bif Nat.beq g Vr then .fail else call g (d::args)
 |.yl nt dE ps iV body fj id=>call Vr (.yl nt dE ps iV body fj id::args)
 |_=>.fail
def CC:cD->List (D C)->List (D C)
 |t::ts,d::ds=>YK T t d::CC ts ds
 |_,ds=>ds
def jt(call:FuncId->List (D C)->Pg C (D C))(o:Oper)(ev:Operand->D C):Pg C (D C):=
 match o.op with
 |.move x=>.ret (YK T o.type (ev x))
 |.assign x=>.ret (YK T o.type (ev x))
 |.pick c a b=>PL (ev c) (ev a) (ev b)
 |.alloc t=>O7 T t
 |.box t x=>Mo T t (YK T t (ev x))
 |.build t ps=>O8 T t (ps.toList.map fun p=>(p.1,ev p.2))
 |.buildSlice t n ps=>KX T t n (ps.toList.map fun p=>(p.1,ev p.2))
 |.load t a=>O9 T t (ev a)
 |.store t a x=>Ij T t (ev a) (YK T t (ev x))
 |.nilCheck x=>NA (ev x)
 |.binOp op t x y _=>yy T op t (ev x) (ev y)
 |.unOp op _ x=>yG op (ev x)
 |.convert s t x=>Mn T s t (ev x)
 |.makeFunc fn first fj=>XU fn (first.toList.map ev) (fj.toList.map ev)
 |.makeSlice t n c=>No T t (ev n) (ev c)
 |.slice t x lo hi mx=>PK T t (ev x) (lo.map ev) (hi.map ev) (mx.map ev)
 |.fieldAddr s x i=>VZ T s (ev x) i
 |.field s x i=>Pa T s (ev x) i
 |.indexAddr t x i=>V0 T t (ev x) (ev i)
 |.index t x i=>Pb T t (ev x) (ev i)
 |.extract x i=>QiV (ev x) i
 |.makeMap t none=>NX T t
 |.mapUpdate t m k x=>Yy T t (ev m) (ev k) (ev x)
 |.insert t m k x=>Yy T t (ev m) (ev k) (ev x)
 |.range t x=>Pc T t (ev x)
 |.lookup t m k ok=>OA T t (ev m) (ev k) ok
 |.call c=>match c.callee with
  |.builtin b=>bif Nat.beq c.argTypes.toList.length c.args.toList.length then Oz T b c.argTypes.toList (c.args.toList.map ev)else .fail
  |.value f=>PM call (ev f) (CC T c.argTypes.toList (c.args.toList.map ev))
  |_=>.fail
 |_=>.fail
def put(env:Env C)(dst:Option Tmp)(d:D C):Env C :=
 match dst with
 |some t=>(t,d)::env
 |none=>env
def gZ(env:Env C):Operand->D C
 |.tmp t=>cR env t
 |.const v=>qn v
 |.global _=>.top
 |.func f=>.fn f .bN
def lits:bQ:=[0,1,2,3,4,5,6,7]
def CO(o:Oper):Option (Nat×Nat):=
 match o.op with
 |.indexAddr t _ (.tmp i) |.index t _ (.tmp i)=>(match T.ty t with
  |.struct true fs=>some (i,fs.length)
  |_=>none)
 |_=>none
def pins(i:Nat)(k:IntKind)(n:Int)(go:Env C->Pg C (Env C))(w:Bool)(env:Env C):bQ->Pg C (Env C)
 |[]=>bif w then .fail else go env
 |j::l=>.br (n==j) (go ((i,.int k j)::env)) (pins i k n go w env l)
def mF(o:Oper)(go:Env C->Pg C (Env C))(env:Env C):Pg C (Env C):=
 match CO T o with
 |some (i,m)=>(match cR env i with
  |.int k n=>pins i k n go (Nat.ble m 8) env (lits.take m)
  |_=>go env)
 |none=>go env
def qg(call:FuncId->List (D C)->Pg C (D C))(ops:cO)(o:Oper)(env:Env C):Pg C (Env C):=
 let go (env:Env C):Pg C (Env C):=mF T o (fun env=>.bind (jt T call o (gZ env)) fun d=>.ret (put env o.dst d)) env
 let skip (env:Env C):Pg C (Env C):=.ret (put env o.dst (.cG .bN))
 match o.guard with
 |none=>go env
 |some (j,want)=>match (ops[j]?).bind (·.dst)with
  |some d=>match cR env d with
   |.bool b=>.br b (bif want then go (((d,.bool true)::env))else skip (((d,.bool true)::env)))
    (bif want then skip (((d,.bool false)::env))else go (((d,.bool false)::env)))
   |.cG .bN=>skip env
   |_=>.fail
  |none=>.fail
def um(t:Nat):Operand->Bool
 |.tmp u=>!Nat.beq u t
 |_=>true
def Ll(o1 o2 o3:Oper):Option (TypeId×Operand×Operand×Operand×Nat×Nat):=
 match o1.op with
 |.mapEntry t m k=>(match o1.dst,o1.guard,o2.op,o2.dst,o2.guard,o3.op,o3.guard with
  |some d1,none,.extract (.tmp e1) 1,some d2,none,.entryStore _ (.tmp n) (.tmp e2) v,none=>(match m with
   |.tmp m=>bif(Nat.beq e1 d1&&Nat.beq e2 d2&&Nat.beq n m)&&(um d1 (.tmp m)&&um d2 (.tmp m) && !Nat.beq d1 d2)&&(um d1 v&&um d2 v)then some (t,.tmp m,k,v,d1,d2)else none
   |_=>none)
  |_,_,_,_,_,_,_=>none)
 |_=>none
def Lm(o1 o2:Oper):Option (TypeId×Operand×Operand×Nat):=
 match o1.op with
 |.slice t x (some lo) none none=>(match o1.dst,o1.guard,o2.op,o2.guard with
  |some d1,none,.call c,none=>(match c.callee,c.args.toList,c.argTypes.toList with
   |.builtin .clear,[.tmp e1],[t']=>bif Nat.beq e1 d1&&Nat.beq t' t then some (t,x,lo,d1)else none
   |_,_,_=>none)
  |_,_,_,_=>none)
 |_=>none
def TR(t:TypeId)(n id:Nat)(a:Int):Obj C->Pg C (D C)
 |.vec ty true l=>(match T.ty t with
  |.sl _ ty0=>bif decide (ty=ty0)then .br (Nat.beq n l.length&&decide (0<=a/\a<=l.length)) (.wr id (.vec ty true (l.take a.toNat++List.replicate (l.length-a.toNat) (T.eU ty))) (.ret (.cG .bN))) .fail else .fail
  |_=>.fail)
 |_=>.fail
def OX(t:TypeId)(x lo:D C):Pg C (D C):=
 match x,lo with
 |.vs id n,.int _ a=>.rd id (TR T t n id a)
 |_,_=>.fail
def qT(call:FuncId->List (D C)->Pg C (D C))(ops:cO):fQ->Env C->Pg C (Env C)
 |[],env=>.ret env
 |o::r,env=>match r with
  |[]=>.bind (qg T call ops o env) fun env=>.ret env
  |o2::r2=>match Lm o o2 with
   |some (t,x,lo,d1)=>.bind (OX T t (gZ env x) (gZ env lo)) fun _=>qT call ops r2 (put ((d1,.top)::env) o2.dst (.cG .bN))
   |none=>match r2 with
   |[]=>.bind (qg T call ops o env) fun env=>qT call ops (o2::[]) env
   |o3::r3=>match Ll o o2 o3 with
    |some (t,m,k,v,d1,d2)=>.bind (Yy T t (gZ env m) (gZ env k) (gZ env v)) fun _=>qT call ops r3 (put ((d2,.top)::(d1,.top)::env) o3.dst (.cG .bN))
    |none=>.bind (qg T call ops o env) fun env=>qT call ops (o2::o3::r3) env
def PN(a b:Tr):Bool:=a.all fun x=>b.all fun y=>!(Nat.beq x.1 y.1) || !(x.2||y.2)
def CD(o:Oper):Bool:=match o.op with
 |.fieldAddr _ _ _=>true
 |.indexAddr _ _ _=>true
 |_=>false
def xX(o:Oper):Bool:=match o.op with
 |.store _ _ _=>true
 |_=>false
def E3(ops:cO)(a b:Nat):Bool:=match ops[a]?,ops[b]? with
 |some x,some y=>(CD x&&xX y)||(xX x&&CD y)
 |_,_=>false
def IJ(ops:cO)(ts:iE):Bool :=
 ts.all fun a=>ts.all fun b=>PN a.2 b.2 || !(Nat.blt a.1 b.1)||((Region.before ops).getD b.1 0).testBit a.1||E3 ops a.1 b.1
def CE(call:FuncId->List (D C)->Pg C (D C))(ops:cO)(base span:Nat):Nat->fQ->Env C->iE->Pg C (Env C)
 |i,[],env,ts=>.upto (base+i*span) (.br (IJ ops ts) (.ret env) .fail)
 |i,o::r,env,ts=>.upto (base+i*span) (.sub (qg T call ops o env) fun env t=>CE call ops base span (i+1) r env (match t with|[]=>ts|_=>(i,t)::ts))
def QC:Code->Nat
 |.region id _ _=>id
 |.seq a _=>QC a
 |.cond _ a _=>QC a
 |.block _ a=>QC a
 |.loop a=>QC a
 |.scope a=>QC a
 |_=>0
def xY(env:Env C):List ResultVar->Pg C (List (D C))
 |[]=>.ret []
 |.tmp t::r=>.bind (xY env r) fun l=>.ret (cR env t::l)
 |.cell a t::r=>.bind (wQ T t (cR env a)) fun d=>.bind (xY env r) fun l=>.ret (d::l)
def r8(Φ:iR C)(f:FuncId)(n0:Nat)(env:Env C)(rs:List ResultVar):Pg C (D C):=
 .bind (xY T env rs) fun l=>
  bif Φ.keeps f then .ret (match l with
   |[d]=>d
   |l=>.cG (D.ofList l))
  else .bind (match l with
   |[d]=>frz d
   |l=>frz (.cG (D.ofList l))) fun d=>.gc n0 d.refs (.ret d)
def Wf(id:Nat):Obj C->Pg C Unit
 |.var u d=>bif d.ol then .bind (frz d) fun d'=>bif fit T d' (.inl u)then .wr id (.var u d') (.ret ())else .fail else .ret ()
 |_=>.ret ()
def Fl:bU->Nat->Pg C Unit
 |[],id=>.rd id (Wf T id)
 |i::p,id=>.rd id fun
  |.var _ d=>match d.nth i with
   |some (.ptr jv [])=>Fl p jv
   |_=>.fail
  |_=>.fail
def wV(env:Env C):eI->Pg C Unit
 |[]=>.ret ()
 |(t,p)::r=>match cR env t with
  |.ptr id []=>.bind (Fl T p id) fun _=>wV env r
  |_=>.fail
def wR(Φ:iR C)(ev:FuncId->Code->Env C->Pg C (X×Env C))(g:FuncId)(args:List (D C)):Pg C (D C):=
 match Φ.fn g with
 |some fn=>match fn.body with
  |some body=>.oY fun n0 _=>.bind (ev g body (gG 0 args)) fun r=>
   match r.1 with
   |.exit _=>.fail
   |_=>.bind (wV T r.2 (Φ.rest g)) fun _=>r8 T Φ g n0 r.2 fn.results.toList
  |none=>.fail
 |none=>.fail
def zw(nt:Nat)(ops:cO):Bool:=ops.toList.all fun o=>match o.dst with
 |some t=>Nat.blt t nt
 |none=>true
def Mu(ops:cO):Bool :=
 let b:=Region.before ops
 ops.toList.zipIdx.all fun x=>x.1.after.toList.all (fun e=>!Region.binds .any e||Nat.blt e.on x.2) &&
  ops.toList.zipIdx.all fun y=>!(Nat.blt x.2 y.2)||(b.getD y.2 0).testBit x.2||x.1.apart ops y.1
def Y0(nt:Nat):Code->Bool
 |.region _ ops draw=>zw nt ops&&(!draw||Mu ops)
 |.seq a b=>Y0 nt a&&Y0 nt b
 |.cond _ a b=>Y0 nt a&&Y0 nt b
 |.block _ a=>Y0 nt a
 |.loop a=>Y0 nt a
 |.scope a=>Y0 nt a
 |_=>true
def Ka:Code->Bool
 |.skip=>true
 |.label _=>true
 |.ret=>true
 |.exit _=>true
 |.region _ _ _=>true
 |.seq a b=>Ka a&&Ka b
 |.cond _ a b=>Ka a&&Ka b
 |.block _ a=>Ka a
 |_=>false
def G1(nt:Nat)(c:Code):Bool:=Y0 nt c&&Ka c
def tS(nt:Nat):bU->Bool
 |[]=>true
 |t::r=>Nat.blt t nt&&(!(r.any (Nat.beq t))&&tS nt r)
def oc:bU->List (D C)->Env C
 |t::ts,d::ds=>(t,d)::oc ts ds
 |_,_=>[]
def TS(id ex:Nat)(x:X):Obj C->Pg C (D C)
 |.dG (.lp busy dn RH)=>.br (busy && !dn&&Nat.beq RH ex) (match x with
  |.normal=>.wr id (.dG (.lp false false ex)) (.ret (.bool true))
  |.exit i=>bif Nat.beq i ex then .wr id (.dG (.lp false true ex)) (.ret (.bool false))else .fail
  |.ret=>.fail) .fail
 |_=>.fail
def TT(ev:FuncId->Code->Env C->Pg C (X×Env C))(id ex:Nat)(body:Code)(env:Env C):Obj C->Pg C (D C)
 |.dG (.lp busy dn RH)=>.br (!busy && !dn&&Nat.beq RH ex) (.wr id (.dG (.lp true false ex)) (.bind (ev 0 body env) fun r=>.rd id (TS id ex r.1))) .fail
 |_=>.fail
def TU(ev:FuncId->Code->Env C->Pg C (X×Env C))(args:List (D C)):Pg C (D C):=
 match args with
 |.yl nt dE ps iV body fj id::xs=>
  bif(fj.dM&&xs.all D.dM)&&((Nat.beq xs.length ps.length&&tS nt ps)&&(G1 nt iV&&G1 nt body))then
   .rd id fun
    |.dG (.lp _ _ ex)=>.bind (ev 0 iV (oc ps xs++oc dE fj.toList)) fun r=>match r.1 with
     |.normal=>.rd id (TT ev id ex body r.2)
     |_=>.fail
    |_=>.fail
  else .fail
 |_=>.fail
def uB(Φ:iR C)(ev:FuncId->Code->Env C->Pg C (X×Env C))(g:FuncId)(args:List (D C)):Pg C (D C):=
 bif Nat.beq g Vr then TU ev args else
 match Φ.jd g with
 |some s=>.bind (wV T (gG 0 args) (Φ.rest g)) fun _=>s args
 |none=>match Φ.spec g with
  |some s=>bif Φ.qD g then .bind (Li args) (fun args=>match s args with
   |some (b,d)=>bif d.plain&&args.all D.dM then .br b (.ret d) .fail else .fail
   |none=>.fail)else .bind (vD args) fun args=>match s args with
   |some (b,d)=>bif Φ.total g then(bif b then .ret d else .fail)else .br b (.ret d) .fail
   |none=>.fail
  |none=>wR T Φ ev g args
def Ln(b:Env C->Pg C (X×Env C))(r:X×Env C):Pg C (X×Env C):=
 match r.1 with
 |.normal=>b r.2
 |_=>.ret r
def Qm0(id:Nat)(r:X×Env C):Pg C (X×Env C):=
 match r.1 with
 |.exit i=>bif Nat.beq i id then .ret (.normal,r.2)else .ret r
 |_=>.ret r
def QIJ(Φ:iR C):Op->Bool
 |.move _ |.assign _ |.pick _ _ _ |.binOp _ _ _ _ _ |.unOp _ _ _ |.convert _ _ _ |.field _ _ _ |.extract _ _ |.index _ _ _=>true
 |.call c=>(match c.callee with
  |.value (.func g)=>Φ.total g
  |_=>false)
 |_=>false
def kL(Φ:iR C):Code->Bool
 |.skip=>true
 |.label _=>true
 |.region _ ops draw=>!draw&&ops.toList.all fun o=>QIJ Φ o.op
 |.seq a b=>kL Φ a&&kL Φ b
 |.cond _ a b=>kL Φ a&&kL Φ b
 |_=>false
def j7(b:Bool):D C->D C->Option (D C)
 |.bool x,.bool y=>some (.bool (bif b then x else y))
 |.int k x,.int k' y=>if k=k' then some (.int k (bif b then x else y))else none
 |.str x,.str y=>some (.str (bif b then x else y))
 |.bN,.bN=>some .bN
 |.bI x xs,.bI y ys=>match j7 b x y,j7 b xs ys with
  |some d,some ds=>some (.bI d ds)
  |_,_=>none
 |.cG .bN,.cG .bN=>some (.cG .bN)
 |.sl t c l,.sl t' c' l'=>if h:t'=t then some (.sl t (bif b then c else c') (bif b then l else h▸l'))else none
 |.arr t n l,.arr t' n' l'=>if h:t'=t then(if n=n' then some (.arr t n (bif b then l else h▸l'))else none)else none
 |.ez,.ez=>some .ez
 |.eX,.eX=>some .eX
 |.cm,.cm=>some .cm
 |_,_=>none
def tM(b:Bool):D C->D C->Option (D C)
 |.top,_=>some .top
 |_,.top=>some .top
 |x,y=>j7 b x y
def qF(b:Bool)(x y:Env C):bU->Option (Env C)
 |[]=>some []
 |t::l=>match tM b (cR x t) (cR y t),qF b x y l with
  |some d,some r=>some ((t,d)::r)
  |_,_=>none
def wi(m:gu)(env:Env C)(b:Bool)(p q:Pg C (X×Env C)):Pg C (X×Env C):=
 match m with
 |some l=>match p,q with
  |.ret (.normal,x),.ret (.normal,y)=>match qF b x y l with
   |some r=>.ret (.normal,r++env)
   |none=>.br b (.ret (.normal,x)) (.ret (.normal,y))
  |p,q=>.br b p q
 |none=>.br b p q
def Wg(m:gu)(c:Operand)(x y:Env C->Pg C (X×Env C))(env:Env C):Pg C (X×Env C):=
 match c with
 |.tmp t=>match cR env t with
  |.bool b=>wi m env b (x ((t,.bool true)::env)) (y ((t,.bool false)::env))
  |_=>.fail
 |.const (.bool b)=>.br b (x env) (y env)
 |_=>.fail
def G5(call:FuncId->List (D C)->Pg C (D C))(ops:cO)(env:Env C):Pg C (X×Env C):=
 .bind (qT T call ops ops.toList env) fun env=>.ret (.normal,env)
def Wh(call:FuncId->List (D C)->Pg C (D C))(ops:cO)(env:Env C):Pg C (X×Env C):=
 .oY fun base span=>.bind (CE T call ops base span 0 ops.toList env []) fun env=>.ret (.normal,env)
def S8(ops:cO)(env:Env C):eI:=
 ops.toList.filterMap fun o=>match o.op with
  |.load t (.tmp a)=>(match T.ty t with
   |.struct _ _=>bif !T.settle t||ops.toList.any (fun o=>match o.dst with|some d=>Nat.beq d a|none=>false)then none else(match cR env a with
    |.ptr _ []=>some (a,[])
    |_=>none)
   |_=>none)
  |_=>none
def gI:Code->bU
 |.region _ ops _=>ops.toList.filterMap (·.dst)
 |.seq a b=>gI a++gI b
 |.cond _ a b=>gI a++gI b
 |.block _ a=>gI a
 |.loop a=>gI a
 |.scope a=>gI a
 |_=>[]
def mj(l:bU):Env C->Env C
 |[]=>[]
 |(j,d)::r=>bif l.any (Nat.beq j)then mj l r else(j,d)::mj l r
def Mv(Φ:iR C)(f:FuncId)(key:Nat)(asg:bU)(b again:Env C->Pg C (X×Env C))(env:Env C):Pg C (X×Env C):=
 match Φ.loop f key with
 |some s=>.bind (s env) fun r=>.ret (r.1,r.2++mj asg env)
 |none=>.bind (b env) (Ln again)
def Fm:Env C->bU
 |[]=>[]
 |(j,d)::r=>bif(Fm r).any (Nat.beq j)then Fm r else(match d with
  |.top=>Fm r
  |_=>j::Fm r)
def JB:Code->bU
 |.region _ ops _=>ops.toList.flatMap fun o=>o.op.operands.toList.filterMap fun x=>match x with |.tmp t=>some t|_=>none
 |.seq a b=>JB a++JB b
 |.cond c a b=>(match c with |.tmp t=>[t]|_=>[])++(JB a++JB b)
 |.block _ a=>JB a
 |_=>[]
def wS(used:bU)(env:Env C):bU:=(Fm env).filter fun t=>used.any (Nat.beq t)&&(cR env t).dM
def uC:Code->Nat
 |.exit id=>id
 |.seq a b=>match uC a with|0=>uC b|n=>n
 |.cond _ a b=>match uC a with|0=>uC b|n=>n
 |.block id a=>match uC a with|0=>0|n=>bif Nat.beq n id then 0 else n
 |_=>0
def TV(id ex0:Nat)(env:Env C):Obj C->Pg C (X×Env C)
 |.dG (.lp busy dn ex)=>.br (!busy&&Nat.beq ex ex0) (.dl id (.br dn (.ret (.exit ex0,env)) (.ret (.normal,env)))) .fail
 |_=>.fail
def TW(Φ:iR C)(call:FuncId->List (D C)->Pg C (D C))(f:FuncId)(g:D C)(ps:bU)(iV body:Code)(env:Env C):Pg C (X×Env C):=
 match Φ.fn f with
 |some fn=>(match g with
  |.fn pT fj=>bif Nat.beq pT Vr then .fail else
   .nw (.dG (.lp false false (uC body))) fun id=>
   .bind (call pT (.yl fn.ntmps (wS (JB iV++JB body) env) ps iV body (D.ofList ((wS (JB iV++JB body) env).map (cR env))) id::fj.toList)) fun _=>.rd id (TV id (uC body) env)
  |_=>.fail)
 |none=>.fail
def jE(Φ:iR C):Nat->FuncId->Code->Env C->Pg C (X×Env C)
 |0,_,_,_=>.fail
 |n+1,f,c,env=>
  match c with
  |.skip=>.ret (.normal,env)
  |.label _=>.ret (.normal,env)
  |.ret=>.ret (.ret,env)
  |.exit id=>.ret (.exit id,env)
  |.region _ ops draw=>bif draw then .bind (wV T env (S8 T ops env)) fun _=>Wh T (uB T Φ (jE Φ n)) ops env else G5 T (uB T Φ (jE Φ n)) ops env
  |.seq a b=>.bind (jE Φ n f a env) (Ln (jE Φ n f b))
  |.cond c x y=>Wg (bif kL Φ x&&kL Φ y then some (gI x++gI y)else none) c (jE Φ n f x) (jE Φ n f y) env
  |.block id b=>.bind (jE Φ n f b env) (Qm0 id)
  |.scope b=>jE Φ n f b env
  |.loop b=>Mv Φ f (QC b) (gI b) (jE Φ n f b) (jE Φ n f (.loop b)) env
  |.rangeFunc g ps iV body=>TW Φ (uB T Φ (jE Φ n)) f (gZ env g) ps.toList iV body env
  |_=>.fail
noncomputable def eO(Φ:iR C)(n:Nat)(f:FuncId)(args:List (D C)):Option (D C):=(wR T Φ (jE T Φ n) f args).run (0,0) [] 0 [] fun d _ _ _=>bif d.refs.isEmpty&&d.dM then some d else none
end
set_option linter.unusedVariables false
set_option linter.unusedSimpArgs false
section
variable {C:gR}(T:fh C)
theorem D.pI:∀{ds:D C} {i:Nat} {x:D C},ds.gK=true->ds.nth i=some x->x.de=false
 |.bI d ds,0,x,h,hq=>by simp[D.nth]at hq;subst hq;simp[D.gK]at h;exact h.1
 |.bI d ds,i+1,x,h,hq=>by simp[D.gK]at h;exact D.pI h.2 (by simpa[D.nth]using hq)
def gJ:Value->Nat
 |.slice _ n _=>n
 |_=>0
inductive ry where
 |lp (b:Nat) (rec:Loop)
 |it (bm r:Nat)
def ry.owns:ry->Nat->Prop
 |.lp b _,c=>c=b
 |.it bm r,c=>c=bm\/c=r
inductive Loc where
 |var (b:Nat) (t:TypeId)
 |vec (v:Value) (e:TypeId) (b lo hi:Nat)
 |map (b:Nat)
 |dG (s:ry)
abbrev gL:=Option Loc
def Loc.owns:Loc->Nat->Nat->Prop
 |.var b _,c,_=>c=b
 |.vec _ _ b lo hi,c,o=>c=b/\lo<=o/\o<hi
 |.map b,c,_=>c=b
 |.dG s,c,_=>s.owns c
structure Cx where
 (w:World)(ρ:Nat->gL)(O:Nat->Nat->Prop)
def Cx.du(X:Cx)(b o:Nat):Prop:=∃id l,X.ρ id=some l/\l.owns b o
def Cx.free(X:Cx)(b o:Nat):Prop:=¬X.O b o/\¬X.du b o
def Cx.at(X:Cx)(b off:Nat)(cs:bT):Prop :=
 ∀j v,cs[j]? = some v->X.w.cell? ⟨b,off+j,none⟩=some v/\X.free b (off+j)
def Zh:cD->Nat
 |[]=>0
 |t::ts=>T.size t+Zh ts
def dL:TypeId->bU->Nat
 |_,[]=>0
 |t,i::p=>match T.ty t with
  |.struct _ fs=>Zh T (fs.take i)+dL (fs.getD i 0) p
  |.arr _ e _=>i*T.size e+dL e p
  |_=>0
def Zq:TypeId->bU->Prop
 |_,[]=>True
 |t,i::p=>match T.ty t with
  |.struct _ fs=>i<fs.length/\Zq (fs.getD i 0) p
  |.arr n e _=>i<n/\Zq e p
  |_=>False
inductive R(X:Cx):Bool->D C->bT->Prop
 |bool (b:Bool):R X false (.bool b) [.bool b]
 |int {k:IntKind} {n:Int} (h:k.min<=n/\n<=k.max):R X false (.int k n) [.int k n]
 |str (s:bL):R X false (.str s) [.string ⟨⟨s⟩⟩]
 |bN:R X false .bN []
 |bI {d ds:D C} {c1 c2:bT} (h1:R X false d c1) (h2:R X false ds c2):R X false (.bI d ds) (c1++c2)
 |ia (t:C.Ty):R X false (.arr t 0 []) []
 |iS {t:C.Ty} {n:Nat} {x:C.A t} {l:List (C.A t)} {c1 c2:bT} (h1:R X false (T.enc t x) c1) (h2:R X false (.arr t n l) c2):R X false (.arr t (n+1) (x::l)) (c1++c2)
 |ez:R X false .ez [.slice none 0 0]
 |kN (t:C.Ty) (cap:Bool) (a:dw):R X false (.sl t cap []) [.slice a 0 0]
 |sl {t:C.Ty} {cap:Bool} {l:List (C.A t)} {b off cp:Nat} {cs:bT} (ha:X.at b off cs) (h:R X false (.arr t l.length l) cs) (hc:l.length<=cp)
  (kz:cap=true->cp=l.length):R X false (.sl t cap l) [.slice (some ⟨b,off,none⟩) l.length cp]
 |vs {id n cp:Nat} {a:dw} (h:∀v e b lo hi,X.ρ id=some (.vec v e b lo hi)->n<=gJ v/\(gJ v=n->v=.slice a n cp)):R X false (.vs id n) [.slice a n cp]
 |ptr {id:Nat} {p:bU} {a:Addr} (h:∀b t,X.ρ id=some (.var b t)->Zq T t p/\a=⟨b,dL T t p,none⟩):R X false (.ptr id p) [.pointer (some a)]
 |eY {id n i:Nat} {p:bU} {a:Addr} (h:∀v e b lo hi,X.ρ id=some (.vec v e b lo hi)->n<=gJ v /\
  (gJ v=n->∃b' off cp,v=.slice (some ⟨b',off,none⟩) n cp/\i<n/\Zq T e p/\a=⟨b',off+i*T.size e+dL T e p,none⟩)):R X false (.eY id n (i::p)) [.pointer (some a)]
 |dC {d:D C} {b off:Nat} {cs:bT} (ha:X.at b off cs) (h:R X false d cs):R X false (.dC d) [.pointer (some ⟨b,off,none⟩)]
 |eX:R X false .eX [.pointer none]
 |fn {f:Nat} {fj:D C} {vs:bT} (h:R X true fj vs):R X false (.fn f fj) [.func (.func f) #[] ⟨vs⟩]
 |cm:R X false .cm [.nilFunc]
 |gf:R X false .gf [.map none]
 |bm {f:Nat} {d:D C} {v:Value} (h:R X false d [v]) (hr:d.de=false):R X false (.bm f d) [.func (.func f) #[v] #[]]
 |yl {nt l id:Nat} {dE ps:bU} {iV body:Code} {fj:D C} {rec:Loop} (hw:∀s,X.ρ id=some (.dG s)->s=.lp l rec) (hs:rec.params.toList=ps/\rec.assign=iV/\rec.body=body/\nt<=rec.tmps.size)
  (h:R X true fj (dE.map fun t=>rec.tmps.getD t undef)):R X false (.yl nt dE ps iV body fj id) [.func (.yield l) #[] #[]]
 |fO {n b off cp:Nat} {cap:Bool} {ds:D C} {cs:bT} (ha:X.at b off cs) (h:R X true ds cs) (hn:n<=cs.length) (h1:ds.gK=true) (hc:n<=cp/\(cap=true->cp=n/\cs.length=n)):R X false (.fO n cap ds) [.slice (some ⟨b,off,none⟩) n cp]
 |jN {id r:Nat} (h:∀s,X.ρ id=some (.dG s)->∃bm,s=.it bm r):R X false (.jN id) [.pointer (some ⟨r,0,none⟩)]
 |mp {id b:Nat} (h:∀b',X.ρ id=some (.map b')->b'=b):R X false (.mp id) [.map (some b)]
 |jg {ta id lo n cp:Nat} {p:bU} {ao:dw} (h:∀b t,X.ρ id=some (.var b t)->∃m e ty,T.ty ta=.arr m e ty/\gn T t p=some ta/\Zq T t p/\lo+n<=m/\ao=some ⟨b,dL T t p+lo*T.size (T.dp ty),none⟩)
  (hs:0<n->∃b0 o0,ao=some ⟨b0,o0,none⟩) (hv:∀v e b l' hi,X.ρ id=some (.vec v e b l' hi)->p.getD 0 0<=gJ v/\(gJ v=p.getD 0 0->∃a0 yz,v=.slice a0 (p.getD 0 0) yz/\n=p.getD 0 0-lo/\cp=yz-lo /\
   ao=(if yz=lo then a0 else a0.map (·.add (lo*T.size e))))):R X false (.jg ta id p lo n) [.slice ao n cp]
 |cG {ds:D C} {vs:bT} (h:R X true ds vs):R X false (.cG ds) [.tuple ⟨vs⟩]
 |top (v:Value):R X false .top [v]
 |iu:R X true .bN []
 |jh {d ds:D C} {cs vs:bT} (h:R X false d cs) (hr:d.de=true) (h2:R X true ds vs):R X true (.bI d ds) (.agg ⟨cs⟩::vs)
 |iQ {d ds:D C} {v:Value} {vs:bT} (h:R X false d [v]) (hr:d.de=false) (h2:R X true ds vs):R X true (.bI d ds) (v::vs)
def RV(X:Cx)(d:D C)(v:Value):Prop :=
 (d.de=true/\∃cs,R T X false d cs/\v=.agg ⟨cs⟩)\/(d.de=false/\R T X false d [v])
def Qp:gL->gL->Prop
 |_,none=>True
 |some (.var b t),some l=>l=.var b t
 |some (.map b),some l=>l=.map b
 |some (.dG s),some l=>l=.dG s
 |some (.vec v e _ _ _),some (.vec v' e' _ _ _)=>e'=e/\gJ v<=gJ v'/\(gJ v=gJ v'->v'=v)
 |_,_=>False
theorem Qp.refl(l:gL):Qp l l:=by
 cases l with
 |none=>trivial
 |some l=>cases l<;>simp[Qp]
theorem Qp.trans{a b c:gL}(h:Qp a b)(k:Qp b c):Qp a c:=by
 cases c with
 |none=>simp[Qp]
 |some c=>
  cases b with
  |none=>simp[Qp]at k
  |some b=>
   cases a with
   |none=>simp[Qp]at h
   |some a=>
    cases a<;>cases b<;>cases c<;>simp_all[Qp]
    obtain⟨_,h1,h2⟩:=h;obtain⟨_,k1,k2⟩:=k;refine⟨by omega,fun e=>?_⟩;have e1:=h2 (by omega);have e2:=k2 (by omega);rw[e2,e1]
structure ul(X X':Cx):Prop where
 cell:∀b o v,X.w.cell? ⟨b,o,none⟩=some v->X.free b o->X'.w.cell? ⟨b,o,none⟩=some v/\X'.free b o
theorem R.rm{X X':Cx}{y:Bool}(he:∀t x,(T.enc t x).refs=[]/\(T.enc t x).dM=true)(hX:∀b o v,X.w.cell? ⟨b,o,none⟩=some v->X.free b o->X'.w.cell? ⟨b,o,none⟩=some v/\X'.free b o)
 (hL:y=true->True)
 {m:Bool} {d:D C} {vs:bT} (h:R T X m d vs):(∀id∈d.refs,Qp (X.ρ id) (X'.ρ id))->(y=true\/d.dM=true)->R T X' m d vs:=by
 induction h with
 |bool b=>exact fun _ _=>.bool b
 |int h=>exact fun _ _=>.int h
 |str s=>exact fun _ _=>.str s
 |bN=>exact fun _ _=>.bN
 |bI _ _ i1 i2=>
  intro hr hy;simp only[D.refs,aT]at hr;exact .bI (i1 (fun id h=>hr id (.inl h)) (hy.imp id fun h=>by simp only[D.dM,ai]at h;exact h.1)) (i2 (fun id h=>hr id (.inr h)) (hy.imp id fun h=>by simp only[D.dM,ai]at h;exact h.2))
 |ia t=>exact fun _ _=>.ia t
 |iS _ _ i1 i2=>exact fun _ _=>.iS (i1 (by simp[he]) (.inr (he _ _).2)) (i2 (by simp[D.refs]) (.inr rfl))
 |ez=>exact fun _ _=>.ez
 |kN t c a=>exact fun _ _=>.kN t c a
 |sl ha _ hc kz ih=>exact fun _ _=>.sl (fun j v hj=>hX _ _ _ (ha j v hj).1 (ha j v hj).2) (ih (by simp[D.refs]) (.inr rfl)) hc kz
 | @vs id n cp a h=>
  intro hr hy;refine .vs fun v e b lo hi hv=>?_;have hc:=hr id (by simp[D.refs]);rw[hv]at hc;cases ho:X.ρ id with
  |none=>rw[ho]at hc;simp[Qp]at hc
  |some l=>
   rw[ho]at hc;cases l with
   |var b t=>simp[Qp]at hc
   |map b0=>simp[Qp]at hc
   |dG _=>simp[Qp]at hc
   |vec v0 e0 b0 rZ rP=>
    simp only[Qp]at hc;have:=h _ _ _ _ _ ho;refine⟨by omega,fun hl=>?_⟩;have e1:=hc.2.2 (by omega);rw[e1];exact this.2 (by omega)
 | @ptr id p a h=>
  intro hr hy;refine .ptr fun b t hv=>?_;have hc:=hr id (by simp[D.refs]);rw[hv]at hc;cases ho:X.ρ id with
  |none=>rw[ho]at hc;simp[Qp]at hc
  |some l=>
   rw[ho]at hc;cases l with
   |var b0 t0=>
    simp only[Qp,Loc.var.injEq]at hc;obtain⟨rfl,rfl⟩:=hc;exact h _ _ ho
   |vec v0 e0 b0 rZ rP=>simp[Qp]at hc
   |map b0=>simp[Qp]at hc
   |dG _=>simp[Qp]at hc
 | @jg ta id lo n cp p ao h hs hw=>
  intro hr hy;refine .jg (fun b t hv=>?_) hs (fun v e b lo hi hv=>?_)
  ·have hc:=hr id (by simp[D.refs]);rw[hv]at hc;cases ho:X.ρ id with
   |none=>rw[ho]at hc;simp[Qp]at hc
   |some l=>
    rw[ho]at hc;cases l with
    |var b0 t0=>
     simp only[Qp,Loc.var.injEq]at hc;obtain⟨rfl,rfl⟩:=hc;exact h _ _ ho
    |vec v0 e0 b0 rZ rP=>simp[Qp]at hc
    |map b0=>simp[Qp]at hc
    |dG _=>simp[Qp]at hc
  ·have hc:=hr id (by simp[D.refs]);rw[hv]at hc;cases ho:X.ρ id with
   |none=>rw[ho]at hc;simp[Qp]at hc
   |some l=>
    rw[ho]at hc;cases l with
    |var b t=>simp[Qp]at hc
    |map b0=>simp[Qp]at hc
    |dG _=>simp[Qp]at hc
    |vec v0 e0 b0 rZ rP=>
     simp only[Qp]at hc;have:=hw _ _ _ _ _ ho;refine⟨by omega,fun hl=>?_⟩;have e1:=hc.2.2 (by omega);rw[e1,hc.1];exact this.2 (by omega)
 | @eY id n i p a h=>
  intro hr hy;refine .eY fun v e b lo hi hv=>?_;have hc:=hr id (by simp[D.refs]);rw[hv]at hc;cases ho:X.ρ id with
  |none=>rw[ho]at hc;simp[Qp]at hc
  |some l=>
   rw[ho]at hc;cases l with
   |var b t=>simp[Qp]at hc
   |map b0=>simp[Qp]at hc
   |dG _=>simp[Qp]at hc
   |vec v0 e0 b0 rZ rP=>
    simp only[Qp]at hc;have:=h _ _ _ _ _ ho;refine⟨by omega,fun hl=>?_⟩;have e1:=hc.2.2 (by omega);rw[e1,hc.1];exact this.2 (by omega)
 |dC ha _ ih=>
  intro hr hy;exact .dC (fun j v hj=>hX _ _ _ (ha j v hj).1 (ha j v hj).2) (ih (by simpa[D.refs]using hr) hy)
 |eX=>exact fun _ _=>.eX
 |fO ha _ hn h1 hc ih=>
  intro hr hy;exact .fO (fun j v hj=>hX _ _ _ (ha j v hj).1 (ha j v hj).2) (ih (by simpa[D.refs]using hr) hy) hn h1 hc
 | @jN id r h=>
  intro hr hy;refine .jN fun s hv=>?_;have hc:=hr id (by simp[D.refs]);rw[hv]at hc;cases ho:X.ρ id with
  |none=>rw[ho]at hc;simp[Qp]at hc
  |some l=>
   rw[ho]at hc;cases l with
   |dG s0=>
    simp only[Qp,Loc.dG.injEq]at hc;obtain rfl:=hc;exact h _ ho
   |_=>simp[Qp]at hc
 | @mp id b h=>
  intro hr hy;refine .mp fun b' hv=>?_;have hc:=hr id (by simp[D.refs]);rw[hv]at hc;cases ho:X.ρ id with
  |none=>rw[ho]at hc;simp[Qp]at hc
  |some l=>
   rw[ho]at hc;cases l with
   |map b0=>
    simp only[Qp,Loc.map.injEq]at hc;obtain rfl:=hc;exact h _ ho
   |_=>simp[Qp]at hc
 |fn _ ih=>exact fun hr hy=>.fn (ih (by simpa[D.refs]using hr) hy)
 |cm=>exact fun _ _=>.cm
 |gf=>exact fun _ _=>.gf
 |bm _ fA ih=>exact fun hr hy=>.bm (ih (by simpa[D.refs]using hr) hy) fA
 | @yl nt l id dE ps iV body fj rec hw hs _ ih=>
  intro hr hy;rcases hy with hy|hy
  ·refine .yl (fun s hv=>?_) hs (ih (fun i hi=>hr i (by simp[D.refs,hi])) (.inl hy));have hc:=hr id (by simp[D.refs]);rw[hv]at hc;cases ho:X.ρ id with
   |none=>rw[ho]at hc;simp[Qp]at hc
   |some l=>
    rw[ho]at hc;cases l with
    |dG s0=>
     simp only[Qp,Loc.dG.injEq]at hc;obtain rfl:=hc;exact hw _ ho
    |_=>simp[Qp]at hc
  ·cases hy
 |cG _ ih=>exact fun hr hy=>.cG (ih (by simpa[D.refs]using hr) hy)
 |top v=>exact fun _ _=>.top v
 |iu=>exact fun _ _=>.iu
 |jh _ fK _ i1 i2=>
  intro hr hy;simp only[D.refs,aT]at hr;exact .jh (i1 (fun id h=>hr id (.inl h)) (hy.imp id fun h=>by simp only[D.dM,ai]at h;exact h.1)) fK (i2 (fun id h=>hr id (.inr h)) (hy.imp id fun h=>by simp only[D.dM,ai]at h;exact h.2))
 |iQ _ fK _ i1 i2=>
  intro hr hy;simp only[D.refs,aT]at hr;exact .iQ (i1 (fun id h=>hr id (.inl h)) (hy.imp id fun h=>by simp only[D.dM,ai]at h;exact h.1)) fK (i2 (fun id h=>hr id (.inr h)) (hy.imp id fun h=>by simp only[D.dM,ai]at h;exact h.2))
theorem R.mono{X X':Cx}(he:∀t x,(T.enc t x).refs=[]/\(T.enc t x).dM=true)(hX:ul X X')
 {m:Bool} {d:D C} {vs:bT} (h:R T X m d vs) (hr:∀id∈d.refs,Qp (X.ρ id) (X'.ρ id)):R T X' m d vs :=
 h.rm T (y:=true) he hX.cell (fun _=>trivial) hr (.inl rfl)
theorem RV.mono{X X':Cx}(he:∀t x,(T.enc t x).refs=[]/\(T.enc t x).dM=true)(hX:ul X X')
 {d:D C} {v:Value} (h:RV T X d v) (hr:∀id∈d.refs,Qp (X.ρ id) (X'.ρ id)):RV T X' d v:=by
 rcases h with⟨h1,cs,h2,h3⟩|⟨h1,h2⟩
 ·exact .inl ⟨h1,cs,h2.mono T he hX hr,h3⟩
 ·exact .inr ⟨h1,h2.mono T he hX hr⟩
theorem RV.top(X:Cx)(v:Value):RV T X .top v:=.inr ⟨rfl,.top v⟩
theorem R.nth{X:Cx}{m:Bool}{d:D C}{vs:bT}(h:R T X m d vs):m=true->∀i x,d.nth i=some x->∃v,vs[i]? = some v/\RV T X x v:=by
 induction h with
 |iu=>intro _ i x h;simp[D.nth]at h
 |jh h hr _ _ ih=>
  intro _ i x hx;cases i with
  |zero=>simp[D.nth]at hx;subst hx;exact⟨_,rfl,.inl ⟨hr,_,h,rfl⟩⟩
  |succ i=>simpa using ih rfl i x (by simpa[D.nth]using hx)
 |iQ h hr _ _ ih=>
  intro _ i x hx;cases i with
  |zero=>simp[D.nth]at hx;subst hx;exact⟨_,rfl,.inr ⟨hr,h⟩⟩
  |succ i=>simpa using ih rfl i x (by simpa[D.nth]using hx)
 |_=>intro hm;simp at hm
inductive gV(X:Cx):List (D C)->bT->Prop
 |nil:gV X [] []
 |cons {d:D C} {ds:List (D C)} {v:Value} {vs:bT} (h:RV T X d v) (r:gV X ds vs):gV X (d::ds) (v::vs)
theorem gV.row{X:Cx}{ds:List (D C)}{vs:bT}(h:gV T X ds vs):R T X true (D.ofList ds) vs:=by
 induction h with
 |nil=>exact .iu
 |cons h _ ih=>
  rcases h with⟨h1,cs,h2,rfl⟩|⟨h1,h2⟩
  ·exact .jh h2 h1 ih
  ·exact .iQ h2 h1 ih
theorem R.toList{X:Cx}{m:Bool}{d:D C}{vs:bT}(h:R T X m d vs):m=true->gV T X d.toList vs:=by
 induction h with
 |iu=>exact fun _=>.nil
 |jh h hr _ _ ih=>exact fun _=>.cons (.inl ⟨hr,_,h,rfl⟩) (ih rfl)
 |iQ h hr _ _ ih=>exact fun _=>.cons (.inr ⟨hr,h⟩) (ih rfl)
 |_=>intro hm;simp at hm
theorem gV.append{X:Cx}{ds es:List (D C)}{vs us:bT}(h:gV T X ds vs)(k:gV T X es us):gV T X (ds++es) (vs++us):=by
 induction h with
 |nil=>exact k
 |cons h _ ih=>exact .cons h ih
theorem gV.length{X:Cx}{ds:List (D C)}{vs:bT}(h:gV T X ds vs):ds.length=vs.length:=by
 induction h with
 |nil=>rfl
 |cons _ _ ih=>simp[ih]
end
section
variable {C:gR}
structure Laws(T:fh C):Prop where
 fv:∀t x,(T.enc t x).refs=[]
 fS:∀t x,fit T (T.enc t x) (.inl (T.dp t))=true
 mw:∀X t d x cs,T.dec t d=some x->R T X false d cs->R T X false (T.enc t x) cs
 uK:∀t f l,T.uK t=some f->bytesOf T l=some (f l)
 jZ:∀t g l,T.jZ t=some g->(g l).map (T.enc t)=l.map fun b=>.int .u8 (b.toNat:Int)
 jf:∀u a fs,T.ty u=.struct a fs->T.size u=Zh T fs
 kO:∀u n e t,T.ty u=.arr n e t->T.size u=n*T.size e/\T.ty e=T.ty (T.dp t)/\T.size e=T.size (T.dp t)
 mH:∀u e t,T.ty u=.sl e t->T.size u=1/\T.ty e=T.ty (T.dp t)/\T.size e=T.size (T.dp t)
 zL:∀u,T.ty u=.bool->T.size u=1
 ui:∀u k,T.ty u=.int k->T.size u=1
 Hk:∀u,T.ty u=.str->T.size u=1
 Hj:∀u e,T.ty u=.ptr e->T.size u=1
 To:∀u,T.ty u=.fn->T.size u=1
 Hh:∀u e,T.ty u=.fO e->T.size u=1
 Hi:∀u k v ck cv,T.ty u=.map k v ck cv->T.size u=1
 pos:∀u,(∀h:T.ty u=.none,False)->0<T.size u
variable {T:fh C}(L:Laws T)
theorem Jr:∀(d:D C) (u:TypeId ⊕ cD),fit T d u=true->d.dM=true
 |.bI d ds,.inl t,h=>by
  simp only[fit]at h
  split at h
  ·simp only[ai]at h;simp only[D.dM,Jr d _ h.1,Jr ds _ h.2,au]
  ·cases h
 |.bI d ds,.inr [],h=>by simp[fit]at h
 |.bI d ds,.inr (a::fs),h=>by
  simp only[fit,ai]at h;simp only[D.dM,Jr d _ h.1,Jr ds _ h.2,au]
 |.cG _,.inl _,h=>by simp[fit]at h
 |.cG _,.inr _,h=>by simp[fit]at h
 |.yl _ _ _ _ _ _ _,.inl _,h=>by simp[fit]at h
 |.yl _ _ _ _ _ _ _,.inr _,h=>by simp[fit]at h
 |.jN _,_,_=>rfl
 |.fn _ _,.inr _,h=>by simp[fit]at h
 |.dC _,.inr _,h=>by simp[fit]at h
 |.fO _ _ _,.inr _,h=>by simp[fit]at h
 |.bm _ _,.inr _,h=>by simp[fit]at h
 |.bm _ d,.inl _,h=>by
  simp only[fit]at h
  split at h
  ·exact h
  ·cases h
 |.fn _ d,.inl _,h=>by
  simp only[fit]at h
  split at h
  ·exact h
  ·cases h
 |.dC d,.inl _,h=>by
  simp only[fit]at h
  split at h
  ·exact h
  ·cases h
 |.fO _ _ d,.inl _,h=>by
  simp only[fit]at h
  split at h
  ·exact h
  ·cases h
 |.mp _,_,_=>rfl
 |.vs _ _,_,_=>rfl
 |.ptr _ _,_,_=>rfl
 |.jg _ _ _ _ _,_,_=>rfl
 |.eY _ _ _,_,_=>rfl
 |.bool _,_,_=>rfl
 |.int _ _,_,_=>rfl
 |.str _,_,_=>rfl
 |.bN,_,_=>rfl
 |.arr _ _ _,_,_=>rfl
 |.ez,_,_=>rfl
 |.sl _ _ _,_,_=>rfl
 |.eX,_,_=>rfl
 |.cm,_,_=>rfl
 |.gf,_,_=>rfl
 |.top,_,_=>rfl
theorem Laws.gX(L:Laws T)(t:C.Ty)(x:C.A t):(T.enc t x).refs=[]/\(T.enc t x).dM=true:=⟨L.fv t x,Jr _ _ (L.fS t x)⟩
theorem YL{d:D C}{e e':TypeId}(h:T.ty e=T.ty e'):fit T d (.inl e)=fit T d (.inl e'):=by
 cases d<;>simp[fit,h]
include L
theorem R.xI{X:Cx}{m:Bool}{d:D C}{cs:bT}(h:R T X m d cs):m=false ->
 (∀t,fit T d (.inl t)=true->cs.length=T.size t)/\(∀fs,fit T d (.inr fs)=true->cs.length=Zh T fs) /\
 (∀t n l,d=.arr t n l->cs.length=n*T.size (T.dp t)/\l.length=n):=by
 have e1:∀(d:D C) (u:TypeId) (v:Value),d.de=false->fit T d (.inl u)=true->[v].length=T.size u:=by
  intro d u v hr hf;simp only[List.length_singleton];cases hd:T.ty u<;>cases d<;>simp_all[fit,D.de]
  all_goals first|exact(L.zL _ hd).symm|exact(L.ui _ _ hd).symm|exact(L.Hk _ hd).symm|exact(L.mH _ _ _ hd).1.symm|exact(L.Hj _ _ hd).symm|exact(L.To _ hd).symm|exact(L.Hh _ _ hd).symm|exact(L.Hi _ _ _ _ _ hd).symm
 have e2:∀(d:D C) (fs:cD) (P:Prop),d.de=false->fit T d (.inr fs)=true->P:=by
  intro d fs P hr hf;cases d<;>simp_all[fit,D.de]
 have e3:∀(d:D C) (P:Prop),d.de=false->∀t n l,d=.arr t n l->P:=by
  intro d P hr t n l hd;subst hd;simp[D.de]at hr
 induction h with
 |bN=>
  refine fun _=>⟨fun t hf=>?_,fun fs hf=>?_,fun t n l hd=>by simp at hd⟩
  ·cases hd:T.ty t<;>simp[fit,hd]at hf
   rename_i fs;cases fs with
   |nil=>simp[L.jf _ _ _ hd,Zh]
   |cons=>simp at hf
  ·cases fs with
   |nil=>rfl
   |cons=>simp[fit]at hf
 | @bI d ds c1 c2 _ _ i1 i2=>
  intro hm;have i1:=i1 hm;have i2:=i2 hm
  have key:∀f fs,(fit T d (.inl f)&&fit T ds (.inr fs))=true->(c1++c2).length=Zh T (f::fs):=by
   intro f fs hf;simp only[ai]at hf;simp[Zh,i1.1 f hf.1,i2.2.1 fs hf.2]
  refine⟨fun t hf=>?_,fun fs hf=>?_,fun t n l hd=>by simp at hd⟩
  ·cases hd:T.ty t<;>simp only[fit,hd,bu]at hf
   rename_i fs;cases fs with
   |nil=>simp at hf
   |cons f fs=>rw[L.jf _ _ _ hd];exact key f fs hf
  ·cases fs with
   |nil=>simp[fit]at hf
   |cons f fs=>exact key f fs hf
 |ia t=>
  refine fun _=>⟨fun u hf=>?_,fun fs hf=>by simp[fit]at hf,fun t n l hd=>by simp at hd;obtain⟨rfl,rfl,hd⟩:=hd;subst hd;simp⟩;cases hd:T.ty u<;>simp[fit,hd]at hf
  obtain⟨rfl,rfl⟩:=hf;simp[(L.kO _ _ _ _ hd).1]
 | @iS t n x l c1 c2 _ _ i1 i2=>
  intro hm;have h1:=(i1 hm).1 (T.dp t) (L.fS t x);have h2:=(i2 hm).2.2 t n l rfl;refine⟨fun u hf=>?_,fun fs hf=>by simp[fit]at hf,fun t' n' l' hd=>?_⟩
  ·cases hd:T.ty u<;>simp[fit,hd]at hf
   obtain⟨hn,rfl⟩:=hf;have:=L.kO _ _ _ _ hd;rw[this.1,this.2.2,hn,aC,h1,h2.1,Nat.add_mul];omega
  ·simp at hd;obtain⟨rfl,rfl,hd⟩:=hd;simp at hd;subst hd;simp[h1,h2.1,h2.2,Nat.add_mul];omega
 |bool|int|str|ez|kN|sl|vs|jg|ptr|eY|dC|eX|fn|cm|gf|bm|yl|fO|mp|jN|cG|top=>
  exact fun _=>⟨fun u hf=>e1 _ u _ rfl hf,fun fs hf=>e2 _ fs _ rfl hf,fun t n l hd=>e3 _ _ rfl t n l hd⟩
 |iu|jh|iQ=>intro hm;simp at hm
theorem R.len{X:Cx}{d:D C}{cs:bT}(h:R T X false d cs){t:TypeId}(hf:fit T d (.inl t)=true):cs.length=T.size t:=(h.xI L rfl).1 t hf
theorem R.gj{X:Cx}{t:C.Ty}{n:Nat}{l:List (C.A t)}{cs:bT}(h:R T X false (.arr t n l) cs):cs.length=n*T.size (T.dp t)/\l.length=n:=(h.xI L rfl).2.2 t n l rfl
theorem R.part{X:Cx}{d:D C}:∀{fs:cD} {i:Nat} {x:D C} {cs:bT},fit T d (.inr fs)=true->R T X false d cs->d.nth i=some x ->
 ∃c1 c2 c3,cs=c1++c2++c3/\c1.length=Zh T (fs.take i)/\R T X false x c2/\i<fs.length/\fit T x (.inl (fs.getD i 0))=true:=by
 induction d with
 |bI d ds _ ih=>
  intro fs i x cs hf h hx;cases fs with
  |nil=>simp[fit]at hf
  |cons f fs=>
   simp only[fit,ai]at hf;cases h with
   | @bI _ _ c1 c2 h1 h2=>
    cases i with
    |zero=>
     simp[D.nth]at hx;subst hx;exact⟨[],c1,c2,by simp,by simp[Zh],h1,by simp,hf.1⟩
    |succ i=>
     obtain⟨a,b,c,hc,hl,hr,hi,mP⟩:=ih hf.2 h2 (by simpa[D.nth]using hx);exact⟨c1++a,b,c,by simp[hc],by simp[Zh,hl,h1.len L hf.1],hr,by simpa using hi,by simpa using mP⟩
 |_=>intro fs i x cs _ _ hx;simp[D.nth]at hx
theorem R.oq{X:Cx}{d:D C}{t:TypeId}{fs:cD}{a:Bool}(ht:T.ty t=.struct a fs){i:Nat}{x:D C}{cs:bT}(hf:fit T d (.inl t)=true)(h:R T X false d cs)(hx:d.nth i=some x) :
 ∃c1 c2 c3,cs=c1++c2++c3/\c1.length=Zh T (fs.take i)/\R T X false x c2/\i<fs.length/\fit T x (.inl (fs.getD i 0))=true:=by
 refine h.part L (fs:=fs) ?_ hx;cases d with
 |bI a b=>
  cases fs with
  |nil=>simp[fit,ht]at hf
  |cons f fs=>simpa[fit,ht]using hf
 |_=>simp[D.nth]at hx
theorem R.rp{X:Cx}{d:D C}:∀{fs:cD} {i:Nat} {x d':D C} {cs cx:bT},fit T d (.inr fs)=true->R T X false d cs->d.gF i x=some d' ->
 R T X false x cx->fit T x (.inl (fs.getD i 0))=true ->
 ∃c1 c2 c3,cs=c1++c2++c3/\c1.length=Zh T (fs.take i)/\c2.length=cx.length/\i<fs.length/\R T X false d' (c1++cx++c3)/\fit T d' (.inr fs)=true:=by
 induction d with
 |bI d ds _ ih=>
  intro fs i x d' cs cx hf h hx SU Du;cases fs with
  |nil=>simp[fit]at hf
  |cons f fs=>
   simp only[fit,ai]at hf;cases h with
   | @bI _ _ c1 c2 h1 h2=>
    cases i with
    |zero=>
     simp[D.gF]at hx;subst hx;simp at Du;refine⟨[],c1,c2,by simp,by simp[Zh],by rw[h1.len L hf.1,SU.len L Du],by simp,by simpa using R.bI SU h2,?_⟩;simp[fit,Du,hf.2]
    |succ i=>
     simp only[D.gF,Option.map_eq_some_iff]at hx;obtain⟨y,hy,rfl⟩:=hx;obtain⟨a,b,c,hc,hl,hlen,hi,hr,mP⟩:=ih hf.2 h2 hy SU (by simpa using Du);refine⟨c1++a,b,c,by simp[hc],by simp[Zh,hl,h1.len L hf.1],hlen,by simpa using hi,by simpa using R.bI h1 hr,?_⟩;simp[fit,hf.1,mP]
 |_=>intro fs i x d' cs cx _ _ hx;simp[D.gF]at hx
omit L in
theorem EL{d:D C}{t:TypeId}{fs:cD}{a:Bool}(ht:T.ty t=.struct a fs)(hr:∃a b,d=.bI a b):fit T d (.inl t)=fit T d (.inr fs):=by
 obtain⟨a,b,rfl⟩:=hr;cases fs with
 |nil=>simp[fit,ht]
 |cons f fs=>simp[fit,ht]
omit L in
theorem WR{d x d':D C}{i:Nat}(h:d.gF i x=some d'):(∃a b,d=.bI a b)/\∃a b,d'=.bI a b:=by
 cases d with
 |bI a b=>
  cases i with
  |zero=>simp[D.gF]at h;subst h;exact⟨⟨_,_,rfl⟩,⟨_,_,rfl⟩⟩
  |succ i=>simp[D.gF]at h;obtain⟨y,_,rfl⟩:=h;exact⟨⟨_,_,rfl⟩,⟨_,_,rfl⟩⟩
 |_=>simp[D.gF]at h
theorem R.elem{X:Cx}{t:C.Ty}:∀{n:Nat} {l:List (C.A t)} {cs:bT} (i:Nat),R T X false (.arr t n l) cs->i<n ->
 ∃c1 c2 c3,cs=c1++c2++c3/\c1.length=i*T.size (T.dp t)/\R T X false (T.enc t (l.getD i (T.eU t))) c2:=by
 intro n l
 induction l generalizing n with
 |nil=>
  intro cs i h hi;cases h with
  |ia=>omega
 |cons x l ih=>
  intro cs i h hi;cases h with
  | @iS _ n _ _ c1 c2 h1 h2=>
   cases i with
   |zero=>exact⟨[],c1,c2,by simp,by simp,by simpa using h1⟩
   |succ i=>
    obtain⟨a,b,c,hc,hl,hr⟩:=ih i h2 (by omega);refine⟨c1++a,b,c,by simp[hc],?_,by simpa using hr⟩;have:=h1.len L (L.fS t x);simp[hl,this,Nat.add_mul];omega
theorem R.oS{X:Cx}{t:C.Ty}:∀{n:Nat} {l:List (C.A t)} {cs:bT} (i:Nat) (z:C.A t) {cz:bT},R T X false (.arr t n l) cs->i<n->R T X false (T.enc t z) cz ->
 ∃c1 c2 c3,cs=c1++c2++c3/\c1.length=i*T.size (T.dp t)/\c2.length=cz.length/\R T X false (.arr t n (l.set i z)) (c1++cz++c3):=by
 intro n l
 induction l generalizing n with
 |nil=>
  intro cs i z cz h hi;cases h with
  |ia=>omega
 |cons x l ih=>
  intro cs i z cz h hi hz;cases h with
  | @iS _ n _ _ c1 c2 h1 h2=>
   have e1:=h1.len L (L.fS t x);have e2:=hz.len L (L.fS t z);cases i with
   |zero=>exact⟨[],c1,c2,by simp,by simp,by omega,by simpa using R.iS hz h2⟩
   |succ i=>
    obtain⟨a,b,c,hc,hl,hlen,hr⟩:=ih i z h2 (by omega) hz;refine⟨c1++a,b,c,by simp[hc],?_,hlen,by simpa using R.iS h1 hr⟩;simp[hl,e1,Nat.add_mul];omega
omit L in
theorem R.iU{X:Cx}{t:C.Ty}:∀{n m:Nat} {l k:List (C.A t)} {cs ds:bT},R T X false (.arr t n l) cs->R T X false (.arr t m k) ds->R T X false (.arr t (n+m) (l++k)) (cs++ds):=by
 intro n m l
 induction l generalizing n with
 |nil=>intro k cs ds h g;cases h with|ia=>simpa using g
 |cons x l ih=>
  intro k cs ds h g;cases h with
  | @iS _ n _ _ c1 c2 h1 h2=>
   have:=R.iS h1 (ih h2 g);rw[show n+1+m=n+m+1 by omega]
   simpa using this
theorem R.iZ{X:Cx}{t:C.Ty}:∀{n:Nat} {l:List (C.A t)} {cs:bT} (i:Nat),R T X false (.arr t n l) cs->i<=n ->
 ∃c1 c2,cs=c1++c2/\c1.length=i*T.size (T.dp t)/\R T X false (.arr t i (l.take i)) c1/\R T X false (.arr t (n-i) (l.drop i)) c2:=by
 intro n l
 induction l generalizing n with
 |nil=>
  intro cs i h hi;cases h with
  |ia=>
   obtain rfl:i=0:=by omega
   exact⟨[],[],rfl,by simp,.ia t,.ia t⟩
 |cons x l ih=>
  intro cs i h hi;cases h with
  | @iS _ n _ _ c1 c2 h1 h2=>
   cases i with
   |zero=>exact⟨[],c1++c2,rfl,by simp,.ia t,by simpa using R.iS h1 h2⟩
   |succ i=>
    obtain⟨a,b,hc,hl,hr,fK⟩:=ih i h2 (by omega);refine⟨c1++a,b,by simp[hc],?_,by simpa using R.iS h1 hr,by rw[show n+1-(i+1)=n-i by omega];simpa using fK⟩;have:=h1.len L (L.fS t x);simp[hl,this,Nat.add_mul];omega
theorem R.path{X:Cx}:∀(p:bU) {d x:D C} {t:TypeId} {cs:bT},Zq T t p->fit T d (.inl t)=true->R T X false d cs->eT T d p=some x ->
 ∃c1 c2 c3,cs=c1++c2++c3/\c1.length=dL T t p/\R T X false x c2/\∀t',gn T t p=some t'->fit T x (.inl t')=true:=by
 intro p
 induction p with
 |nil=>
  intro d x t cs _ hf h hx;simp[eT]at hx;subst hx;exact⟨[],cs,[],by simp,by simp[dL],h,fun t' ht=>by simp[gn]at ht;exact ht▸hf⟩
 |cons i p ih=>
  intro d x t cs hp hf h hx;cases d with
  |bI d ds=>
   simp only[eT]at hx;cases hn:(D.bI d ds).nth i with
   |none=>simp[hn]at hx
   |some y=>
    simp only[hn]at hx;cases ht:T.ty t<;>simp[Zq,ht]at hp
    case struct a fs=>
     obtain⟨a,b,c,hc,hl,hr,hi,jR⟩:=h.oq L ht hf hn;obtain⟨a',b',c',sg,kA,fK,iH⟩:=ih (by simpa using hp.2) (by simpa using jR) hr hx;refine⟨a++a',b',c'++c,by simp[hc,sg],?_,fK,fun t' h'=>iH t' ?_⟩
     ·simp[dL,ht,hl,kA]
     ·simp only[gn,ht]at h';have:fs[i]? = some (fs.getD i 0):=by simp[hi]
      rw[this]at h'
      simpa using h'
    case arr n e ty=>simp[fit,ht]at hf
  |arr ty n l=>
   simp only[eT]at hx;cases ht:T.ty t<;>simp[Zq,ht]at hp
   case struct a fs=>simp[fit,ht]at hf
   case arr m e iM=>
    simp only[fit,ht,ai,Nat.beq_eq,aa]at hf;obtain⟨rfl,rfl⟩:=hf;obtain⟨a,b,c,hc,hl,hr⟩:=h.elem L i hp.1;have hs:=L.kO _ _ _ _ ht;have yS:fit T (T.enc ty (l.getD i (T.eU ty))) (.inl e)=true:=by rw[YL hs.2.1];exact L.fS _ _
    obtain⟨a',b',c',sg,kA,fK,iH⟩:=ih hp.2 yS hr hx;refine⟨a++a',b',c'++c,by simp[hc,sg],?_,fK,fun t' h'=>iH t' ?_⟩
    ·simp[dL,ht,hl,kA,hs.2.2]
    ·simpa[gn,ht]using h'
  |_=>simp[eT]at hx
theorem R.setPath{X:Cx}:∀(p:bU) {d v d':D C} {t t':TypeId} {cs cv:bT},Zq T t p->fit T d (.inl t)=true->R T X false d cs->setPath T d p v=some d' ->
 R T X false v cv->gn T t p=some t'->fit T v (.inl t')=true ->
 ∃c1 c2 c3,cs=c1++c2++c3/\c1.length=dL T t p/\c2.length=cv.length/\R T X false d' (c1++cv++c3)/\fit T d' (.inl t)=true:=by
 intro p
 induction p with
 |nil=>
  intro d v d' t t' cs cv _ hf h hx hv ht Gm;simp[Ev.setPath]at hx;subst hx;simp[gn]at ht;subst ht;exact⟨[],cs,[],by simp,by simp[dL],by rw[h.len L hf,hv.len L Gm],by simpa using hv,Gm⟩
 |cons i p ih=>
  intro d v d' t t' cs cv hp hf h hx hv LO Gm;cases d with
  |bI d ds=>
   simp only[Ev.setPath]at hx;cases hn:(D.bI d ds).nth i with
   |none=>simp[hn]at hx
   |some y=>
    simp only[hn]at hx;cases hs:Ev.setPath T y p v with
    |none=>simp[hs]at hx
    |some y'=>
     simp only[hs]at hx;cases ht:T.ty t<;>simp[Zq,ht]at hp
     case struct a fs=>
      obtain⟨a,b,c,hc,hl,hr,hi,jR⟩:=h.oq L ht hf hn
      have SP:gn T (fs.getD i 0) p=some t':=by
       simp only[gn,ht]at LO;have:fs[i]? = some (fs.getD i 0):=by simp[hi]
       rw[this]at LO
       simpa using LO
      obtain⟨a',b',c',sg,kA,hlen,fK,iH⟩:=ih (by simpa using hp.2) (by simpa using jR) hr hs hv SP Gm;have Dg:fit T (D.bI d ds) (.inr fs)=true:=by rw[<-EL ht ⟨_,_,rfl⟩];exact hf
      obtain⟨e1,e2,e3,F4,hle,tg,_,SA,yS⟩:=h.rp L Dg hx fK iH
      have hb:e1=a/\e2=b/\e3=c:=by
       have h1:e1.length=a.length:=by omega
       have h2:e2.length=b.length:=by rw[tg,sg];simp[hlen]
       have:=hc.symm.trans F4;simp only[ay]at this;have q1:=List.append_inj this h1.symm;have q2:=List.append_inj q1.2 h2.symm;exact⟨q1.1.symm,q2.1.symm,q2.2.symm⟩
      obtain⟨rfl,rfl,rfl⟩:=hb;refine⟨e1++a',b',c'++e3,by simp[F4,sg],by simp[dL,ht,hle,kA],hlen,by simpa using SA,?_⟩;rw[EL ht (WR hx).2];exact yS
     case arr n e ty=>simp[fit,ht]at hf
  |arr ty n l=>
   simp only[Ev.setPath]at hx;cases hs:Ev.setPath T (T.enc ty (l.getD i (T.eU ty))) p v with
   |none=>rw[hs]at hx;simp at hx
   |some y'=>
    simp only[hs]at hx;cases hd:T.dec ty y' with
    |none=>simp[hd]at hx
    |some z=>
     simp[hd]at hx;subst hx;cases ht:T.ty t<;>simp[Zq,ht]at hp
     case struct a fs=>simp[fit,ht]at hf
     case arr m e iM=>
      have hf0:=hf;simp only[fit,ht,ai,Nat.beq_eq,aa]at hf;obtain⟨rfl,rfl⟩:=hf;obtain⟨a,b,c,hc,hl,hr⟩:=h.elem L i hp.1;have hz:=L.kO _ _ _ _ ht;have yS:fit T (T.enc ty (l.getD i (T.eU ty))) (.inl e)=true:=by rw[YL hz.2.1];exact L.fS _ _
      obtain⟨a',b',c',sg,kA,hlen,fK,iH⟩:=ih hp.2 yS hr hs hv (by simpa[gn,ht]using LO) Gm;have pW:=L.mw X ty _ _ _ hd fK;obtain⟨e1,e2,e3,F4,hle,tg,SA⟩:=h.oS L i z hp.1 pW
      have hb:e1=a/\e2=b/\e3=c:=by
       have h1:e1.length=a.length:=by omega
       have h2:e2.length=b.length:=by rw[tg,sg];simp[hlen]
       have:=hc.symm.trans F4;simp only[ay]at this;have q1:=List.append_inj this h1.symm;have q2:=List.append_inj q1.2 h2.symm;exact⟨q1.1.symm,q2.1.symm,q2.2.symm⟩
      obtain⟨rfl,rfl,rfl⟩:=hb;refine⟨e1++a',b',c'++e3,by simp[F4,sg],by simp[dL,ht,hle,kA,hz.2.2],hlen,by simpa using SA,?_⟩;simp[fit,ht]
  |_=>simp[Ev.setPath]at hx
omit L in
theorem Kb{s:TypeId}:∀{p:bU} {t:TypeId},Zq T t p->gn T t p=some s->∀i q,Zq T s (i::q)->Zq T t (p++i::q)/\dL T t (p++i::q)=dL T t p+dL T s (i::q):=by
 intro p
 induction p with
 |nil=>intro t _ h i q hq;simp[gn]at h;subst h;exact⟨by simpa using hq,by simp[dL]⟩
 |cons j p ih=>
  intro t hp ht i q hq;simp only[aP];cases iI:T.ty t<;>simp only[Zq,iI]at hp<;>simp only[gn,iI]at ht
  case struct a fs=>
   have hj:fs[j]? = some (fs.getD j 0):=by simp[hp.1]
   rw[hj]at ht;obtain⟨h1,h2⟩:=ih hp.2 ht i q hq;have e1:∀r,dL T t (j::r)=Zh T (fs.take j)+dL T (fs.getD j 0) r:=fun r=>by simp only[dL,iI]
   exact⟨by simp only[Zq,iI];exact⟨hp.1,h1⟩,by rw[e1,e1,h2];omega⟩
  case arr n e ty=>
   obtain⟨h1,h2⟩:=ih hp.2 ht i q hq;have e1:∀r,dL T t (j::r)=j*T.size e+dL T e r:=fun r=>by simp only[dL,iI]
   exact⟨by simp only[Zq,iI];exact⟨hp.1,h1⟩,by rw[e1,e1,h2];omega⟩
end
section
variable {C:gR}
def Obj.refs:Obj C->bU
 |.var _ d=>d.refs
 |.vec _ _ _=>[]
 |.map _ _ _=>[]
 |.dG _=>[]
structure ek where
 lo:Nat
 top:Nat
 H:Nat->Prop
 ok:∀id,lo<=id->id<top->¬H id
def ft(nx:Nat)(lim:ek)(id:Nat):Prop:=(id<nx\/lim.top<=id)/\¬lim.H id
theorem ft.mono{nx cF:Nat}{lim:ek}{id:Nat}(h:ft nx lim id)(hn:nx<=cF):ft cF lim id:=⟨by have:=h.1;omega,h.2⟩
variable (T:fh C)
def VJ(X:Cx)(t:C.Ty)(own:Bool)(l:List (C.A t))(v:Value)(b lo hi:Nat):Prop :=
 ((∃a,v=.slice a 0 0/\∀b off,a≠some ⟨b,off,none⟩)/\l=[]/\hi<=lo) \/
 ∃off cp,v=.slice (some ⟨b,off,none⟩) l.length cp/\l.length<=cp/\hi=off+cp*T.size (T.dp t) /\
  ((own=true/\lo=off/\(cp=0\/∃c e,X.w.heap[b]? = some (.cells c e (0,0))/\hi<=c.size/\R T X false (.arr t l.length l) ((c.toList.drop off).take (l.length*T.size (T.dp t))))) \/
   (own=false/\lo=off+l.length*T.size (T.dp t)/\(∃cs,X.at b off cs/\R T X false (.arr t l.length l) cs) /\
    (cp=l.length\/∃c e,X.w.heap[b]? = some (.cells c e (0,0))/\hi<=c.size)))
inductive YF(X:Cx)(ck cv:C.Ty):List (C.A ck×C.A cv)->dF->Prop
 |nil:YF X ck cv [] []
 |cons {x:C.A ck×C.A cv} {l:List (C.A ck×C.A cv)} {e:MapEntry} {es:dF} (hk:R T X false (T.enc ck x.1) [e.key]) (hv:RV T X (T.enc cv x.2) e.val) (h:YF X ck cv l es):YF X ck cv (x::l) (e::es)
structure Kc(X:Cx)(ck cv:C.Ty)(l:List (C.A ck×C.A cv))(es:dR)(clock:Nat):Prop where
 (rJ:YF T X ck cv l es.toList)(born:∀x∈es.toList,x.born<clock)(nodup:(es.toList.map (·.born)).Nodup)
theorem Kc.nil(X:Cx)(ck cv:C.Ty)(k:Nat):Kc T X ck cv [] #[] k:=⟨.nil,fun x hx=>by simp at hx,List.nodup_nil⟩
def oO(busy dn:Bool):LoopState:=if busy then .busy else if dn then .done else .ready
def u5(X:Cx):ru C->ry->Prop
 |.lp busy dn ex,.lp b rec=>∃pend,X.w.heap[b]? = some (.loop { rec with state:=oO busy dn,pending:=pend })/\(dn=false->pend=none)/\(dn=true->pend=some (.exit ex))
 |.it ck cv l,.it bm r=>bm≠r/\∃es since seen clock,X.w.heap[bm]? = some (.map es clock)/\X.w.heap[r]? = some (.mapIter (some bm) since seen clock)/\YF T X ck cv l (es.toList.filter fun e=>!seen.contains e.born) /\
  (∀x∈es.toList,x.born<since)/\since<=clock/\(es.toList.map (·.born)).Nodup
 |_,_=>False
def Lo(X:Cx):Prop:=∀p∈T.pre,(∃t f,X.w.heap[p.1]? = some (.cells p.2 t f))/\∀o,¬X.du p.1 o
structure G(X:Cx)(h:Heap C)(nx:Nat)(lim:ek):Prop where
 var:∀id t d,h.get id=some (.var t d)->∃b c,X.ρ id=some (.var b t)/\X.w.heap[b]? = some (.cells c t (0,0))/\R T X false d c.toList/\fit T d (.inl t)=true
 vec:∀id t own l,h.get id=some (.vec t own l)->∃v b lo hi,X.ρ id=some (.vec v (T.dp t) b lo hi)/\VJ T X t own l v b lo hi
 map:∀id ck cv l,h.get id=some (.map ck cv l)->∃b es clock,X.ρ id=some (.map b)/\X.w.heap[b]? = some (.map es clock)/\Kc T X ck cv l es clock
 dG:∀id c,h.get id=some (.dG c)->∃s,X.ρ id=some (.dG s)/\u5 T X c s
 jA:∀id l,X.ρ id=some l->(h.get id).isSome=true
 eL:∀id o,h.get id=some o->ft nx lim id/\∀r∈o.refs,ft nx lim r
 apart:∀id jv l l' b o o',X.ρ id=some l->X.ρ jv=some l'->l.owns b o->l'.owns b o'->id=jv
 outer:∀b o,X.du b o->¬X.O b o/\b<X.w.heap.size
 outs:∀b o,X.O b o->b<X.w.heap.size
 low:lim.lo<=nx
 pre:Lo T X
structure Step(X:Cx)(nx:Nat)(lim:ek)(X':Cx):Prop where
 O:X'.O=X.O
 os:X'.w.os=X.w.os
 tape:X'.w.tape=X.w.tape
 output:X'.w.output=X.w.output
 size:X.w.heap.size<=X'.w.heap.size
 ρ:∀id,ft nx lim id->Qp (X.ρ id) (X'.ρ id)
 du:∀b o,b<X.w.heap.size->X'.du b o->X.du b o
 cell:∀b o,b<X.w.heap.size->¬X.du b o->X'.w.cell? ⟨b,o,none⟩=X.w.cell? ⟨b,o,none⟩
 block:∀b,b<X.w.heap.size->(∀o,¬X.du b o)->X'.w.heap[b]? = X.w.heap[b]?
 frz:∀a:Addr,a.block<X.w.heap.size->X'.w.frozen? a=X.w.frozen? a
theorem QEq{w:World}{a:Addr}{v:Value}(h:w.cell? a=some v):a.block<w.heap.size:=by
 unfold World.cell? at h;rcases Nat.lt_or_ge a.block w.heap.size with hl|hl
 ·exact hl
 ·rw[Array.getElem?_eq_none hl]at h;simp at h
theorem Step.refl(X:Cx)(nx:Nat)(lim:ek):Step X nx lim X :=
 ⟨rfl,rfl,rfl,rfl,aq _,fun _ _=>.refl _,fun _ _ _ h=>h,fun _ _ _ _=>rfl,fun _ _ _=>rfl,fun _ _=>rfl⟩
theorem Step.trans{X Y Z:Cx}{nx ny:Nat}{lim:ek}(h:Step X nx lim Y)(k:Step Y ny lim Z)(hn:nx<=ny):Step X nx lim Z where
 O:=k.O.trans h.O
 os:=k.os.trans h.os
 tape:=k.tape.trans h.tape
 output:=k.output.trans h.output
 size:=bk h.size k.size
 ρ id ho:=(h.ρ id ho).trans (k.ρ id (ho.mono hn))
 du b o hb hm:=h.du b o hb (k.du b o (bj hb h.size) hm)
 cell b o hb hm:=(k.cell b o (bj hb h.size) (fun hy=>hm (h.du b o hb hy))).trans (h.cell b o hb hm)
 block b hb hm:=(k.block b (bj hb h.size) (fun o hy=>hm o (h.du b o hb hy))).trans (h.block b hb hm)
 frz a ha:=(k.frz a (bj ha h.size)).trans (h.frz a ha)
theorem Lo.step{T:fh C}{X X':Cx}{nx:Nat}{lim:ek}(h:Lo T X)(s:Step X nx lim X'):Lo T X':=by
 intro p hp;obtain⟨⟨t,f,h1⟩,h2⟩:=h p hp;have hb:=(aI.1 h1).1;exact⟨⟨t,f,(s.block p.1 hb h2).trans h1⟩,fun o hm=>h2 o (s.du p.1 o hb hm)⟩
theorem Step.keeps{X X':Cx}{nx:Nat}{lim:ek}(h:Step X nx lim X'):ul X X' where
 cell:=by
  intro b o v hc hf;have hb:=QEq hc;exact⟨by rw[h.cell b o hb hf.2];exact hc,by rw[h.O];exact hf.1,fun hm=>hf.2 (h.du b o hb hm)⟩
def RO(X:Cx)(nx:Nat)(lim:ek)(d:D C)(v:Value):Prop:=RV T X d v/\∀id∈d.refs,ft nx lim id
variable {T}(L:Laws T)
include L in
theorem R.step{X X':Cx}{nx:Nat}{lim:ek}(s:Step X nx lim X'){m:Bool}{d:D C}{vs:bT}(h:R T X m d vs)(hr:∀id∈d.refs,ft nx lim id):R T X' m d vs :=
 h.mono T L.gX s.keeps fun id hi=>s.ρ id (hr id hi)
include L in
theorem RO.step{X X':Cx}{nx cF:Nat}{lim:ek}(s:Step X nx lim X'){d:D C}{v:Value}(h:RO T X nx lim d v)(hn:nx<=cF):RO T X' cF lim d v :=
 ⟨h.1.mono T L.gX s.keeps fun id hi=>s.ρ id (h.2 id hi),fun id hi=>(h.2 id hi).mono hn⟩
include L in
theorem YF.step{X X':Cx}{nx:Nat}{lim:ek}(s:Step X nx lim X'){ck cv:C.Ty}{l:List (C.A ck×C.A cv)}{es:dF}(h:YF T X ck cv l es):YF T X' ck cv l es:=by
 induction h with
 |nil=>exact .nil
 |cons hk hv _ ih=>exact .cons (hk.step L s (by simp[L.fv])) (hv.mono T L.gX s.keeps fun id hi=>by simp[L.fv]at hi) ih
include L in
theorem Kc.step{X X':Cx}{nx:Nat}{lim:ek}(s:Step X nx lim X'){ck cv:C.Ty}{l:List (C.A ck×C.A cv)}{es:dR}{k:Nat}(h:Kc T X ck cv l es k):Kc T X' ck cv l es k :=
 ⟨h.rJ.step L s,h.born,h.nodup⟩
theorem Cx.at.step{X X':Cx}{nx:Nat}{lim:ek}(s:Step X nx lim X'){b off:Nat}{cs:bT}(h:X.at b off cs):X'.at b off cs :=
 fun j v hj=>s.keeps.cell _ _ _ (h j v hj).1 (h j v hj).2
def QB(T:fh C)(X:Cx)(nx:Nat)(lim:ek)(env:Env C)(tmps:bY):Prop:=∀t,RO T X nx lim (cR env t) (tmps.getD t undef)
include L in
theorem QB.step{X X':Cx}{nx cF:Nat}{lim:ek}(s:Step X nx lim X'){env:Env C}{tmps:bY}(h:QB T X nx lim env tmps)(hn:nx<=cF):QB T X' cF lim env tmps :=
 fun t=>(h t).step L s hn
namespace Pg
def Ex{α:Type}(e:Lv)(p:Pg C α)(h:Heap C)(n:Nat)(a:α)(h':Heap C)(n':Nat)(t:Tr):Prop :=
 p.run e h n [] (fun a h n t=>some (a,h,n,t))=some (a,h',n',t)
theorem run_eq{α:Type}(p:Pg C α):∀{β:Type} (e:Lv) (h:Heap C) (n:Nat) (l:Tr) (k:α->Heap C->Nat->Tr->Option β),
 p.run e h n l k=(p.run e h n [] (fun a h n t=>some (a,h,n,t))).bind fun r=>k r.1 r.2.1 r.2.2.1 (r.2.2.2++l):=by
 induction p with
 |ret a=>intro β e h n l k;simp[run]
 |fail=>intro β e h n l k;simp[run]
 |br b x y ix iy=>intro β e h n l k;cases b<;>simp only[run,ag,ah]<;>first|exact ix e h n l k|exact iy e h n l k
 |rd id f ih=>
  intro β e h n l k;simp only[run];cases h.get id with
  |none=>rfl
  |some o=>
   simp only;rw[ih o e h n ((id,false)::l) k,ih o e h n [(id,false)]];simp[Option.bind_assoc]
 |wr id o f ih=>
  intro β e h n l k;simp only[run];cases h.get id with
  |none=>rfl
  |some _=>
   simp only;rw[ih e _ n ((id,true)::l) k,ih e _ n [(id,true)]];simp[Option.bind_assoc]
 |nw o f ih=>
  intro β e h n l k;simp only[run];rw[ih n e _ _ ((n,true)::l) k,ih n e _ _ [(n,true)]];simp[Option.bind_assoc]
 |dl id f ih=>
  intro β e h n l k;simp only[run];cases h.get id with
  |none=>rfl
  |some _=>
   simp only;rw[ih e _ n ((id,true)::l) k,ih e _ n [(id,true)]];simp[Option.bind_assoc]
 |oY f ih=>intro β e h n l k;simp only[run];exact ih _ _ e h n l k
 |upto m f ih=>
  intro β e h n l k;simp only[run];cases Nat.ble n m with
  |true=>exact ih e h m l k
  |false=>rfl
 |gc lo iC f ih=>
  intro β e h n l k;simp only[run];cases Nat.ble e.2 lo with
  |true=>exact ih e _ n l k
  |false=>rfl
 |sub p f ip ik=>
  intro β e h n l k;simp only[run];rw[ip (e.1+1,n) h n [],ip (e.1+1,n) h n [] (fun a h n t=>(f a t).run e h n (t++[]) fun a h n t=>some (a,h,n,t))];simp only[aR,Option.bind_assoc]
  congr 1
  funext r
  rw[ik r.1 r.2.2.2 e r.2.1 r.2.2.1 (r.2.2.2++l) k,ik r.1 r.2.2.2 e r.2.1 r.2.2.1 r.2.2.2];simp[Option.bind_assoc]
theorem fw{α β:Type}{p:Pg C α}{e:Lv}{h:Heap C}{n:Nat}{l:Tr}{k:α->Heap C->Nat->Tr->Option β}{b:β}(hr:p.run e h n l k=some b) :
 ∃a h' n' t,Ex e p h n a h' n' t/\k a h' n' (t++l)=some b:=by
 rw[run_eq]at hr;cases hx:p.run e h n [] (fun a h n t=>some (a,h,n,t))with
 |none=>simp[hx]at hr
 |some r=>obtain⟨a,h',n',t⟩:=r;simp[hx]at hr;exact⟨a,h',n',t,hx,hr⟩
variable {α β:Type}{e:Lv}{h h':Heap C}{n n':Nat}{t:Tr}
theorem Ex.ret{a a':α}(hx:Ex e (.ret a:Pg C α) h n a' h' n' t):a'=a/\h'=h/\n'=n/\t=[]:=by
 simp[Ex,run]at hx;obtain⟨rfl,rfl,rfl,rfl⟩:=hx;exact⟨rfl,rfl,rfl,rfl⟩
theorem Ex.fail{a:α}(hx:Ex e (.fail:Pg C α) h n a h' n' t):False:=by simp[Ex,run]at hx
theorem Ex.cB{a:α}{q:Prop}(hx:Ex e (.fail:Pg C α) h n a h' n' t):q:=(Ex.fail hx).elim
theorem Ex.br{b:Bool}{x y:Pg C α}{a:α}(hx:Ex e (.br b x y) h n a h' n' t):(b=true/\Ex e x h n a h' n' t)\/(b=false/\Ex e y h n a h' n' t):=by
 cases b
 ·exact .inr ⟨rfl,by simpa[Ex,run]using hx⟩
 ·exact .inl ⟨rfl,by simpa[Ex,run]using hx⟩
theorem Ex.rd{id:Nat}{f:Obj C->Pg C α}{a:α}(hx:Ex e (.rd id f) h n a h' n' t):∃o t',h.get id=some o/\Ex e (f o) h n a h' n' t'/\t=t'++[(id,false)]:=by
 unfold Ex at hx;simp only[run]at hx;cases hg:h.get id with
 |none=>simp[hg]at hx
 |some o=>
  simp only[hg]at hx;obtain⟨a1,h1,n1,t1,h2,h3⟩:=fw hx;simp at h3;obtain⟨rfl,rfl,rfl,rfl⟩:=h3;exact⟨o,t1,rfl,h2,rfl⟩
theorem Ex.wr{id:Nat}{o:Obj C}{f:Pg C α}{a:α}(hx:Ex e (.wr id o f) h n a h' n' t):∃o' t',h.get id=some o'/\Ex e f (h.put id o) n a h' n' t'/\t=t'++[(id,true)]:=by
 unfold Ex at hx;simp only[run]at hx;cases hg:h.get id with
 |none=>simp[hg]at hx
 |some o'=>
  simp only[hg]at hx;obtain⟨a1,h1,n1,t1,h2,h3⟩:=fw hx;simp at h3;obtain⟨rfl,rfl,rfl,rfl⟩:=h3;exact⟨o',t1,rfl,h2,rfl⟩
theorem Ex.nw{o:Obj C}{f:Nat->Pg C α}{a:α}(hx:Ex e (.nw o f) h n a h' n' t):∃t',Ex e (f n) ((n,o)::h) (n+1) a h' n' t'/\t=t'++[(n,true)]:=by
 unfold Ex at hx;simp only[run]at hx;obtain⟨a1,h1,n1,t1,h2,h3⟩:=fw hx;simp at h3;obtain⟨rfl,rfl,rfl,rfl⟩:=h3;exact⟨t1,h2,rfl⟩
theorem Ex.dl{id:Nat}{f:Pg C α}{a:α}(hx:Ex e (.dl id f) h n a h' n' t):∃o' t',h.get id=some o'/\Ex e f (h.del id) n a h' n' t'/\t=t'++[(id,true)]:=by
 unfold Ex at hx;simp only[run]at hx;cases hg:h.get id with
 |none=>simp[hg]at hx
 |some o'=>
  simp only[hg]at hx;obtain⟨a1,h1,n1,t1,h2,h3⟩:=fw hx;simp at h3;obtain⟨rfl,rfl,rfl,rfl⟩:=h3;exact⟨o',t1,rfl,h2,rfl⟩
theorem Ex.oY{f:Nat->Nat->Pg C α}{a:α}(hx:Ex e (.oY f) h n a h' n' t):Ex e (f n (span e.1)) h n a h' n' t:=by simpa[Ex,run]using hx
theorem Ex.upto{m:Nat}{f:Pg C α}{a:α}(hx:Ex e (.upto m f) h n a h' n' t):n<=m/\Ex e f h m a h' n' t:=by
 unfold Ex at hx;simp only[run]at hx;cases hb:Nat.ble n m with
 |true=>simp only[hb,ag]at hx;exact⟨Nat.le_of_ble_eq_true hb,hx⟩
 |false=>simp[hb]at hx
theorem Ex.gc{lo:Nat}{iC:bU}{f:Pg C α}{a:α}(hx:Ex e (.gc lo iC f) h n a h' n' t):e.2<=lo/\Ex e f (h.drop lo n iC) n a h' n' t:=by
 unfold Ex at hx;simp only[run]at hx;cases hb:Nat.ble e.2 lo with
 |true=>simp only[hb,ag]at hx;exact⟨Nat.le_of_ble_eq_true hb,hx⟩
 |false=>simp[hb]at hx
theorem Ex.sub{p:Pg C (Env C)}{f:Env C->Tr->Pg C α}{a:α}(hx:Ex e (.sub p f) h n a h' n' t) :
 ∃v h1 n1 t1 t2,Ex (e.1+1,n) p h n v h1 n1 t1/\Ex e (f v t1) h1 n1 a h' n' t2/\t=t2++t1:=by
 unfold Ex at hx;simp only[run]at hx;obtain⟨a1,h1,n1,t1,h2,h3⟩:=fw hx;simp only[aR]at h3;obtain⟨a2,h4,n4,t4,h5,h6⟩:=fw h3;simp at h6;obtain⟨rfl,rfl,rfl,rfl⟩:=h6;exact⟨a1,h1,n1,t1,t4,h2,h5,rfl⟩
theorem run_bind{γ:Type}(p:Pg C α)(f:α->Pg C β):∀(e:Lv) (h:Heap C) (n:Nat) (l:Tr) (k:β->Heap C->Nat->Tr->Option γ),
 (p.bind f).run e h n l k=p.run e h n l fun a h n l=>(f a).run e h n l k:=by
 induction p with
 |ret a=>intro e h n l k;rfl
 |fail=>intro e h n l k;rfl
 |br b x y ix iy=>intro e h n l k;cases b<;>simp only[bind,run,ag,ah]<;>first|exact ix f e h n l k|exact iy f e h n l k
 |rd id g ih=>intro e h n l k;simp only[bind,run];cases h.get id<;>simp only<;>exact ih _ f e h n _ k
 |wr id o g ih=>intro e h n l k;simp only[bind,run];cases h.get id<;>simp only<;>exact ih f e _ n _ k
 |nw o g ih=>intro e h n l k;simp only[bind,run];exact ih _ f e _ _ _ k
 |dl id g ih=>intro e h n l k;simp only[bind,run];cases h.get id<;>simp only<;>exact ih f e _ n _ k
 |oY g ih=>intro e h n l k;simp only[bind,run];exact ih _ _ f e h n l k
 |upto m g ih=>intro e h n l k;simp only[bind,run];cases Nat.ble n m<;>simp only[ag,ah];exact ih f e h m l k
 |gc lo iC g ih=>intro e h n l k;simp only[bind,run];cases Nat.ble e.2 lo<;>simp only[ag,ah];exact ih f e _ n l k
 |sub p g ip ik=>intro e h n l k;simp only[bind,run];congr 1;funext a h n t;exact ik _ _ f e _ _ _ k
theorem Ex.bind{p:Pg C α}{f:α->Pg C β}{b:β}(hx:Ex e (p.bind f) h n b h' n' t) :
 ∃a h1 n1 t1 t2,Ex e p h n a h1 n1 t1/\Ex e (f a) h1 n1 b h' n' t2/\t=t2++t1:=by
 unfold Ex at hx;rw[run_bind]at hx;obtain⟨a1,h1,n1,t1,h2,h3⟩:=fw hx;simp only[aR]at h3;obtain⟨a2,h4,n4,t4,h5,h6⟩:=fw h3;simp at h6;obtain⟨rfl,rfl,rfl,rfl⟩:=h6;exact⟨a1,h1,n1,t1,t4,h2,h5,rfl⟩
theorem Ex.jq{o:Option α}{a:α}(hx:Ex e (.jq o:Pg C α) h n a h' n' t):o=some a/\h'=h/\n'=n/\t=[]:=by
 cases o with
 |none=>exact Ex.cB hx
 |some b=>obtain⟨rfl,h1,h2,h3⟩:=Ex.ret hx;exact⟨rfl,h1,h2,h3⟩
theorem Ex.le{p:Pg C α}:∀{e:Lv} {h:Heap C} {n:Nat} {a:α} {h':Heap C} {n':Nat} {t:Tr},Ex e p h n a h' n' t->n<=n':=by
 induction p with
 |ret a=>intro e h n a' h' n' t hx;have:=Ex.ret hx;omega
 |fail=>intro e h n a' h' n' t hx;exact Ex.cB hx
 |br b x y ix iy=>intro e h n a h' n' t hx;rcases Ex.br hx with⟨_,h1⟩|⟨_,h1⟩<;>first|exact ix h1|exact iy h1
 |rd id f ih=>intro e h n a h' n' t hx;obtain⟨_,_,_,h1,_⟩:=Ex.rd hx;exact ih _ h1
 |wr id o f ih=>intro e h n a h' n' t hx;obtain⟨_,_,_,h1,_⟩:=Ex.wr hx;exact ih h1
 |nw o f ih=>intro e h n a h' n' t hx;obtain⟨_,h1,_⟩:=Ex.nw hx;have:=ih _ h1;omega
 |dl id f ih=>intro e h n a h' n' t hx;obtain⟨_,_,_,h1,_⟩:=Ex.dl hx;exact ih h1
 |oY f ih=>intro e h n a h' n' t hx;exact ih _ _ (Ex.oY hx)
 |upto m f ih=>intro e h n a h' n' t hx;obtain⟨h0,h1⟩:=Ex.upto hx;have:=ih h1;omega
 |gc lo iC f ih=>intro e h n a h' n' t hx;exact ih (Ex.gc hx).2
 |sub p f ip ik=>intro e h n a h' n' t hx;obtain⟨_,_,_,_,_,h1,h2,_⟩:=Ex.sub hx;have:=ip h1;have:=ik _ _ h2;omega
end Pg
end
section
variable {C:gR}{T:fh C}(L:Laws T)
theorem mY{a b:Nat}(h:¬a=b):Nat.beq a b=false:=by
 cases hb:Nat.beq a b with
 |false=>rfl
 |true=>exact absurd (az hb) h
theorem Qv{h:Heap C}{id jv:Nat}{o:Obj C}(hi:(h.get id).isSome=true):(Heap.put id o h).get jv=if jv=id then some o else h.get jv:=by
 induction h with
 |nil=>simp[Heap.get]at hi
 |cons x h ih=>
  obtain⟨j,p⟩:=x;simp only[Heap.put,Heap.get]at hi ⊢
  by_cases hj:id=j
  ·subst hj;simp only[Nat.beq_refl,ag,Heap.get]
   by_cases h':jv=id
   ·subst h';simp
   ·have:Nat.beq jv id=false:=mY h';simp[this,h']
  ·have e1:Nat.beq id j=false:=mY hj;simp only[e1,ah]at hi ⊢;simp only[Heap.get]
   by_cases h':jv=j
   ·subst h';have:¬jv=id:=fun e=>hj e.symm;simp[this]
   ·have e2:Nat.beq jv j=false:=mY h';simp only[e2,ah];exact ih hi
theorem Zn{h:Heap C}{id jv:Nat}:(Heap.del id h).get jv=if jv=id then none else h.get jv:=by
 induction h with
 |nil=>simp[Heap.del,Heap.get]
 |cons x h ih=>
  obtain⟨j,p⟩:=x;simp only[Heap.del]
  by_cases hj:id=j
  ·subst hj;simp only[Nat.beq_refl,ag,ih,Heap.get]
   by_cases h':jv=id
   ·simp[h']
   ·have:Nat.beq jv id=false:=mY h';simp[this,h']
  ·have e1:Nat.beq id j=false:=mY hj;simp only[e1,ah,Heap.get]
   by_cases h':jv=j
   ·subst h';have:¬jv=id:=fun e=>hj e.symm;simp[this]
   ·have e2:Nat.beq jv j=false:=mY h';simp only[e2,ah];exact ih
theorem VN{h:Heap C}{lo hi:Nat}{iC:bU}{id:Nat}:(Heap.drop lo hi iC h).get id=if(Nat.ble lo id&&Nat.blt id hi && !(iC.any (Nat.beq id)))=true then none else h.get id:=by
 induction h with
 |nil=>simp[Heap.drop,Heap.get]
 |cons x h ih=>
  obtain⟨j,p⟩:=x;simp only[Heap.drop];cases hb:Nat.ble lo j&&Nat.blt j hi && !(iC.any (Nat.beq j))with
  |true=>
   simp only[ag,ih,Heap.get]
   by_cases h':id=j
   ·subst h';simp[hb]
   ·have e2:Nat.beq id j=false:=mY h';simp[e2]
  |false=>
   simp only[ah,Heap.get]
   by_cases h':id=j
   ·subst h';simp[hb]
   ·have e2:Nat.beq id j=false:=mY h';simp only[e2,ah];exact ih
theorem Qy{h:Heap C}{n id:Nat}{o:Obj C}:Heap.get id ((n,o)::h)=if id=n then some o else h.get id:=by
 simp only[Heap.get]
 by_cases h':id=n
 ·subst h';simp
 ·have e2:Nat.beq id n=false:=mY h';simp[e2,h']
theorem G.new{X:Cx}{h:Heap C}{nx:Nat}{lim:ek}(g:G T X h nx lim)(hn:nx<lim.top):ft (nx+1) lim nx:=⟨.inl (by omega),lim.ok nx g.low hn⟩
theorem G.fresh{X:Cx}{h:Heap C}{nx:Nat}{lim:ek}(g:G T X h nx lim)(hn:nx<lim.top):X.ρ nx=none:=by
 cases hr:X.ρ nx with
 |none=>rfl
 |some l=>
  have:=g.jA nx l hr;cases ho:h.get nx with
  |none=>simp[ho]at this
  |some o=>have:=(g.eL nx o ho).1.1;omega
theorem G.ml{X:Cx}{h:Heap C}{nx cF:Nat}{lim:ek}(g:G T X h nx lim)(hn:nx<=cF):∀id o,h.get id=some o->ft cF lim id/\∀r∈o.refs,ft cF lim r :=
 fun id o ho=>⟨(g.eL id o ho).1.mono hn,fun r hr=>((g.eL id o ho).2 r hr).mono hn⟩
structure Ch(X X':Cx)(nx:Nat)(lim:ek)(qC:Nat):Prop where
 step:Step X nx lim X'
 same:∀id,id≠qC->X'.ρ id=X.ρ id
 FH:∀b c e f,X.w.heap[b]? = some (.cells c e f)->∃c',X'.w.heap[b]? = some (.cells c' e f)/\c'.size=c.size/\∀o,(∀l,X.ρ qC=some l->¬l.owns b o)->c'[o]? = c[o]?
 mp:∀b (o:Go.Obj),X.w.heap[b]? = some o->(∀c e f,o ≠ .cells c e f)->(∀l,X.ρ qC=some l->¬l.owns b 0)->X'.w.heap[b]? = some o
include L in
theorem u5.same{X X':Cx}{nx:Nat}{lim:ek}{cc:ru C}{s:ry}(h:u5 T X cc s)(hs:Step X nx lim X')(hw:X'.w=X.w):u5 T X' cc s:=by
 cases cc with
 |lp busy dn ex=>
  cases s with
  |lp b rec=>obtain⟨pend,h3,h4⟩:=h;exact⟨pend,by rw[hw];exact h3,h4⟩
  |it bm r=>exact h.elim
 |it ck cv l=>
  cases s with
  |lp b rec=>exact h.elim
  |it bm r=>
   obtain⟨fg,es,si,se,k,h3,h4,h5,h6⟩:=h;exact⟨fg,es,si,se,k,by rw[hw];exact h3,by rw[hw];exact h4,h5.step L hs,h6⟩
include L in
theorem G.dI{X X':Cx}{h:Heap C}{nx qC:Nat}{lim:ek}(g:G T X h nx lim)(c:Ch X X' nx lim qC) :
 (∀id t d,id≠qC->h.get id=some (.var t d)->∃b c,X'.ρ id=some (.var b t)/\X'.w.heap[b]? = some (.cells c t (0,0))/\R T X' false d c.toList/\fit T d (.inl t)=true) /\
 (∀id t own l,id≠qC->h.get id=some (.vec t own l)->∃v b lo hi,X'.ρ id=some (.vec v (T.dp t) b lo hi)/\VJ T X' t own l v b lo hi) /\
 (∀id ck cv l,id≠qC->h.get id=some (.map ck cv l)->∃b es k,X'.ρ id=some (.map b)/\X'.w.heap[b]? = some (.map es k)/\Kc T X' ck cv l es k) /\
 (∀id cc,id≠qC->h.get id=some (.dG cc)->∃s,X'.ρ id=some (.dG s)/\u5 T X' cc s):=by
 refine⟨?_,?_,?_,?_⟩
 ·intro id t d fg ho;obtain⟨b,cs,h1,h2,h3,h4⟩:=g.var id t d ho;obtain⟨c',h5,h6,h7⟩:=c.FH b cs _ _ h2
  have e:c'=cs:=by
   apply Array.ext';apply List.ext_getElem?;intro o;have:=h7 o fun l hl j5=>fg (g.apart id qC _ _ b o o h1 hl rfl j5)
   simpa using this
  subst e;refine⟨b,c',by rw[c.same id fg];exact h1,h5,h3.step L c.step ?_,h4⟩;intro r hr;exact(g.eL id _ ho).2 r hr
 ·intro id t own l fg ho;obtain⟨v,b,lo,hi,h1,h2⟩:=g.vec id t own l ho;refine⟨v,b,lo,hi,by rw[c.same id fg];exact h1,?_⟩;rcases h2 with h2|⟨off,cp,h2,h3,h4,h5⟩
  ·exact .inl h2
  ·refine .inr ⟨off,cp,h2,h3,h4,?_⟩;rcases h5 with⟨ht,fX,h5|⟨cs,e,h5,h6,h7⟩⟩|⟨ht,fX,⟨cs,h5,h6⟩,h7⟩
   ·exact .inl ⟨ht,fX,.inl h5⟩
   ·obtain⟨c',h8,h9,Ly⟩:=c.FH b cs _ _ h5;refine .inl ⟨ht,fX,.inr ⟨c',e,h8,by omega,?_⟩⟩
    have e:(c'.toList.drop off).take (l.length*T.size (T.dp t))=(cs.toList.drop off).take (l.length*T.size (T.dp t)):=by
     apply List.ext_getElem?;intro o;simp only[List.getElem?_take]
     split
     ·rename_i cU;simp only[List.getElem?_drop];have hmul:l.length*T.size (T.dp t)<=cp*T.size (T.dp t):=Nat.mul_le_mul_right _ h3;have:=Ly (off+o) fun l' hl j5=>fg (g.apart id qC _ _ b (off+o) (off+o) h1 hl ⟨rfl,by omega,by omega⟩ j5)
      simpa using this
     ·rfl
    rw[e];exact h7.step L c.step (by simp[D.refs])
   ·refine .inr ⟨ht,fX,⟨cs,h5.step c.step,h6.step L c.step (by simp[D.refs])⟩,?_⟩;rcases h7 with h7|⟨c0,e,h7,h8⟩
    ·exact .inl h7
    ·obtain⟨c',h9,Ly,_⟩:=c.FH b c0 _ _ h7;exact .inr ⟨c',e,h9,by omega⟩
 ·intro id ck cv l fg ho;obtain⟨b,es,k,h1,h2,h3⟩:=g.map id ck cv l ho;exact⟨b,es,k,by rw[c.same id fg];exact h1,c.mp b _ h2 (fun _ _ _ h=>by cases h) fun l' hl j5=>fg (g.apart id qC _ _ b 0 0 h1 hl rfl j5),h3.step L c.step⟩
 ·intro id cc fg ho;obtain⟨s,h1,h2⟩:=g.dG id cc ho;refine⟨s,by rw[c.same id fg];exact h1,?_⟩;cases cc with
  |lp busy dn ex=>
   cases s with
   |lp b rec=>
    obtain⟨pend,h3,h4⟩:=h2;exact⟨pend,c.mp b _ h3 (fun _ _ _ h=>by cases h) fun l' hl j5=>fg (g.apart id qC _ _ b 0 0 h1 hl rfl j5),h4⟩
   |it bm r=>exact h2.elim
  |it ck cv l=>
   cases s with
   |lp b rec=>exact h2.elim
   |it bm r=>
    obtain⟨RX,es,si,se,k,h3,h4,h5,h6⟩:=h2
    exact⟨RX,es,si,se,k,c.mp bm _ h3 (fun _ _ _ h=>by cases h) fun l' hl j5=>fg (g.apart id qC _ _ bm 0 0 h1 hl (.inl rfl) j5),
     c.mp r _ h4 (fun _ _ _ h=>by cases h) fun l' hl j5=>fg (g.apart id qC _ _ r 0 0 h1 hl (.inr rfl) j5),h5.step L c.step,h6⟩
def Cx.newVar(X:Cx)(nx:Nat)(t:TypeId)(c:bY):Cx :=
 ⟨X.w.alloc (.cells c t),fun id=>if id=nx then some (.var X.w.heap.size t)else X.ρ id,X.O⟩
theorem Qz(w:World)(o:Go.Obj)(b:Nat)(hb:b<w.heap.size):(w.alloc o).heap[b]? = w.heap[b]? := RowKit.Below.heap_alloc w o b hb
theorem Q4(w:World)(o:Go.Obj):(w.alloc o).heap[w.heap.size]? = some o:=by
 show(w.heap.push o)[w.heap.size]? = _;simp
theorem ZH{w w':World}{b:Nat}(h:w'.heap[b]? = w.heap[b]?)(o:Nat):w'.cell? ⟨b,o,none⟩=w.cell? ⟨b,o,none⟩:=by
 simp[World.cell?,h]
theorem YG{w w':World}{a:Addr}(h:w'.heap[a.block]? = w.heap[a.block]?):w'.frozen? a=w.frozen? a:=by
 unfold World.frozen?;rw[h]
theorem Step.oC{X:Cx}{h:Heap C}{nx:Nat}{lim:ek}(g:G T X h nx lim)(hn:nx<lim.top)(ob:Go.Obj)(l:Loc)(hl:∀b o,l.owns b o->b=X.w.heap.size) :
 Step X nx lim ⟨X.w.alloc ob,fun id=>if id=nx then some l else X.ρ id,X.O⟩ where
 O:=rfl
 os:=rfl
 tape:=rfl
 output:=rfl
 size:=by simp
 ρ id ho:=by
  have:id≠nx:=by have:=ho.1;omega
  simp[this,Qp.refl]
 du b o hb hm:=by
  obtain⟨id,l',h1,h2⟩:=hm
  by_cases hi:id=nx
  ·simp[hi]at h1;subst h1;have:=hl b o h2;omega
  ·simp[hi]at h1;exact⟨id,l',h1,h2⟩
 cell b o hb _:=ZH (Qz _ _ _ hb) o
 block b hb _:=Qz _ _ _ hb
 frz a ha:=YG (Qz _ _ _ ha)
theorem Step.alloc{X:Cx}{h:Heap C}{nx:Nat}{lim:ek}(g:G T X h nx lim)(hn:nx<lim.top)(c:bY)(t:TypeId)(l:Loc)(hl:∀b o,l.owns b o->b=X.w.heap.size) :
 Step X nx lim ⟨X.w.alloc (.cells c t),fun id=>if id=nx then some l else X.ρ id,X.O⟩:=Step.oC g hn _ l hl
theorem Ch.alloc{X:Cx}{h:Heap C}{nx:Nat}{lim:ek}(g:G T X h nx lim)(hn:nx<lim.top)(ob:Go.Obj)(l:Loc)(hl:∀b o,l.owns b o->b=X.w.heap.size) :
 Ch X ⟨X.w.alloc ob,fun id=>if id=nx then some l else X.ρ id,X.O⟩ nx lim nx where
 step:=Step.oC g hn ob l hl
 same id hi:=by simp[hi]
 FH b c' e f hb:=by
  have cU:b<X.w.heap.size:=(aI.1 hb).1;exact⟨c',by rw[Qz _ _ _ cU];exact hb,rfl,fun _ _=>rfl⟩
 mp b o hb _ _:=by
  have cU:b<X.w.heap.size:=(aI.1 hb).1;rw[Qz _ _ _ cU];exact hb
theorem G.jU{X:Cx}{h:Heap C}{nx:Nat}{lim:ek}(g:G T X h nx lim)(hn:nx<lim.top)(ob:Go.Obj)(l:Loc)(hl:∀b o,l.owns b o->b=X.w.heap.size)(o:Obj C) :
 let X':Cx:=⟨X.w.alloc ob,fun id=>if id=nx then some l else X.ρ id,X.O⟩
 (∀id l,X'.ρ id=some l->(Heap.get id ((nx,o)::h)).isSome=true) /\
 (∀id jv l l' b o o',X'.ρ id=some l->X'.ρ jv=some l'->l.owns b o->l'.owns b o'->id=jv)/\(∀b o,X'.du b o->(¬X.O b o\/b=X.w.heap.size)/\b<X'.w.heap.size):=by
 refine⟨?_,?_,?_⟩
 ·intro id l' hr;rw[Qy]
  by_cases hi:id=nx
  ·simp[hi]
  ·simp[hi]at hr ⊢;exact g.jA id l' hr
 ·intro id jv l1 l2 b o o' h1 h2 h3 h4
  by_cases hi:id=nx<;>by_cases hj:jv=nx
  ·rw[hi,hj]
  ·simp[hi]at h1;simp[hj]at h2;subst h1;have:=hl b o h3;have:=(g.outer b o' ⟨jv,l2,h2,h4⟩).2;omega
  ·simp[hi]at h1;simp[hj]at h2;subst h2;have:=hl b o' h4;have:=(g.outer b o ⟨id,l1,h1,h3⟩).2;omega
  ·simp[hi]at h1;simp[hj]at h2;exact g.apart id jv l1 l2 b o o' h1 h2 h3 h4
 ·rintro b o ⟨id,l',h1,h2⟩
  by_cases hi:id=nx
  ·simp[hi]at h1;subst h1;have:=hl b o h2;exact⟨.inr this,by simp;omega⟩
  ·simp[hi]at h1;have:=g.outer b o ⟨id,l',h1,h2⟩;exact⟨.inl this.1,by simp;omega⟩
include L in
theorem G.newVar{X:Cx}{h:Heap C}{nx:Nat}{lim:ek}(g:G T X h nx lim)(hn:nx<lim.top){d:D C}{t:TypeId}{c:bY}(hR:R T X false d c.toList)(hf:fit T d (.inl t)=true)
 (hr:∀id∈d.refs,ft nx lim id) :
 G T (X.newVar nx t c) ((nx,.var t d)::h) (nx+1) lim/\Step X nx lim (X.newVar nx t c):=by
 have hl:∀b o,(Loc.var X.w.heap.size t).owns b o->b=X.w.heap.size:=fun b o h=>h;have hO:=g.outs;have hs:Step X nx lim (X.newVar nx t c):=Step.alloc g hn c t _ hl;have hc:Ch X (X.newVar nx t c) nx lim nx:=Ch.alloc g hn _ _ hl;obtain⟨m1,m2,m3⟩:=G.jU g hn (.cells c t) _ hl (.var t d);obtain⟨o1,o2,o3,o4⟩:=G.dI L g hc;refine⟨⟨?_,?_,?_,?_,m1,?_,m2,?_,fun b o ho=>bj (hO b o ho) hs.size,Nat.le_succ_of_le g.low,g.pre.step hs⟩,hs⟩
 ·intro id t' d' hg;rw[Qy]at hg
  by_cases hi:id=nx
  ·simp[hi]at hg;obtain⟨rfl,rfl⟩:=hg;exact⟨X.w.heap.size,c,by simp[Cx.newVar,hi],Q4 _ _,hR.step L hs hr,hf⟩
  ·simp[hi]at hg;exact o1 id t' d' hi hg
 ·intro id t' own l hg;rw[Qy]at hg
  by_cases hi:id=nx
  ·simp[hi]at hg
  ·simp[hi]at hg;exact o2 id t' own l hi hg
 ·intro id ck cv l hg;rw[Qy]at hg
  by_cases hi:id=nx
  ·simp[hi]at hg
  ·simp[hi]at hg;exact o3 id ck cv l hi hg
 ·intro id cc hg;rw[Qy]at hg
  by_cases hi:id=nx
  ·simp[hi]at hg
  ·simp[hi]at hg;exact o4 id cc hi hg
 ·intro id o hg;rw[Qy]at hg
  by_cases hi:id=nx
  ·simp[hi]at hg;subst hg;exact⟨hi▸g.new hn,fun r fK=>(hr r fK).mono (by omega)⟩
  ·simp[hi]at hg;exact g.ml (by omega) id o hg
 ·intro b o hm;have:=m3 b o hm;refine⟨?_,this.2⟩;rcases this.1 with h1|h1
  ·exact h1
  ·intro vF;have:=hO b o vF;omega
def Cx.qH(X:Cx)(nx:Nat)(t:C.Ty)(e:TypeId)(c:bY)(n cp:Nat):Cx :=
 ⟨X.w.alloc (.cells c e),fun id=>if id=nx then some (.vec (.slice (some ⟨X.w.heap.size,0,none⟩) n cp) (T.dp t) X.w.heap.size 0 (cp*T.size (T.dp t)))else X.ρ id,X.O⟩
include L in
theorem G.qH{X:Cx}{h:Heap C}{nx:Nat}{lim:ek}(g:G T X h nx lim)(hn:nx<lim.top){t:C.Ty}{l:List (C.A t)}{c:bY}{e:TypeId}{cp:Nat}(own:Bool)
 (hR:R T X false (.arr t l.length l) (c.toList.take (l.length*T.size (T.dp t)))) (nN:l.length<=cp) (hc:cp*T.size (T.dp t)<=c.size) :
 ∃X',X'.w=X.w.alloc (.cells c e)/\G T X' ((nx,.vec t own l)::h) (nx+1) lim/\Step X nx lim X'/\R T X' false (.vs nx l.length) [.slice (some ⟨X.w.heap.size,0,none⟩) l.length cp]:=by
 let v:Value:=.slice (some ⟨X.w.heap.size,0,none⟩) l.length cp
 let lo:=if own then 0 else l.length*T.size (T.dp t)
 let l0:Loc:=.vec v (T.dp t) X.w.heap.size lo (cp*T.size (T.dp t))
 have hl:∀b o,l0.owns b o->b=X.w.heap.size:=fun b o h=>h.1;have hO:=g.outs
 let X':Cx:=⟨X.w.alloc (.cells c e),fun id=>if id=nx then some l0 else X.ρ id,X.O⟩
 have hs:Step X nx lim X':=Step.alloc g hn c e _ hl;have nK:Ch X X' nx lim nx:=Ch.alloc g hn _ _ hl;obtain⟨m1,m2,m3⟩:=G.jU g hn (.cells c e) _ hl (.vec t own l);obtain⟨o1,o2,o3,o4⟩:=G.dI L g nK;have hRs:R T X' false (.arr t l.length l) (c.toList.take (l.length*T.size (T.dp t))):=hR.step L hs (by simp[D.refs]);have hmul:l.length*T.size (T.dp t)<=cp*T.size (T.dp t):=Nat.mul_le_mul_right _ nN;refine⟨X',rfl,⟨?_,?_,?_,?_,m1,?_,m2,?_,fun b o ho=>bj (hO b o ho) hs.size,Nat.le_succ_of_le g.low,g.pre.step hs⟩,hs,?_⟩
 ·intro id t' d' hg;rw[Qy]at hg
  by_cases hi:id=nx
  ·simp[hi]at hg
  ·simp[hi]at hg;exact o1 id t' d' hi hg
 ·intro id t' gm l' hg;rw[Qy]at hg
  by_cases hi:id=nx
  ·simp[hi]at hg;obtain⟨rfl,rfl,hg⟩:=hg;simp at hg;subst hg;refine⟨v,X.w.heap.size,lo,cp*T.size (T.dp t),by simp[X',hi,l0],.inr ⟨0,cp,rfl,nN,by simp,?_⟩⟩;cases own with
   |true=>exact .inl ⟨rfl,by simp[lo],.inr ⟨c,e,Q4 _ _,hc,by simpa using hRs⟩⟩
   |false=>
    refine .inr ⟨rfl,by simp[lo],⟨_,?_,hRs⟩,.inr ⟨c,e,Q4 _ _,hc⟩⟩;intro j u hj
    have mb:j<l.length*T.size (T.dp t):=by
     have:=(av.1 hj).1;simp at this;omega
    refine⟨?_,?_,?_⟩
    ·simp only[World.cell?,aN];rw[show X'.w.heap[X.w.heap.size]? = some (.cells c e)from Q4 _ _];rw[List.getElem?_take,ax mb]at hj
     simpa using hj
    ·intro ho;have:=hO _ _ ho;omega
    ·rintro ⟨jv,l',h1,h2⟩
     by_cases jl:jv=nx
     ·simp[X',jl,l0]at h1;subst h1;simp[Loc.owns,lo]at h2;omega
     ·simp[X',jl]at h1;have:=(g.outer _ _ ⟨jv,l',h1,h2⟩).2;omega
  ·simp[hi]at hg;exact o2 id t' gm l' hi hg
 ·intro id ck cv l hg;rw[Qy]at hg
  by_cases hi:id=nx
  ·simp[hi]at hg
  ·simp[hi]at hg;exact o3 id ck cv l hi hg
 ·intro id cc hg;rw[Qy]at hg
  by_cases hi:id=nx
  ·simp[hi]at hg
  ·simp[hi]at hg;exact o4 id cc hi hg
 ·intro id o hg;rw[Qy]at hg
  by_cases hi:id=nx
  ·simp[hi]at hg;subst hg;exact⟨hi▸g.new hn,fun r fK=>by simp[Obj.refs]at fK⟩
  ·simp[hi]at hg;exact g.ml (by omega) id o hg
 ·intro b o hm;have:=m3 b o hm;refine⟨?_,this.2⟩;rcases this.1 with h1|h1
  ·exact h1
  ·intro vF;have:=hO b o vF;omega
 ·refine .vs fun v' e' b' iP jl hv=>?_;simp[X',l0]at hv;obtain⟨rfl,_⟩:=hv;exact⟨aq _,fun _=>rfl⟩
theorem G.upto{X:Cx}{h:Heap C}{nx cF:Nat}{lim:ek}(g:G T X h nx lim)(hn:nx<=cF):G T X h cF lim :=
 ⟨g.var,g.vec,g.map,g.dG,g.jA,g.ml hn,g.apart,g.outer,g.outs,bk g.low hn,g.pre⟩
include L in
theorem G.drop{X:Cx}{h h':Heap C}{nx:Nat}{lim:ek}(g:G T X h nx lim)(hh:∀id,h'.get id=h.get id\/h'.get id=none) :
 ∃X',X'.w=X.w/\G T X' h' nx lim/\Step X nx lim X'/\∀id l,X'.ρ id=some l->X.ρ id=some l:=by
 let X':Cx:=⟨X.w,fun id=>if(h'.get id).isSome then X.ρ id else none,X.O⟩
 have fY:∀b o,X'.du b o->X.du b o:=by
  rintro b o ⟨id,l,h1,h2⟩
  simp only[X']at h1
  split at h1
  ·exact⟨id,l,h1,h2⟩
  ·simp at h1
 have hs:Step X nx lim X':=by
  refine⟨rfl,rfl,rfl,rfl,aq _,?_,fun b o _ hm=>fY b o hm,fun _ _ _ _=>rfl,fun _ _ _=>rfl,fun _ _=>rfl⟩;intro id _;simp only[X']
  split
  ·exact .refl _
  ·cases X.ρ id<;>simp[Qp]
 refine⟨X',rfl,⟨?_,?_,?_,?_,?_,?_,?_,?_,g.outs,g.low,g.pre.step hs⟩,hs,fun id l h1=>by simp only[X']at h1;split at h1<;>simp_all⟩
 ·intro id t d ho;have gz:h.get id=some (.var t d):=by rcases hh id with e|e<;>rw[e]at ho<;>simp_all
  obtain⟨b,c,h1,h2,h3,h4⟩:=g.var id t d gz;exact⟨b,c,by simp[X',ho,h1],h2,h3.step L hs (g.eL id _ gz).2,h4⟩
 ·intro id t own l ho;have gz:h.get id=some (.vec t own l):=by rcases hh id with e|e<;>rw[e]at ho<;>simp_all
  obtain⟨v,b,lo,hi,h1,h2⟩:=g.vec id t own l gz;refine⟨v,b,lo,hi,by simp[X',ho,h1],?_⟩;rcases h2 with h2|⟨off,cp,h2,h3,h4,h5⟩
  ·exact .inl h2
  ·refine .inr ⟨off,cp,h2,h3,h4,?_⟩;rcases h5 with⟨ht,fX,h5|⟨cs,e,h5,h6,h7⟩⟩|⟨ht,fX,⟨cs,h5,h6⟩,h7⟩
   ·exact .inl ⟨ht,fX,.inl h5⟩
   ·exact .inl ⟨ht,fX,.inr ⟨cs,e,h5,h6,h7.step L hs (by simp[D.refs])⟩⟩
   ·exact .inr ⟨ht,fX,⟨cs,h5.step hs,h6.step L hs (by simp[D.refs])⟩,h7⟩
 ·intro id ck cv l ho;have gz:h.get id=some (.map ck cv l):=by rcases hh id with e|e<;>rw[e]at ho<;>simp_all
  obtain⟨b,es,k,h1,h2,h3⟩:=g.map id ck cv l gz;exact⟨b,es,k,by simp[X',ho,h1],h2,h3.step L hs⟩
 ·intro id cc ho;have gz:h.get id=some (.dG cc):=by rcases hh id with e|e<;>rw[e]at ho<;>simp_all
  obtain⟨s,h1,h2⟩:=g.dG id cc gz;exact⟨s,by simp[X',ho,h1],h2.same L hs rfl⟩
 ·intro id l hr;simp only[X']at hr
  split at hr
  ·assumption
  ·simp at hr
 ·intro id o ho;have gz:h.get id=some o:=by rcases hh id with e|e<;>rw[e]at ho<;>simp_all
  exact g.eL id o gz
 ·intro id jv l l' b o o' h1 h2
  have e1:X.ρ id=some l:=by
   simp only[X']at h1
   split at h1
   ·exact h1
   ·simp at h1
  have e2:X.ρ jv=some l':=by
   simp only[X']at h2
   split at h2
   ·exact h2
   ·simp at h2
  exact g.apart id jv l l' b o o' e1 e2
 ·intro b o hm;exact g.outer b o (fY b o hm)
theorem Ym(w:World)(g:Nat)(cs:bY)(b:Nat)(h:b≠g):(w.setRow g cs).heap[b]? = w.heap[b]? := by
 simp only[World.setRow,Array.getElem?_modify];rw[aw (fun e=>h e.symm)]
theorem Qht(w:World)(g:Nat)(cs ft:bY)(t:TypeId)(f:Nat×Nat)(hg:w.heap[g]? = some (.cells ft t f))(a:Addr):(w.setRow g cs).frozen? a=w.frozen? a:=by
 unfold World.frozen?
 by_cases h:a.block=g
 ·rw[h,setRow_heap w g ft cs t f hg,hg]
 ·rw[Ym _ _ _ _ h]
theorem Np(w:World)(g:Nat)(cs:bY):(w.setRow g cs).heap.size=w.heap.size:=by simp[World.setRow]
theorem Ch.setRow{X:Cx}{nx id:Nat}{lim:ek}{b:Nat}{c c':bY}{e:TypeId}(hb:X.w.heap[b]? = some (.cells c e (0,0)))(fB:c'.size=c.size)(l l':Loc)(hl:X.ρ id=some l)
 (hc:∀o,¬l.owns b o->c'[o]? = c[o]?) (kA:∀b o,l'.owns b o->l.owns b o) (nN:Qp (some l) (some l')) :
 Ch X ⟨X.w.setRow b c',fun j=>if j=id then some l' else X.ρ j,X.O⟩ nx lim id where
 same j hj:=by simp[hj]
 FH g k u f hg:=by
  by_cases jk:g=b
  ·subst jk;rw[hb]at hg;simp at hg;obtain⟨rfl,rfl,rfl⟩:=hg;exact⟨c',setRow_heap _ _ _ _ _ _ hb,fB,fun o ho=>hc o (ho l hl)⟩
  ·exact⟨k,by rw[Ym _ _ _ _ jk];exact hg,rfl,fun _ _=>rfl⟩
 mp g o hg gv _:=by
  by_cases jk:g=b
  ·subst jk;rw[hb]at hg;cases hg;exact absurd rfl (gv _ _ _)
  ·rw[Ym _ _ _ _ jk];exact hg
 step:=by
  have hm:∀g o,Cx.du ⟨X.w.setRow b c',fun j=>if j=id then some l' else X.ρ j,X.O⟩ g o->X.du g o:=by
   rintro g o ⟨j,k,h1,h2⟩
   by_cases hj:j=id
   ·simp[hj]at h1;subst h1;exact⟨id,l,hl,kA g o h2⟩
   ·simp[hj]at h1;exact⟨j,k,h1,h2⟩
  refine⟨rfl,rfl,rfl,rfl,by simp[Np],?_,fun g o _=>hm g o,?_,?_,fun a _=>Qht _ _ _ _ _ _ hb a⟩
  ·intro j _
   by_cases hj:j=id
   ·simp only[hj,aU];rw[hl];exact nN
   ·simp[hj,Qp.refl]
  ·intro g o _ gv
   by_cases jk:g=b
   ·subst jk;have:=hc o fun j5=>gv ⟨id,l,hl,j5⟩;simp only[World.cell?,setRow_heap _ _ _ _ _ _ hb,hb]
    simpa using this
   ·exact ZH (Ym _ _ _ _ jk) o
  ·intro g _ gv
   by_cases jk:g=b
   ·subst jk
    have e:c'=c:=by
     apply Array.ext';apply List.ext_getElem?;intro o;have:=hc o fun j5=>gv o ⟨id,l,hl,j5⟩
     simpa using this
    rw[setRow_heap _ _ _ _ _ _ hb,hb,e]
   ·exact Ym _ _ _ _ jk
theorem G.pG{X:Cx}{h:Heap C}{nx id:Nat}{lim:ek}(g:G T X h nx lim)(l l':Loc)(hl:X.ρ id=some l)(kA:∀b o,l'.owns b o->l.owns b o)(w':World)(hs:X.w.heap.size<=w'.heap.size)(o:Obj C) :
 let X':Cx:=⟨w',fun j=>if j=id then some l' else X.ρ j,X.O⟩
 (∀j l,X'.ρ j=some l->((h.put id o).get j).isSome=true) /\
 (∀j j' l l' b o o',X'.ρ j=some l->X'.ρ j'=some l'->l.owns b o->l'.owns b o'->j=j')/\(∀b o,X'.du b o->¬X'.O b o/\b<X'.w.heap.size)/\(∀b o,X'.O b o->b<X'.w.heap.size):=by
 have dv:=g.jA id l hl
 have m7:∀j k b o,(if j=id then some l' else X.ρ j)=some k->k.owns b o->∃k',X.ρ j=some k'/\k'.owns b o:=by
  intro j k b o h1 h2
  by_cases hj:j=id
  ·simp[hj]at h1;subst h1;exact⟨l,by rw[hj];exact hl,kA b o h2⟩
  ·simp[hj]at h1;exact⟨k,h1,h2⟩
 refine⟨?_,?_,?_,?_⟩
 ·intro j k hr;rw[Qv dv]
  by_cases hj:j=id
  ·simp[hj]
  ·simp[hj]at hr ⊢;exact g.jA j k hr
 ·intro j j' k k' b o o' h1 h2 h3 h4;obtain⟨k1,h5,h6⟩:=m7 j k b o h1 h3;obtain⟨k2,h7,h8⟩:=m7 j' k' b o' h2 h4;exact g.apart j j' k1 k2 b o o' h5 h7 h6 h8
 ·rintro b o ⟨j,k,h1,h2⟩
  obtain⟨k1,h5,h6⟩:=m7 j k b o h1 h2;have:=g.outer b o ⟨j,k1,h5,h6⟩;exact⟨this.1,by show b<w'.heap.size;omega⟩
 ·intro b o ho;have:=g.outs b o ho;show b<w'.heap.size;omega
include L in
theorem G.zI{X:Cx}{h:Heap C}{nx id b:Nat}{lim:ek}{t:TypeId}{d d':D C}{c c':bY}(g:G T X h nx lim)(ho:h.get id=some (.var t d))(hρ:X.ρ id=some (.var b t))
 (hb:X.w.heap[b]? = some (.cells c t (0,0))) (hR:R T X false d' c'.toList) (fB:c'.size=c.size) (hf:fit T d' (.inl t)=true) (hr:∀r∈d'.refs,ft nx lim r) :
 ∃X',X'.w=X.w.setRow b c'/\G T X' (h.put id (.var t d')) nx lim/\Step X nx lim X':=by
 have nK:Ch X ⟨X.w.setRow b c',fun j=>if j=id then some (.var b t)else X.ρ j,X.O⟩ nx lim id :=
  Ch.setRow hb fB _ _ hρ (fun o ho=>absurd rfl ho) (fun _ _ h=>h) (by simp[Qp])
 obtain⟨m1,m2,m3,m4⟩:=G.pG (h:=h) g _ (.var b t) hρ (fun _ _ h=>h) (X.w.setRow b c') (by simp[Np]) (.var t d');obtain⟨o1,o2,o3,o4⟩:=G.dI L g nK;have dv:=g.jA id _ hρ;refine⟨_,rfl,⟨?_,?_,?_,?_,m1,?_,m2,m3,m4,g.low,g.pre.step nK.step⟩,nK.step⟩
 ·intro j t' e hg;rw[Qv dv]at hg
  by_cases hj:j=id
  ·simp[hj]at hg;obtain⟨rfl,rfl⟩:=hg;exact⟨b,c',by simp[hj],setRow_heap _ _ _ _ _ _ hb,hR.step L nK.step hr,hf⟩
  ·simp[hj]at hg;exact o1 j t' e hj hg
 ·intro j t' own l hg;rw[Qv dv]at hg
  by_cases hj:j=id
  ·simp[hj]at hg
  ·simp[hj]at hg;exact o2 j t' own l hj hg
 ·intro j ck cv k hg;rw[Qv dv]at hg
  by_cases hj:j=id
  ·simp[hj]at hg
  ·simp[hj]at hg;exact o3 j ck cv k hj hg
 ·intro j cc hg;rw[Qv dv]at hg
  by_cases hj:j=id
  ·simp[hj]at hg
  ·simp[hj]at hg;exact o4 j cc hj hg
 ·intro j o hg;rw[Qv dv]at hg
  by_cases hj:j=id
  ·simp[hj]at hg;subst hg;exact⟨hj▸(g.eL id _ ho).1,hr⟩
  ·simp[hj]at hg;exact g.eL j o hg
end
section
variable {C:gR}{T:fh C}(L:Laws T)
include L in
theorem G.world{X:Cx}{h:Heap C}{nx:Nat}{lim:ek}(g:G T X h nx lim)(w':World)(hh:w'.heap=X.w.heap)(h1:w'.os=X.w.os)(h2:w'.tape=X.w.tape)(h3:w'.output=X.w.output) :
 G T ⟨w',X.ρ,X.O⟩ h nx lim/\Step X nx lim ⟨w',X.ρ,X.O⟩:=by
 have hs:Step X nx lim ⟨w',X.ρ,X.O⟩:=⟨rfl,h1,h2,h3,by simp[hh],fun _ _=>.refl _,fun _ _ _ hm=>hm,fun b o _ _=>by simp[World.cell?,hh],fun b _ _=>by simp[hh],fun a _=>by simp[World.frozen?,hh]⟩;have hc:∀n,Ch X ⟨w',X.ρ,X.O⟩ nx lim n:=fun n=>⟨hs,fun _ _=>rfl,fun b c e f hb=>⟨c,by simp[hh,hb],rfl,fun _ _=>rfl⟩,fun b o hb _ _=>by simp[hh,hb]⟩;refine⟨⟨?_,?_,?_,?_,g.jA,g.eL,g.apart,?_,?_,g.low,g.pre.step hs⟩,hs⟩
 ·intro id t d ho
  by_cases hi:id=0
  ·exact(G.dI L g (hc 1)).1 id t d (by omega) ho
  ·exact(G.dI L g (hc 0)).1 id t d hi ho
 ·intro id t own l ho
  by_cases hi:id=0
  ·exact(G.dI L g (hc 1)).2.1 id t own l (by omega) ho
  ·exact(G.dI L g (hc 0)).2.1 id t own l hi ho
 ·intro id ck cv l ho
  by_cases hi:id=0
  ·exact(G.dI L g (hc 1)).2.2.1 id ck cv l (by omega) ho
  ·exact(G.dI L g (hc 0)).2.2.1 id ck cv l hi ho
 ·intro id cc ho
  by_cases hi:id=0
  ·exact(G.dI L g (hc 1)).2.2.2 id cc (by omega) ho
  ·exact(G.dI L g (hc 0)).2.2.2 id cc hi ho
 ·intro b o hm;simpa[hh]using g.outer b o hm
 ·intro b o hm;simpa[hh]using g.outs b o hm
include L in
theorem G.data{X:Cx}{h:Heap C}{nx:Nat}{lim:ek}(g:G T X h nx lim)(c:bY)(e:TypeId) :
 G T ⟨X.w.alloc (.cells c e),X.ρ,X.O⟩ h nx lim/\Step X nx lim ⟨X.w.alloc (.cells c e),X.ρ,X.O⟩ /\
  ∀o,Cx.free ⟨X.w.alloc (.cells c e),X.ρ,X.O⟩ X.w.heap.size o:=by
 have hs:Step X nx lim ⟨X.w.alloc (.cells c e),X.ρ,X.O⟩:=
  ⟨rfl,rfl,rfl,rfl,by simp,fun _ _=>.refl _,fun _ _ _ hm=>hm,fun b o hb _=>ZH (Qz _ _ _ hb) o,fun b hb _=>Qz _ _ _ hb,fun a ha=>YG (Qz _ _ _ ha)⟩
 have hc:∀n,Ch X ⟨X.w.alloc (.cells c e),X.ρ,X.O⟩ nx lim n:=fun n=>⟨hs,fun _ _=>rfl,fun b c' e' f hb=>
  ⟨c',by rw[Qz _ _ _ (aI.1 hb).1];exact hb,rfl,fun _ _=>rfl⟩,fun b o hb _ _=>by rw[Qz _ _ _ (aI.1 hb).1];exact hb⟩
 refine⟨⟨?_,?_,?_,?_,g.jA,g.eL,g.apart,?_,?_,g.low,g.pre.step hs⟩,hs,?_⟩
 ·intro id t d ho
  by_cases hi:id=0
  ·exact(G.dI L g (hc 1)).1 id t d (by omega) ho
  ·exact(G.dI L g (hc 0)).1 id t d hi ho
 ·intro id t own l ho
  by_cases hi:id=0
  ·exact(G.dI L g (hc 1)).2.1 id t own l (by omega) ho
  ·exact(G.dI L g (hc 0)).2.1 id t own l hi ho
 ·intro id ck cv l ho
  by_cases hi:id=0
  ·exact(G.dI L g (hc 1)).2.2.1 id ck cv l (by omega) ho
  ·exact(G.dI L g (hc 0)).2.2.1 id ck cv l hi ho
 ·intro id cc ho
  by_cases hi:id=0
  ·exact(G.dI L g (hc 1)).2.2.2 id cc (by omega) ho
  ·exact(G.dI L g (hc 0)).2.2.2 id cc hi ho
 ·intro b o hm;have:=g.outer b o hm;exact⟨this.1,by simp;omega⟩
 ·intro b o hm;have:=g.outs b o hm;simp;omega
 ·intro o;refine⟨fun ho=>?_,fun hm=>?_⟩
  ·have:=g.outs _ _ ho;omega
  ·have:=(g.outer _ _ hm).2;omega
include L in
theorem G.oU{X:Cx}{h:Heap C}{nx id b lo hi iP:Nat}{lim:ek}{t:C.Ty}{own:Bool}{l l':List (C.A t)}{v v':Value}{c c':bY}{e:TypeId}(g:G T X h nx lim)
 (ho:h.get id=some (.vec t own l)) (hρ:X.ρ id=some (.vec v (T.dp t) b lo hi)) (hb:X.w.heap[b]? = some (.cells c e (0,0))) (fB:c'.size=c.size)
 (hc:∀o,¬(lo<=o/\o<hi)->c'[o]? = c[o]?) (fX:lo<=iP) (hlh:iP<=hi\/iP=lo) (nN:gJ v<=gJ v'/\(gJ v=gJ v'->v'=v))
 (ig:∀X':Cx,X'.w=X.w.setRow b c'->X'.O=X.O->(∀b o,X'.du b o->X.du b o)->(∀o,lo<=o->o<iP->¬X'.du b o)->Step X nx lim X'->VJ T X' t own l' v' b iP hi) :
 ∃X',X'.w=X.w.setRow b c'/\X'.ρ id=some (.vec v' (T.dp t) b iP hi)/\G T X' (h.put id (.vec t own l')) nx lim/\Step X nx lim X':=by
 have j5:∀b o,(Loc.vec v' (T.dp t) b iP hi).owns b o->(Loc.vec v (T.dp t) b lo hi).owns b o:=fun b o h=>⟨h.1,by have:=h.2;omega,h.2.2⟩;have tp:∀g o,(Loc.vec v' (T.dp t) b iP hi).owns g o->(Loc.vec v (T.dp t) b lo hi).owns g o:=fun g o h=>⟨h.1,by have:=h.2;omega,h.2.2⟩
 have nK:Ch X ⟨X.w.setRow b c',fun j=>if j=id then some (.vec v' (T.dp t) b iP hi)else X.ρ j,X.O⟩ nx lim id :=
  Ch.setRow hb fB _ _ hρ (fun o ho=>hc o fun h=>ho ⟨rfl,h⟩) tp ⟨rfl,nN.1,nN.2⟩
 obtain⟨m1,m2,m3,m4⟩:=G.pG (h:=h) g _ (.vec v' (T.dp t) b iP hi) hρ tp (X.w.setRow b c') (by simp[Np]) (.vec t own l');obtain⟨o1,o2,o3,o4⟩:=G.dI L g nK;have dv:=g.jA id _ hρ
 have fY:∀b' o,Cx.du ⟨X.w.setRow b c',fun j=>if j=id then some (.vec v' (T.dp t) b iP hi)else X.ρ j,X.O⟩ b' o->X.du b' o:=by
  rintro b' o ⟨j,k,h1,h2⟩
  by_cases hj:j=id
  ·simp[hj]at h1;subst h1;exact⟨id,_,hρ,tp _ _ h2⟩
  ·simp[hj]at h1;exact⟨j,k,h1,h2⟩
 have hV:=ig ⟨X.w.setRow b c',fun j=>if j=id then some (.vec v' (T.dp t) b iP hi)else X.ρ j,X.O⟩ rfl rfl fY (by
  rintro o h1 h2 ⟨j,k,h3,h4⟩
  by_cases hj:j=id
  ·simp[hj]at h3;subst h3;have:=h4.2;omega
  ·simp[hj]at h3;exact hj (g.apart j id _ _ b o o h3 hρ h4 ⟨rfl,h1,by omega⟩)) nK.step
 refine⟨_,rfl,by simp,⟨?_,?_,?_,?_,m1,?_,m2,m3,m4,g.low,g.pre.step nK.step⟩,nK.step⟩
 ·intro j t' e hg;rw[Qv dv]at hg
  by_cases hj:j=id
  ·simp[hj]at hg
  ·simp[hj]at hg;exact o1 j t' e hj hg
 ·intro j t' gm k hg;rw[Qv dv]at hg
  by_cases hj:j=id
  ·simp[hj]at hg;obtain⟨rfl,rfl,hg⟩:=hg;simp at hg;subst hg;exact⟨v',b,iP,hi,by simp[hj],hV⟩
  ·simp[hj]at hg;exact o2 j t' gm k hj hg
 ·intro j ck cv k hg;rw[Qv dv]at hg
  by_cases hj:j=id
  ·simp[hj]at hg
  ·simp[hj]at hg;exact o3 j ck cv k hj hg
 ·intro j cc hg;rw[Qv dv]at hg
  by_cases hj:j=id
  ·simp[hj]at hg
  ·simp[hj]at hg;exact o4 j cc hj hg
 ·intro j o hg;rw[Qv dv]at hg
  by_cases hj:j=id
  ·simp[hj]at hg;subst hg;exact⟨hj▸(g.eL id _ ho).1,by simp[Obj.refs]⟩
  ·simp[hj]at hg;exact g.eL j o hg
include L in
theorem G.G4{X:Cx}{h:Heap C}{nx id b lo hi iP:Nat}{lim:ek}{t:C.Ty}{own gm:Bool}{l:List (C.A t)}{v:Value}(g:G T X h nx lim)
 (ho:h.get id=some (.vec t own l)) (hρ:X.ρ id=some (.vec v (T.dp t) b lo hi)) (fX:lo<=iP)
 (ig:∀X':Cx,X'.w=X.w->X'.O=X.O->(∀o,lo<=o->o<iP->o<hi->¬X'.du b o)->Step X nx lim X'->VJ T X' t gm l v b iP hi) :
 ∃X',X'.w=X.w/\X'.ρ id=some (.vec v (T.dp t) b iP hi)/\G T X' (h.put id (.vec t gm l)) nx lim/\Step X nx lim X'/\VJ T X' t gm l v b iP hi:=by
 let X':Cx:=⟨X.w,fun j=>if j=id then some (.vec v (T.dp t) b iP hi)else X.ρ j,X.O⟩
 have fY:∀b' o,X'.du b' o->X.du b' o:=by
  rintro b' o ⟨j,k,h1,h2⟩
  by_cases hj:j=id
  ·simp[X',hj]at h1;subst h1;exact⟨id,_,hρ,h2.1,by have:=h2.2.1;omega,h2.2.2⟩
  ·simp[X',hj]at h1;exact⟨j,k,h1,h2⟩
 have hs:Step X nx lim X':=by
  refine⟨rfl,rfl,rfl,rfl,aq _,?_,fun b' o _ hm=>fY b' o hm,fun _ _ _ _=>rfl,fun _ _ _=>rfl,fun _ _=>rfl⟩;intro j _
  by_cases hj:j=id
  ·simp only[X',hj,aU];rw[hρ];exact⟨rfl,aq _,fun _=>rfl⟩
  ·simp[X',hj,Qp.refl]
 have nK:Ch X X' nx lim id:=⟨hs,fun j hj=>by simp[X',hj],fun b c' e' f hb=>⟨c',hb,rfl,fun _ _=>rfl⟩,fun b o hb _ _=>hb⟩;obtain⟨o1,o2,o3,o4⟩:=G.dI L g nK;have dv:=g.jA id _ hρ
 have hV:=ig X' rfl rfl (by
  rintro o h1 h2 h5 ⟨j,k,h3,h4⟩
  by_cases hj:j=id
  ·simp[X',hj]at h3;subst h3;have:=h4.2.1;omega
  ·simp[X',hj]at h3;exact hj (g.apart j id _ _ b o o h3 hρ h4 ⟨rfl,h1,h5⟩)) hs
 refine⟨X',rfl,by simp[X'],⟨?_,?_,?_,?_,?_,?_,?_,?_,?_,g.low,g.pre.step hs⟩,hs,hV⟩
 ·intro j t' e hg;rw[Qv dv]at hg
  by_cases hj:j=id
  ·simp[hj]at hg
  ·simp[hj]at hg;exact o1 j t' e hj hg
 ·intro j t' gm k hg;rw[Qv dv]at hg
  by_cases hj:j=id
  ·simp[hj]at hg;obtain⟨rfl,rfl,hg⟩:=hg;simp at hg;subst hg;exact⟨v,b,iP,hi,by simp[X',hj],hV⟩
  ·simp[hj]at hg;exact o2 j t' gm k hj hg
 ·intro j ck cv k hg;rw[Qv dv]at hg
  by_cases hj:j=id
  ·simp[hj]at hg
  ·simp[hj]at hg;exact o3 j ck cv k hj hg
 ·intro j cc hg;rw[Qv dv]at hg
  by_cases hj:j=id
  ·simp[hj]at hg
  ·simp[hj]at hg;exact o4 j cc hj hg
 ·intro j k hr;rw[Qv dv]
  by_cases hj:j=id
  ·simp[hj]
  ·simp[X',hj]at hr ⊢;exact g.jA j k hr
 ·intro j o hg;rw[Qv dv]at hg
  by_cases hj:j=id
  ·simp[hj]at hg;subst hg;exact⟨hj▸(g.eL id _ ho).1,by simp[Obj.refs]⟩
  ·simp[hj]at hg;exact g.eL j o hg
 ·intro j j' k k' b' o o' h1 h2 h3 h4
  have up:∀j k,X'.ρ j=some k->∀b o,k.owns b o->∃k0,X.ρ j=some k0/\k0.owns b o:=by
   intro j k h1 b0 o h2
   by_cases hj:j=id
   ·simp[X',hj]at h1;subst h1;exact⟨.vec v (T.dp t) b lo hi,hj▸hρ,show b0=b/\lo<=o/\o<hi from⟨h2.1,by have:=h2.2.1;omega,h2.2.2⟩⟩
   ·simp[X',hj]at h1;exact⟨k,h1,h2⟩
  obtain⟨k0,q1,q2⟩:=up j k h1 b' o h3;obtain⟨k1,q3,q4⟩:=up j' k' h2 b' o' h4;exact g.apart j j' k0 k1 b' o o' q1 q3 q2 q4
 ·intro b' o hm;exact g.outer b' o (fY b' o hm)
 ·intro b' o ho;exact g.outs b' o ho
include L in
theorem G.wg{X:Cx}{h:Heap C}{nx id b lo hi iP jl:Nat}{lim:ek}{t:C.Ty}{own gm:Bool}{l l':List (C.A t)}{v v':Value}{c:bY}{e:TypeId}(g:G T X h nx lim)
 (ho:h.get id=some (.vec t own l)) (hρ:X.ρ id=some (.vec v (T.dp t) b lo hi)) (nN:gJ v<=gJ v'/\(gJ v=gJ v'->v'=v))
 (ig:∀X':Cx,X'.w=X.w.alloc (.cells c e)->X'.O=X.O->(∀o,o<iP->¬X'.du X.w.heap.size o)->(∀o,¬X'.O X.w.heap.size o)->Step X nx lim X'->VJ T X' t gm l' v' X.w.heap.size iP jl) :
 ∃X',X'.w=X.w.alloc (.cells c e)/\X'.ρ id=some (.vec v' (T.dp t) X.w.heap.size iP jl)/\G T X' (h.put id (.vec t gm l')) nx lim/\Step X nx lim X':=by
 let X':Cx:=⟨X.w.alloc (.cells c e),fun j=>if j=id then some (.vec v' (T.dp t) X.w.heap.size iP jl)else X.ρ j,X.O⟩
 have fY:∀b' o,X'.du b' o->X.du b' o\/(b'=X.w.heap.size/\iP<=o):=by
  rintro b' o ⟨j,k,h1,h2⟩
  by_cases hj:j=id
  ·simp[X',hj]at h1;subst h1;exact .inr ⟨h2.1,h2.2.1⟩
  ·simp[X',hj]at h1;exact .inl ⟨j,k,h1,h2⟩
 have hs:Step X nx lim X':=by
  refine⟨rfl,rfl,rfl,rfl,by simp[X'],?_,?_,fun b o hb _=>ZH (Qz _ _ _ hb) o,fun b hb _=>Qz _ _ _ hb,fun a ha=>YG (Qz _ _ _ ha)⟩
  ·intro j _
   by_cases hj:j=id
   ·simp only[X',hj,aU];rw[hρ];exact⟨rfl,nN.1,nN.2⟩
   ·simp[X',hj,Qp.refl]
  ·intro b' o iW hm;rcases fY b' o hm with h1|h1
   ·exact h1
   ·omega
 have nK:Ch X X' nx lim id:=⟨hs,fun j hj=>by simp[X',hj],fun b c' e' f hb=>⟨c',by show(X.w.alloc _).heap[b]? = _;rw[Qz _ _ _ (aI.1 hb).1];exact hb,rfl,fun _ _=>rfl⟩,fun b o hb _ _=>by show(X.w.alloc _).heap[b]? = _;rw[Qz _ _ _ (aI.1 hb).1];exact hb⟩;obtain⟨o1,o2,o3,o4⟩:=G.dI L g nK;have dv:=g.jA id _ hρ
 have hV:=ig X' rfl rfl (by
  intro o h1 hm;rcases fY _ o hm with h2|h2
  ·have:=(g.outer _ _ h2).2;omega
  ·omega) (fun o ho=>by have:=g.outs _ _ ho;omega) hs
 refine⟨X',rfl,by simp[X'],⟨?_,?_,?_,?_,?_,?_,?_,?_,?_,g.low,g.pre.step hs⟩,hs⟩
 ·intro j t' e hg;rw[Qv dv]at hg
  by_cases hj:j=id
  ·simp[hj]at hg
  ·simp[hj]at hg;exact o1 j t' e hj hg
 ·intro j t' gm k hg;rw[Qv dv]at hg
  by_cases hj:j=id
  ·simp[hj]at hg;obtain⟨rfl,rfl,hg⟩:=hg;simp at hg;subst hg;exact⟨v',X.w.heap.size,iP,jl,by simp[X',hj],hV⟩
  ·simp[hj]at hg;exact o2 j t' gm k hj hg
 ·intro j ck cv k hg;rw[Qv dv]at hg
  by_cases hj:j=id
  ·simp[hj]at hg
  ·simp[hj]at hg;exact o3 j ck cv k hj hg
 ·intro j cc hg;rw[Qv dv]at hg
  by_cases hj:j=id
  ·simp[hj]at hg
  ·simp[hj]at hg;exact o4 j cc hj hg
 ·intro j k hr;rw[Qv dv]
  by_cases hj:j=id
  ·simp[hj]
  ·simp[X',hj]at hr ⊢;exact g.jA j k hr
 ·intro j o hg;rw[Qv dv]at hg
  by_cases hj:j=id
  ·simp[hj]at hg;subst hg;exact⟨hj▸(g.eL id _ ho).1,by simp[Obj.refs]⟩
  ·simp[hj]at hg;exact g.eL j o hg
 ·intro j j' k k' b' o o' h1 h2 h3 h4
  by_cases hj:j=id<;>by_cases mb:j'=id
  ·rw[hj,mb]
  ·simp[X',hj]at h1;simp[X',mb]at h2;subst h1;have h5:=h3.1;have:=(g.outer b' o' ⟨j',k',h2,h4⟩).2;omega
  ·simp[X',hj]at h1;simp[X',mb]at h2;subst h2;have h5:=h4.1;have:=(g.outer b' o ⟨j,k,h1,h3⟩).2;omega
  ·simp[X',hj]at h1;simp[X',mb]at h2;exact g.apart j j' k k' b' o o' h1 h2 h3 h4
 ·intro b' o hm;rcases fY b' o hm with h1|h1
  ·have:=g.outer b' o h1;exact⟨this.1,by simp[X'];omega⟩
  ·refine⟨fun ho=>?_,by simp[X'];omega⟩;have:=g.outs b' o ho;omega
 ·intro b' o ho;have:=g.outs b' o ho;simp[X'];omega
theorem Zr(w:World)(b:Nat)(o:Go.Obj)(j:Nat)(h:j≠b):({ w with heap:=w.heap.setIfInBounds b o }:World).heap[j]? = w.heap[j]? := by
 simp[Array.getElem?_setIfInBounds,Ne.symm h]
theorem KY(w:World)(b:Nat)(o o':Go.Obj)(h:w.heap[b]? = some o'):({ w with heap:=w.heap.setIfInBounds b o }:World).heap[b]? = some o:=by
 have:=(aI.1 h).1;simp[Array.getElem?_setIfInBounds,this]
include L in
theorem G.zr{X:Cx}{h:Heap C}{nx:Nat}{lim:ek}(g:G T X h nx lim)(hn:nx<lim.top)(ck cv:C.Ty) :
 ∃X',X'.w=X.w.alloc (.map #[] 0)/\G T X' ((nx,.map ck cv [])::h) (nx+1) lim/\Step X nx lim X'/\R T X' false (.mp nx) [.map (some X.w.heap.size)]:=by
 have hl:∀b o,(Loc.map X.w.heap.size).owns b o->b=X.w.heap.size:=fun b o h=>h;have hO:=g.outs
 let X':Cx:=⟨X.w.alloc (.map #[] 0),fun id=>if id=nx then some (.map X.w.heap.size)else X.ρ id,X.O⟩
 have hs:Step X nx lim X':=Step.oC g hn (.map #[] 0) _ hl;have hc:Ch X X' nx lim nx:=Ch.alloc g hn (.map #[] 0) _ hl;obtain⟨m1,m2,m3⟩:=G.jU g hn (.map #[] 0) _ hl (.map ck cv []);obtain⟨o1,o2,o3,o4⟩:=G.dI L g hc;refine⟨X',rfl,⟨?_,?_,?_,?_,m1,?_,m2,?_,fun b o ho=>bj (hO b o ho) hs.size,Nat.le_succ_of_le g.low,g.pre.step hs⟩,hs,?_⟩
 ·intro id t' d' hg;rw[Qy]at hg
  by_cases hi:id=nx
  ·simp[hi]at hg
  ·simp[hi]at hg;exact o1 id t' d' hi hg
 ·intro id t' own l hg;rw[Qy]at hg
  by_cases hi:id=nx
  ·simp[hi]at hg
  ·simp[hi]at hg;exact o2 id t' own l hi hg
 ·intro id lc ka l hg;rw[Qy]at hg
  by_cases hi:id=nx
  ·simp[hi]at hg;obtain⟨rfl,rfl,hg⟩:=hg;simp at hg;subst hg;exact⟨X.w.heap.size,#[],0,by simp[X',hi],Q4 _ _,.nil _ _ _ _ _⟩
  ·simp[hi]at hg;exact o3 id lc ka l hi hg
 ·intro id cc hg;rw[Qy]at hg
  by_cases hi:id=nx
  ·simp[hi]at hg
  ·simp[hi]at hg;exact o4 id cc hi hg
 ·intro id o hg;rw[Qy]at hg
  by_cases hi:id=nx
  ·simp[hi]at hg;subst hg;exact⟨hi▸g.new hn,fun r fK=>by simp[Obj.refs]at fK⟩
  ·simp[hi]at hg;exact g.ml (by omega) id o hg
 ·intro b o hm;have:=m3 b o hm;refine⟨?_,this.2⟩;rcases this.1 with h1|h1
  ·exact h1
  ·intro vF;have:=hO b o vF;omega
 ·refine .mp fun b' hv=>?_;simp[X']at hv;exact hv.symm
include L in
theorem G.oT{X:Cx}{h:Heap C}{nx id b:Nat}{lim:ek}{ck cv:C.Ty}{l l':List (C.A ck×C.A cv)}{es xd:dR}{k k':Nat}(g:G T X h nx lim)
 (ho:h.get id=some (.map ck cv l)) (hρ:X.ρ id=some (.map b)) (hb:X.w.heap[b]? = some (.map es k)) (hE:Kc T X ck cv l' xd k') :
 ∃X',X'.w={ X.w with heap:=X.w.heap.setIfInBounds b (.map xd k') }/\G T X' (h.put id (.map ck cv l')) nx lim/\Step X nx lim X':=by
 let X':Cx:=⟨{ X.w with heap:=X.w.heap.setIfInBounds b (.map xd k') },X.ρ,X.O⟩
 have iW:∀o,X.du b o:=fun o=>⟨id,_,hρ,rfl⟩
 have hs:Step X nx lim X':=by
  refine⟨rfl,rfl,rfl,rfl,by simp[X'],fun _ _=>.refl _,fun _ _ _ hm=>hm,fun g o _ gv=>?_,fun g _ gv=>?_,fun a ha=>?_⟩
  ·have jk:g≠b:=fun e=>gv (e▸iW o);exact ZH (Zr _ _ _ _ jk) o
  ·have jk:g≠b:=fun e=>gv 0 (e▸iW 0);exact Zr _ _ _ _ jk
  ·by_cases jk:a.block=b
   ·unfold World.frozen?;rw[jk,show X'.w.heap[b]? = _ from KY _ _ _ _ hb,hb]
   ·exact YG (Zr _ _ _ _ jk)
 have nK:Ch X X' nx lim id:=by
  refine⟨hs,fun _ _=>rfl,fun g c e f hg=>?_,fun g o2 hg _ gv=>?_⟩
  ·have jk:g≠b:=by rintro rfl;rw[hb]at hg;cases hg
   exact⟨c,by rw[show X'.w.heap[g]? = _ from Zr _ _ _ _ jk];exact hg,rfl,fun _ _=>rfl⟩
  ·have jk:g≠b:=by rintro rfl;exact gv _ hρ rfl
   rw[show X'.w.heap[g]? = _ from Zr _ _ _ _ jk];exact hg
 obtain⟨o1,o2,o3,o4⟩:=G.dI L g nK;have dv:=g.jA id _ hρ;refine⟨X',rfl,⟨?_,?_,?_,?_,?_,?_,g.apart,fun b o hm=>⟨(g.outer b o hm).1,?_⟩,fun b o hm=>?_,g.low,g.pre.step hs⟩,hs⟩
 ·intro j t' e hg;rw[Qv dv]at hg
  by_cases hj:j=id
  ·simp[hj]at hg
  ·simp[hj]at hg;exact o1 j t' e hj hg
 ·intro j t' gm k hg;rw[Qv dv]at hg
  by_cases hj:j=id
  ·simp[hj]at hg
  ·simp[hj]at hg;exact o2 j t' gm k hj hg
 ·intro j lc ka k hg;rw[Qv dv]at hg
  by_cases hj:j=id
  ·simp[hj]at hg;obtain⟨rfl,rfl,hg⟩:=hg;simp at hg;subst hg;exact⟨b,xd,k',by simp[X',hj,hρ],KY _ _ _ _ hb,hE.step L hs⟩
  ·simp[hj]at hg;exact o3 j lc ka k hj hg
 ·intro j cc hg;rw[Qv dv]at hg
  by_cases hj:j=id
  ·simp[hj]at hg
  ·simp[hj]at hg;exact o4 j cc hj hg
 ·intro j k hr;rw[Qv dv]
  by_cases hj:j=id
  ·simp[hj]
  ·simp[hj];exact g.jA j k hr
 ·intro j o hg;rw[Qv dv]at hg
  by_cases hj:j=id
  ·simp[hj]at hg;subst hg;exact⟨hj▸(g.eL id _ ho).1,by simp[Obj.refs]⟩
  ·simp[hj]at hg;exact g.eL j o hg
 ·have:=(g.outer b o hm).2;simp[X'];exact this
 ·have:=g.outs b o hm;simp[X'];exact this
include L in
theorem G.GY{X:Cx}{h:Heap C}{nx:Nat}{lim:ek}(g:G T X h nx lim)(hn:nx<lim.top)(rec:Loop)(ex:Nat)(dV:rec.state=.ready)(hp:rec.pending=none) :
 ∃X',X'.w=X.w.alloc (.loop rec)/\X'.O=X.O/\X'.ρ nx=some (.dG (.lp X.w.heap.size rec))/\G T X' ((nx,.dG (.lp false false ex))::h) (nx+1) lim/\Step X nx lim X':=by
 have hl:∀b o,(Loc.dG (.lp X.w.heap.size rec)).owns b o->b=X.w.heap.size:=fun b o h=>h;have hO:=g.outs
 let X':Cx:=⟨X.w.alloc (.loop rec),fun id=>if id=nx then some (.dG (.lp X.w.heap.size rec))else X.ρ id,X.O⟩
 have hs:Step X nx lim X':=Step.oC g hn (.loop rec) _ hl;have hc:Ch X X' nx lim nx:=Ch.alloc g hn (.loop rec) _ hl;obtain⟨m1,m2,m3⟩:=G.jU g hn (.loop rec) _ hl (.dG (.lp false false ex));obtain⟨o1,o2,o3,o4⟩:=G.dI L g hc;refine⟨X',rfl,rfl,by simp[X'],⟨?_,?_,?_,?_,m1,?_,m2,?_,fun b o ho=>bj (hO b o ho) hs.size,Nat.le_succ_of_le g.low,g.pre.step hs⟩,hs⟩
 ·intro id t' d' hg;rw[Qy]at hg
  by_cases hi:id=nx
  ·simp[hi]at hg
  ·simp[hi]at hg;exact o1 id t' d' hi hg
 ·intro id t' own l hg;rw[Qy]at hg
  by_cases hi:id=nx
  ·simp[hi]at hg
  ·simp[hi]at hg;exact o2 id t' own l hi hg
 ·intro id lc ka l hg;rw[Qy]at hg
  by_cases hi:id=nx
  ·simp[hi]at hg
  ·simp[hi]at hg;exact o3 id lc ka l hi hg
 ·intro id cc hg;rw[Qy]at hg
  by_cases hi:id=nx
  ·simp[hi]at hg;subst hg;refine⟨.lp X.w.heap.size rec,by simp[X',hi],none,?_,fun _=>rfl,fun h=>by cases h⟩;show(X.w.alloc (.loop rec)).heap[X.w.heap.size]? = _;rw[Q4]
   have:({ rec with state:=oO false false,pending:=none }:Loop)=rec:=by
    show({ rec with state:=LoopState.ready,pending:=none }:Loop)=rec;rw[<-dV,<-hp]
   rw[this]
  ·simp[hi]at hg;exact o4 id cc hi hg
 ·intro id o hg;rw[Qy]at hg
  by_cases hi:id=nx
  ·simp[hi]at hg;subst hg;exact⟨hi▸g.new hn,fun r fK=>by simp[Obj.refs]at fK⟩
  ·simp[hi]at hg;exact g.ml (by omega) id o hg
 ·intro b o hm;have:=m3 b o hm;refine⟨?_,this.2⟩;rcases this.1 with h1|h1
  ·exact h1
  ·intro vF;have:=hO b o vF;omega
include L in
theorem G.uh{X:Cx}{h:Heap C}{nx id b:Nat}{lim:ek}{rec:Loop}{cc:ru C}{busy dn:Bool}{ex:Nat}{o0:Go.Obj}{pend:Option Code}(g:G T X h nx lim)
 (ho:h.get id=some (.dG cc)) (hρ:X.ρ id=some (.dG (.lp b rec))) (hb:X.w.heap[b]? = some o0) (hn:∀c e f,o0 ≠ .cells c e f) (hp:(dn=false->pend=none)/\(dn=true->pend=some (.exit ex))) :
 ∃X',X'.w={ X.w with heap:=X.w.heap.setIfInBounds b (.loop { rec with state:=oO busy dn,pending:=pend }) }/\X'.ρ=X.ρ/\G T X' (h.put id (.dG (.lp busy dn ex))) nx lim/\Step X nx lim X':=by
 let X':Cx:=⟨{ X.w with heap:=X.w.heap.setIfInBounds b (.loop { rec with state:=oO busy dn,pending:=pend }) },X.ρ,X.O⟩
 have iW:∀o,X.du b o:=fun o=>⟨id,_,hρ,rfl⟩
 have hs:Step X nx lim X':=by
  refine⟨rfl,rfl,rfl,rfl,by simp[X'],fun _ _=>.refl _,fun _ _ _ hm=>hm,fun g o _ gv=>?_,fun g _ gv=>?_,fun a ha=>?_⟩
  ·have jk:g≠b:=fun e=>gv (e▸iW o);exact ZH (Zr _ _ _ _ jk) o
  ·have jk:g≠b:=fun e=>gv 0 (e▸iW 0);exact Zr _ _ _ _ jk
  ·by_cases jk:a.block=b
   ·unfold World.frozen?;rw[jk,show X'.w.heap[b]? = _ from KY _ _ _ _ hb,hb];cases o0<;>first|rfl|exact absurd rfl (hn _ _ _)
   ·exact YG (Zr _ _ _ _ jk)
 have nK:Ch X X' nx lim id:=by
  refine⟨hs,fun _ _=>rfl,fun g c e f hg=>?_,fun g o2 hg _ gv=>?_⟩
  ·have jk:g≠b:=by rintro rfl;rw[hb]at hg;cases hg;exact hn _ _ _ rfl
   exact⟨c,by rw[show X'.w.heap[g]? = _ from Zr _ _ _ _ jk];exact hg,rfl,fun _ _=>rfl⟩
  ·have jk:g≠b:=by rintro rfl;exact gv _ hρ rfl
   rw[show X'.w.heap[g]? = _ from Zr _ _ _ _ jk];exact hg
 obtain⟨o1,o2,o3,o4⟩:=G.dI L g nK;have dv:=g.jA id _ hρ;refine⟨X',rfl,rfl,⟨?_,?_,?_,?_,?_,?_,g.apart,fun b o hm=>⟨(g.outer b o hm).1,?_⟩,fun b o hm=>?_,g.low,g.pre.step hs⟩,hs⟩
 ·intro j t' e hg;rw[Qv dv]at hg
  by_cases hj:j=id
  ·simp[hj]at hg
  ·simp[hj]at hg;exact o1 j t' e hj hg
 ·intro j t' gm k hg;rw[Qv dv]at hg
  by_cases hj:j=id
  ·simp[hj]at hg
  ·simp[hj]at hg;exact o2 j t' gm k hj hg
 ·intro j lc ka k hg;rw[Qv dv]at hg
  by_cases hj:j=id
  ·simp[hj]at hg
  ·simp[hj]at hg;exact o3 j lc ka k hj hg
 ·intro j c2 hg;rw[Qv dv]at hg
  by_cases hj:j=id
  ·simp[hj]at hg;subst hg;exact⟨.lp b rec,by simp[X',hj,hρ],pend,KY _ _ _ _ hb,hp⟩
  ·simp[hj]at hg;exact o4 j c2 hj hg
 ·intro j k hr;rw[Qv dv]
  by_cases hj:j=id
  ·simp[hj]
  ·simp[hj];exact g.jA j k hr
 ·intro j o hg;rw[Qv dv]at hg
  by_cases hj:j=id
  ·simp[hj]at hg;subst hg;exact⟨hj▸(g.eL id _ ho).1,by simp[Obj.refs]⟩
  ·simp[hj]at hg;exact g.eL j o hg
 ·have:=(g.outer b o hm).2;simp[X'];exact this
 ·have:=g.outs b o hm;simp[X'];exact this
include L in
theorem G.Hc{X:Cx}{h:Heap C}{nx id bm r:Nat}{lim:ek}{cc:ru C}{o0 ob:Go.Obj}{c2:ru C}(g:G T X h nx lim)
 (ho:h.get id=some (.dG cc)) (hρ:X.ρ id=some (.dG (.it bm r))) (hb:X.w.heap[r]? = some o0) (hn:∀c e f,o0 ≠ .cells c e f) (na:∀c e f,ob ≠ .cells c e f)
 (ig:∀X':Cx,X'.w={ X.w with heap:=X.w.heap.setIfInBounds r ob }->Step X nx lim X'->u5 T X' c2 (.it bm r)) :
 ∃X',X'.w={ X.w with heap:=X.w.heap.setIfInBounds r ob }/\X'.ρ=X.ρ/\G T X' (h.put id (.dG c2)) nx lim/\Step X nx lim X':=by
 let X':Cx:=⟨{ X.w with heap:=X.w.heap.setIfInBounds r ob },X.ρ,X.O⟩
 have iW:∀o,X.du r o:=fun o=>⟨id,_,hρ,.inr rfl⟩
 have hs:Step X nx lim X':=by
  refine⟨rfl,rfl,rfl,rfl,by simp[X'],fun _ _=>.refl _,fun _ _ _ hm=>hm,fun g o _ gv=>?_,fun g _ gv=>?_,fun a ha=>?_⟩
  ·have jk:g≠r:=fun e=>gv (e▸iW o);exact ZH (Zr _ _ _ _ jk) o
  ·have jk:g≠r:=fun e=>gv 0 (e▸iW 0);exact Zr _ _ _ _ jk
  ·by_cases jk:a.block=r
   ·unfold World.frozen?;rw[jk,show X'.w.heap[r]? = _ from KY _ _ _ _ hb,hb];cases o0<;>cases ob<;>first|rfl|exact absurd rfl (hn _ _ _)|exact absurd rfl (na _ _ _)
   ·exact YG (Zr _ _ _ _ jk)
 have nK:Ch X X' nx lim id:=by
  refine⟨hs,fun _ _=>rfl,fun g c e f hg=>?_,fun g o2 hg _ gv=>?_⟩
  ·have jk:g≠r:=by rintro rfl;rw[hb]at hg;cases hg;exact hn _ _ _ rfl
   exact⟨c,by rw[show X'.w.heap[g]? = _ from Zr _ _ _ _ jk];exact hg,rfl,fun _ _=>rfl⟩
  ·have jk:g≠r:=by rintro rfl;exact gv _ hρ (.inr rfl)
   rw[show X'.w.heap[g]? = _ from Zr _ _ _ _ jk];exact hg
 obtain⟨o1,o2,o3,o4⟩:=G.dI L g nK;have dv:=g.jA id _ hρ;refine⟨X',rfl,rfl,⟨?_,?_,?_,?_,?_,?_,g.apart,fun b o hm=>⟨(g.outer b o hm).1,?_⟩,fun b o hm=>?_,g.low,g.pre.step hs⟩,hs⟩
 ·intro j t' e hg;rw[Qv dv]at hg
  by_cases hj:j=id
  ·simp[hj]at hg
  ·simp[hj]at hg;exact o1 j t' e hj hg
 ·intro j t' gm k hg;rw[Qv dv]at hg
  by_cases hj:j=id
  ·simp[hj]at hg
  ·simp[hj]at hg;exact o2 j t' gm k hj hg
 ·intro j lc ka k hg;rw[Qv dv]at hg
  by_cases hj:j=id
  ·simp[hj]at hg
  ·simp[hj]at hg;exact o3 j lc ka k hj hg
 ·intro j c3 hg;rw[Qv dv]at hg
  by_cases hj:j=id
  ·simp[hj]at hg;subst hg;exact⟨.it bm r,by simp[X',hj,hρ],ig X' rfl hs⟩
  ·simp[hj]at hg;exact o4 j c3 hj hg
 ·intro j k hr;rw[Qv dv]
  by_cases hj:j=id
  ·simp[hj]
  ·simp[hj];exact g.jA j k hr
 ·intro j o hg;rw[Qv dv]at hg
  by_cases hj:j=id
  ·simp[hj]at hg;subst hg;exact⟨hj▸(g.eL id _ ho).1,by simp[Obj.refs]⟩
  ·simp[hj]at hg;exact g.eL j o hg
 ·have:=(g.outer b o hm).2;simp[X'];exact this
 ·have:=g.outs b o hm;simp[X'];exact this
include L in
theorem G.GX{X:Cx}{h:Heap C}{nx id b:Nat}{lim:ek}{ck cv:C.Ty}{l:List (C.A ck×C.A cv)}{es:dR}{k:Nat}(g:G T X h nx lim)(hn:nx<lim.top)
 (ho:h.get id=some (.map ck cv l)) (hρ:X.ρ id=some (.map b)) (hb:X.w.heap[b]? = some (.map es k)) (hE:Kc T X ck cv l es k) :
 ∃X',X'.w=X.w.alloc (.mapIter (some b) k #[] k)/\G T X' ((nx,.dG (.it ck cv l))::h.del id) (nx+1) lim/\Step X nx lim X'/\R T X' false (.jN nx) [.pointer (some ⟨X.w.heap.size,0,none⟩)]:=by
 let ob:Go.Obj:=.mapIter (some b) k #[] k
 let X':Cx:=⟨X.w.alloc ob,fun j=>if j=nx then some (.dG (.it b X.w.heap.size))else if j=id then none else X.ρ j,X.O⟩
 have cU:b<X.w.heap.size:=(aI.1 hb).1;have yW:id≠nx:=by rintro rfl;rw[g.fresh hn]at hρ;cases hρ
 have fY:∀b' o,X'.du b' o->X.du b' o\/b'=X.w.heap.size:=by
  rintro b' o ⟨j,l',h1,h2⟩
  by_cases hj:j=nx
  ·simp[X',hj]at h1;subst h1;rcases h2 with h2|h2
   ·exact .inl ⟨id,_,hρ,h2⟩
   ·exact .inr h2
  ·by_cases jM:j=id
   ·simp only[X',hj,jM,yW,aL,aU]at h1;cases h1
   ·simp only[X',hj,jM,aL]at h1;exact .inl ⟨j,l',h1,h2⟩
 have hs:Step X nx lim X':=by
  refine⟨rfl,rfl,rfl,rfl,by simp[X'],?_,?_,fun b o hb _=>ZH (Qz _ _ _ hb) o,fun b hb _=>Qz _ _ _ hb,fun a ha=>YG (Qz _ _ _ ha)⟩
  ·intro j gz;have hj:j≠nx:=by have:=gz.1;omega
   by_cases jM:j=id
   ·simp only[X',hj,jM,yW,aL,aU];cases X.ρ id<;>simp[Qp]
   ·simp[X',hj,jM,Qp.refl]
  ·intro b' o iW hm;rcases fY b' o hm with h1|h1
   ·exact h1
   ·omega
 have hold:∀b',b'<X.w.heap.size->X'.w.heap[b']? = X.w.heap[b']? := fun b' iW=>Qz _ _ _ iW;have nK:Ch X X' nx lim nx->True:=fun _=>trivial;have sub:∀j,j≠nx->j≠id->X'.ρ j=X.ρ j:=fun j h1 h2=>by simp[X',h1,h2]
 obtain⟨gd,LG⟩:∃X0:Cx,X0=⟨X.w,fun j=>if j=id then none else X.ρ j,X.O⟩:=⟨_,rfl⟩
 -- wy aai tP is aad up,a new block is made
 obtain⟨X1,w1,g1,s1,m7⟩:=G.drop L g (h':=h.del id) (fun j=>by rw[Zn];by_cases hj:j=id<;>simp[hj])
 have qB:X1.ρ id=none:=by
  cases hq:X1.ρ id with
  |none=>rfl
  |some l'=>
   have:=g1.jA id l' hq;rw[Zn]at this;simp at this
 have hO1:X1.O=X.O:=s1.O;refine⟨X',rfl,⟨?_,?_,?_,?_,?_,?_,?_,?_,?_,Nat.le_succ_of_le g.low,g.pre.step hs⟩,hs,?_⟩
 ·intro j t' d' hg;rw[Qy]at hg
  by_cases hj:j=nx
  ·simp[hj]at hg
  ·simp only[hj,aL]at hg;rw[Zn]at hg
   by_cases jM:j=id
   ·simp[jM]at hg
   ·simp only[jM,aL]at hg;obtain⟨b',c,h1,h2,h3,h4⟩:=g.var j t' d' hg;exact⟨b',c,by rw[sub j hj jM];exact h1,by rw[hold b' (aI.1 h2).1];exact h2,h3.step L hs (g.eL j _ hg).2,h4⟩
 ·intro j t' own l' hg;rw[Qy]at hg
  by_cases hj:j=nx
  ·simp[hj]at hg
  ·simp only[hj,aL]at hg;rw[Zn]at hg
   by_cases jM:j=id
   ·simp[jM]at hg
   ·simp only[jM,aL]at hg;obtain⟨v,b',lo,hi,h1,h2⟩:=g.vec j t' own l' hg;refine⟨v,b',lo,hi,by rw[sub j hj jM];exact h1,?_⟩;rcases h2 with h2|⟨off,cp,h2,h3,h4,h5⟩
    ·exact .inl h2
    ·refine .inr ⟨off,cp,h2,h3,h4,?_⟩;rcases h5 with⟨ht,fX,h5|⟨cs,e,h5,h6,h7⟩⟩|⟨ht,fX,⟨cs,h5,h6⟩,h7⟩
     ·exact .inl ⟨ht,fX,.inl h5⟩
     ·exact .inl ⟨ht,fX,.inr ⟨cs,e,by rw[hold b' (aI.1 h5).1];exact h5,h6,h7.step L hs (by simp[D.refs])⟩⟩
     ·refine .inr ⟨ht,fX,⟨cs,h5.step hs,h6.step L hs (by simp[D.refs])⟩,?_⟩;rcases h7 with h7|⟨c0,e,h7,h8⟩
      ·exact .inl h7
      ·exact .inr ⟨c0,e,by rw[hold b' (aI.1 h7).1];exact h7,h8⟩
 ·intro j lc ka l' hg;rw[Qy]at hg
  by_cases hj:j=nx
  ·simp[hj]at hg
  ·simp only[hj,aL]at hg;rw[Zn]at hg
   by_cases jM:j=id
   ·simp[jM]at hg
   ·simp only[jM,aL]at hg;obtain⟨b',xd,k',h1,h2,h3⟩:=g.map j lc ka l' hg;exact⟨b',xd,k',by rw[sub j hj jM];exact h1,by rw[hold b' (aI.1 h2).1];exact h2,h3.step L hs⟩
 ·intro j cc hg;rw[Qy]at hg
  by_cases hj:j=nx
  ·simp[hj]at hg;subst hg;refine⟨.it b X.w.heap.size,by simp[X',hj],Nat.ne_of_lt cU,es,k,#[],k,by rw[hold b cU];exact hb,Q4 _ _,?_,hE.born,aq _,hE.nodup⟩;have:(es.toList.filter fun e=>!(#[]:Array Nat).contains e.born)=es.toList:=List.filter_eq_self.2 fun x _=>by simp
   rw[this];exact(hE.step L hs).rJ
  ·simp only[hj,aL]at hg;rw[Zn]at hg
   by_cases jM:j=id
   ·simp[jM]at hg
   ·simp only[jM,aL]at hg;obtain⟨s,h1,h2⟩:=g.dG j cc hg;refine⟨s,by rw[sub j hj jM];exact h1,?_⟩;cases cc with
    |lp busy dn ex=>
     cases s with
     |lp b2 rec=>
      obtain⟨pend,h3,h4⟩:=h2;exact⟨pend,by rw[hold b2 (aI.1 h3).1];exact h3,h4⟩
     |it bm r=>exact h2.elim
    |it lc ka l'=>
     cases s with
     |lp b rec=>exact h2.elim
     |it bm r=>
      obtain⟨RX,xd,si,se,k',h3,h4,h5,h6⟩:=h2;exact⟨RX,xd,si,se,k',by rw[hold bm (aI.1 h3).1];exact h3,by rw[hold r (aI.1 h4).1];exact h4,h5.step L hs,h6⟩
 ·intro j l' hr;rw[Qy]
  by_cases hj:j=nx
  ·simp[hj]
  ·by_cases jM:j=id
   ·subst jM;simp[X',hj]at hr
   ·rw[sub j hj jM]at hr;simp only[hj,aL];rw[Zn];simp only[jM,aL];exact g.jA j l' hr
 ·intro j o hg;rw[Qy]at hg
  by_cases hj:j=nx
  ·simp[hj]at hg;subst hg;exact⟨hj▸g.new hn,fun r fK=>by simp[Obj.refs]at fK⟩
  ·simp only[hj,aL]at hg;rw[Zn]at hg
   by_cases jM:j=id
   ·simp[jM]at hg
   ·simp only[jM,aL]at hg;exact g.ml (by omega) j o hg
 ·have up:∀j l',X'.ρ j=some l'->∀b' o,l'.owns b' o->b'<X.w.heap.size->∃l0,X.ρ (if j=nx then id else j)=some l0/\l0.owns b' o:=by
   intro j l' h1 b' o h2 iW
   by_cases hj:j=nx
   ·simp only[X',hj,aU,aD]at h1;subst h1;rcases h2 with h2|h2
    ·exact⟨.map b,by rw[ax hj];exact hρ,h2⟩
    ·omega
   ·by_cases jM:j=id
    ·subst jM;simp[X',hj]at h1
    ·rw[sub j hj jM]at h1;exact⟨l',by rw[aw hj];exact h1,h2⟩
  have S6:∀j l',X'.ρ j=some l'->j≠id:=fun j l' h1 e=>by subst e;simp[X',yW]at h1
  have top:∀j l',X'.ρ j=some l'->∀o,l'.owns X.w.heap.size o->j=nx:=by
   intro j l' h1 o h2;refine Classical.byContradiction fun hj=>?_;have jM:=S6 j l' h1;rw[sub j hj jM]at h1;have:=(g.outer _ o ⟨j,l',h1,h2⟩).2;omega
  intro i j l1 l2 b' o o' h1 h2 h3 h4
  by_cases iW:b'<X.w.heap.size
  ·obtain⟨k1,q1,q2⟩:=up i l1 h1 b' o h3 iW;obtain⟨k2,q3,q4⟩:=up j l2 h2 b' o' h4 iW;have e:=g.apart _ _ _ _ _ _ _ q1 q3 q2 q4
   by_cases hi:i=nx<;>by_cases hj:j=nx
   ·rw[hi,hj]
   ·simp only[hi,hj,aU,aL]at e;exact absurd e.symm (S6 j l2 h2)
   ·simp only[hi,hj,aU,aL]at e;exact absurd e (S6 i l1 h1)
   ·simpa only[hi,hj,aL]using e
  ·have hbs:b'=X.w.heap.size:=by
    rcases fY b' o ⟨i,l1,h1,h3⟩with q|q
    ·exact absurd (g.outer b' o q).2 iW
    ·exact q
   subst hbs;rw[top i l1 h1 o h3,top j l2 h2 o' h4]
 ·intro b' o hm;rcases fY b' o hm with h1|h1
  ·have:=g.outer b' o h1;exact⟨this.1,by simp[X'];omega⟩
  ·refine⟨fun gz=>?_,by simp[X'];omega⟩;have:=g.outs b' o gz;omega
 ·intro b' o gz;have:=g.outs b' o gz;simp[X'];omega
 ·refine .jN fun s hv=>?_;simp[X']at hv;exact⟨b,hv.symm⟩
include L in
theorem G.grow{X:Cx}{h:Heap C}{nx:Nat}{lim:ek}(g:G T X h nx lim)(w':World)(fB:X.w.heap.size<=w'.heap.size)(hh:∀b,b<X.w.heap.size->w'.heap[b]? = X.w.heap[b]?)(h1:w'.os=X.w.os)(h2:w'.tape=X.w.tape)(h3:w'.output=X.w.output)
 (h4:∀a:Addr,a.block<X.w.heap.size->w'.frozen? a=X.w.frozen? a):G T ⟨w',X.ρ,X.O⟩ h nx lim/\Step X nx lim ⟨w',X.ρ,X.O⟩:=by
 have hs:Step X nx lim ⟨w',X.ρ,X.O⟩:=⟨rfl,h1,h2,h3,fB,fun _ _=>.refl _,fun _ _ _ hm=>hm,fun b o hb _=>by simp[World.cell?,hh b hb],fun b hb _=>hh b hb,h4⟩;have hc:∀n,Ch X ⟨w',X.ρ,X.O⟩ nx lim n:=fun n=>⟨hs,fun _ _=>rfl,fun b c e f hb=>⟨c,by simp only;rw[hh b (aI.1 hb).1];exact hb,rfl,fun _ _=>rfl⟩,fun b o hb _ _=>by simp only;rw[hh b (aI.1 hb).1];exact hb⟩;refine⟨⟨?_,?_,?_,?_,g.jA,g.eL,g.apart,?_,?_,g.low,g.pre.step hs⟩,hs⟩
 ·intro id t d ho
  by_cases hi:id=0
  ·exact(G.dI L g (hc 1)).1 id t d (by omega) ho
  ·exact(G.dI L g (hc 0)).1 id t d hi ho
 ·intro id t own l ho
  by_cases hi:id=0
  ·exact(G.dI L g (hc 1)).2.1 id t own l (by omega) ho
  ·exact(G.dI L g (hc 0)).2.1 id t own l hi ho
 ·intro id ck cv l ho
  by_cases hi:id=0
  ·exact(G.dI L g (hc 1)).2.2.1 id ck cv l (by omega) ho
  ·exact(G.dI L g (hc 0)).2.2.1 id ck cv l hi ho
 ·intro id cc ho
  by_cases hi:id=0
  ·exact(G.dI L g (hc 1)).2.2.2 id cc (by omega) ho
  ·exact(G.dI L g (hc 0)).2.2.2 id cc hi ho
 ·intro b o hm;have:=g.outer b o hm;exact⟨this.1,by simp only;omega⟩
 ·intro b o hm;have:=g.outs b o hm;simp only at this ⊢;omega
end
section
variable {C:gR}
structure Zo(P:Program)(T:fh C):Prop where
 base:Laws T
 ov:∀u,T.ty u=.bool->P.underlying u=some .bool
 nD:∀u k,T.ty u=.int k->P.underlying u=some (.int k)
 k9:∀u,T.ty u=.str->P.underlying u=some .string
 jW:∀u fs,T.ty u=.struct false fs->∃fields:Array Field,P.underlying u=some (.struct fields)/\fields.toList.map (·.type)=fs /\
  (∀ i (f : Field),fields[i]? = some f->f.offset=Zh T (fs.take i)) /\ P.stoodInHeld u=false /\ P.eqGuardType P.depth u=false /\ (∀ f ∈ fields.toList,f.name ≠ "_")
 qQ:∀u fs f,T.ty u=.struct false fs->f∈fs->∃i,P.info? f=some i/\i.size=T.size f/\0<T.size f
 qR:∀u fs,T.ty u=.struct true fs->∃e,P.underlying u=some (.array fs.length e)/\fs=List.replicate fs.length e/\0<fs.length/\∃i,P.info? e=some i/\i.size=T.size e
 oa:∀u n e t,T.ty u=.arr n e t->P.underlying u=some (.array n e)/\P.eqGuardType P.depth u=false
 oX:∀u e t,T.ty u=.sl e t->P.underlying u=some (.slice e)
 kP:∀u e t,(∃n,T.ty u=.arr n e t)\/T.ty u=.sl e t->∃i z,P.info? e=some i/\i.size=T.size e/\i.bytes=T.bytes e/\0<T.bytes e/\0<T.size e/\i.zero=some z/\z.cells.size=T.size e /\
  ∀X,R T X false (T.enc t (T.eU t)) z.cells.toList
 qP:∀u e,T.ty u=.fO e->P.underlying u=some (.slice e)/\(∀d,fit T d (.inl e)=true->d.de=false)/\∃i z,P.info? e=some i/\i.size=1/\i.zero=some z/\z.cells.size=1/\i.bytes<=1024
 uk:∀u k v ck cv,T.ty u=.map k v ck cv->P.underlying u=some (.map k v)/\T.ty k=T.ty (T.dp ck)/\T.ty v=T.ty (T.dp cv)/\((∃ik,T.ty k=.int ik)\/T.ty k=.str\/T.ty k=.bool) /\
  ∃i z,P.info? v=some i/\i.zero=some z/\∀X,RV T X (T.enc cv (T.eU cv)) z
 Hl:∀u e,T.ty u=.ptr e->P.underlying u=some (.pointer e)
 uFn:∀u,T.ty u=.fn->∃a b c,P.underlying u=some (.func a b c)
 v8:∀u d,fit T d (.inl u)=true->∃i,P.info? u=some i/\i.size=T.size u
 zero:∀u z,T.zero u=some z->∃i v,P.info? u=some i/\i.zero=some v/\z.refs=[]/\∀X,R T X false z v.cells.toList
 sM:∀t a b r,T.sM t a b=some r->o5 (T.enc t a) (T.enc t b)=some r
 order:P.follows .mixedOrders=true
variable {P:Program}{T:fh C}(K:Zo P T)
section inversions
variable {X:Cx}{v:Value}
theorem RV.int{k:IntKind}{n:Int}(h:RV T X (.int k n) v):v=.int k n/\k.min<=n/\n<=k.max:=by
 rcases h with⟨h,_⟩|⟨_,h⟩
 ·simp[D.de]at h
 ·cases h with|int h=>exact⟨rfl,h⟩
theorem RV.bool{b:Bool}(h:RV T X (.bool b) v):v=.bool b:=by
 rcases h with⟨h,_⟩|⟨_,h⟩
 ·simp[D.de]at h
 ·cases h;rfl
theorem RV.str{s:bL}(h:RV T X (.str s) v):v=.string ⟨⟨s⟩⟩:=by
 rcases h with⟨h,_⟩|⟨_,h⟩
 ·simp[D.de]at h
 ·cases h;rfl
theorem RV.ez(h:RV T X .ez v):v=.slice none 0 0:=by
 rcases h with⟨h,_⟩|⟨_,h⟩
 ·simp[D.de]at h
 ·cases h;rfl
theorem RV.one{d:D C}(hd:d.de=false)(h:RV T X d v):R T X false d [v]:=by
 rcases h with⟨h,_⟩|⟨_,h⟩
 ·simp[hd]at h
 ·exact h
theorem RV.row{d:D C}(hd:d.de=true)(h:RV T X d v):∃cs,R T X false d cs/\v=.agg ⟨cs⟩:=by
 rcases h with⟨_,h⟩|⟨h,_⟩
 ·exact h
 ·simp[hd]at h
theorem RV.mk{d:D C}(hd:d.de=false)(h:R T X false d [v]):RV T X d v:=.inr ⟨hd,h⟩
end inversions
theorem RO.mk{X:Cx}{nx:Nat}{lim:ek}{d:D C}{v:Value}(h:RV T X d v)(hr:d.refs=[]):RO T X nx lim d v:=⟨h,by simp[hr]⟩
theorem R.gK{X:Cx}(L:Laws T){m:Bool}{d:D C}{cs:bT}(h:R T X m d cs):m=false->((∃u,fit T d u=true)\/∃t n l,d=.arr t n l)->∀v∈cs,v.oneCell'=true:=by
 induction h with
 | @bI d ds c1 c2 _ _ i1 i2=>
  rintro hm (⟨u,hf⟩|⟨t,n,l,hd⟩)
  ·have:(∃u,fit T d u=true)/\(∃u,fit T ds u=true):=by
    cases u with
    |inl t=>
     cases ht:T.ty t<;>simp only[fit,ht,bu]at hf
     rename_i fs;cases fs with
     |nil=>simp at hf
     |cons f fs=>simp only[ai]at hf;exact⟨⟨_,hf.1⟩,⟨_,hf.2⟩⟩
    |inr fs=>
     cases fs with
     |nil=>simp[fit]at hf
     |cons f fs=>simp only[fit,ai]at hf;exact⟨⟨_,hf.1⟩,⟨_,hf.2⟩⟩
   intro v hv;rcases aT.1 hv with hv|hv
   ·exact i1 hm (.inl this.1) v hv
   ·exact i2 hm (.inl this.2) v hv
  ·simp at hd
 |iS _ _ i1 i2=>
  intro hm _ v hv;rcases aT.1 hv with hv|hv
  ·exact i1 hm (.inl ⟨_,L.fS _ _⟩) v hv
  ·exact i2 hm (.inr ⟨_,_,_,rfl⟩) v hv
 |cG|top=>
  rintro _ (⟨u,hf⟩|⟨t,n,l,hd⟩)
  ·cases u<;>simp[fit]at hf
  ·simp at hd
 |iu|jh|iQ=>intro hm;simp at hm
 |_=>intro _ _ v hv;first|(simp at hv;done)|(simp only[bE]at hv;subst hv;rfl)
include K in
theorem RV.cells{X:Cx}{d:D C}{v:Value}(h:RV T X d v){t:TypeId}(hf:fit T d (.inl t)=true):R T X false d v.cells.toList:=by
 rcases h with⟨_,cs,h,rfl⟩|⟨_,h⟩
 ·exact h
 ·have:=h.gK K.base rfl (.inl ⟨_,hf⟩) v (by simp);cases v<;>simp[Value.oneCell']at this<;>exact h
theorem Kd{d:D C}{t:TypeId}(hf:fit T d (.inl t)=true):d.de=true↔((∃a fs,T.ty t=.struct a fs)\/∃n e ty,T.ty t=.arr n e ty):=by
 cases d<;>cases ht:T.ty t<;>simp[fit,ht,D.de]at hf ⊢
include K in
theorem HO{d:D C}{t:TypeId}(hf:fit T d (.inl t)=true)(w:World):(isAgg t).run P w=.ok d.de w:=by
 have hr:=Kd hf;cases hb:d.de with
 |true=>
  rcases hr.1 hb with⟨a,fs,ht⟩|⟨n,e,ty,ht⟩
  ·cases a with
   |false=>
    obtain⟨fields,hu,_⟩:=K.jW _ _ ht;simp[isAgg,aB hu]
   |true=>
    obtain⟨e,hu,_⟩:=K.qR _ _ ht;simp[isAgg,aB hu]
  ·simp[isAgg,aB (K.oa _ _ _ _ ht).1]
 |false=>
  cases ht:T.ty t with
  |struct a fs=>have:=hr.2 (.inl ⟨a,fs,ht⟩);simp[hb]at this
  |arr n e ty=>have:=hr.2 (.inr ⟨n,e,ty,ht⟩);simp[hb]at this
  |bool=>simp[isAgg,aB (K.ov _ ht)]
  |int k=>simp[isAgg,aB (K.nD _ _ ht)]
  |str=>simp[isAgg,aB (K.k9 _ ht)]
  |sl e ty=>simp[isAgg,aB (K.oX _ _ _ ht)]
  |ptr e=>simp[isAgg,aB (K.Hl _ _ ht)]
  |fn=>obtain⟨a,b,c,hu⟩:=K.uFn _ ht;simp[isAgg,aB hu]
  |fO e=>simp[isAgg,aB (K.qP _ _ ht).1]
  |map k v ck cv=>simp[isAgg,aB (K.uk _ _ _ _ _ ht).1]
  |none=>cases d<;>simp[fit,ht]at hf
include K in
theorem HA{d:D C}{t:TypeId}(hf:fit T d (.inl t)=true)(w:World):(sizeOf t).run P w=.ok (T.size t) w:=by
 obtain⟨i,hi,hs⟩:=K.v8 _ _ hf;simp[sizeOf,typeInfo,hi,hs]
include K in
theorem Ke{X:Cx}{x:D C}{t:TypeId}{b off:Nat}{cs:bT}{w:World}(hf:fit T x (.inl t)=true)(h:R T X false x cs)(hc:∀j v,cs[j]? = some v->w.cell? ⟨b,off+j,none⟩=some v) :
 ∃v,(loadVar t ⟨b,off,none⟩).run P w=.ok v w/\RV T X x v:=by
 have hl:=h.len K.base hf;cases hb:x.de with
 |true=>
  refine⟨.agg ⟨cs⟩,?_,.inl ⟨hb,cs,h,rfl⟩⟩;have:=run_loadCells_list (P:=P) w ⟨b,off,none⟩ cs (fun j v hj=>by rw[Addr.add_lit];exact hc j v hj);rw[hl]at this;simp[loadVar,HO K hf,hb,HA K hf,this]
 |false=>
  have h1:∃v,cs=[v]:=by
   cases h<;>simp[D.de]at hb<;>exact⟨_,rfl⟩
  obtain⟨v,rfl⟩:=h1;have h0:=hc 0 v rfl;exact⟨v,by simp[loadVar,HO K hf,hb];simp at h0;rw[h0],.inr ⟨hb,h⟩⟩
def dc(P:Program)(T:fh C)(X:Cx)(nx:Nat)(lim:ek)(h':Heap C)(cF:Nat)(d:D C)(s:Sem Value):Prop :=
 ∃v X',s.run P X.w=.ok v X'.w/\G T X' h' cF lim/\Step X nx lim X'/\RO T X' cF lim d v
theorem dc.same{X:Cx}{nx:Nat}{lim:ek}{h:Heap C}{d:D C}{s:Sem Value}(g:G T X h nx lim)(v:Value)(hs:s.run P X.w=.ok v X.w)(hv:RO T X nx lim d v):dc P T X nx lim h nx d s :=
 ⟨v,X,hs,g,.refl _ _ _,hv⟩
def yj(P:Program)(T:fh C)(X:Cx)(nx:Nat)(lim:ek)(h h':Heap C)(n n':Nat)(d:D C)(s:Sem Value):Prop :=
 ∃v,s.run P X.w=.ok v X.w/\h'=h/\n'=n/\RO T X nx lim d v
theorem yj.same{X:Cx}{nx n:Nat}{lim:ek}{h:Heap C}{d:D C}{s:Sem Value}(v:Value)(hs:s.run P X.w=.ok v X.w)(hv:RO T X nx lim d v):yj P T X nx lim h h n n d s:=⟨v,hs,rfl,rfl,hv⟩
theorem VO:∀(q:D C) (i:Nat) (y:D C),q.nth i=some y->∀r∈y.refs,r∈q.refs:=by
 intro q
 induction q with
 |bI a b _ ih=>
  intro i y hy r hr;cases i with
  |zero=>simp[D.nth]at hy;subst hy;simp[D.refs,hr]
  |succ i=>simp[D.refs];exact .inr (ih i y (by simpa[D.nth]using hy) r hr)
 |_=>intro i y hy;simp[D.nth]at hy
theorem mq:∀(q:D C) (i:Nat) (y q':D C),q.gF i y=some q'->∀r∈q'.refs,r∈q.refs\/r∈y.refs:=by
 intro q
 induction q with
 |bI a b _ ih=>
  intro i y q' hy r hr;cases i with
  |zero=>simp[D.gF]at hy;subst hy;simp[D.refs]at hr ⊢;rcases hr with hr|hr<;>simp[hr]
  |succ i=>
   simp[D.gF]at hy;obtain⟨z,hz,rfl⟩:=hy;simp[D.refs]at hr ⊢;rcases hr with hr|hr
   ·simp[hr]
   ·rcases ih i y z hz r hr with h|h<;>simp[h]
 |_=>intro i y q' hy;simp[D.gF]at hy
theorem Qss(L:Laws T):∀(p:bU) {d x:D C},eT T d p=some x->∀r∈x.refs,r∈d.refs:=by
 intro p
 induction p with
 |nil=>intro d x hx;simp[eT]at hx;subst hx;exact fun _ h=>h
 |cons i p ih=>
  intro d x hx r hr;cases d with
  |bI a b=>
   simp only[eT]at hx;cases hn:(D.bI a b).nth i with
   |none=>simp[hn]at hx
   |some y=>
    simp only[hn]at hx;exact VO _ i y hn r (ih hx r hr)
  |arr t n l=>
   simp only[eT]at hx;have:=ih hx r hr;rw[L.fv]at this;simp at this
  |_=>simp[eT]at hx
theorem lu(L:Laws T):∀(p:bU) {d v d':D C},setPath T d p v=some d'->∀r∈d'.refs,r∈d.refs\/r∈v.refs:=by
 intro p
 induction p with
 |nil=>intro d v d' hx;simp[Ev.setPath]at hx;subst hx;exact fun _ h=>.inr h
 |cons i p ih=>
  intro d v d' hx r hr;cases d with
  |bI a b=>
   simp only[Ev.setPath]at hx;cases hn:(D.bI a b).nth i with
   |none=>simp[hn]at hx
   |some y=>
    simp only[hn]at hx;cases hs:Ev.setPath T y p v with
    |none=>simp[hs]at hx
    |some y'=>
     simp only[hs]at hx;rcases mq _ i y' d' hx r hr with h|h
     ·exact .inl h
     ·rcases ih hs r h with h|h
      ·exact .inl (VO _ i y hn r h)
      ·exact .inr h
  |arr t n l=>
   simp only[Ev.setPath]at hx;cases hs:Ev.setPath T (T.enc t (l.getD i (T.eU t))) p v with
   |none=>rw[hs]at hx;simp at hx
   |some y'=>
    simp only[hs]at hx;cases hd:T.dec t y' with
    |none=>simp[hd]at hx
    |some z=>simp[hd]at hx;subst hx;simp[D.refs]at hr
  |_=>simp[Ev.setPath]at hx
theorem VJ.cells{X:Cx}{ty:C.Ty}{own:Bool}{l:List (C.A ty)}{v:Value}{b lo hi:Nat}(hv:VJ T X ty own l v b lo hi){b' off n cp:Nat}(he:v=.slice (some ⟨b',off,none⟩) n cp) :
 b'=b/\n=l.length/\l.length<=cp/\∃cs,R T X false (.arr ty l.length l) cs/\∀j u,cs[j]? = some u->X.w.cell? ⟨b,off+j,none⟩=some u:=by
 rcases hv with⟨⟨a,h1,ha⟩,_⟩|⟨mE,lh,h1,h2,h3,h4⟩
 ·rw[h1]at he;simp only[Value.slice.injEq]at he;exact(ha _ _ he.1).elim
 ·rw[h1]at he;simp at he;obtain⟨⟨rfl,rfl⟩,rfl,rfl⟩:=he;refine⟨rfl,rfl,h2,?_⟩;rcases h4 with⟨_,_,h4|⟨c,e,h4,h5,h6⟩⟩|⟨_,_,⟨cs,h4,h5⟩,_⟩
  ·have:l=[]:=List.length_eq_zero_iff.1 (by omega);subst this;exact⟨[],.ia _,by simp⟩
  ·refine⟨_,h6,fun j u hj=>?_⟩;rw[List.getElem?_take]at hj
   split at hj
   ·rw[List.getElem?_drop]at hj;simp only[World.cell?,h4]
    simpa using hj
   ·simp at hj
  ·exact⟨cs,h5,fun j u hj=>(h4 j u hj).1⟩
theorem VJ.len{X:Cx}{ty:C.Ty}{own:Bool}{l:List (C.A ty)}{v:Value}{b lo hi:Nat}(hv:VJ T X ty own l v b lo hi):gJ v=l.length:=by
 rcases hv with⟨⟨a,h1,_⟩,h2,_⟩|⟨mE,lh,h1,_⟩
 ·rw[h1,h2];rfl
 ·rw[h1];rfl
section ops
open Pg (Ex)
variable {X:Cx}{h h':Heap C}{nx cF:Nat}{e:Pg.Lv}{lim:ek}{tr:Tr}(g:G T X h nx lim)
include K g in
theorem QiY{t:TypeId}{a d:D C}{va:Value}(ha:RO T X nx lim a va)(hx:Ex e (wQ T t a) h nx d h' cF tr):yj P T X nx lim h h' nx cF d (Instr.loadAt t va):=by
 unfold wQ at hx;cases a with
 |ptr id p=>
  simp only at hx;obtain⟨o,kG,ho,hx,_⟩:=Ex.rd hx;cases o with
  |vec ty own l=>exact Ex.cB hx
  |map _ _ _=>exact Ex.cB hx
  |dG _=>exact Ex.cB hx
  |var u d0=>
   simp only[Mp]at hx;cases hp:eT T d0 p with
   |none=>rw[hp]at hx;exact Ex.cB hx
   |some x=>
    simp only[hp]at hx;cases hf:fit T x (.inl t)with
    |false=>rw[hf]at hx;exact Ex.cB hx
    |true=>
     rw[hf]at hx;obtain⟨rfl,rfl,rfl,rfl⟩:=Ex.ret hx;obtain⟨b,c,h1,h2,h3,h4⟩:=g.var id u d0 ho;have hR:=ha.1.one rfl;cases hR with
     | @ptr _ _ a' hq=>
      obtain⟨ig,rfl⟩:=hq b u h1;obtain⟨c1,c2,c3,hc,hl,hr,_⟩:=h3.path K.base p ig h4 hp
      obtain⟨v,hv,mQ⟩:=Ke K (w:=X.w) (b:=b) (off:=dL T u p) hf hr (by
       intro j w hj;simp only[World.cell?,h2]
       have:c.toList[dL T u p+j]? = some w:=by
        rw[hc,<-hl,ay,List.getElem?_append_right (by omega)];simp;rw[List.getElem?_append_left (av.1 hj).1];exact hj
       simpa using this)
      refine yj.same v (by simp[Instr.loadAt,Instr.sureAddr,hv]) ⟨mQ,fun r fK=>(g.eL id _ ho).2 r (Qss K.base p hp r fK)⟩
 |eY id n p=>
  simp only at hx;obtain⟨o,kG,ho,hx,_⟩:=Ex.rd hx;cases o with
  |var u d0=>exact Ex.cB hx
  |map _ _ _=>exact Ex.cB hx
  |dG _=>exact Ex.cB hx
  |vec ty own l=>
   obtain⟨v0,b,lo,hi,h1,h2⟩:=g.vec id ty own l ho
   have key:∀i q x,p=i::q->Nat.beq n l.length=true->fit T x (.inl t)=true->(∀c2,R T X false (T.enc ty (l.getD i (T.eU ty))) c2->Zq T (T.dp ty) q->∃a1 a2 a3,c2=a1++a2++a3/\a1.length=dL T (T.dp ty) q/\R T X false x a2) ->
    ∃v,(Instr.loadAt t va).run P X.w=.ok v X.w/\RV T X x v:=by
    rintro i q x rfl hn hf hq
    have hn:n=l.length:=az hn;have hR:=ha.1.one rfl;cases hR with
    |eY hh=>
     obtain⟨b',off,cp,jc,jl,ig,rfl⟩:=(hh _ _ _ _ _ h1).2 (by rw[h2.len,hn]);obtain⟨rfl,_,_,cs,qu,om⟩:=h2.cells jc;obtain⟨c1,c2,c3,hc,hl,hr⟩:=qu.elem K.base i (by omega);obtain⟨a1,a2,a3,rL,kA,fK⟩:=hq c2 hr ig
     obtain⟨v,hv,mQ⟩:=Ke K (w:=X.w) (b:=b') (off:=off+i*T.size (T.dp ty)+dL T (T.dp ty) q) hf fK (by
      intro j w hj;rw[Nat.add_assoc,Nat.add_assoc];refine om _ w ?_;rw[hc,rL,<-hl,<-kA];simp only[ay];rw[List.getElem?_append_right (by omega)];rw[show c1.length+(a1.length+j)-c1.length=a1.length+j by omega];rw[List.getElem?_append_right (by omega)];rw[show a1.length+j-a1.length=j by omega];rw[List.getElem?_append_left (av.1 hj).1];exact hj)
     exact⟨v,by simp[Instr.loadAt,Instr.sureAddr,hv],mQ⟩
   simp only[Wd]at hx
   match p,hx with
   |[],hx=>exact Ex.cB hx
   |[i],hx=>
    simp only at hx;rcases Ex.br hx with⟨yL,hx⟩|⟨_,hx⟩
    ·skip
     cases hb:(fit T (T.enc ty (l.getD i (T.eU ty))) (.inl t))with
     |false=>rw[hb]at hx;exact Ex.cB hx
     |true=>
     rw[hb]at hx;obtain⟨rfl,rfl,rfl,rfl⟩:=Ex.ret hx;obtain⟨v,hv,mQ⟩:=key i [] _ rfl yL hb (fun c2 vH _=>⟨[],c2,[],by simp,by simp[dL],vH⟩);exact yj.same v hv (RO.mk mQ (K.base.fv _ _))
    ·exact Ex.cB hx
   |[i,j],hx=>
    simp only at hx;cases hn:(T.enc ty (l.getD i (T.eU ty))).nth j with
    |none=>rw[hn]at hx;exact Ex.cB hx
    |some x=>
     simp only[hn]at hx;rcases Ex.br hx with⟨yL,hx⟩|⟨_,hx⟩
     ·cases hb:(fit T x (.inl t))with
      |false=>rw[hb]at hx;exact Ex.cB hx
      |true=>
      rw[hb]at hx;obtain⟨rfl,rfl,rfl,rfl⟩:=Ex.ret hx
      obtain⟨v,hv,mQ⟩:=key i [j] _ rfl yL hb (fun c2 vH ig=>by
       have hp:eT T (T.enc ty (l.getD i (T.eU ty))) [j]=some d:=by
        have he:∃a b,T.enc ty (l.getD i (T.eU ty))=.bI a b:=by
         generalize T.enc ty (l.getD i (T.eU ty))=q at hn;cases q with
         |bI a b=>exact⟨_,_,rfl⟩
         |_=>simp[D.nth]at hn
        obtain⟨a,b,he⟩:=he;rw[he]at hn ⊢;simp[eT,hn]
       obtain⟨a1,a2,a3,h1,h2,h3,_⟩:=vH.path K.base [j] ig (K.base.fS _ _) hp;exact⟨a1,a2,a3,h1,h2,h3⟩)
      refine yj.same v hv ⟨mQ,fun r hr=>?_⟩;have:=VO _ _ _ hn r hr;rw[K.base.fv]at this;simp at this
     ·exact Ex.cB hx
   |i::j::k::q,hx=>exact Ex.cB hx
 |dC x=>
  simp only at hx;cases hf:fit T x (.inl t)with
  |false=>rw[hf]at hx;exact Ex.cB hx
  |true=>
   rw[hf]at hx;obtain⟨rfl,rfl,rfl,rfl⟩:=Ex.ret hx;have hR:=ha.1.one rfl;cases hR with
   | @dC _ b off cs iw hr=>
    obtain⟨v,hv,mQ⟩:=Ke K (w:=X.w) (b:=b) (off:=off) hf hr (fun j w hj=>(iw j w hj).1);exact yj.same v (by simp[Instr.loadAt,Instr.sureAddr,hv]) ⟨mQ,by simpa[D.refs]using ha.2⟩
 |_=>exact Ex.cB hx
include K g in
theorem IK{t:TypeId}{a d:D C}{va:Value}(ha:RO T X nx lim a va)(hx:Ex e (wQ T t a) h nx d h' cF tr):dc P T X nx lim h' cF d (Instr.loadAt t va):=by
 obtain⟨v,h1,rfl,rfl,h2⟩:=QiY K g ha hx;exact dc.same g v h1 h2
end ops
end
section
variable {C:gR}{P:Program}{T:fh C}(K:Zo P T)
open Pg (Ex)
variable {X:Cx}{h h':Heap C}{nx cF:Nat}{e:Pg.Lv}{lim:ek}{tr:Tr}(g:G T X h nx lim)
theorem HB{α:Type}(l:List α)(k:Nat)(vs:List α)(h:k+vs.length<=l.length):(l.take k++vs++l.drop (k+vs.length)).length=l.length:=by
 simp only[aC,bp,bq];omega
theorem HC{α:Type}(l:List α)(k:Nat)(vs:List α)(h:k+vs.length<=l.length)(o:Nat)(ho:o<k\/k+vs.length<=o):(l.take k++vs++l.drop (k+vs.length))[o]? = l[o]? := by
 rcases ho with ho|ho
 ·rw[ay,List.getElem?_append_left (by simp only[bp];omega),List.getElem?_take,ax ho]
 ·rw[List.getElem?_append_right (by simp only[aC,bp];omega),List.getElem?_drop]
  congr 1
  simp only[aC,bp];omega
theorem HD{α:Type}(l1 a1 a2 a3 l3 vs:List α)(hl:a2.length=vs.length) :
 (l1++(a1++a2++a3)++l3).take (l1.length+a1.length)++vs++(l1++(a1++a2++a3)++l3).drop (l1.length+a1.length+vs.length)=l1++(a1++vs++a3)++l3:=by
 have e1:l1++(a1++a2++a3)++l3=(l1++a1)++(a2++(a3++l3)):=by simp
 have e2:(l1++(a1++a2++a3)++l3).take (l1.length+a1.length)=l1++a1:=by
  rw[e1];exact List.take_left' (by simp)
 have e3:(l1++(a1++a2++a3)++l3).drop (l1.length+a1.length+vs.length)=a3++l3:=by
  rw[show l1++(a1++a2++a3)++l3=(l1++a1++a2)++(a3++l3)by simp];exact List.drop_left' (by simp;omega)
 rw[e2,e3];simp
theorem Nt{α:Type}(l:List α)(off n:Nat)(a1 a2 a3 vs:List α)(h:(l.drop off).take n=a1++a2++a3)(hn:off+n<=l.length)(hl:a2.length=vs.length) :
 ((l.take (off+a1.length)++vs++l.drop (off+a1.length+vs.length)).drop off).take n=a1++vs++a3:=by
 have hlen:a1.length+a2.length+a3.length=n:=by
  have:=ap List.length h;simp at this;omega
 have e:l=l.take off++(a1++a2++a3)++l.drop (off+n):=by
  rw[<-h,<-bD,ay,bn,bn]
 have h1:(l.take off).length=off:=by simp;omega
 have:=HD (l.take off) a1 a2 a3 (l.drop (off+n)) vs hl;rw[<-e,h1]at this;rw[this,ay,List.drop_left' h1,List.take_left' (by simp;omega)]
include K g in
theorem Qm1{t:TypeId}{a v d:D C}{va vv:Value}(ha:RO T X nx lim a va)(hv:RO T X nx lim v vv)(hx:Ex e (J9 T t a v) h nx d h' cF tr) :
 ∃X',(Instr.storeAt t va vv).run P X.w=.ok () X'.w/\G T X' h' cF lim/\Step X nx lim X'/\d=.cG .bN:=by
 unfold J9 at hx;cases a with
 |ptr id p=>
  simp only at hx;obtain⟨o,kG,ho,hx,_⟩:=Ex.rd hx;cases o with
  |vec ty own l=>exact Ex.cB hx
  |map _ _ _=>exact Ex.cB hx
  |dG _=>exact Ex.cB hx
  |var u d0=>
   simp only[Mq]at hx;cases hp:setPath T d0 p v with
   |none=>rw[hp]at hx;exact Ex.cB hx
   |some d1=>
    cases ht:gn T u p with
    |none=>rw[hp,ht]at hx;exact Ex.cB hx
    |some t'=>
     simp only[hp,ht]at hx;cases hf:fit T v (.inl t)&&fit T v (.inl t')with
     |false=>rw[hf]at hx;exact Ex.cB hx
     |true=>
      rw[hf]at hx;simp only[ag]at hx;obtain⟨o',mI,_,hx,_⟩:=Ex.wr hx;obtain⟨rfl,rfl,rfl,rfl⟩:=Ex.ret hx;simp only[ai]at hf;obtain⟨b,c,h1,h2,h3,h4⟩:=g.var id u d0 ho;have hR:=ha.1.one rfl;cases hR with
      | @ptr _ _ a' hq=>
       obtain⟨ig,rfl⟩:=hq b u h1;have rX:=hv.1.cells K hf.1;obtain⟨c1,c2,c3,hc,hl,hlen,hr,hfd⟩:=h3.setPath K.base p ig h4 hp rX ht hf.2;have lm:=rX.gK K.base rfl (.inl ⟨_,hf.1⟩);have fB:=rX.len K.base hf.1
       have dV:=run_storeCells_at P b (dL T u p) u vv.cells.toList 0 c X.w h2 (by
        have:c.size=c.toList.length:=by simp
        rw[this,hc];simp only[aC];omega) lm
       have zf:=HD [] c1 c2 c3 [] vv.cells.toList hlen;simp only[aH,aR,bH,aN]at zf;rw[<-hc,hl]at zf;simp only[Nat.add_zero]at dV;rw[zf]at dV
       obtain⟨X',pr,hg,hs⟩:=G.zI K.base g ho h1 h2 (c':=(c1++vv.cells.toList++c3).toArray) (by simpa using hr) (by
        have:c.size=c.toList.length:=by simp
        rw[this,hc];simp only[List.size_toArray,aC];omega) hfd (fun r fK=>by
         rcases lu K.base p hp r fK with h5|h5
         ·exact(g.eL id _ ho).2 r h5
         ·exact hv.2 r h5)
       refine⟨X',?_,hg,hs,rfl⟩;have lT:vv.cells.size=T.size t:=by simpa using fB
       simp[Instr.storeAt,Instr.sureAddr,storeVar,HA K hf.1,lT,dV,pr]
 |eY id n p=>
  simp only at hx;obtain⟨o,kG,ho,hx,_⟩:=Ex.rd hx;cases o with
  |var u d0=>exact Ex.cB hx
  |map _ _ _=>exact Ex.cB hx
  |dG _=>exact Ex.cB hx
  |vec ty own l=>
   cases own with
   |false=>exact Ex.cB hx
   |true=>
    simp only[Mr]at hx
    match p,hx with
    |[],hx=>exact Ex.cB hx
    |i::j::q,hx=>exact Ex.cB hx
    |[i],hx=>
     simp only at hx;cases hd:T.dec ty v with
     |none=>rw[hd]at hx;exact Ex.cB hx
     |some z=>
      simp only[hd]at hx;rcases Ex.br hx with⟨yL,hx⟩|⟨_,hx⟩
      case inr=>exact Ex.cB hx
      cases hb:(fit T v (.inl t))with
      |false=>rw[hb]at hx;exact Ex.cB hx
      |true=>
       rw[hb]at hx;simp only[ag]at hx;obtain⟨o',mI,_,hx,_⟩:=Ex.wr hx;obtain⟨rfl,rfl,rfl,rfl⟩:=Ex.ret hx;have hn:n=l.length:=az yL;obtain⟨v0,b,lo,hi,h1,h2⟩:=g.vec id ty true l ho;have aag:=h2.len;have hR:=ha.1.one rfl;cases hR with
       |eY hh=>
        obtain⟨b',off,cp,jc,jl,ig,rfl⟩:=(hh _ _ _ _ _ h1).2 (by rw[h2.len,hn]);have rX:=hv.1.cells K hb;have lm:=rX.gK K.base rfl (.inl ⟨_,hb⟩);have fB:=rX.len K.base hb;have pW:=K.base.mw X ty _ _ _ hd rX;have tG:=pW.len K.base (K.base.fS _ _);rcases h2 with⟨⟨a,q1,qa⟩,_⟩|⟨mE,lh,q1,q2,q3,q4⟩
        ·rw[q1]at jc;simp only[Value.slice.injEq]at jc;exact(qa _ _ jc.1).elim
        ·rw[q1]at jc;simp at jc;obtain⟨⟨rfl,rfl⟩,_,rfl⟩:=jc;rcases q4 with⟨_,q5,q6|⟨c,ee,q6,q7,q8⟩⟩|⟨q5,_⟩
         ·omega
         ·obtain⟨a1,a2,a3,hc,hl,hlen,hr⟩:=q8.oS K.base i z (by omega) pW;have hmul:l.length*T.size (T.dp ty)<=lh*T.size (T.dp ty):=Nat.mul_le_mul_right _ q2;have qu:c.toList.length=c.size:=by simp
          have aav:a1.length+a2.length+a3.length=l.length*T.size (T.dp ty):=by
           have:=ap List.length hc;simp only[aC,bp,bq]at this;omega
          have dV:=run_storeCells_at P b (mE+i*T.size (T.dp ty)) ee vv.cells.toList 0 c X.w q6 (by omega) lm;simp only[Nat.add_zero,<-hl]at dV;have nh:=Nt c.toList mE (l.length*T.size (T.dp ty)) a1 a2 a3 vv.cells.toList hc (by omega) hlen;have sk:=HC c.toList (mE+a1.length) vv.cells.toList (by omega);have nV:=HB c.toList (mE+a1.length) vv.cells.toList (by omega);generalize sg:c.toList.take (mE+a1.length)++vv.cells.toList++c.toList.drop (mE+a1.length+vv.cells.toList.length)=k at dV nh sk nV
          obtain⟨X',pr,_,hg,hs⟩:=G.oU K.base g ho h1 q6 (c':=k.toArray) (l':=l.set i z) (v':=v0) (iP:=lo) (by simp[nV]) (by
           intro o gz;have:=sk o (by omega)
           simpa using this) (aq _) (.inr rfl) ⟨aq _,fun _=>rfl⟩ (by
           intro X' hw hO hm _ hs;refine .inr ⟨mE,lh,by simp[q1],by simpa using q2,q3,.inl ⟨rfl,q5,.inr ⟨_,ee,by rw[hw];exact setRow_heap _ _ _ _ _ _ q6,by simpa[nV]using q7,?_⟩⟩⟩;have fK:=hr.step K.base hs (by simp[D.refs])
           simpa[nh]using fK)
          refine⟨X',?_,hg,hs,rfl⟩;have lT:vv.cells.size=T.size t:=by simpa using fB
          rw[hl]at dV;simp only[dL,Nat.add_zero];simp[Instr.storeAt,Instr.sureAddr,storeVar,HA K hb,lT,dV,pr]
         ·simp at q5
 |_=>exact Ex.cB hx
include K
omit g in
theorem Qst{s:TypeId}{fs:cD}(hs:T.ty s=.struct false fs){i:Nat}(hi:i<fs.length) :
 ∃(fields:Array Field) (f:Field),P.underlying s=some (.struct fields)/\fields[i]? = some f/\f.type=fs.getD i 0/\f.type∈fs/\f.offset=Zh T (fs.take i):=by
 obtain⟨fields,hu,hm,ho,_⟩:=K.jW _ _ hs;have h1:(fields.toList.map (·.type))[i]? = some (fs.getD i 0):=by rw[hm];simp[hi]
 rw[bB,Option.map_eq_some_iff]at h1;obtain⟨f,hf,ht⟩:=h1;have LB:fields[i]? = some f:=by simpa using hf
 refine⟨fields,f,hu,LB,ht,?_,ho i f LB⟩;rw[ht];simp[hi]
omit g in
theorem Nq{s:TypeId}{fs:cD}(hs:T.ty s=.struct false fs){i:Nat}(hi:i<fs.length)(w:World)(b off:Nat) :
 (Instr.fieldAt s (.pointer (some ⟨b,off,none⟩)) i).run P w=.ok (.pointer (some ⟨b,off+Zh T (fs.take i),none⟩)) w:=by
 obtain⟨fields,f,hu,hf,_,ki,ho⟩:=Qst K hs hi;obtain⟨inf,h1,h2,h3⟩:=K.qQ _ _ _ hs ki;have fg:¬inf.size=0:=by omega
 simp[Instr.fieldAt,aB hu,hf,Instr.sureAddr,fieldPlace,sizeOf,typeInfo,h1,fg,Addr.add_lit,ho]
include g
theorem QiZ{s:TypeId}{i:Nat}{a d:D C}{va:Value}(ha:RO T X nx lim a va)(hx:Ex e (VZ T s a i) h nx d h' cF tr):dc P T X nx lim h' cF d (Instr.fieldAt s va i):=by
 unfold VZ at hx;cases hs:T.ty s with
 |struct nZ fs=>
  cases nZ with
  |true=>rw[hs]at hx;exact Ex.cB hx
  |false=>?_
  simp only[hs]at hx;cases hi:Nat.blt i fs.length with
  |false=>rw[hi]at hx;exact Ex.cB hx
  |true=>
   rw[hi]at hx;simp only[ag]at hx;have hi:i<fs.length:=by simpa[Nat.blt_eq]using hi
   have pz:Zq T s [i]:=by simp[Zq,hs,hi]
   have mi:dL T s [i]=Zh T (fs.take i):=by simp[dL,hs]
   match a,ha,hx with
   |.ptr id p,ha,hx=>
    obtain⟨o,kG,ho,hx,_⟩:=Ex.rd hx;cases o with
    |vec ty own l=>exact Ex.cB hx
    |map _ _ _=>exact Ex.cB hx
    |dG _=>exact Ex.cB hx
    |var u d0=>
     simp only[Ms]at hx;cases iI:decide (gn T u p=some s)with
     |false=>rw[iI]at hx;exact Ex.cB hx
     |true=>
      rw[iI]at hx;obtain⟨rfl,rfl,rfl,rfl⟩:=Ex.ret hx;have iI:gn T u p=some s:=by simpa using iI
      obtain⟨b,c,h1,h2,h3,h4⟩:=g.var id u d0 ho;have hR:=ha.1.one rfl;cases hR with
      | @ptr _ _ a' hq=>
       obtain⟨ig,rfl⟩:=hq b u h1;obtain⟨k1,k2⟩:=Kb ig iI i [] pz;refine dc.same g _ (Nq K hs hi X.w b _) ⟨.mk rfl (.ptr fun b' t' h5=>?_),?_⟩
       ·rw[h1]at h5;simp at h5;obtain⟨rfl,rfl⟩:=h5;exact⟨k1,by rw[k2,mi]⟩
       ·simpa[D.refs]using ha.2
   |.eY id n [j],ha,hx=>
    obtain⟨o,kG,ho,hx,_⟩:=Ex.rd hx;cases o with
    |var u d0=>exact Ex.cB hx
    |map _ _ _=>exact Ex.cB hx
    |dG _=>exact Ex.cB hx
    |vec ty own l=>
     simp only[Lj]at hx;rcases Ex.br hx with⟨yL,hx⟩|⟨_,hx⟩
     case inr=>exact Ex.cB hx
     cases hb:(Nat.beq s (T.dp ty))with
     |false=>rw[hb]at hx;exact Ex.cB hx
     |true=>
      rw[hb]at hx;obtain⟨rfl,rfl,rfl,rfl⟩:=Ex.ret hx;have hn:n=l.length:=az yL;have mR:s=T.dp ty:=az hb;obtain⟨v0,b,lo,jl,h1,h2⟩:=g.vec id ty own l ho;have hR:=ha.1.one rfl;cases hR with
      |eY hh=>
       obtain⟨b',off,cp,jc,hj,ig,rfl⟩:=(hh _ _ _ _ _ h1).2 (by rw[h2.len,hn]);refine dc.same g _ (Nq K hs hi X.w b' _) ⟨.mk rfl (.eY fun v e b lo Sc h5=>?_),?_⟩
       ·rw[h1]at h5;simp at h5;obtain⟨rfl,rfl,rfl,rfl,rfl⟩:=h5;refine⟨by rw[h2.len];omega,fun _=>⟨b',off,cp,jc,hj,by rw[<-mR];exact pz,?_⟩⟩;rw[<-mR,mi];simp[dL]
       ·simpa[D.refs]using ha.2
   |.dC q,ha,hx=>
    simp only at hx;cases hf:fit T q (.inl s)with
    |false=>rw[hf]at hx;exact Ex.cB hx
    |true=>
     rw[hf]at hx;simp only[ag]at hx;cases hn:q.nth i with
     |none=>rw[hn]at hx;exact Ex.cB hx
     |some x=>
      rw[hn]at hx;obtain⟨rfl,rfl,rfl,rfl⟩:=Ex.ret hx;have hR:=ha.1.one rfl;cases hR with
      | @dC _ b off cs iw hr=>
       obtain⟨c1,c2,c3,hc,hl,fK,_,_⟩:=hr.oq K.base hs hf hn;refine dc.same g _ (Nq K hs hi X.w b off) ⟨.mk rfl (.dC (cs:=c2) (fun j v hj=>?_) fK),?_⟩
       ·rw[<-hl,Nat.add_assoc];refine iw _ v ?_;rw[hc,ay,List.getElem?_append_right (by omega)];rw[show c1.length+j-c1.length=j by omega,List.getElem?_append_left (av.1 hj).1];exact hj
       ·intro r ks;exact ha.2 r (by simpa[D.refs]using VO _ _ _ hn r (by simpa[D.refs]using ks))
   |.eY id n [],ha,hx=>exact Ex.cB hx
   |.eY id n (_::_::_),ha,hx=>exact Ex.cB hx
   |.bool _,ha,hx=>exact Ex.cB hx
   |.int _ _,ha,hx=>exact Ex.cB hx
   |.str _,ha,hx=>exact Ex.cB hx
   |.bN,ha,hx=>exact Ex.cB hx
   |.bI _ _,ha,hx=>exact Ex.cB hx
   |.arr _ _ _,ha,hx=>exact Ex.cB hx
   |.cG _,ha,hx=>exact Ex.cB hx
   |.ez,ha,hx=>exact Ex.cB hx
   |.sl _ _ _,ha,hx=>exact Ex.cB hx
   |.vs _ _,ha,hx=>exact Ex.cB hx
   |.eX,ha,hx=>exact Ex.cB hx
   |.fn _ _,ha,hx=>exact Ex.cB hx
   |.cm,ha,hx=>exact Ex.cB hx
   |.gf,ha,hx=>exact Ex.cB hx
   |.bm _ _,ha,hx=>exact Ex.cB hx
   |.yl _ _ _ _ _ _ _,ha,hx=>exact Ex.cB hx
   |.top,ha,hx=>exact Ex.cB hx
 |_=>rw[hs]at hx;exact Ex.cB hx
omit g in
theorem Kf{x:D C}{t:TypeId}{c1 c2 c3:bT}(hf:fit T x (.inl t)=true)(hr:R T X false x c2)(w:World) :
 ∃v,(part t ⟨c1++c2++c3⟩ c1.length).run P w=.ok v w/\RV T X x v:=by
 have hl:=hr.len K.base hf;cases hb:x.de with
 |true=>
  refine⟨.agg ⟨c2⟩,?_,.inl ⟨hb,c2,hr,rfl⟩⟩
  have:((⟨c1++c2++c3⟩:bY).extract c1.length (c1.length+T.size t))=⟨c2⟩:=by
   apply Array.ext';simp only[Array.toList_extract,List.extract_eq_take_drop];rw[<-hl,show c1.length+c2.length-c1.length=c2.length by omega,ay,List.drop_left' rfl,List.take_left' rfl]
  simp only[part,aG,HO K hf,hb,aA,HA K hf,aU,aF,this]
 |false=>
  have h1:∃v,c2=[v]:=by
   cases hr<;>simp[D.de]at hb<;>exact⟨_,rfl⟩
  obtain⟨v,rfl⟩:=h1;exact⟨v,by simp[part,HO K hf,hb],.inr ⟨hb,hr⟩⟩
theorem Qz9{s:TypeId}{i:Nat}{a d:D C}{va:Value}(ha:RO T X nx lim a va)(hx:Ex e (Pa T s a i) h nx d h' cF tr):dc P T X nx lim h' cF d (Instr.field s va i):=by
 unfold Pa at hx;cases hs:T.ty s with
 |struct nZ fs=>
  cases nZ with
  |true=>rw[hs]at hx;exact Ex.cB hx
  |false=>?_
  simp only[hs]at hx;cases hf:fit T a (.inl s)with
  |false=>rw[hf]at hx;exact Ex.cB hx
  |true=>
   rw[hf]at hx;simp only[ag]at hx;cases hn:a.nth i with
   |none=>rw[hn]at hx;exact Ex.cB hx
   |some x=>
    rw[hn]at hx;obtain⟨rfl,rfl,rfl,rfl⟩:=Ex.ret hx;obtain⟨cs,hr,rfl⟩:=ha.1.row ((Kd hf).2 (.inl ⟨_,fs,hs⟩));obtain⟨c1,c2,c3,hc,hl,fK,hi,iH⟩:=hr.oq K.base hs hf hn;obtain⟨fields,f,hu,mP,iI,_,ho⟩:=Qst K hs hi;obtain⟨v,hv,mQ⟩:=Kf K (c1:=c1) (c3:=c3) iH fK X.w;refine dc.same g v ?_ ⟨mQ,fun r ks=>ha.2 r (VO _ _ _ hn r ks)⟩;rw[<-hc,hl]at hv;simp only[Instr.field,aG,aB hu,aA,mP,asAgg,aF,ho];rw[iI];exact hv
 |_=>rw[hs]at hx;exact Ex.cB hx
end
section
variable {C:gR}{P:Program}{T:fh C}(K:Zo P T)
open Pg (Ex)
variable {X:Cx}{h h':Heap C}{nx cF:Nat}{e:Pg.Lv}{lim:ek}{tr:Tr}(g:G T X h nx lim)
include K
omit g
theorem Zy{u el:TypeId}{ty:C.Ty}(hu:(∃n,T.ty u=.arr n el ty)\/T.ty u=.sl el ty)(w:World):(sizeOf el).run P w=.ok (T.size el) w/\T.size el=T.size (T.dp ty)/\T.ty el=T.ty (T.dp ty):=by
 obtain⟨i,z,h1,h2,_⟩:=K.kP _ _ _ hu;refine⟨by simp[sizeOf,typeInfo,h1,h2],?_⟩;rcases hu with⟨n,hu⟩|hu
 ·exact⟨(K.base.kO _ _ _ _ hu).2.2,(K.base.kO _ _ _ _ hu).2.1⟩
 ·exact⟨(K.base.mH _ _ _ hu).2.2,(K.base.mH _ _ _ hu).2.1⟩
theorem JC{t el:TypeId}{ty:C.Ty}(ht:T.ty t=.sl el ty)(b off len cp:Nat)(k:IntKind)(n:Int)(h0:0<=n)(h1:n<len)(w:World) :
 (Instr.indexAt t (.slice (some ⟨b,off,none⟩) len cp) (.int k n)).run P w=.ok (.pointer (some ⟨b,off+n.toNat*T.size (T.dp ty),none⟩)) w:=by
 have hs:=Zy K (.inr ht) w;rw[<-hs.2.1];simp[Instr.indexAt,asIntOf,aB (K.oX _ _ _ ht),h0,h1,hs.1,Addr.add_lit]
theorem Qen{t el:TypeId}(ht:T.ty t=.fO el)(b off len cp:Nat)(k:IntKind)(n:Int)(h0:0<=n)(h1:n<len)(w:World) :
 (Instr.indexAt t (.slice (some ⟨b,off,none⟩) len cp) (.int k n)).run P w=.ok (.pointer (some ⟨b,off+n.toNat,none⟩)) w:=by
 obtain⟨hu,_,i,z,hi,hs,_,_,_⟩:=K.qP _ _ ht;have fB:(sizeOf el).run P w=.ok 1 w:=by simp[sizeOf,typeInfo,hi,hs]
 simp[Instr.indexAt,asIntOf,aB hu,h0,h1,fB,Addr.add_lit]
theorem KZ{t el:TypeId}{ty:C.Ty}{m:Nat}(ht:T.ty t=.arr m el ty)(b off:Nat)(k:IntKind)(n:Int)(h0:0<=n)(h1:n<m)(w:World) :
 (Instr.indexAt t (.pointer (some ⟨b,off,none⟩)) (.int k n)).run P w=.ok (.pointer (some ⟨b,off+n.toNat*T.size (T.dp ty),none⟩)) w:=by
 have hs:=Zy K (.inl ⟨_,ht⟩) w;rw[<-hs.2.1];simp[Instr.indexAt,asIntOf,aB (K.oa _ _ _ _ ht).1,h0,h1,hs.1,Addr.add_lit,Instr.sureAddr]
theorem Mw{t:TypeId}{fs:cD}(ht:T.ty t=.struct true fs):∃el,P.underlying t=some (.array fs.length el)/\(∀w,(sizeOf el).run P w=.ok (T.size el) w)/\(∀i,i<fs.length->fs.getD i 0=el) /\
 ∀i,i<=fs.length->Zh T (fs.take i)=i*T.size el:=by
 obtain⟨el,h1,h2,_,i,h3,h4⟩:=K.qR _ _ ht;refine⟨el,h1,fun w=>by simp[sizeOf,typeInfo,h3,h4],fun i hi=>?_,?_⟩
 ·rw[h2];simp[ar,List.getElem?_replicate,hi]
 ·intro i hi;rw[h2,List.take_replicate,Nat.min_eq_left hi];clear hi
  induction i with
  |zero=>simp[Zh]
  |succ i ih=>simp only[List.replicate_succ,Zh,ih];rw[Nat.succ_mul];omega
theorem K3{t:TypeId}{fs:cD}(ht:T.ty t=.struct true fs)(b off:Nat)(k:IntKind)(n:Int)(h0:0<=n)(h1:n<fs.length)(w:World) :
 (Instr.indexAt t (.pointer (some ⟨b,off,none⟩)) (.int k n)).run P w=.ok (.pointer (some ⟨b,off+Zh T (fs.take n.toNat),none⟩)) w:=by
 obtain⟨el,hu,hs,_,ho⟩:=Mw K ht;rw[ho _ (by omega)];simp[Instr.indexAt,asIntOf,aB hu,h0,h1,hs,Addr.add_lit,Instr.sureAddr]
theorem Qsu{ty:C.Ty}{n:Nat}{l:List (C.A ty)}{b off:Nat}{cs:bT}(iw:X.at b off cs)(hr:R T X false (.arr ty n l) cs)(i:Nat)(hi:i<n) :
 R T X false (.dC (T.enc ty (l.getD i (T.eU ty)))) [.pointer (some ⟨b,off+i*T.size (T.dp ty),none⟩)]:=by
 obtain⟨c1,c2,c3,hc,hl,fK⟩:=hr.elem K.base i hi;refine .dC (cs:=c2) (fun j v hj=>?_) fK;rw[<-hl,Nat.add_assoc];refine iw _ v ?_;rw[hc,ay,List.getElem?_append_right (by omega)];rw[show c1.length+j-c1.length=j by omega,List.getElem?_append_left (av.1 hj).1];exact hj
include g
theorem Qi0{t:TypeId}{a i d:D C}{va vi:Value}(ha:RO T X nx lim a va)(hi:RO T X nx lim i vi)(hx:Ex e (V0 T t a i) h nx d h' cF tr):dc P T X nx lim h' cF d (Instr.indexAt t va vi):=by
 unfold V0 at hx;cases i with
 |int k n=>
  obtain⟨rfl,_⟩:=hi.1.int;simp only at hx;cases ht:T.ty t with
  |fO el=>
   simp only[ht]at hx;cases a with
   |fO m yz ds=>
    simp only at hx;rcases Ex.br hx with⟨hb,hx⟩|⟨_,hx⟩
    ·have hb:0<=n/\n<m:=by simpa using hb
     cases hq:ds.nth n.toNat with
     |none=>rw[hq]at hx;exact Ex.cB hx
     |some x=>
      rw[hq]at hx;obtain⟨rfl,rfl,rfl,rfl⟩:=Ex.ret hx;have hR:=ha.1.one rfl;cases hR with
      | @fO _ b off cp _ _ cs iw hr hn h1 hc=>
       obtain⟨v,hv,mQ⟩:=hr.nth T rfl _ _ hq;have fA:x.de=false:=D.pI h1 hq;refine dc.same g _ (Qen K ht b off m cp k n hb.1 hb.2 X.w) ⟨.mk rfl (.dC (cs:=[v]) (fun j u hj=>?_) (mQ.one fA)),?_⟩
       ·cases j with
        |zero=>simp at hj;subst hj;exact iw _ _ hv
        |succ j=>simp at hj
       ·intro r fK;exact ha.2 r (VO _ _ _ hq r (by simpa[D.refs]using fK))
    ·exact Ex.cB hx
   |_=>exact Ex.cB hx
  |sl el ty0=>
   simp only[ht]at hx;cases a with
   |sl ty cap l=>
    simp only at hx;cases hd:decide (ty=ty0)with
    |false=>rw[hd]at hx;exact Ex.cB hx
    |true=>
     rw[hd]at hx;simp only[ag]at hx;have hd:ty=ty0:=by simpa using hd
     subst hd;rcases Ex.br hx with⟨hb,hx⟩|⟨_,hx⟩
     ·obtain⟨rfl,rfl,rfl,rfl⟩:=Ex.ret hx;have hb:0<=n/\n<l.length:=by simpa using hb
      have hR:=ha.1.one rfl;cases hR with
      |kN=>simp at hb;omega
      | @sl _ _ _ b off cp cs iw hr hc kz=>
       refine dc.same g _ (JC K ht b off l.length cp k n hb.1 hb.2 X.w) ⟨.mk rfl (Qsu K iw hr n.toNat (by omega)),?_⟩;simp[D.refs,K.base.fv]
     ·exact Ex.cB hx
   |vs id m=>
    simp only at hx;obtain⟨o,kG,ho,hy,_⟩:=Ex.rd hx;clear hx;cases o with
    |var u d0=>exact Ex.cB hy
    |map _ _ _=>exact Ex.cB hy
    |dG _=>exact Ex.cB hy
    |vec ty own l=>
     simp only[Lk]at hy;cases hd:decide (ty=ty0)with
     |false=>rw[hd]at hy;exact Ex.cB hy
     |true=>
      rw[hd]at hy;simp only[ag]at hy;have hd:ty=ty0:=by simpa using hd
      subst hd;rcases Ex.br hy with⟨hb,hx⟩|⟨_,hx⟩
      ·obtain⟨rfl,rfl,rfl,rfl⟩:=Ex.ret hx;simp only[ai,aa]at hb;have hm:m=l.length:=az hb.1;obtain⟨v0,b,lo,jl,h1,h2⟩:=g.vec id ty own l ho;have hR:=ha.1.one rfl;cases hR with
       | @vs _ _ cp a0 hh=>
        have jc:=(hh _ _ _ _ _ h1).2 (by rw[h2.len,hm]);cases a0 with
        |none=>
         rcases h2 with⟨q1,q2,_⟩|⟨mE,lh,q1,_⟩
         ·subst q2;simp at hb;omega
         ·rw[q1]at jc;simp at jc
        |some a1=>
         have RQ:∃off,a1=⟨b,off,none⟩:=by
          rcases h2 with⟨q1,q2,_⟩|⟨mE,lh,q1,_⟩
          ·subst q2;simp at hb;omega
          ·rw[q1]at jc;simp at jc;exact⟨mE,jc.1.symm⟩
         obtain⟨off,rfl⟩:=RQ;refine dc.same g _ (JC K ht b off m cp k n hb.2.1 (by omega) X.w) ⟨.mk rfl (.eY fun v e b' iP Sc h5=>?_),by simpa[D.refs]using ha.2⟩;rw[h1]at h5;simp at h5;obtain⟨rfl,rfl,rfl,rfl,rfl⟩:=h5;exact⟨by rw[h2.len];omega,fun _=>⟨b,off,cp,jc,by omega,by simp[Zq],by simp[dL]⟩⟩
      ·exact Ex.cB hx
   |jg ta id p lo m=>
    simp only at hx;cases Dr:T.ty ta with
    |arr mm ee ty=>
     simp only[Dr]at hx;cases hd:decide (ty=ty0)with
     |false=>rw[hd]at hx;exact Ex.cB hx
     |true=>
      rw[hd]at hx;simp only[ag]at hx;have hd:ty=ty0:=by simpa using hd
      subst hd;rcases Ex.br hx with⟨hb,hx⟩|⟨_,hx⟩
      ·obtain⟨rfl,rfl,rfl,rfl⟩:=Ex.ret hx;have hb:0<=n/\n<m:=by simpa using hb
       have hR:=ha.1.one rfl;cases hR with
       | @jg _ _ _ _ cp _ ao hq hs _=>
        obtain⟨b0,o0,rfl⟩:=hs (by omega);refine dc.same g _ (JC K ht b0 o0 m cp k n hb.1 hb.2 X.w) ⟨.mk rfl (.ptr fun b' t' h5=>?_),by simpa[D.refs]using ha.2⟩;obtain⟨m1,e1,ty1,q1,q2,q3,q4,q56⟩:=hq b' t' h5;simp only[aD,Addr.mk.injEq,and_true]at q56;obtain⟨q5,q6⟩:=q56;rw[Dr]at q1;cases q1;have pz:Zq T ta [lo+n.toNat]:=by simp[Zq,Dr];omega
        have mi:dL T ta [lo+n.toNat]=(lo+n.toNat)*T.size (T.dp ty):=by simp[dL,Dr,(K.base.kO _ _ _ _ Dr).2.2]
        obtain⟨k1,k2⟩:=Kb q3 q2 (lo+n.toNat) [] pz;exact⟨k1,by rw[k2,mi,q5,q6,Nat.add_mul,Nat.add_assoc]⟩
      ·exact Ex.cB hx
    |_=>rw[Dr]at hx;exact Ex.cB hx
   |_=>exact Ex.cB hx
  |arr m el ty0=>
   simp only[ht]at hx
   match a,ha,hx with
   |.ptr id p,ha,hx=>
    simp only at hx;obtain⟨o,kG,ho,hx,_⟩:=Ex.rd hx;cases o with
    |vec ty own l=>exact Ex.cB hx
    |map _ _ _=>exact Ex.cB hx
    |dG _=>exact Ex.cB hx
    |var u d0=>
     simp only[CN]at hx;cases iI:decide (gn T u p=some t)with
     |false=>rw[iI]at hx;exact Ex.cB hx
     |true=>
      rw[iI]at hx;simp only[ag]at hx;rcases Ex.br hx with⟨hb,hx⟩|⟨_,hx⟩
      ·obtain⟨rfl,rfl,rfl,rfl⟩:=Ex.ret hx;have hb:0<=n/\n<m:=by simpa using hb
       have iI:gn T u p=some t:=by simpa using iI
       obtain⟨b,c,h1,h2,h3,h4⟩:=g.var id u d0 ho;have hR:=ha.1.one rfl;cases hR with
       | @ptr _ _ a' hq=>
        obtain⟨ig,rfl⟩:=hq b u h1;have pz:Zq T t [n.toNat]:=by simp[Zq,ht];omega
        have mi:dL T t [n.toNat]=n.toNat*T.size (T.dp ty0):=by simp[dL,ht,(K.base.kO _ _ _ _ ht).2.2]
        obtain⟨k1,k2⟩:=Kb ig iI n.toNat [] pz;refine dc.same g _ (KZ K ht b _ k n hb.1 hb.2 X.w) ⟨.mk rfl (.ptr fun b' t' h5=>?_),by simpa[D.refs]using ha.2⟩;rw[h1]at h5;simp at h5;obtain⟨rfl,rfl⟩:=h5;exact⟨k1,by rw[k2,mi]⟩
      ·exact Ex.cB hx
   |.dC (.arr ty m' l),ha,hx=>
    simp only at hx;cases hf:fit T (.arr ty m' l) (.inl t)with
    |false=>rw[hf]at hx;exact Ex.cB hx
    |true=>
     rw[hf]at hx;simp only[ag]at hx;simp only[fit,ht,ai,Nat.beq_eq,aa]at hf;obtain⟨rfl,rfl⟩:=hf;rcases Ex.br hx with⟨hb,hx⟩|⟨_,hx⟩
     ·obtain⟨rfl,rfl,rfl,rfl⟩:=Ex.ret hx;have hb:0<=n/\n<m:=by simpa using hb
      have hR:=ha.1.one rfl;cases hR with
      | @dC _ b off cs iw hr=>
       refine dc.same g _ (KZ K ht b off k n hb.1 hb.2 X.w) ⟨.mk rfl (Qsu K iw hr n.toNat (by omega)),?_⟩;simp[D.refs,K.base.fv]
     ·exact Ex.cB hx
   |.dC (.bool _),ha,hx |.dC (.int _ _),ha,hx |.dC (.str _),ha,hx |.dC .bN,ha,hx |.dC (.bI _ _),ha,hx |.dC (.cG _),ha,hx |.dC .ez,ha,hx |.dC (.sl _ _ _),ha,hx
   |.dC (.vs _ _),ha,hx |.dC (.ptr _ _),ha,hx |.dC (.jg _ _ _ _ _),ha,hx |.dC (.eY _ _ _),ha,hx |.dC (.dC _),ha,hx |.dC .eX,ha,hx |.dC (.fn _ _),ha,hx |.dC .cm,ha,hx |.dC .gf,ha,hx |.dC (.bm _ _),ha,hx |.dC (.yl _ _ _ _ _ _ _),ha,hx |.dC .top,ha,hx |.dC (.jN _),ha,hx |.jN _,ha,hx
   |.bool _,ha,hx |.int _ _,ha,hx |.str _,ha,hx |.bN,ha,hx |.bI _ _,ha,hx |.arr _ _ _,ha,hx |.cG _,ha,hx |.ez,ha,hx |.sl _ _ _,ha,hx |.vs _ _,ha,hx |.jg _ _ _ _ _,ha,hx
   |.eY _ _ _,ha,hx |.eX,ha,hx |.fn _ _,ha,hx |.cm,ha,hx |.gf,ha,hx |.bm _ _,ha,hx |.yl _ _ _ _ _ _ _,ha,hx |.top,ha,hx=>exact Ex.cB hx
  |struct nZ fs=>
   cases nZ with
   |false=>rw[ht]at hx;exact Ex.cB hx
   |true=>
    simp only[ht]at hx;cases a with
    |ptr id p=>
     simp only at hx;obtain⟨o,kG,ho,hx,_⟩:=Ex.rd hx;cases o with
     |vec ty own l=>exact Ex.cB hx
     |map _ _ _=>exact Ex.cB hx
     |dG _=>exact Ex.cB hx
     |var u d0=>
      simp only[CN]at hx;cases iI:decide (gn T u p=some t)with
      |false=>rw[iI]at hx;exact Ex.cB hx
      |true=>
       rw[iI]at hx;simp only[ag]at hx;rcases Ex.br hx with⟨hb,hx⟩|⟨_,hx⟩
       ·obtain⟨rfl,rfl,rfl,rfl⟩:=Ex.ret hx;have hb:0<=n/\n<fs.length:=by simpa using hb
        have iI:gn T u p=some t:=by simpa using iI
        obtain⟨b,c,h1,h2,h3,h4⟩:=g.var id u d0 ho;have hR:=ha.1.one rfl;cases hR with
        | @ptr _ _ a' hq=>
         obtain⟨ig,rfl⟩:=hq b u h1;have pz:Zq T t [n.toNat]:=by simp[Zq,ht];omega
         have mi:dL T t [n.toNat]=Zh T (fs.take n.toNat):=by simp[dL,ht]
         obtain⟨k1,k2⟩:=Kb ig iI n.toNat [] pz;refine dc.same g _ (K3 K ht b _ k n hb.1 hb.2 X.w) ⟨.mk rfl (.ptr fun b' t' h5=>?_),by simpa[D.refs]using ha.2⟩;rw[h1]at h5;simp at h5;obtain⟨rfl,rfl⟩:=h5;exact⟨k1,by rw[k2,mi]⟩
       ·exact Ex.cB hx
    |dC q=>
     simp only at hx;cases hf:fit T q (.inl t)with
     |false=>rw[hf]at hx;exact Ex.cB hx
     |true=>
      rw[hf]at hx;simp only[ag]at hx;rcases Ex.br hx with⟨hb,hx⟩|⟨_,hx⟩
      ·cases hn:q.nth n.toNat with
       |none=>rw[hn]at hx;exact Ex.cB hx
       |some x=>
        rw[hn]at hx;obtain⟨rfl,rfl,rfl,rfl⟩:=Ex.ret hx;have hb:0<=n/\n<fs.length:=by simpa using hb
        have hR:=ha.1.one rfl;cases hR with
        | @dC _ b off cs iw hr=>
         obtain⟨c1,c2,c3,hc,hl,fK,_,_⟩:=hr.oq K.base ht hf hn;refine dc.same g _ (K3 K ht b off k n hb.1 hb.2 X.w) ⟨.mk rfl (.dC (cs:=c2) (fun j v hj=>?_) fK),?_⟩
         ·rw[<-hl,Nat.add_assoc];refine iw _ v ?_;rw[hc,ay,List.getElem?_append_right (by omega)];rw[show c1.length+j-c1.length=j by omega,List.getElem?_append_left (av.1 hj).1];exact hj
         ·intro r ks;exact ha.2 r (by simpa[D.refs]using VO _ _ _ hn r (by simpa[D.refs]using ks))
      ·exact Ex.cB hx
    |_=>exact Ex.cB hx
  |_=>rw[ht]at hx;exact Ex.cB hx
 |_=>exact Ex.cB hx
theorem QAa{t:TypeId}{a i d:D C}{va vi:Value}(ha:RO T X nx lim a va)(hi:RO T X nx lim i vi)(hx:Ex e (Pb T t a i) h nx d h' cF tr):dc P T X nx lim h' cF d (Instr.index t va vi):=by
 unfold Pb at hx;cases i with
 |int k n=>
  obtain⟨rfl,_⟩:=hi.1.int;cases a with
  |arr ty m l=>
   simp only at hx;cases hf:fit T (.arr ty m l) (.inl t)with
   |false=>rw[hf]at hx;exact Ex.cB hx
   |true=>
    rw[hf]at hx;simp only[ag]at hx;rcases Ex.br hx with⟨hb,hx⟩|⟨_,hx⟩
    ·obtain⟨rfl,rfl,rfl,rfl⟩:=Ex.ret hx;have hb:0<=n/\n<m:=by simpa using hb
     cases ht:T.ty t with
     |arr m2 el DB=>
      simp only[fit,ht,ai,Nat.beq_eq,aa]at hf;obtain⟨rfl,rfl⟩:=hf;obtain⟨cs,hr,rfl⟩:=ha.1.row rfl;obtain⟨c1,c2,c3,hc,hl,fK⟩:=hr.elem K.base n.toNat (by omega);have hs:=Zy K (.inl ⟨_,ht⟩) X.w;have yS:fit T (T.enc ty (l.getD n.toNat (T.eU ty))) (.inl el)=true:=by rw[YL hs.2.2];exact K.base.fS _ _
      obtain⟨v,hv,mQ⟩:=Kf K (c1:=c1) (c3:=c3) yS fK X.w;refine dc.same g v ?_ (RO.mk mQ (K.base.fv _ _));rw[<-hc,hl,<-hs.2.1]at hv;simp only[Instr.index,asIntOf,aG,aF,aA,aB (K.oa _ _ _ _ ht).1];simp[hb,hs.1,hv]
     |_=>simp[fit,ht]at hf
    ·exact Ex.cB hx
  |str s=>
   simp only at hx;cases ht:T.ty t with
   |str=>
    simp only[ht]at hx;rcases Ex.br hx with⟨hb,hx⟩|⟨_,hx⟩
    ·obtain⟨rfl,rfl,rfl,rfl⟩:=Ex.ret hx;have hb:0<=n/\n<s.length:=by simpa using hb
     have hv:=ha.1.str;subst hv;have cU:n.toNat<s.length:=by omega
     have fB:(⟨⟨s⟩⟩:ByteArray).size=s.length:=rfl;refine dc.same g (.int .u8 (s.getD n.toNat 0).toNat) ?_ (RO.mk (.mk rfl (.int ?_)) rfl)
     ·have e1:(⟨⟨s⟩⟩:ByteArray)[n.toNat]? = some (s.getD n.toNat 0):=by
       rw[getElem?_pos _ _ (by rw[fB];exact cU)];simp[ByteArray.getElem_eq_getElem_data,cU]
      simp only[Instr.index,asIntOf,aG,aF,aA,aB (K.k9 _ ht)];simp[hb.1,e1]
     ·generalize s.getD n.toNat 0=q;have:=q.toNat_lt;simp[IntKind.min,IntKind.max,IntKind.signed,IntKind.bits];omega
    ·exact Ex.cB hx
   |_=>rw[ht]at hx;exact Ex.cB hx
  |bI p q=>
   simp only at hx;cases ht:T.ty t with
   |struct nZ fs=>
    cases nZ with
    |false=>rw[ht]at hx;exact Ex.cB hx
    |true=>
     simp only[ht]at hx;cases hf:fit T (.bI p q) (.inl t)with
     |false=>rw[hf]at hx;exact Ex.cB hx
     |true=>
      rw[hf]at hx;simp only[ag]at hx;rcases Ex.br hx with⟨hb,hx⟩|⟨_,hx⟩
      ·cases hn:(D.bI p q).nth n.toNat with
       |none=>rw[hn]at hx;exact Ex.cB hx
       |some x=>
        rw[hn]at hx;obtain⟨rfl,rfl,rfl,rfl⟩:=Ex.ret hx;have hb:0<=n/\n<fs.length:=by simpa using hb
        obtain⟨cs,hr,rfl⟩:=ha.1.row rfl;obtain⟨c1,c2,c3,hc,hl,fK,hi,iH⟩:=hr.oq K.base ht hf hn;obtain⟨el,hu,hs,he,ho⟩:=Mw K ht;obtain⟨v,hv,mQ⟩:=Kf K (c1:=c1) (c3:=c3) iH fK X.w;refine dc.same g v ?_ ⟨mQ,fun r ks=>ha.2 r (VO _ _ _ hn r ks)⟩;rw[<-hc,hl,ho _ (by omega),he _ hi]at hv;simp only[Instr.index,asIntOf,aG,aF,aA,aB hu];simp[hb,hs,hv]
      ·exact Ex.cB hx
   |_=>rw[ht]at hx;exact Ex.cB hx
  |_=>exact Ex.cB hx
 |_=>exact Ex.cB hx
end
theorem JM(k:IntKind)(n:Int):k.min<=k.wrap n/\k.wrap n<=k.max:=by
 unfold IntKind.wrap IntKind.min IntKind.max;cases k<;>simp[IntKind.signed,IntKind.bits]<;>(try split)<;>omega
theorem W9(k:IntKind):k.min<=0/\0<=k.max:=by
 cases k<;>simp[IntKind.min,IntKind.max,IntKind.signed,IntKind.bits]
theorem Qsv{a:Int}(h0:0<=a)(b:Int):a.tmod b<=a:=by
 obtain⟨m,rfl⟩:=Int.eq_ofNat_of_zero_le h0;cases b with
 |ofNat n=>exact Int.ofNat_le.2 (Nat.mod_le m n)
 |negSucc n=>exact Int.ofNat_le.2 (Nat.mod_le m (n+1))
theorem QpY{k:IntKind}{a:Int}(ha:k.min<=a/\a<=k.max)(b:Int):k.min<=a.tmod b/\a.tmod b<=k.max:=by
 have hz:=W9 k;rcases Int.le_total 0 a with h0|h0
 ·have h1:=Int.tmod_nonneg b h0;have h2:a.tmod b<=a:=Qsv h0 b;omega
 ·have e:a.tmod b = -((-a).tmod b):=by rw[Int.neg_tmod,Int.neg_neg]
  have h1:=Int.tmod_nonneg b (by omega:0 <= -a);have h2:(-a).tmod b <= -a:=Qsv (by omega) b;omega
theorem QpZ{k:IntKind}{a:Int}(ha:k.min<=a/\a<=k.max)(n:Nat):k.min<=a.fdiv (2^n)/\a.fdiv (2^n)<=k.max:=by
 have hz:=W9 k;have hp:(0:Int)<2^n:=Int.pow_pos (by decide);rw[aQ _ (by omega)];rcases Int.le_total 0 a with h0|h0
 ·have h1:=Int.ediv_nonneg h0 (by omega:(0:Int)<=2^n);have h2:=Int.ediv_le_self (2^n) h0;omega
 ·have h1:a/2^n<=0:=Int.ediv_nonpos_of_nonpos_of_neg h0 (by omega)
  have h2:a<=a/2^n:=by
   rw[Int.le_ediv_iff_mul_le hp];have:a*2^n<=a*1:=Int.mul_le_mul_of_nonpos_left h0 (by omega);omega
  omega
section
variable {C:gR}{P:Program}{T:fh C}(K:Zo P T)
open Pg (Ex)
variable {X:Cx}{h h':Heap C}{nx cF:Nat}{e:Pg.Lv}{lim:ek}{tr:Tr}(g:G T X h nx lim)
include g
theorem Qsw{op:BinOp}{k k':IntKind}{a b:Int}{d:D C}(t:TypeId)(x y:Operand)(ha:k.min<=a/\a<=k.max)(hk:II op=true\/k=k')(hx:Ex e (TO op k a b) h nx d h' cF tr) :
 dc P T X nx lim h' cF d (do eqGuard op t x y (.int k a) (.int k' b);binOp op t (.int k a) (.int k' b)):=by
 have hb:∀(c:Bool),RO T X nx lim (.bool c) (.bool c):=fun c=>RO.mk (.mk rfl (.bool c)) rfl;have hi:∀(n:Int),k.min<=n/\n<=k.max->RO T X nx lim (.int k n) (.int k n):=fun n hn=>RO.mk (.mk rfl (.int hn)) rfl;have hw:∀n,RO T X nx lim (.int k (k.wrap n)) (.int k (k.wrap n)):=fun n=>hi _ (JM k n);cases op
 case shl=>
  rcases Ex.br hx with⟨_,hx⟩|⟨rN,hx⟩
  ·exact Ex.cB hx
  ·obtain⟨rfl,rfl,rfl,rfl⟩:=Ex.ret hx;exact dc.same g _ (by simp[eqGuard_at_int,binOp,Op.shift,show ¬b<0 by simpa using rN]) (hw _)
 case shr=>
  rcases Ex.br hx with⟨_,hx⟩|⟨rN,hx⟩
  ·exact Ex.cB hx
  ·obtain⟨rfl,rfl,rfl,rfl⟩:=Ex.ret hx;exact dc.same g _ (by simp[eqGuard_at_int,binOp,Op.shift,show ¬b<0 by simpa using rN]) (hi _ (QpZ ha _))
 all_goals
  have hk:k=k':=by simpa[II]using hk
  subst hk
 case quo=>
  rcases Ex.br hx with⟨_,hx⟩|⟨rN,hx⟩
  ·exact Ex.cB hx
  ·obtain⟨rfl,rfl,rfl,rfl⟩:=Ex.ret hx;exact dc.same g _ (by simp[eqGuard_at_int,binOp,Op.intDiv,show ¬b=0 by simpa using rN]) (hw _)
 case rem=>
  rcases Ex.br hx with⟨_,hx⟩|⟨rN,hx⟩
  ·exact Ex.cB hx
  ·obtain⟨rfl,rfl,rfl,rfl⟩:=Ex.ret hx;exact dc.same g _ (by simp[eqGuard_at_int,binOp,Op.intDiv,show ¬b=0 by simpa using rN]) (hi _ (QpY ha _))
 all_goals obtain⟨rfl,rfl,rfl,rfl⟩:=Ex.ret hx
 case add|sub|mul=>exact dc.same g _ (by simp[eqGuard_at_int,binOp,Op.intArith]) (hw _)
 case and|or|xor|andNot=>exact dc.same g _ (by simp only[eqGuard_at_int,binOp_and,binOp_or,binOp_xor,binOp_andNot,aG,aF,aA];rfl) (hw _)
 all_goals exact dc.same g _ (by simp[eqGuard_at_int,binOp,Op.intCmp]) (hb _)
theorem Qsx{op:BinOp}{a b:bL}{d:D C}(t:TypeId)(x y:Operand)(hx:Ex e (PJ op a b) h nx d h' cF tr) :
 dc P T X nx lim h' cF d (do eqGuard op t x y (.string ⟨⟨a⟩⟩) (.string ⟨⟨b⟩⟩);binOp op t (.string ⟨⟨a⟩⟩) (.string ⟨⟨b⟩⟩)):=by
 have hb:∀(c:Bool),RO T X nx lim (.bool c) (.bool c):=fun c=>RO.mk (.mk rfl (.bool c)) rfl;have hl:∀q:bL,(⟨⟨q⟩⟩:ByteArray).toList=q:=fun q=>by rw[ByteArray.toList_eq]
 cases op<;>simp only[PJ]at hx
 case eql=>
  obtain⟨rfl,rfl,rfl,rfl⟩:=Ex.ret hx;exact dc.same g _ (by simp[eqGuard_at_string,binOp,Op.stringOp,hl]) (hb _)
 case neq=>
  obtain⟨rfl,rfl,rfl,rfl⟩:=Ex.ret hx;exact dc.same g _ (by simp[eqGuard_at_string,binOp,Op.stringOp,hl]) (hb _)
 case add=>
  rcases Ex.br hx with⟨rN,hx⟩|⟨_,hx⟩
  ·obtain⟨rfl,rfl,rfl,rfl⟩:=Ex.ret hx;have hle:a.length+b.length<=1000000000:=by simpa using rN
   refine dc.same g (.string ⟨⟨a++b⟩⟩) ?_ (RO.mk (.mk rfl (.str _)) rfl);have h1:(⟨⟨a⟩⟩:ByteArray).size=a.length:=rfl;have h2:(⟨⟨b⟩⟩:ByteArray).size=b.length:=rfl;have h3:¬(((⟨⟨a⟩⟩:ByteArray).size+(⟨⟨b⟩⟩:ByteArray).size:Nat):Int)>IntKind.i64.max:=by rw[h1,h2,IntKind.max_i64];omega
   have h4:(⟨⟨a⟩⟩:ByteArray)++⟨⟨b⟩⟩=⟨⟨a++b⟩⟩:=by
    apply ByteArray.ext;simp
   simp only[eqGuard_at_string,binOp,Op.stringOp,aG,aF,aA];rw[aw h3,h4];rfl
  ·exact Ex.cB hx
 all_goals exact Ex.cB hx
include K in
omit g in
theorem TX{x y:D C}{b:Bool}{t:TypeId}{vx vy:Value}(he:o5 x y=some b)(hf:fit T x (.inl t)=true)(hx:RV T X x vx)(hy:RV T X y vy)(n:Nat)(w:World) :
 (Op.equalIn (n+1) t vx vy).run P w=.ok b w:=by
 have hl:∀q:bL,(⟨⟨q⟩⟩:ByteArray).toList=q:=fun q=>by rw[ByteArray.toList_eq]
 have ex:∀q:D C,(∃c,o5 x y=some c/\x=q)->True:=fun _ _=>trivial;cases x<;>cases y<;>simp[o5]at he
 case bool.bool a c=>
  rw[hx.bool,hy.bool];cases ht:T.ty t<;>simp[fit,ht]at hf
  rw[run_equalIn_bool w n t a c (K.ov _ ht),<-he]
 case int.int k a k' c=>
  obtain⟨rfl,rfl⟩:=he;rw[hx.int.1,hy.int.1];cases ht:T.ty t<;>simp[fit,ht]at hf
  rw[run_equalIn_int w n t k _ a c (K.nD _ _ ht)]
 case str.str a c=>
  rw[hx.str,hy.str];cases ht:T.ty t<;>simp[fit,ht]at hf
  rw[run_equalIn_string w n t _ _ (K.k9 _ ht),hl,hl,<-he]
 all_goals
  have q1:=hx.one rfl;have q2:=hy.one rfl;cases ht:T.ty t<;>simp[fit,ht]at hf
  cases q1;cases q2;subst he
  first
   |simp[Op.equalIn,aB (K.Hl _ _ ht)]
   |(obtain⟨a,b,c,hu⟩:=K.uFn _ ht;simp[Op.equalIn,aB hu])
def xZ(d:Nat)(el:TypeId)(n:Nat)(xs ys:bY):bU->Sem Bool
 |[]=>pure true
 |i::is=>do
  let a <-part el xs (i*n)
  let b <-part el ys (i*n)
  let r <-Op.equalIn d el a b
  if(!r)=true then pure false else xZ d el n xs ys is
omit g in
theorem Qc1(d:Nat)(t el:TypeId)(n len:Nat)(xs ys:bY)(ht:P.underlying t=some (.array len el))(hn:∀w,(sizeOf el).run P w=.ok n w)(w:World) :
 (Op.equalIn (d+1) t (.agg xs) (.agg ys)).run P w=(xZ d el n xs ys (List.range' 0 len)).run P w:=by
 simp only[Op.equalIn,aG,aB ht,aA,hn];rw[Std.Legacy.Range.forIn_eq_forIn_range'];have hs:Std.Legacy.Range.size [:len]=len:=by simp[Std.Legacy.Range.size]
 rw[hs];generalize List.range' 0 len=is;show((forIn (m:=Sem) is _ _).run P w).andThen _=_
 induction is generalizing w with
 |nil=>simp[xZ]
 |cons i is ih=>
  simp only[List.forIn_cons,xZ,aG,Sem.run_ite];generalize (part el xs (i*n)).run P w=r1;cases r1 with
  |ok a w1=>
   simp only[aA];generalize (part el ys (i*n)).run P w1=r2;cases r2 with
   |ok b w2=>
    simp only[aA];generalize (Op.equalIn d el a b).run P w2=r3;cases r3 with
    |ok r w3=>
     cases r
     ·simp only[aA,bh,aU,aF]
     ·simp only[aA,bg,bu,aL,aF];exact ih w3
    |halt x w3=>simp[Result.andThen]
   |halt x w2=>simp[Result.andThen]
  |halt x w1=>simp[Result.andThen]
include K in
omit g in
theorem QHk{ty:C.Ty}{t el:TypeId}{n:Nat}(ht:T.ty t=.arr n el ty){l m:List (C.A ty)}{cx cy:bT}(hx:R T X false (.arr ty n l) cx)(hy:R T X false (.arr ty n m) cy)(d:Nat)(w:World) :
 ∀(j k:Nat) (b:Bool),j+k=n->C6 T (l.drop k) (m.drop k)=some b->(xZ (d+1) el (T.size el) ⟨cx⟩ ⟨cy⟩ (List.range' k j)).run P w=.ok b w:=by
 have vV:=(hx.gj K.base).2;have hly:=(hy.gj K.base).2;have hs:=Zy K (.inl ⟨_,ht⟩) w;intro j
 induction j with
 |zero=>
  intro k b hk he;rw[aO (by omega),aO (by omega)]at he;simp[C6]at he;subst he;simp[xZ]
 |succ j ih=>
  intro k b hk he;have Dh:k<l.length:=by omega
  have hky:k<m.length:=by omega
  rw[aJ Dh,aJ hky]at he;simp only[C6]at he;cases h1:T.sM ty l[k] m[k]with
  |none=>rw[h1]at he;simp at he
  |some b1=>
   cases h2:C6 T (l.drop (k+1)) (m.drop (k+1))with
   |none=>rw[h1,h2]at he;simp at he
   |some b2=>
    rw[h1,h2]at he;simp at he;subst he;obtain⟨c1,c2,c3,hc,hl,hr⟩:=hx.elem K.base k (by omega);obtain⟨d1,d2,d3,hd,kA,fK⟩:=hy.elem K.base k (by omega);have gx:l.getD k (T.eU ty)=l[k]:=by simp[Dh]
    have gy:m.getD k (T.eU ty)=m[k]:=by simp[hky]
    rw[gx]at hr;rw[gy]at fK;have iH:fit T (T.enc ty l[k]) (.inl el)=true:=by rw[YL hs.2.2];exact K.base.fS _ _
    have jR:fit T (T.enc ty m[k]) (.inl el)=true:=by rw[YL hs.2.2];exact K.base.fS _ _
    obtain⟨vx,zj,o9⟩:=Kf K (c1:=c1) (c3:=c3) iH hr w;obtain⟨vy,Ds,SF⟩:=Kf K (c1:=d1) (c3:=d3) jR fK w;rw[<-hc,hl,<-hs.2.1]at zj;rw[<-hd,kA,<-hs.2.1]at Ds;have Gh:=TX K (K.sM _ _ _ _ h1) iH o9 SF d w;have LI:=ih (k+1) b2 (by omega) h2;simp only[List.range'_succ,xZ,aG,zj,aA,Ds,Gh];cases b1
    ·simp
    ·simp[LI]
include K in
omit g in
theorem QHl(x:D C):(∀(y:D C) (b:Bool) (t:TypeId) (vx vy:Value) (n:Nat) (w:World),x.rH<=n->oZ T x y=some b->rD T x (.inl t)=true->fit T x (.inl t)=true->fit T y (.inl t)=true->RV T X x vx->RV T X y vy ->
 (Op.equalIn (n+1) t vx vy).run P w=.ok b w) /\
 (∀(y:D C) (b:Bool) (fs:cD) (fields:List Field) (px py cx cy:bT) (n:Nat) (w:World),x.rH<=n->oZ T x y=some b->rD T x (.inr fs)=true->fit T x (.inr fs)=true->fit T y (.inr fs)=true ->
  R T X false x cx->R T X false y cy->px.length=py.length->fields.map (·.type)=fs->(∀ (j : Nat) (f : Field),fields[j]? = some f->f.offset=px.length+Zh T (fs.take j))->(∀ f ∈ fields,f.name ≠ "_") ->
  (Op.eqFields n ⟨px++cx⟩ ⟨py++cy⟩ fields).run P w=.ok b w):=by
 induction x with
 |bI d ds i1 i2=>
  have row:∀(y:D C) (b:Bool) (fs:cD) (fields:List Field) (px py cx cy:bT) (n:Nat) (w:World),(D.bI d ds).rH<=n->oZ T (D.bI d ds) y=some b->rD T (D.bI d ds) (.inr fs)=true->fit T (D.bI d ds) (.inr fs)=true->fit T y (.inr fs)=true ->
   R T X false (D.bI d ds) cx->R T X false y cy->px.length=py.length->fields.map (·.type)=fs->(∀ (j : Nat) (f : Field),fields[j]? = some f->f.offset=px.length+Zh T (fs.take j))->(∀ f ∈ fields,f.name ≠ "_") ->
   (Op.eqFields n ⟨px++cx⟩ ⟨py++cy⟩ fields).run P w=.ok b w:=by
   intro y b fs fields px py cx cy n w hn he hY iH jR hx hy hp yT oK vW;cases y with
   |bI d' rI=>
    simp only[oZ]at he;cases h1:oZ T d d' with
    |none=>rw[h1]at he;simp at he
    |some b1=>
     cases h2:oZ T ds rI with
     |none=>rw[h1,h2]at he;simp at he
     |some b2=>
      rw[h1,h2]at he;simp at he;subst he;cases fs with
      |nil=>simp[fit]at iH
      |cons f fs=>
       simp only[fit,ai]at iH jR;simp only[rD,ai]at hY;cases fields with
       |nil=>simp at yT
       |cons fd fields=>
        simp at yT;obtain⟨LC,Gj⟩:=yT;cases hx with
        | @bI _ _ c1 c2 lU fN=>
         cases hy with
         | @bI _ _ e1 e2 hy1 GN=>
          have vK:d.rH+1<=n/\ds.rH<=n:=by simp[D.rH]at hn;omega
          obtain⟨m,rfl⟩:∃m,n=m+1:=⟨n-1,by omega⟩;have ho:=oK 0 fd rfl;simp[Zh]at ho;rw[<-LC]at iH jR hY;obtain⟨vx,zj,o9⟩:=Kf K (c1:=px) (c3:=c2) iH.1 lU w;obtain⟨vy,Ds,SF⟩:=Kf K (c1:=py) (c3:=e2) jR.1 hy1 w;have Gh:=i1.1 d' b1 fd.type vx vy m w (by omega) h1 hY.1 iH.1 jR.1 o9 SF;have y5:=lU.len K.base iH.1;have me:=hy1.len K.base jR.1
          have LI:=i2.2 rI b2 fs fields (px++c1) (py++e1) c2 e2 (m+1) w vK.2 h2 hY.2 iH.2 jR.2 fN GN (by simp;omega) Gj (by
           intro j f' hj;have:=oK (j+1) f' (by simpa using hj);rw[this];simp[Zh,y5,LC];omega) (fun q hq=>vW q (by simp[hq]))
          simp only[ay]at zj Ds LI;rw[<-hp]at Ds;simp only[Op.eqFields,vW fd (by simp),ne_eq,not_false_eq_true,aU,aG,ho,zj,aA,Ds,Gh];cases b1
          ·simp
          ·simp[LI]
   |_=>simp[oZ,o5]at he
  refine⟨?_,row⟩;intro y b t vx vy n w hn he hY iH jR hx hy;cases ht:T.ty t with
  |struct nZ fs=>
   have sZ:nZ=false/\rD T (D.bI d ds) (.inr fs)=true:=by
    cases nZ<;>cases fs<;>simp[rD,ht]at hY ⊢
    exact hY
   obtain⟨rfl,sZ⟩:=sZ;obtain⟨cx,fN,rfl⟩:=hx.row rfl;have SV:y.de=true:=(Kd jR).2 (.inl ⟨_,fs,ht⟩);obtain⟨cy,GN,rfl⟩:=hy.row SV;obtain⟨fields,hu,hm,ho,dV,_,vW⟩:=K.jW _ _ ht;have kT:P.fieldsOf t=fields:=by simp[Program.fieldsOf,hu]
   rw[run_equalIn_struct w n t _ _ (by rw[kT];exact hu) dV,kT]
   have hyc:∃a b,y=.bI a b:=by
    cases y<;>simp[oZ,o5]at he
    exact⟨_,_,rfl⟩
   refine row y b fs fields.toList [] [] cx cy n w hn he sZ (by rw[<-EL ht ⟨_,_,rfl⟩];exact iH) (by rw[<-EL ht hyc];exact jR) fN GN rfl hm (fun j f hj=>?_) vW
   simpa using ho j f (by simpa using hj)
  |_=>simp[fit,ht]at iH
 |bN=>
  refine⟨?_,?_⟩
  ·intro y b t vx vy n w hn he hY iH jR hx hy;cases ht:T.ty t<;>simp[fit,ht]at iH
   rename_i fs;cases fs with
   |nil=>
    have:=K.base.pos t (fun h=>by simp[ht]at h);rw[K.base.jf _ _ _ ht]at this;simp[Zh]at this
   |cons=>simp at iH
  ·intro y b fs fields px py cx cy n w hn he hY iH jR hx hy hp yT oK vW;cases fs with
   |nil=>
    cases fields with
    |nil=>
     cases y<;>simp[oZ,o5]at he
     subst he;simp[Op.eqFields]
    |cons=>simp at yT
   |cons=>simp[fit]at iH
 |arr ty m l=>
  refine⟨?_,fun y b fs fields px py cx cy n w _ _ _ hf=>by simp[fit]at hf⟩;intro y b t vx vy n w hn he hY iH jR hx hy;cases ht:T.ty t with
  |arr m2 el DB=>
   simp only[fit,ht,ai,Nat.beq_eq,aa]at iH;obtain⟨rfl,rfl⟩:=iH;cases y with
   |arr rq m3 l3=>
    simp only[fit,ht,ai,Nat.beq_eq,aa]at jR;obtain⟨rfl,rfl⟩:=jR;simp[oZ]at he;obtain⟨cx,fN,rfl⟩:=hx.row rfl;obtain⟨cy,GN,rfl⟩:=hy.row rfl;have fB:=fun w=>(Zy K (.inl ⟨_,ht⟩) w).1;obtain⟨k,rfl⟩:∃k,n=k+1:=⟨n-1,by simp[D.rH]at hn;omega⟩;rw[Qc1 (k+1) t el (T.size el) m2 _ _ (K.oa _ _ _ _ ht).1 fB];exact QHk K ht fN GN k w m2 0 b (by omega) (by simpa using he)
   |_=>simp[oZ,o5]at he
  |_=>simp[fit,ht]at iH
 |_=>
  refine⟨?_,fun y b fs fields px py cx cy n w _ _ _ hf=>by simp[fit]at hf⟩;intro y b t vx vy n w hn he hY iH jR hx hy;refine TX K (x:=_) (y:=y) ?_ iH hx hy n w;cases y<;>simpa[oZ]using he
include K
theorem QAb{op:BinOp}{x y d:D C}{t:TypeId}{vx vy:Value}(ox oy:Operand)(hx:RO T X nx lim x vx)(hy:RO T X nx lim y vy)(hxi:¬ ∃k n,x=.int k n/\∃k n,y=.int k n)(uJ:¬ ∃s,x=.str s/\∃s,y=.str s)
 (hex:Ex e (Mi T op t x y) h nx d h' cF tr):dc P T X nx lim h' cF d (do eqGuard op t ox oy vx vy;binOp op t vx vy):=by
 unfold Mi at hex;cases hc:fit T x (.inl t)&&fit T y (.inl t)&&(Nat.ble x.rH 1000&&rD T x (.inl t))with
 |false=>rw[hc]at hex;exact Ex.cB hex
 |true=>
  rw[hc]at hex;simp only[ag]at hex;simp only[ai]at hc;obtain⟨⟨iH,jR⟩,vK,hY⟩:=hc;have vK:=Nat.le_of_ble_eq_true vK;have key:∀b,oZ T x y=some b->∀w,(Op.equalIn 10000 t vx vy).run P w=.ok b w:=fun b hb w=>(QHl K x).1 y b t vx vy 9999 w (by omega) hb hY iH jR hx.1 hy.1
  have fin:(∀w,(eqGuard op t ox oy vx vy).run P w=.ok () w)->(∀b w,(Op.equalIn 10000 t vx vy).run P w=.ok b w->(binOp .eql t vx vy).run P w=.ok (.bool b) w/\(binOp .neq t vx vy).run P w=.ok (.bool !b) w) ->
   dc P T X nx lim h' cF d (do eqGuard op t ox oy vx vy;binOp op t vx vy):=by
   intro h1 h2;cases op<;>simp only at hex
   case eql=>
    obtain⟨b,h3,n3,t3,t4,sT,Ge,_⟩:=Ex.bind hex;obtain⟨hb,rfl,rfl,rfl⟩:=Ex.jq sT;obtain⟨rfl,rfl,rfl,rfl⟩:=Ex.ret Ge;refine dc.same g (.bool b) ?_ (RO.mk (.mk rfl (.bool b)) rfl);simp only[aG,h1,aA];exact(h2 b _ (key b hb _)).1
   case neq=>
    obtain⟨b,h3,n3,t3,t4,sT,Ge,_⟩:=Ex.bind hex;obtain⟨hb,rfl,rfl,rfl⟩:=Ex.jq sT;obtain⟨rfl,rfl,rfl,rfl⟩:=Ex.ret Ge;refine dc.same g (.bool !b) ?_ (RO.mk (.mk rfl (.bool !b)) rfl);simp only[aG,h1,aA];exact(h2 b _ (key b hb _)).2
   all_goals exact Ex.cB hex
  have none:oZ T x y=none->False:=by
   intro hn;cases op<;>simp only at hex
   case eql=>obtain⟨b,_,_,_,_,sT,_⟩:=Ex.bind hex;rw[hn]at sT;exact Ex.fail sT
   case neq=>obtain⟨b,_,_,_,_,sT,_⟩:=Ex.bind hex;rw[hn]at sT;exact Ex.fail sT
   all_goals exact Ex.fail hex
  have FB:∀cx cy:bT,vx=.agg ⟨cx⟩->vy=.agg ⟨cy⟩->P.eqGuardType P.depth t=false->dc P T X nx lim h' cF d (do eqGuard op t ox oy vx vy;binOp op t vx vy):=by
   rintro cx cy rfl rfl hg
   refine fin (fun w=>?_) (fun b w hb=>⟨by rw[run_eql_struct,hb];rfl,by rw[run_neq_struct,hb];rfl⟩);unfold eqGuard;cases op<;>simp[hg]
  cases ht:T.ty t with
  |struct nZ fs=>
   obtain⟨cx,_,h1⟩:=hx.1.row ((Kd iH).2 (.inl ⟨_,fs,ht⟩));obtain⟨cy,_,h2⟩:=hy.1.row ((Kd jR).2 (.inl ⟨_,fs,ht⟩))
   have sZ:nZ=false:=by
    cases nZ with
    |false=>rfl
    |true=>
     have mA:=K.base.pos t (fun h=>by simp[ht]at h);rw[K.base.jf _ _ _ ht]at mA;exfalso;cases x<;>simp[fit,ht]at iH
     ·cases fs with
      |nil=>simp[Zh]at mA
      |cons=>simp at iH
     ·cases fs<;>simp[rD,ht]at hY
   subst sZ;obtain⟨_,_,_,_,_,hg,_⟩:=K.jW _ _ ht;exact FB cx cy h1 h2 hg
  |arr n el ty=>
   obtain⟨cx,_,h1⟩:=hx.1.row ((Kd iH).2 (.inr ⟨_,_,_,ht⟩));obtain⟨cy,_,h2⟩:=hy.1.row ((Kd jR).2 (.inr ⟨_,_,_,ht⟩));exact FB cx cy h1 h2 (K.oa _ _ _ _ ht).2
  |bool=>
   cases x<;>simp[fit,ht]at iH
   cases y<;>simp[fit,ht]at jR
   rw[hx.1.bool,hy.1.bool];rw[hx.1.bool,hy.1.bool]at fin;refine fin (fun w=>by rw[eqGuard_at_bool];rfl) (fun b w hb=>?_);constructor<;>simp only[binOp,Op.equal,Op.maxDepth,aG,hb,aA,aF]
  |int k=>
   cases x<;>simp[fit,ht]at iH
   cases y<;>simp[fit,ht]at jR
   exact absurd ⟨_,_,rfl,_,_,rfl⟩ hxi
  |str=>
   cases x<;>simp[fit,ht]at iH
   cases y<;>simp[fit,ht]at jR
   exact absurd ⟨_,rfl,_,rfl⟩ uJ
  |sl el ty=>
   exfalso;apply none;cases x<;>simp[fit,ht]at iH<;>cases y<;>simp[fit,ht]at jR<;>rfl
  |ptr el=>
   have h1:∃a,vx=.pointer a:=by
    cases x<;>simp[fit,ht]at iH<;>have q:=hx.1.one rfl<;>cases q<;>exact⟨_,rfl⟩
   have h2:∃a,vy=.pointer a:=by
    cases y<;>simp[fit,ht]at jR<;>have q:=hy.1.one rfl<;>cases q<;>exact⟨_,rfl⟩
   obtain⟨a,rfl⟩:=h1;obtain⟨b,rfl⟩:=h2;refine fin (fun w=>by rw[eqGuard_at_pointer];rfl) (fun b w hb=>?_);constructor<;>simp only[binOp,Op.equal,Op.maxDepth,aG,hb,aA,aF]
  |fn=>
   have h1:(∃a b c,vx=.func a b c)\/vx=.nilFunc:=by
    cases x<;>simp[fit,ht]at iH<;>have q:=hx.1.one rfl<;>cases q
    ·exact .inl ⟨_,_,_,rfl⟩
    ·exact .inr rfl
    ·exact .inl ⟨_,_,_,rfl⟩
   have h2:(∃a b c,vy=.func a b c)\/vy=.nilFunc:=by
    cases y<;>simp[fit,ht]at jR<;>have q:=hy.1.one rfl<;>cases q
    ·exact .inl ⟨_,_,_,rfl⟩
    ·exact .inr rfl
    ·exact .inl ⟨_,_,_,rfl⟩
   refine fin (fun w=>?_) (fun b w hb=>?_)
   ·rcases h1 with⟨_,_,_,rfl⟩|rfl
    ·rw[eqGuard_at_func];rfl
    ·rw[eqGuard_at_nilFunc];rfl
   ·rcases h1 with⟨_,_,_,rfl⟩|rfl<;>rcases h2 with⟨_,_,_,rfl⟩|rfl<;>
     constructor<;>simp only[binOp,Op.equal,Op.maxDepth,aG,hb,aA,aF]
  |fO el=>
   exfalso;apply none;cases x<;>simp[fit,ht]at iH<;>cases y<;>simp[fit,ht]at jR<;>rfl
  |map kt vt ck cv=>
   exfalso;apply none;cases x<;>simp[fit,ht]at iH<;>cases y<;>simp[fit,ht]at jR<;>rfl
  |none=>cases x<;>simp[fit,ht]at iH
theorem QHm{op:BinOp}{x y d:D C}{t:TypeId}{vx vy:Value}(ox oy:Operand)(hx:RO T X nx lim x vx)(hy:RO T X nx lim y vy)(hex:Ex e (yy T op t x y) h nx d h' cF tr) :
 dc P T X nx lim h' cF d (do eqGuard op t ox oy vx vy;binOp op t vx vy):=by
 unfold yy at hex
 by_cases h1:∃k n,x=.int k n/\∃k n,y=.int k n
 ·obtain⟨k,a,rfl,k',b,rfl⟩:=h1;simp only at hex;cases hc:II op||decide (k=k')with
  |false=>rw[hc]at hex;exact Ex.cB hex
  |true=>
   rw[hc]at hex;obtain⟨rfl,ha⟩:=hx.1.int;obtain⟨rfl,_⟩:=hy.1.int;exact Qsw g t ox oy ha (by simpa using hc) hex
 ·by_cases h2:∃s,x=.str s/\∃s,y=.str s
  ·obtain⟨a,rfl,b,rfl⟩:=h2;rw[hx.1.str,hy.1.str];exact Qsx g t ox oy hex
  ·by_cases h3:∃ty c l,x=.sl ty c l/\y=.ez
   ·obtain⟨ty,c,l,rfl,rfl⟩:=h3;simp only at hex
    split at hex
    ·rename_i el iM ht;have hu:=K.oX _ _ _ ht;rw[hy.1.ez]
     have fg:∀{op:BinOp} {d:D C} {r:Bool},l.isEmpty=false->op=.eql/\r=false\/op=.neq/\r=true->d=.bool r->dc P T X nx lim h nx d (do eqGuard op t ox oy vx (.slice none 0 0);binOp op t vx (.slice none 0 0)):=by
      rintro op d r hl hop rfl
      have hR:=hx.1.one rfl;cases hR with
      |kN=>simp at hl
      | @sl _ _ _ b off cp cs iw hr hc kz=>
       refine dc.same g (.bool r) ?_ (RO.mk (.mk rfl (.bool r)) rfl)
       have hq:∀n w,(Op.equalIn (n+1) t (.slice (some ⟨b,off,none⟩) l.length cp) (.slice none 0 0)).run P w=.ok false w:=by
        intro n w;unfold Op.equalIn;simp only[aG,aB hu,aA,aF]
       have LG:∀w,(eqGuard op t ox oy (.slice (some ⟨b,off,none⟩) l.length cp) (.slice none 0 0)).run P w=.ok () w:=by
        intro w;unfold eqGuard;cases op<;>rfl
       have hb:=hq 9999 X.w;simp only[Nat.reduceAdd]at hb;rw[aG,LG,aA];rcases hop with⟨rfl,rfl⟩|⟨rfl,rfl⟩<;>simp only[binOp,Op.equal,Op.maxDepth,aG,hb,aA,aF]<;>rfl
     unfold TP at hex;cases op<;>simp only at hex
     case eql=>
      rcases Ex.br hex with⟨_,hex⟩|⟨hb,hex⟩
      ·exact Ex.cB hex
      ·obtain⟨rfl,rfl,rfl,rfl⟩:=Ex.ret hex;exact fg hb (.inl ⟨rfl,rfl⟩) rfl
     case neq=>
      rcases Ex.br hex with⟨_,hex⟩|⟨hb,hex⟩
      ·exact Ex.cB hex
      ·obtain⟨rfl,rfl,rfl,rfl⟩:=Ex.ret hex;exact fg hb (.inr ⟨rfl,rfl⟩) rfl
     all_goals exact Ex.cB hex
    ·exact Ex.cB hex
   ·refine QAb (e:=e) (tr:=tr) K g ox oy hx hy h1 h2 ?_;cases x<;>cases y<;>first|exact hex|(exfalso;apply h1;exact⟨_,_,rfl,_,_,rfl⟩)|(exfalso;apply h2;exact⟨_,rfl,_,rfl⟩)|(exfalso;apply h3;exact⟨_,_,_,rfl,rfl⟩)
end
end Go.Ev
