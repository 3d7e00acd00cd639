/-
  A part of the proof of a statement of this seat: the model is run over values by content, proved sound; what the functions come to. No condition beyond the given statements. (text 1)
-/
import Derived.Orders
import Derived.Laws.CopyRow
import Derived.Laws.Append
import Derived.Below
import Derived.Laws.StructEq
import Derived.Laws.BytesString
namespace Go.Ev
structure Cdc where
 Ty:Type
 deq:DecidableEq Ty
 A:Ty->Type
instance instDecTy (C:Cdc):DecidableEq C.Ty:=C.deq
inductive D (C:Cdc):Type where
 | bool (b:Bool)
 | int (k:IntKind) (n:Int)
 | str (s:List UInt8)
 | anil
 | acons (d ds:D C)
 | arr (t:C.Ty) (n:Nat) (l:List (C.A t))
 | tup (ds:D C)
 | nils
 | sl (t:C.Ty) (cap:Bool) (l:List (C.A t))
 | vs (id n:Nat)
 | ptr (id:Nat) (path:List Nat)
 | vptr (id n:Nat) (path:List Nat)
 | cptr (d:D C)
 | nilp
 | fn (f:Nat) (caps:D C)
 | nilfn
 | nilm
 | bm (f:Nat) (d:D C)
 | yl (nt:Nat) (slots ps:List Nat) (asn body:Code) (caps:D C) (id:Nat)
 | dsl (n:Nat) (cap:Bool) (ds:D C)
 | itp (id:Nat)
 | mp (id:Nat)
 | asl (t:TypeId) (id:Nat) (path:List Nat) (lo n:Nat)
 | top
inductive Ctl (C:Cdc):Type where
 | lp (busy dn:Bool) (ex:Nat)
 | it (k v:C.Ty) (l:List (C.A k × C.A v))
inductive Obj (C:Cdc):Type where
 | var (t:TypeId) (d:D C)
 | vec (t:C.Ty) (own:Bool) (l:List (C.A t))
 | map (k v:C.Ty) (l:List (C.A k × C.A v))
 | ctl (c:Ctl C)
abbrev Heap (C:Cdc):=List (Nat × Obj C)
namespace Heap
variable {C:Cdc}
def get (id:Nat):Heap C->Option (Obj C)
 | []=>none
 | (j,o)::h=>bif Nat.beq id j then some o else get id h
def put (id:Nat) (o:Obj C):Heap C->Heap C
 | []=>[]
 | (j,p)::h=>bif Nat.beq id j then (j,o)::h else (j,p)::put id o h
def del (id:Nat):Heap C->Heap C
 | []=>[]
 | (j,p)::h=>bif Nat.beq id j then del id h else (j,p)::del id h
def drop (lo hi:Nat) (keep:List Nat):Heap C->Heap C
 | []=>[]
 | (j,p)::h=>bif Nat.ble lo j && Nat.blt j hi && !(keep.any (Nat.beq j)) then drop lo hi keep h else (j,p)::drop lo hi keep h
end Heap
abbrev Tr:=List (Nat × Bool)
abbrev Env (C:Cdc):=List (Nat × D C)
inductive Pg (C:Cdc):Type->Type 1 where
 | ret {α:Type} (a:α):Pg C α
 | fail {α:Type}:Pg C α
 | br {α:Type} (b:Bool) (x y:Pg C α):Pg C α
 | rd {α:Type} (id:Nat) (k:Obj C->Pg C α):Pg C α
 | wr {α:Type} (id:Nat) (o:Obj C) (k:Pg C α):Pg C α
 | nw {α:Type} (o:Obj C) (k:Nat->Pg C α):Pg C α
 | dl {α:Type} (id:Nat) (k:Pg C α):Pg C α
 | cnt {α:Type} (k:Nat->Nat->Pg C α):Pg C α
 | upto {α:Type} (n:Nat) (k:Pg C α):Pg C α
 | gc {α:Type} (lo:Nat) (keep:List Nat) (k:Pg C α):Pg C α
 | sub {α:Type} (p:Pg C (Env C)) (k:Env C->Tr->Pg C α):Pg C α
namespace Pg
variable {C:Cdc}
def bind {α β:Type}:Pg C α->(α->Pg C β)->Pg C β
 | .ret a,f=>f a
 | .fail,_=>.fail
 | .br b x y,f=>.br b (x.bind f) (y.bind f)
 | .rd id k,f=>.rd id fun o=>(k o).bind f
 | .wr id o k,f=>.wr id o (k.bind f)
 | .nw o k,f=>.nw o fun id=>(k id).bind f
 | .dl id k,f=>.dl id (k.bind f)
 | .cnt k,f=>.cnt fun n s=>(k n s).bind f
 | .upto n k,f=>.upto n (k.bind f)
 | .gc lo l k,f=>.gc lo l (k.bind f)
 | .sub p k,f=>.sub p fun e t=>(k e t).bind f
def ofOpt {α:Type}:Option α->Pg C α
 | some a=>.ret a
 | none=>.fail
def span (dep:Nat):Nat:=2 ^ (24 * (40 - dep))
abbrev Lv:=Nat × Nat
def run {α β:Type}:Pg C α->Lv->Heap C->Nat->Tr->(α->Heap C->Nat->Tr->Option β)->Option β
 | .ret a,_,h,n,l,k=>k a h n l
 | .fail,_,_,_,_,_=>none
 | .br b x y,e,h,n,l,k=>bif b then x.run e h n l k else y.run e h n l k
 | .rd id f,e,h,n,l,k=>match h.get id with
  | some o=>(f o).run e h n ((id,false)::l) k
  | none=>none
 | .wr id o f,e,h,n,l,k=>match h.get id with
  | some _=>f.run e (h.put id o) n ((id,true)::l) k
  | none=>none
 | .nw o f,e,h,n,l,k=>(f n).run e ((n,o)::h) (n+1) ((n,true)::l) k
 | .dl id f,e,h,n,l,k=>match h.get id with
  | some _=>f.run e (h.del id) n ((id,true)::l) k
  | none=>none
 | .cnt f,e,h,n,l,k=>(f n (span e.1)).run e h n l k
 | .upto m f,e,h,n,l,k=>bif Nat.ble n m then f.run e h m l k else none
 | .gc lo keep f,e,h,n,l,k=>bif Nat.ble e.2 lo then f.run e (h.drop lo n keep) n l k else none
 | .sub p f,e,h,n,l,k=>p.run (e.1+1,n) h n [] fun a h n t=>(f a t).run e h n (t++l) k
end Pg
inductive GT (C:Cdc):Type where
 | bool | int (k:IntKind) | str
 | struct (isArr:Bool) (fs:List TypeId)
 | arr (n:Nat) (e:TypeId) (t:C.Ty)
 | sl (e:TypeId) (t:C.Ty)
 | dsl (e:TypeId)
 | map (k v:TypeId) (ck cv:C.Ty)
 | ptr (e:TypeId) | fn | none
structure Tab (C:Cdc) where
 ty:TypeId->GT C
 size:TypeId->Nat
 bytes:TypeId->Nat
 enc:(t:C.Ty)->C.A t->D C
 dec:(t:C.Ty)->D C->Option (C.A t)
 dflt:(t:C.Ty)->C.A t
 ety:C.Ty->TypeId
 eqb:(t:C.Ty)->C.A t->C.A t->Option Bool
 zero:TypeId->Option (D C)
 u8s:(t:C.Ty)->Option (List (C.A t)->List UInt8)
 ofU8s:(t:C.Ty)->Option (List UInt8->List (C.A t))
 pre:List (Nat × Array Value):=[]
 settle:TypeId->Bool:=fun _=>true
inductive X where
 | normal | exit (id:Nat) | ret
structure Fns (C:Cdc) where
 fn:FuncId->Option Func
 keeps:FuncId->Bool
 rest:FuncId->List (Nat × List Nat)
 total:FuncId->Bool
 lend:FuncId->Bool:=fun _=>false
 ospec:FuncId->Option (List (D C)->Pg C (D C))
 spec:FuncId->Option (List (D C)->Option (Bool × D C))
 loop:FuncId->Nat->Option (List (Nat × D C)->Pg C (X × List (Nat × D C)))
section
variable {C:Cdc} (T:Tab C)
def eget:Env C->Nat->D C
 | [],_=>.top
 | (j,d)::r,t=>bif Nat.beq t j then d else eget r t
def eargs:Nat->List (D C)->Env C
 | _,[]=>[]
 | n,d::l=>(n,d)::eargs (n+1) l
namespace D
def nth:D C->Nat->Option (D C)
 | .acons d _,0=>some d
 | .acons _ ds,n+1=>ds.nth n
 | _,_=>none
def setNth:D C->Nat->D C->Option (D C)
 | .acons _ ds,0,v=>some (.acons v ds)
 | .acons d ds,n+1,v=>(ds.setNth n v).map (.acons d)
 | _,_,_=>none
def toList:D C->List (D C)
 | .acons d ds=>d::ds.toList
 | _=>[]
def ofList:List (D C)->D C
 | []=>.anil
 | d::l=>.acons d (ofList l)
def size:D C->Nat
 | .acons _ ds=>ds.size+1
 | _=>0
def append:D C->D C->D C
 | .acons d ds,x=>.acons d (ds.append x)
 | _,x=>x
def isRow:D C->Bool
 | .anil | .acons _ _ | .arr _ _ _=>true
 | _=>false
def ones:D C->Bool
 | .acons d ds => !d.isRow && ds.ones
 | .anil=>true
 | _=>false
def refs:D C->List Nat
 | .acons d ds=>d.refs++ds.refs
 | .tup d | .fn _ d | .cptr d | .dsl _ _ d | .bm _ d=>d.refs
 | .yl _ _ _ _ _ d id=>d.refs++[id]
 | .itp id | .mp id | .vs id _ | .ptr id _ | .vptr id _ _ | .asl _ id _ _ _=>[id]
 | _=>[]
def noYl:D C->Bool
 | .acons d ds=>d.noYl && ds.noYl
 | .tup d | .fn _ d | .cptr d | .dsl _ _ d | .bm _ d=>d.noYl
 | .yl _ _ _ _ _ _ _=>false
 | _=>true
def dep:D C->Nat
 | .acons d ds=>max (d.dep+1) ds.dep
 | .arr _ _ _=>1
 | _=>0
def asList (t:C.Ty):D C->Option (List (C.A t))
 | .nils=>some []
 | .sl t' _ l=>if h:t'=t then some (h ▸ l) else Option.none
 | _=>Option.none
end D
def constD:Value->D C
 | .bool b=>.bool b
 | .int k n=>bif decide (k.min <= n) && decide (n <= k.max) then .int k n else .top
 | .string s=>.str s.data.toList
 | .slice none 0 0=>.nils
 | .pointer none=>.nilp
 | .nilFunc=>.nilfn
 | .tuple ⟨[]⟩=>.tup .anil
 | .map none=>.nilm
 | _=>.top
def Zt (t:TypeId) (d:D C):D C :=
 match d with
 | .nils=>match T.ty t with
  | .sl _ ty=>.sl ty true []
  | _=>.nils
 | d=>d
def fit:D C->TypeId ⊕ List TypeId->Bool
 | .anil,.inl t=>match T.ty t with | .struct _ []=>true | _=>false
 | .anil,.inr fs=>fs.isEmpty
 | .acons d ds,.inl t=>match T.ty t with
  | .struct _ (f::fs)=>fit d (.inl f) && fit ds (.inr fs)
  | _=>false
 | .acons d ds,.inr (f::fs)=>fit d (.inl f) && fit ds (.inr fs)
 | .arr t n _,.inl u=>match T.ty u with
  | .arr m _ t'=>Nat.beq m n && decide (t=t')
  | _=>false
 | .bool _,.inl u=>match T.ty u with | .bool=>true | _=>false
 | .int k _,.inl u=>match T.ty u with | .int k'=>decide (k=k') | _=>false
 | .str _,.inl u=>match T.ty u with | .str=>true | _=>false
 | .sl t _ _,.inl u=>match T.ty u with | .sl _ t'=>decide (t=t') | _=>false
 | .vs _ _,.inl u=>match T.ty u with | .sl _ _=>true | _=>false
 | .asl _ _ _ _ _,.inl u=>match T.ty u with | .sl _ _=>true | _=>false
 | .ptr _ _,.inl u=>match T.ty u with | .ptr _=>true | _=>false
 | .vptr _ _ _,.inl u=>match T.ty u with | .ptr _=>true | _=>false
 | .cptr d,.inl u=>match T.ty u with | .ptr _=>d.noYl | _=>false
 | .nilp,.inl u=>match T.ty u with | .ptr _=>true | _=>false
 | .fn _ d,.inl u=>match T.ty u with | .fn=>d.noYl | _=>false
 | .nilfn,.inl u=>match T.ty u with | .fn=>true | _=>false
 | .nilm,.inl u=>match T.ty u with | .map _ _ _ _=>true | _=>false
 | .bm _ d,.inl u=>match T.ty u with | .fn=>d.noYl | _=>false
 | .dsl _ _ d,.inl u=>match T.ty u with | .dsl _=>d.noYl | _=>false
 | .mp _,.inl u=>match T.ty u with | .map _ _ _ _=>true | _=>false
 | _,_=>false
def getPath:D C->List Nat->Option (D C)
 | d,[]=>some d
 | .acons d ds,i::p=>match (D.acons d ds).nth i with
  | some x=>getPath x p
  | none=>none
 | .arr t _ l,i::p=>getPath (T.enc t (l.getD i (T.dflt t))) p
 | _,_=>none
def setPath:D C->List Nat->D C->Option (D C)
 | _,[],v=>some v
 | .acons d ds,i::p,v=>match (D.acons d ds).nth i with
  | some x=>match setPath x p v with
   | some y=>(D.acons d ds).setNth i y
   | none=>none
  | none=>none
 | .arr t n l,i::p,v=>match setPath (T.enc t (l.getD i (T.dflt t))) p v with
  | some y=>match T.dec t y with
   | some z=>some (.arr t n (l.set i z))
   | none=>none
  | none=>none
 | _,_,_=>none
def tyAt:TypeId->List Nat->Option TypeId
 | t,[]=>some t
 | t,i::p=>match T.ty t with
  | .struct _ fs=>match fs[i]? with
   | some f=>tyAt f p
   | none=>none
  | .arr _ e _=>tyAt e p
  | _=>none
def eqS:D C->D C->Option Bool
 | .bool a,.bool b=>some (a == b)
 | .int k a,.int k' b=>if k=k' then some (a == b) else none
 | .str a,.str b=>some (a == b)
 | .nilp,.nilp=>some true
 | .nilp,.ptr _ _ | .nilp,.cptr _ | .ptr _ _,.nilp | .cptr _,.nilp=>some false
 | .nilfn,.nilfn=>some true
 | .nilfn,.fn _ _ | .fn _ _,.nilfn=>some false
 | _,_=>none
def eqL {t:C.Ty}:List (C.A t)->List (C.A t)->Option Bool
 | [],[]=>some true
 | x::l,y::m=>match T.eqb t x y,eqL l m with
  | some a,some b=>some (a && b)
  | _,_=>none
 | _,_=>none
def eqD:D C->D C->Option Bool
 | .anil,.anil=>some true
 | .acons a asn,.acons b bs=>match eqD a b,eqD asn bs with
  | some x,some y=>some (x && y)
  | _,_=>none
 | .arr t n l,.arr t' n' l'=>if h:t=t' then (if n=n' then eqL T l (h ▸ l') else none) else none
 | x,y=>eqS x y
def bits (k:IntKind) (f:(n:Nat)->BitVec n->BitVec n->BitVec n) (a b:Int):Int :=
 k.wrap (f k.bits (BitVec.ofInt k.bits a) (BitVec.ofInt k.bits b)).toNat
def Qqw (op:BinOp) (k:IntKind) (a b:Int):Pg C (D C) :=
 match op with
 | .add=>.ret (.int k (k.wrap (a+b)))
 | .sub=>.ret (.int k (k.wrap (a - b)))
 | .mul=>.ret (.int k (k.wrap (a * b)))
 | .quo=>.br (b == 0) .fail (.ret (.int k (k.wrap (a.tdiv b))))
 | .rem=>.br (b == 0) .fail (.ret (.int k (a.tmod b)))
 | .and=>.ret (.int k (bits k (fun _ u v=>u &&& v) a b))
 | .or=>.ret (.int k (bits k (fun _ u v=>u ||| v) a b))
 | .xor=>.ret (.int k (bits k (fun _ u v=>u ^^^ v) a b))
 | .andNot=>.ret (.int k (bits k (fun _ u v=>u &&& ~~~v) a b))
 | .eql=>.ret (.bool (a == b))
 | .neq=>.ret (.bool (a != b))
 | .lss=>.ret (.bool (decide (a < b)))
 | .leq=>.ret (.bool (decide (a <= b)))
 | .gtr=>.ret (.bool (decide (b < a)))
 | .geq=>.ret (.bool (decide (b <= a)))
 | .shl=>.br (decide (b < 0)) .fail (.ret (.int k (k.wrap (a * 2 ^ min b.toNat k.bits))))
 | .shr=>.br (decide (b < 0)) .fail (.ret (.int k (a.fdiv (2 ^ min b.toNat k.bits))))
def Qcz:BinOp->Bool
 | .shl | .shr=>true
 | _=>false
def Qjy (op:BinOp) (a b:List UInt8):Pg C (D C) :=
 match op with
 | .eql=>.ret (.bool (a == b))
 | .neq=>.ret (.bool (!(a == b)))
 | .add=>.br (decide (a.length+b.length <= 1000000000)) (.ret (.str (a++b))) .fail
 | _=>.fail
def Kv:D C->TypeId ⊕ List TypeId->Bool
 | .acons d ds,.inl t=>match T.ty t with
  | .struct false (f::fs)=>Kv d (.inl f) && Kv ds (.inr fs)
  | _=>false
 | .acons d ds,.inr (f::fs)=>Kv d (.inl f) && Kv ds (.inr fs)
 | .acons _ _,.inr []=>false
 | _,_=>true
def QrS (op:BinOp) (t:TypeId) (x y:D C):Pg C (D C) :=
 bif fit T x (.inl t) && fit T y (.inl t) && (Nat.ble x.dep 1000 && Kv T x (.inl t)) then (match op with
  | .eql=>.bind (.ofOpt (eqD T x y)) fun b=>.ret (.bool b)
  | .neq=>.bind (.ofOpt (eqD T x y)) fun b=>.ret (.bool !b)
  | _=>.fail) else .fail
def Qqx (op:BinOp) (empty:Bool):Pg C (D C) :=
 match op with
 | .eql=>.br empty .fail (.ret (.bool false))
 | .neq=>.br empty .fail (.ret (.bool true))
 | _=>.fail
def binD (op:BinOp) (t:TypeId) (x y:D C):Pg C (D C) :=
 match x,y with
 | .int k a,.int k' b=>bif Qcz op || decide (k=k') then Qqw op k a b else .fail
 | .str a,.str b=>Qjy op a b
 | .sl _ _ l,.nils=>(match T.ty t with
  | .sl _ _=>Qqx op l.isEmpty
  | _=>.fail)
 | x,y=>QrS T op t x y
def frz:D C->Pg C (D C)
 | .acons d ds=>.bind (frz d) fun d'=>.bind (frz ds) fun ds'=>.ret (.acons d' ds')
 | .tup d=>.bind (frz d) fun d'=>.ret (.tup d')
 | .vs id n=>.rd id fun
  | .vec t _ l=>.br (Nat.beq n l.length) (.wr id (.vec t false l) (.ret (.sl t false l))) .fail
  | _=>.fail
 | .asl _ _ _ _ _=>.fail
 | d=>.ret d
def JU:D C->Pg C (D C)
 | .acons d ds=>.bind (JU d) fun d'=>.bind (JU ds) fun ds'=>.ret (.acons d' ds')
 | .tup d=>.bind (JU d) fun d'=>.ret (.tup d')
 | .vs id n=>.rd id fun
  | .vec t _ l=>.br (Nat.beq n l.length) (.ret (.sl t false l)) .fail
  | _=>.fail
 | .asl _ id p lo _=>.rd id fun
  | .vec t _ l=>.br (Nat.beq (p.getD 0 0) l.length && Nat.ble lo l.length) (.ret (.sl t false (l.drop lo))) .fail
  | _=>.fail
 | d=>.ret d
def QoM:List (D C)->Pg C (List (D C))
 | []=>.ret []
 | d::ds=>.bind (JU d) fun d'=>.bind (QoM ds) fun ds'=>.ret (d'::ds')
def D.plain:D C->Bool
 | .bool _ | .int _ _ | .str _ | .anil | .nils | .nilp | .nilfn | .nilm=>true
 | .acons a b=>a.plain && b.plain
 | .tup d=>d.plain
 | _=>false
def frzL:List (D C)->Pg C (List (D C))
 | []=>.ret []
 | d::ds=>.bind (frz d) fun d'=>.bind (frzL ds) fun ds'=>.ret (d'::ds')
def Qk (n:Nat) (bytes:Nat):Bool:=decide (n * bytes <= 1099511627776)
def app (t:C.Ty) (bytes:Nat) (s:D C) (xs:List (C.A t)):Pg C (D C) :=
 match s with
 | .nils=>.br (Qk xs.length bytes) (.nw (.vec t true xs) fun id=>.ret (.vs id xs.length)) .fail
 | .sl t' cap l=>if h:t'=t then (match cap with
  | true=>.br (Qk (l.length+xs.length) bytes) (.nw (.vec t l.isEmpty ((h ▸ l)++xs)) fun id=>.ret (.vs id (l.length+xs.length))) .fail
  | false=>.fail) else .fail
 | .vs id n=>.rd id fun
  | .vec t' own l=>if h:t'=t then .br (Nat.beq n l.length && Qk (n+xs.length) bytes) (.wr id (.vec t own ((h ▸ l)++xs)) (.ret (.vs id (l.length+xs.length)))) .fail else .fail
  | _=>.fail
 | _=>.fail
def elems (t:C.Ty) (d:D C) (k:List (C.A t)->Pg C (D C)):Pg C (D C) :=
 match d with
 | .nils=>k []
 | .sl t' _ l=>if h:t'=t then k (h ▸ l) else .fail
 | .vs id n=>.rd id fun
  | .vec t' _ l=>if h:t'=t then .br (Nat.beq n l.length) (k (h ▸ l)) .fail else .fail
  | _=>.fail
 | _=>.fail
def Qh (n:Nat):Bool:=Nat.ble n 9223372036854775807
theorem Qe {n:Nat} (h:n <= 9223372036854775807):Qh n=true:=Nat.ble_eq_true_of_le h
theorem V5 {n:Nat} (h:Qh n=true):n <= 9223372036854775807:=Nat.le_of_ble_eq_true h
def lenD (t:TypeId) (d:D C):Pg C (D C) :=
 match T.ty t with
 | .sl _ _=>match d with
  | .nils=>.ret (.int .i64 0)
  | .sl _ _ l=>.br (Qh l.length) (.ret (.int .i64 l.length)) .fail
  | .vs _ n=>.br (Qh n) (.ret (.int .i64 n)) .fail
  | .asl _ _ _ _ n=>.br (Qh n) (.ret (.int .i64 n)) .fail
  | _=>.fail
 | .str=>match d with
  | .str s=>.br (Qh s.length) (.ret (.int .i64 s.length)) .fail
  | _=>.fail
 | .arr n _ _=>bif Nat.ble n 9223372036854775807 then .ret (.int .i64 n) else .fail
 | .struct true fs=>bif Nat.ble fs.length 9223372036854775807 then .ret (.int .i64 fs.length) else .fail
 | .dsl _=>match d with
  | .dsl n _ _=>.br (Qh n) (.ret (.int .i64 n)) .fail
  | _=>.fail
 | _=>.fail
def minL (k:IntKind):Int->List (D C)->Option Int
 | a,[]=>some a
 | a,.int k' b::l=>if k'=k then minL k (if b < a then b else a) l else none
 | _,_=>none
def maxL (k:IntKind):Int->List (D C)->Option Int
 | a,[]=>some a
 | a,.int k' b::l=>if k'=k then maxL k (if a < b then b else a) l else none
 | _,_=>none
def QaB:List (D C)->Option (D C)
 | .int k a::l=>(minL k a l).map (.int k)
 | _=>none
def QaC:List (D C)->Option (D C)
 | .int k a::l=>(maxL k a l).map (.int k)
 | _=>none
def Qjz (t:C.Ty) (id n:Nat) (xs:List (C.A t)):Obj C->Pg C (D C)
 | .vec t' true l=>if h:t'=t then .br (Nat.beq n l.length && Qh n) (.wr id (.vec t true (xs.take l.length++(h ▸ l).drop xs.length)) (.ret (.int .i64 (min xs.length l.length:Nat)))) .fail else .fail
 | _=>.fail
def QrT (t:C.Ty) (d:D C) (xs:List (C.A t)):Pg C (D C) :=
 match d with
 | .vs id n=>.rd id (Qjz t id n xs)
 | _=>.fail
def QcA (b:Builtin) (argTypes:List TypeId) (args:List (D C)):Pg C (D C) :=
 match b,args with
 | .len,[d]=>lenD T (argTypes.getD 0 0) d
 | .append,[s,x]=>match T.ty (argTypes.getD 0 0) with
  | .sl e t=>match T.ty (argTypes.getD 1 0) with
   | .sl _ t'=>bif decide (t=t') then elems t x fun xs=>app t (T.bytes e) s xs else .fail
   | .str=>(match T.ty e with
    | .int .u8=>(match T.ofU8s t with
     | some f=>(match x with
      | .str b=>app t (T.bytes e) s (f b)
      | _=>.fail)
     | none=>.fail)
    | _=>.fail)
   | _=>.fail
  | .dsl e=>(match T.ty (argTypes.getD 1 0) with
   | .dsl e'=>bif Nat.beq e e' then (match s,x with
    | .dsl n true ds,.dsl m _ es=>bif Nat.beq n ds.size && Nat.beq m es.size && (Nat.ble 1 m && Nat.ble (n+m) 16777216) then .ret (.dsl (n+m) false (ds.append es)) else .fail
    | _,_=>.fail) else .fail
   | _=>.fail)
  | _=>.fail
 | .copy,[s,x]=>match T.ty (argTypes.getD 0 0) with
  | .sl _ t=>match T.ty (argTypes.getD 1 0) with
   | .sl _ t'=>bif decide (t=t') then elems t x fun xs=>QrT t s xs else .fail
   | _=>.fail
  | _=>.fail
 | .min,l=>.ofOpt (QaB l)
 | .max,l=>.ofOpt (QaC l)
 | _,_=>.fail
def numD:Option (D C)->Int->Option Int
 | none,n=>some n
 | some (.int _ n),_=>some n
 | _,_=>none
def cutD {t:C.Ty} (cap:Bool) (l:List (C.A t)) (lo hi mx:Option (D C)):Pg C (D C) :=
 match numD lo 0,numD hi l.length with
 | some a,some b=>match mx with
  | none=>(match hi with
   | none=>.br (decide (0 <= a /\ a <= l.length)) (.ret (.sl t cap (l.drop a.toNat))) .fail
   | some _=>.br (decide (0 <= a /\ a <= b /\ b <= l.length)) (.ret (.sl t false ((l.take b.toNat).drop a.toNat))) .fail)
  | some (.int _ m)=>bif hi.isSome then .br (decide (0 <= a /\ a <= b /\ b <= l.length /\ m=b)) (.ret (.sl t true ((l.take b.toNat).drop a.toNat))) .fail else .fail
  | _=>.fail
 | _,_=>.fail
def Qui (ty0:C.Ty) (n:Nat) (lo hi mx:Option (D C)):Obj C->Pg C (D C)
 | .vec ty false l=>bif decide (ty=ty0) then .br (Nat.beq n l.length) (cutD false l lo hi mx) .fail else .fail
 | _=>.fail
def Qdw (t:TypeId) (d:D C) (lo hi mx:Option (D C)):Pg C (D C) :=
 match T.ty t with
 | .sl _ ty0=>match d with
  | .sl ty cap l=>bif decide (ty=ty0) then cutD cap l lo hi mx else .fail
  | .vs id n=>.rd id (Qui ty0 n lo hi mx)
  | _=>.fail
 | .str=>match d with
  | .str s=>match numD lo 0,numD hi s.length,mx with
   | some a,some b,none=>.br (decide (0 <= a /\ a <= b /\ b <= s.length)) (.ret (.str ((s.take b.toNat).drop a.toNat))) .fail
   | _,_,_=>.fail
  | _=>.fail
 | _=>.fail
def Quj (t:TypeId) (id n:Nat) (lo hi mx:Option (D C)):Obj C->Pg C (D C)
 | .vec _ true _=>.bind (frz (.vs id n)) fun d=>Qdw T t d lo hi mx
 | _=>Qdw T t (.vs id n) lo hi mx
def QrU (t:TypeId) (id:Nat) (p:List Nat) (m:Nat) (lo hi mx:Option (D C)):Obj C->Pg C (D C)
 | .var u _=>bif decide (tyAt T u p=some t) then (match numD lo 0,numD hi m,mx with
  | some a,some b,none=>.br (decide (0 <= a /\ a < m /\ a <= b /\ b <= m)) (.ret (.asl t id p a.toNat (b - a).toNat)) .fail
  | _,_,_=>.fail) else .fail
 | _=>.fail
def QrV (t:TypeId) (id n:Nat) (lo hi mx:Option (D C)):Obj C->Pg C (D C)
 | .vec ty true l=>(match T.ty t with
  | .sl _ ty0=>bif decide (ty=ty0) then (match lo,hi,mx with
   | some (.int _ a),none,none=>.br (Nat.beq n l.length && decide (0 <= a /\ a <= l.length)) (.ret (.asl t id [n] a.toNat (n - a.toNat))) .fail
   | none,some (.int _ b),none=>.br (Nat.beq n l.length && decide (0 <= b /\ b <= l.length)) (.dl id (.nw (.vec ty true (l.take b.toNat)) fun id'=>.ret (.vs id' b.toNat))) .fail
   | _,_,_=>.fail) else .fail
  | _=>.fail)
 | _=>.fail
def QrW (t:TypeId) (id:Nat) (fs:List TypeId):Obj C->Pg C (D C)
 | .var u d=>bif decide (u=t) && (d.ones && d.noYl && Nat.beq d.size fs.length && Nat.ble 1 fs.length) then .dl id (.ret (.dsl fs.length true d)) else .fail
 | _=>.fail
def QjA (t:TypeId) (d:D C) (lo hi mx:Option (D C)):Pg C (D C) :=
 match d with
 | .vs id n=>bif T.settle t then .rd id (Quj T t id n lo hi mx) else .rd id (QrV T t id n lo hi mx)
 | .ptr id p=>(match T.ty t with
  | .arr m _ _=>.rd id (QrU T t id p m lo hi mx)
  | .struct true fs=>(match p,lo,hi,mx with
   | [],none,none,none=>.rd id (QrW t id fs)
   | _,_,_,_=>.fail)
  | _=>.fail)
 | .dsl n _ ds=>(match T.ty t with
  | .dsl _=>(match lo,hi,mx with
   | none,some (.int _ b),none=>.br (decide (0 <= b /\ b <= n)) (.ret (.dsl b.toNat false ds)) .fail
   | _,_,_=>.fail)
  | _=>.fail)
 | d=>Qdw T t d lo hi mx
def fillD:D C->List (Nat × D C)->Option (D C)
 | d,[]=>some d
 | d,(i,v)::r=>match d.setNth i v with
  | some d'=>fillD d' r
  | none=>none
def Qdx {t:C.Ty} (l:List (C.A t)):List (Nat × D C)->Option (List (C.A t))
 | []=>some l
 | (i,v)::r=>bif fit T v (.inl (T.ety t)) && Nat.blt i l.length then (match T.dec t v with
  | some x=>Qdx (l.set i x) r
  | none=>none) else none
def bytesOf {t:C.Ty}:List (C.A t)->Option (List UInt8)
 | []=>some []
 | x::l=>match T.enc t x,bytesOf l with
  | .int .u8 n,some r=>some (UInt8.ofNat n.toNat::r)
  | _,_=>none
def QrX (src dst:TypeId) (x:D C):Pg C (D C) :=
 match T.ty src,T.ty dst with
 | .int _,.int k=>match x with
  | .int _ n=>.ret (.int k (k.wrap n))
  | _=>.fail
 | .str,.str=>match x with
  | .str s=>.ret (.str s)
  | _=>.fail
 | .sl e t,.str=>match T.ty e with
  | .int .u8=>match T.u8s t with
   | some f=>elems t (Zt T src x) fun xs=>.ret (.str (f xs))
   | none=>.fail
  | _=>.fail
 | .str,.sl e t=>match T.ty e with
  | .int .u8=>match T.ofU8s t with
   | some f=>match x with
    | .str s=>.br (Qk s.length 1) (.ret (.sl t false (f s))) .fail
    | _=>.fail
   | none=>.fail
  | _=>.fail
 | _,_=>.fail
def QjB (c a b:D C):Pg C (D C) :=
 match c with
 | .bool t=>.br t (.ret a) (.ret b)
 | _=>.fail
def Qfb (t:TypeId):Pg C (D C) :=
 match T.zero t with
 | some z=>bif fit T z (.inl t) then .nw (.var t z) (fun id=>.ret (.ptr id [])) else .fail
 | none=>.fail
def QrY (t:TypeId) (d:D C):Pg C (D C) :=
 bif fit T d (.inl t) then .nw (.var t d) (fun id=>.ret (.ptr id [])) else .fail
def Qfc (t:TypeId) (ps:List (Nat × D C)):Pg C (D C) :=
 match T.ty t,T.zero t with
 | .struct _ fs,some z =>
  bif fit T z (.inl t) && ps.all (fun p=>fit T (Zt T (fs.getD p.1 0) p.2) (.inl (fs.getD p.1 0))) then .ofOpt (fillD z (ps.map fun p=>(p.1,Zt T (fs.getD p.1 0) p.2))) else .fail
 | .arr n e ty,some (.arr ty' m l)=>if h:ty'=ty then (match Qdx T (h ▸ l) (ps.map fun p=>(p.1,Zt T e p.2)) with
  | some l'=>bif Nat.beq n m then .ret (.arr ty n l') else .fail
  | none=>.fail) else .fail
 | _,_=>.fail
def seqB {α:Type}:Nat->Nat->List (Nat × α)->Bool
 | i,n,[]=>Nat.beq i n
 | i,n,(j,_)::r=>Nat.beq j i && Nat.blt i n && seqB (i+1) n r
def Vv (t:TypeId) (n:Nat) (ps:List (Nat × D C)):Pg C (D C) :=
 match T.ty t with
 | .sl e ty=>match Qdx T (List.replicate n (T.dflt ty)) (ps.map fun p=>(p.1,Zt T e p.2)) with
  | some l=>bif Nat.ble (n * T.size e) 16777216 then .ret (.sl ty true l) else .fail
  | none=>.fail
 | .dsl e=>bif seqB 0 n ps && Nat.ble n 16777216 && ps.all (fun p=>fit T (Zt T e p.2) (.inl e)) then .ret (.dsl n true (D.ofList (ps.map fun p=>Zt T e p.2))) else .fail
 | _=>.fail
def QrZ (t:TypeId) (p:List Nat):Obj C->Pg C (D C)
 | .var _ d=>match getPath T d p with
  | some x=>bif fit T x (.inl t) then .ret x else .fail
  | none=>.fail
 | _=>.fail
def Quk (t:TypeId) (n:Nat) (p:List Nat):Obj C->Pg C (D C)
 | .vec ty _ l=>match p with
  | [i]=>.br (Nat.beq n l.length) (bif fit T (T.enc ty (l.getD i (T.dflt ty))) (.inl t) then .ret (T.enc ty (l.getD i (T.dflt ty))) else .fail) .fail
  | [i,j]=>match (T.enc ty (l.getD i (T.dflt ty))).nth j with
   | some x=>.br (Nat.beq n l.length) (bif fit T x (.inl t) then .ret x else .fail) .fail
   | none=>.fail
  | _=>.fail
 | _=>.fail
def KW (t:TypeId) (a:D C):Pg C (D C) :=
 match a with
 | .ptr id p=>.rd id (QrZ T t p)
 | .vptr id n p=>.rd id (Quk T t n p)
 | .cptr d=>bif fit T d (.inl t) then .ret d else .fail
 | _=>.fail
def D.hasVs:D C->Bool
 | .vs _ _=>true
 | .acons a b=>a.hasVs || b.hasVs
 | _=>false
def ldS (t:TypeId) (id:Nat):Obj C->Pg C (D C)
 | .var u d=>bif decide (u=t) && d.hasVs then .bind (frz d) fun d'=>bif fit T d' (.inl t) then .wr id (.var u d') (.ret d') else .fail else QrZ T t [] (.var u d)
 | _=>.fail
def Qfd (t:TypeId) (a:D C):Pg C (D C) :=
 match a with
 | .ptr id []=>match T.ty t with
  | .struct _ _=>bif T.settle t then .rd id (ldS T t id) else KW T t (.ptr id [])
  | _=>KW T t (.ptr id [])
 | a=>KW T t a
def Qr0 (t:TypeId) (id:Nat) (p:List Nat) (v:D C):Obj C->Pg C (D C)
 | .var u d=>match setPath T d p v,tyAt T u p with
  | some d',some t'=>bif fit T v (.inl t) && fit T v (.inl t') then .wr id (.var u d') (.ret (.tup .anil)) else .fail
  | _,_=>.fail
 | _=>.fail
def Qr1 (t:TypeId) (id n:Nat) (p:List Nat) (v:D C):Obj C->Pg C (D C)
 | .vec ty true l=>match p with
  | [i]=>match T.dec ty v with
   | some z=>.br (Nat.beq n l.length) (bif fit T v (.inl t) then .wr id (.vec ty true (l.set i z)) (.ret (.tup .anil)) else .fail) .fail
   | none=>.fail
  | _=>.fail
 | _=>.fail
def YX (t:TypeId) (a v:D C):Pg C (D C) :=
 match a with
 | .ptr id p=>.rd id (Qr0 T t id p v)
 | .vptr id n p=>.rd id (Qr1 T t id n p v)
 | _=>.fail
def Qul (p:List Nat):Obj C->Bool
 | .var u _=>match tyAt T u p.dropLast with
  | some q=>(match T.ty q with
   | .arr _ _ _ => !p.isEmpty
   | _=>false)
  | none=>false
 | _=>false
def Qah (t:TypeId) (a v:D C):Pg C (D C) :=
 match a,v with
 | .ptr id p,.vs i n=>.rd id fun o=>bif Qul T p o then .bind (frz (.vs i n)) fun d=>YX T t (.ptr id p) d else YX T t (.ptr id p) (.vs i n)
 | a,v=>YX T t a v
def Kw (x:D C):Pg C (D C) :=
 match x with
 | .ptr id p=>.ret (.ptr id p)
 | .vptr id n p=>.ret (.vptr id n p)
 | .cptr d=>.ret (.cptr d)
 | .fn f c=>.ret (.fn f c)
 | _=>.fail
def evUn (op:UnOp) (x:D C):Pg C (D C) :=
 match op,x with
 | .not,.bool b=>.ret (.bool !b)
 | .neg,.int k n=>.ret (.int k (k.wrap (0 - n)))
 | .xor,.int k n=>.ret (.int k (bits k (fun _ u v=>u ^^^ v) (bif k.signed then -1 else k.max) n))
 | _,_=>.fail
def QbJ (fn:Fn) (first caps:List (D C)):Pg C (D C) :=
 match fn,first with
 | .func f,[]=>.ret (.fn f (D.ofList caps))
 | .func f,[.int k n]=>(match caps with
  | []=>.ret (.bm f (.int k n))
  | _=>.fail)
 | .func f,[.ptr id p]=>(match caps with
  | []=>.ret (.bm f (.ptr id p))
  | _=>.fail)
 | _,_=>.fail
def Jy (t:TypeId) (n c:D C):Pg C (D C) :=
 match T.ty t,n,c with
 | .sl e ty,.int .i64 n,.int .i64 c=>.br (decide (0 <= n /\ n <= c) && Qk c.toNat (T.bytes e)) (.nw (.vec ty true (List.replicate n.toNat (T.dflt ty))) fun id=>.ret (.vs id n.toNat)) .fail
 | _,_,_=>.fail
def Qr2 (s:TypeId) (id:Nat) (p:List Nat) (i:Nat):Obj C->Pg C (D C)
 | .var u _=>bif decide (tyAt T u p=some s) then .ret (.ptr id (p++[i])) else .fail
 | _=>.fail
def QoN (s:TypeId) (id n j i:Nat):Obj C->Pg C (D C)
 | .vec ty _ l=>.br (Nat.beq n l.length) (bif Nat.beq s (T.ety ty) then .ret (.vptr id n [j,i]) else .fail) .fail
 | _=>.fail
def Ye (s:TypeId) (x:D C) (i:Nat):Pg C (D C) :=
 match T.ty s with
 | .struct false fs=>bif Nat.blt i fs.length then (match x with
  | .ptr id p=>.rd id (Qr2 T s id p i)
  | .vptr id n [j]=>.rd id (QoN T s id n j i)
  | .cptr d=>bif fit T d (.inl s) then (match d.nth i with | some x=>.ret (.cptr x) | none=>.fail) else .fail
  | _=>.fail) else .fail
 | _=>.fail
def Qfe (s:TypeId) (x:D C) (i:Nat):Pg C (D C) :=
 match T.ty s with
 | .struct false _=>bif fit T x (.inl s) then (match x.nth i with | some d=>.ret d | none=>.fail) else .fail
 | _=>.fail
def QoO (ty0:C.Ty) (id m:Nat) (n:Int):Obj C->Pg C (D C)
 | .vec ty _ l=>bif decide (ty=ty0) then .br (Nat.beq m l.length && decide (0 <= n /\ n < l.length)) (.ret (.vptr id m [n.toNat])) .fail else .fail
 | _=>.fail
def QhX (t:TypeId) (id:Nat) (p:List Nat) (n:Int) (m:Nat):Obj C->Pg C (D C)
 | .var u _=>bif decide (tyAt T u p=some t) then .br (decide (0 <= n /\ n < m)) (.ret (.ptr id (p++[n.toNat]))) .fail else .fail
 | _=>.fail
def Yf (t:TypeId) (x i:D C):Pg C (D C) :=
 match i with
 | .int _ n=>match T.ty t with
  | .sl _ ty0=>match x with
   | .sl ty _ l=>bif decide (ty=ty0) then .br (decide (0 <= n /\ n < l.length)) (.ret (.cptr (T.enc ty (l.getD n.toNat (T.dflt ty))))) .fail else .fail
   | .vs id m=>.rd id (QoO ty0 id m n)
   | .asl ta id p lo m=>(match T.ty ta with
    | .arr _ _ ty=>bif decide (ty=ty0) then .br (decide (0 <= n /\ n < m)) (.ret (.ptr id (p++[lo+n.toNat]))) .fail else .fail
    | _=>.fail)
   | _=>.fail
  | .dsl _=>match x with
   | .dsl m _ ds=>.br (decide (0 <= n /\ n < m)) (match ds.nth n.toNat with | some x=>.ret (.cptr x) | none=>.fail) .fail
   | _=>.fail
  | .arr m _ _=>match x with
   | .ptr id p=>.rd id (QhX T t id p n m)
   | .cptr (.arr ty m' l)=>bif fit T (.arr ty m' l) (.inl t) then .br (decide (0 <= n /\ n < m)) (.ret (.cptr (T.enc ty (l.getD n.toNat (T.dflt ty))))) .fail else .fail
   | _=>.fail
  | .struct true fs=>match x with
   | .ptr id p=>.rd id (QhX T t id p n fs.length)
   | .cptr d=>bif fit T d (.inl t) then .br (decide (0 <= n /\ n < fs.length)) (match d.nth n.toNat with | some x=>.ret (.cptr x) | none=>.fail) .fail else .fail
   | _=>.fail
  | _=>.fail
 | _=>.fail
def Qff (t:TypeId) (x i:D C):Pg C (D C) :=
 match i with
 | .int _ n=>match x with
  | .arr ty m l=>bif fit T (.arr ty m l) (.inl t) then .br (decide (0 <= n /\ n < m)) (.ret (T.enc ty (l.getD n.toNat (T.dflt ty)))) .fail else .fail
  | .str s=>match T.ty t with
   | .str=>.br (decide (0 <= n /\ n < s.length)) (.ret (.int .u8 (s.getD n.toNat 0).toNat)) .fail
   | _=>.fail
  | .acons a b=>match T.ty t with
   | .struct true fs=>bif fit T (.acons a b) (.inl t) then .br (decide (0 <= n /\ n < fs.length)) (match (D.acons a b).nth n.toNat with | some x=>.ret x | none=>.fail) .fail else .fail
   | _=>.fail
  | _=>.fail
 | _=>.fail
def ZY (t:C.Ty) (a b:C.A t):Bool:=(eqS (T.enc t a) (T.enc t b)).getD false
def mget {α β:Type} (eq:α->α->Bool) (k:α):List (α × β)->Option β
 | []=>none
 | (a,b)::l=>bif eq k a then some b else mget eq k l
def mput {α β:Type} (eq:α->α->Bool) (k:α) (v:β):List (α × β)->List (α × β)
 | []=>[(k,v)]
 | (a,b)::l=>bif eq k a then (k,v)::l else (a,b)::mput eq k v l
def QaD (t:TypeId):Pg C (D C) :=
 match T.ty t with
 | .map _ _ ck cv=>.nw (.map ck cv []) fun id=>.ret (.mp id)
 | _=>.fail
def Qr3 (kt vt:TypeId) (ck cv:C.Ty) (id:Nat) (k x:D C):Obj C->Pg C (D C)
 | .map ck' cv' l=>if h:ck'=ck then if h2:cv'=cv then (match T.dec ck k,T.dec cv x with
  | some a,some b=>bif fit T k (.inl kt) && fit T x (.inl vt) then .wr id (.map ck cv (mput (ZY T ck) a b (h2 ▸ h ▸ l))) (.ret (.tup .anil)) else .fail
  | _,_=>.fail) else .fail else .fail
 | _=>.fail
def Zo (t:TypeId) (m k x:D C):Pg C (D C) :=
 match T.ty t with
 | .map kt vt ck cv=>match m with
  | .mp id=>.rd id (Qr3 T kt vt ck cv id k (Zt T vt x))
  | _=>.fail
 | _=>.fail
def QjC (kt:TypeId) (ck cv:C.Ty) (k:D C) (ok:Bool):Obj C->Pg C (D C)
 | .map ck' cv' l=>if h:ck'=ck then if h2:cv'=cv then (match T.dec ck k with
  | some a=>bif fit T k (.inl kt) then (match ok with
   | true=>.ret (.tup (.acons (T.enc cv ((mget (ZY T ck) a (h2 ▸ h ▸ l)).getD (T.dflt cv))) (.acons (.bool (mget (ZY T ck) a (h2 ▸ h ▸ l)).isSome) .anil)))
   | false=>.ret (T.enc cv ((mget (ZY T ck) a (h2 ▸ h ▸ l)).getD (T.dflt cv)))) else .fail
  | none=>.fail) else .fail else .fail
 | _=>.fail
def QcB (t:TypeId) (m k:D C) (ok:Bool):Pg C (D C) :=
 match T.ty t with
 | .map kt _ ck cv=>match m with
  | .mp id=>.rd id (QjC T kt ck cv k ok)
  | _=>.fail
 | _=>.fail
def Qqy (id:Nat):Obj C->Pg C (D C)
 | .map ck cv l=>.dl id (.nw (.ctl (.it ck cv l)) fun id'=>.ret (.itp id'))
 | _=>.fail
def Qfg (t:TypeId) (m:D C):Pg C (D C) :=
 match T.ty t with
 | .map _ _ _ _=>match m with
  | .mp id=>.rd id (Qqy id)
  | _=>.fail
 | _=>.fail
def Qdy (x:D C) (i:Nat):Pg C (D C) :=
 match x with
 | .tup ds=>.ofOpt (ds.nth i)
 | _=>.fail
def ZP:Nat:=4294967296
def QjD (call:FuncId->List (D C)->Pg C (D C)) (f:D C) (args:List (D C)):Pg C (D C) :=
 match f with
 | .fn g caps=>bif Nat.beq g ZP then .fail else call g (args++caps.toList)
 | .bm g d=>bif Nat.beq g ZP then .fail else call g (d::args)
 | .yl nt slots ps asn body caps id=>call ZP (.yl nt slots ps asn body caps id::args)
 | _=>.fail
def QbK:List TypeId->List (D C)->List (D C)
 | t::ts,d::ds=>Zt T t d::QbK ts ds
 | _,ds=>ds
def evOp (call:FuncId->List (D C)->Pg C (D C)) (o:Oper) (ev:Operand->D C):Pg C (D C) :=
 match o.op with
 | .move x=>.ret (Zt T o.type (ev x))
 | .assign x=>.ret (Zt T o.type (ev x))
 | .pick c a b=>QjB (ev c) (ev a) (ev b)
 | .alloc t=>Qfb T t
 | .box t x=>QrY T t (Zt T t (ev x))
 | .build t ps=>Qfc T t (ps.toList.map fun p=>(p.1,ev p.2))
 | .buildSlice t n ps=>Vv T t n (ps.toList.map fun p=>(p.1,ev p.2))
 | .load t a=>Qfd T t (ev a)
 | .store t a x=>Qah T t (ev a) (Zt T t (ev x))
 | .nilCheck x=>Kw (ev x)
 | .binOp op t x y _=>binD T op t (ev x) (ev y)
 | .unOp op _ x=>evUn op (ev x)
 | .convert s t x=>QrX T s t (ev x)
 | .makeFunc fn first caps=>QbJ fn (first.toList.map ev) (caps.toList.map ev)
 | .makeSlice t n c=>Jy T t (ev n) (ev c)
 | .slice t x lo hi mx=>QjA T t (ev x) (lo.map ev) (hi.map ev) (mx.map ev)
 | .fieldAddr s x i=>Ye T s (ev x) i
 | .field s x i=>Qfe T s (ev x) i
 | .indexAddr t x i=>Yf T t (ev x) (ev i)
 | .index t x i=>Qff T t (ev x) (ev i)
 | .extract x i=>Qdy (ev x) i
 | .makeMap t none=>QaD T t
 | .mapUpdate t m k x=>Zo T t (ev m) (ev k) (ev x)
 | .insert t m k x=>Zo T t (ev m) (ev k) (ev x)
 | .range t x=>Qfg T t (ev x)
 | .lookup t m k ok=>QcB T t (ev m) (ev k) ok
 | .call c=>match c.callee with
  | .builtin b=>bif Nat.beq c.argTypes.toList.length c.args.toList.length then QcA T b c.argTypes.toList (c.args.toList.map ev) else .fail
  | .value f=>QjD call (ev f) (QbK T c.argTypes.toList (c.args.toList.map ev))
  | _=>.fail
 | _=>.fail
def put (env:Env C) (dst:Option Tmp) (d:D C):Env C :=
 match dst with
 | some t=>(t,d)::env
 | none=>env
def evAt (env:Env C):Operand->D C
 | .tmp t=>eget env t
 | .const v=>constD v
 | .global _=>.top
 | .func f=>.fn f .anil
def lits:List Int:=[0,1,2,3,4,5,6,7]
def QhY (o:Oper):Option (Nat × Nat) :=
 match o.op with
 | .indexAddr t _ (.tmp i) | .index t _ (.tmp i)=>(match T.ty t with
  | .struct true fs=>some (i,fs.length)
  | _=>none)
 | _=>none
def pins (i:Nat) (k:IntKind) (n:Int) (go:Env C->Pg C (Env C)) (w:Bool) (env:Env C):List Int->Pg C (Env C)
 | []=>bif w then .fail else go env
 | j::l=>.br (n == j) (go ((i,.int k j)::env)) (pins i k n go w env l)
def pinC (o:Oper) (go:Env C->Pg C (Env C)) (env:Env C):Pg C (Env C) :=
 match QhY T o with
 | some (i,m)=>(match eget env i with
  | .int k n=>pins i k n go (Nat.ble m 8) env (lits.take m)
  | _=>go env)
 | none=>go env
def Jz (call:FuncId->List (D C)->Pg C (D C)) (ops:Array Oper) (o:Oper) (env:Env C):Pg C (Env C) :=
 let go (env:Env C):Pg C (Env C):=pinC T o (fun env=>.bind (evOp T call o (evAt env)) fun d=>.ret (put env o.dst d)) env
 let skip (env:Env C):Pg C (Env C):=.ret (put env o.dst (.tup .anil))
 match o.guard with
 | none=>go env
 | some (j,want)=>match (ops[j]?).bind (·.dst) with
  | some d=>match eget env d with
   | .bool b=>.br b (bif want then go (((d,.bool true)::env)) else skip (((d,.bool true)::env)))
    (bif want then skip (((d,.bool false)::env)) else go (((d,.bool false)::env)))
   | .tup .anil=>skip env
   | _=>.fail
  | none=>.fail
def Jt (t:Nat):Operand->Bool
 | .tmp u => !Nat.beq u t
 | _=>true
def QoP (o1 o2 o3:Oper):Option (TypeId × Operand × Operand × Operand × Nat × Nat) :=
 match o1.op with
 | .mapEntry t m k=>(match o1.dst,o1.guard,o2.op,o2.dst,o2.guard,o3.op,o3.guard with
  | some d1,none,.extract (.tmp e1) 1,some d2,none,.entryStore _ (.tmp n) (.tmp e2) v,none=>(match m with
   | .tmp m=>bif (Nat.beq e1 d1 && Nat.beq e2 d2 && Nat.beq n m) && (Jt d1 (.tmp m) && Jt d2 (.tmp m) && !Nat.beq d1 d2) && (Jt d1 v && Jt d2 v) then some (t,.tmp m,k,v,d1,d2) else none
   | _=>none)
  | _,_,_,_,_,_,_=>none)
 | _=>none
def QoQ (o1 o2:Oper):Option (TypeId × Operand × Operand × Nat) :=
 match o1.op with
 | .slice t x (some lo) none none=>(match o1.dst,o1.guard,o2.op,o2.guard with
  | some d1,none,.call c,none=>(match c.callee,c.args.toList,c.argTypes.toList with
   | .builtin .clear,[.tmp e1],[t']=>bif Nat.beq e1 d1 && Nat.beq t' t then some (t,x,lo,d1) else none
   | _,_,_=>none)
  | _,_,_,_=>none)
 | _=>none
def Qqz (t:TypeId) (n:Nat) (id:Nat) (a:Int):Obj C->Pg C (D C)
 | .vec ty true l=>(match T.ty t with
  | .sl _ ty0=>bif decide (ty=ty0) then .br (Nat.beq n l.length && decide (0 <= a /\ a <= l.length)) (.wr id (.vec ty true (l.take a.toNat++List.replicate (l.length - a.toNat) (T.dflt ty))) (.ret (.tup .anil))) .fail else .fail
  | _=>.fail)
 | _=>.fail
def Qfh (t:TypeId) (x lo:D C):Pg C (D C) :=
 match x,lo with
 | .vs id n,.int _ a=>.rd id (Qqz T t n id a)
 | _,_=>.fail
def JV (call:FuncId->List (D C)->Pg C (D C)) (ops:Array Oper):List Oper->Env C->Pg C (Env C)
 | [],env=>.ret env
 | o::r,env=>match r with
  | []=>.bind (Jz T call ops o env) fun env=>.ret env
  | o2::r2=>match QoQ o o2 with
   | some (t,x,lo,d1)=>.bind (Qfh T t (evAt env x) (evAt env lo)) fun _=>JV call ops r2 (put ((d1,.top)::env) o2.dst (.tup .anil))
   | none=>match r2 with
   | []=>.bind (Jz T call ops o env) fun env=>JV call ops (o2::[]) env
   | o3::r3=>match QoP o o2 o3 with
    | some (t,m,k,v,d1,d2)=>.bind (Zo T t (evAt env m) (evAt env k) (evAt env v)) fun _=>JV call ops r3 (put ((d2,.top)::(d1,.top)::env) o3.dst (.tup .anil))
    | none=>.bind (Jz T call ops o env) fun env=>JV call ops (o2::o3::r3) env
def QjE (a b:Tr):Bool:=a.all fun x=>b.all fun y => !(Nat.beq x.1 y.1) || !(x.2 || y.2)
def QbL (o:Oper):Bool:=match o.op with
 | .fieldAddr _ _ _=>true
 | .indexAddr _ _ _=>true
 | _=>false
def JA (o:Oper):Bool:=match o.op with
 | .store _ _ _=>true
 | _=>false
def Qdz (ops:Array Oper) (a b:Nat):Bool:=match ops[a]?,ops[b]? with
 | some x,some y=>(QbL x && JA y) || (JA x && QbL y)
 | _,_=>false
def QcC (ops:Array Oper) (ts:List (Nat × Tr)):Bool :=
 ts.all fun a=>ts.all fun b=>QjE a.2 b.2 || !(Nat.blt a.1 b.1) || ((Region.before ops).getD b.1 0).testBit a.1 || Qdz ops a.1 b.1
def QbM (call:FuncId->List (D C)->Pg C (D C)) (ops:Array Oper) (base span:Nat):Nat->List Oper->Env C->List (Nat × Tr)->Pg C (Env C)
 | i,[],env,ts=>.upto (base+i * span) (.br (QcC ops ts) (.ret env) .fail)
 | i,o::r,env,ts=>.upto (base+i * span) (.sub (Jz T call ops o env) fun env t=>QbM call ops base span (i+1) r env (match t with | []=>ts | _=>(i,t)::ts))
def Qv:Code->Nat
 | .region id _ _=>id
 | .seq a _=>Qv a
 | .cond _ a _=>Qv a
 | .block _ a=>Qv a
 | .loop a=>Qv a
 | .scope a=>Qv a
 | _=>0
def JC (env:Env C):List ResultVar->Pg C (List (D C))
 | []=>.ret []
 | .tmp t::r=>.bind (JC env r) fun l=>.ret (eget env t::l)
 | .cell a t::r=>.bind (KW T t (eget env a)) fun d=>.bind (JC env r) fun l=>.ret (d::l)
def outD (Φ:Fns C) (f:FuncId) (n0:Nat) (env:Env C) (rs:List ResultVar):Pg C (D C) :=
 .bind (JC T env rs) fun l =>
  bif Φ.keeps f then .ret (match l with
   | [d]=>d
   | l=>.tup (D.ofList l))
  else .bind (match l with
   | [d]=>frz d
   | l=>frz (.tup (D.ofList l))) fun d=>.gc n0 d.refs (.ret d)
def Qum (id:Nat):Obj C->Pg C Unit
 | .var u d=>bif d.hasVs then .bind (frz d) fun d'=>bif fit T d' (.inl u) then .wr id (.var u d') (.ret ()) else .fail else .ret ()
 | _=>.ret ()
def QjF:List Nat->Nat->Pg C Unit
 | [],id=>.rd id (Qum T id)
 | i::p,id=>.rd id fun
  | .var _ d=>match d.nth i with
   | some (.ptr id' [])=>QjF p id'
   | _=>.fail
  | _=>.fail
def QdA (env:Env C):List (Nat × List Nat)->Pg C Unit
 | []=>.ret ()
 | (t,p)::r=>match eget env t with
  | .ptr id []=>.bind (QjF T p id) fun _=>QdA env r
  | _=>.fail
def QaE (Φ:Fns C) (ev:FuncId->Code->Env C->Pg C (X × Env C)) (g:FuncId) (args:List (D C)):Pg C (D C) :=
 match Φ.fn g with
 | some fn=>match fn.body with
  | some body=>.cnt fun n0 _=>.bind (ev g body (eargs 0 args)) fun r =>
   match r.1 with
   | .exit _=>.fail
   | _=>.bind (QdA T r.2 (Φ.rest g)) fun _=>outD T Φ g n0 r.2 fn.results.toList
  | none=>.fail
 | none=>.fail
def opsB (nt:Nat) (ops:Array Oper):Bool:=ops.toList.all fun o=>match o.dst with
 | some t=>Nat.blt t nt
 | none=>true
def Qr4 (ops:Array Oper):Bool :=
 let b:=Region.before ops
 ops.toList.zipIdx.all fun x=>x.1.after.toList.all (fun e => !Region.binds .any e || Nat.blt e.on x.2) &&
  ops.toList.zipIdx.all fun y => !(Nat.blt x.2 y.2) || (b.getD y.2 0).testBit x.2 || x.1.apart ops y.1
def Zz (nt:Nat):Code->Bool
 | .region _ ops draw=>opsB nt ops && (!draw || Qr4 ops)
 | .seq a b=>Zz nt a && Zz nt b
 | .cond _ a b=>Zz nt a && Zz nt b
 | .block _ a=>Zz nt a
 | .loop a=>Zz nt a
 | .scope a=>Zz nt a
 | _=>true
def YY:Code->Bool
 | .skip=>true
 | .label _=>true
 | .ret=>true
 | .exit _=>true
 | .region _ _ _=>true
 | .seq a b=>YY a && YY b
 | .cond _ a b=>YY a && YY b
 | .block _ a=>YY a
 | _=>false
def okC (nt:Nat) (c:Code):Bool:=Zz nt c && YY c
def okPs (nt:Nat):List Nat->Bool
 | []=>true
 | t::r=>Nat.blt t nt && (!(r.any (Nat.beq t)) && okPs nt r)
def zipE:List Nat->List (D C)->Env C
 | t::ts,d::ds=>(t,d)::zipE ts ds
 | _,_=>[]
def QqA (id ex:Nat) (x:X):Obj C->Pg C (D C)
 | .ctl (.lp busy dn ex')=>.br (busy && !dn && Nat.beq ex' ex) (match x with
  | .normal=>.wr id (.ctl (.lp false false ex)) (.ret (.bool true))
  | .exit i=>bif Nat.beq i ex then .wr id (.ctl (.lp false true ex)) (.ret (.bool false)) else .fail
  | .ret=>.fail) .fail
 | _=>.fail
def QqB (ev:FuncId->Code->Env C->Pg C (X × Env C)) (id ex:Nat) (body:Code) (env:Env C):Obj C->Pg C (D C)
 | .ctl (.lp busy dn ex')=>.br (!busy && !dn && Nat.beq ex' ex) (.wr id (.ctl (.lp true false ex)) (.bind (ev 0 body env) fun r=>.rd id (QqA id ex r.1))) .fail
 | _=>.fail
def QqC (ev:FuncId->Code->Env C->Pg C (X × Env C)) (args:List (D C)):Pg C (D C) :=
 match args with
 | .yl nt slots ps asn body caps id::xs =>
  bif (caps.noYl && xs.all D.noYl) && ((Nat.beq xs.length ps.length && okPs nt ps) && (okC nt asn && okC nt body)) then
   .rd id fun
    | .ctl (.lp _ _ ex)=>.bind (ev 0 asn (zipE ps xs++zipE slots caps.toList)) fun r=>match r.1 with
     | .normal=>.rd id (QqB ev id ex body r.2)
     | _=>.fail
    | _=>.fail
  else .fail
 | _=>.fail
def QbA (Φ:Fns C) (ev:FuncId->Code->Env C->Pg C (X × Env C)) (g:FuncId) (args:List (D C)):Pg C (D C) :=
 bif Nat.beq g ZP then QqC ev args else
 match Φ.ospec g with
 | some s=>.bind (QdA T (eargs 0 args) (Φ.rest g)) fun _=>s args
 | none=>match Φ.spec g with
  | some s=>bif Φ.lend g then .bind (QoM args) (fun args=>match s args with
   | some (b,d)=>bif d.plain && args.all D.noYl then .br b (.ret d) .fail else .fail
   | none=>.fail) else .bind (frzL args) fun args=>match s args with
   | some (b,d)=>bif Φ.total g then (bif b then .ret d else .fail) else .br b (.ret d) .fail
   | none=>.fail
  | none=>QaE T Φ ev g args
def QoR (b:Env C->Pg C (X × Env C)) (r:X × Env C):Pg C (X × Env C) :=
 match r.1 with
 | .normal=>b r.2
 | _=>.ret r
def Qgh (id:Nat) (r:X × Env C):Pg C (X × Env C) :=
 match r.1 with
 | .exit i=>bif Nat.beq i id then .ret (.normal,r.2) else .ret r
 | _=>.ret r
def QvL (Φ:Fns C):Op->Bool
 | .move _ | .assign _ | .pick _ _ _ | .binOp _ _ _ _ _ | .unOp _ _ _ | .convert _ _ _ | .field _ _ _ | .extract _ _ | .index _ _ _=>true
 | .call c=>(match c.callee with
  | .value (.func g)=>Φ.total g
  | _=>false)
 | _=>false
def pureC (Φ:Fns C):Code->Bool
 | .skip=>true
 | .label _=>true
 | .region _ ops draw => !draw && ops.toList.all fun o=>QvL Φ o.op
 | .seq a b=>pureC Φ a && pureC Φ b
 | .cond _ a b=>pureC Φ a && pureC Φ b
 | _=>false
def mrgD (b:Bool):D C->D C->Option (D C)
 | .bool x,.bool y=>some (.bool (bif b then x else y))
 | .int k x,.int k' y=>if k=k' then some (.int k (bif b then x else y)) else none
 | .str x,.str y=>some (.str (bif b then x else y))
 | .anil,.anil=>some .anil
 | .acons x xs,.acons y ys=>match mrgD b x y,mrgD b xs ys with
  | some d,some ds=>some (.acons d ds)
  | _,_=>none
 | .tup .anil,.tup .anil=>some (.tup .anil)
 | .sl t c l,.sl t' c' l'=>if h:t'=t then some (.sl t (bif b then c else c') (bif b then l else h ▸ l')) else none
 | .arr t n l,.arr t' n' l'=>if h:t'=t then (if n=n' then some (.arr t n (bif b then l else h ▸ l')) else none) else none
 | .nils,.nils=>some .nils
 | .nilp,.nilp=>some .nilp
 | .nilfn,.nilfn=>some .nilfn
 | _,_=>none
def mrgT (b:Bool):D C->D C->Option (D C)
 | .top,_=>some .top
 | _,.top=>some .top
 | x,y=>mrgD b x y
def mrgE (b:Bool) (x y:Env C):List Nat->Option (Env C)
 | []=>some []
 | t::l=>match mrgT b (eget x t) (eget y t),mrgE b x y l with
  | some d,some r=>some ((t,d)::r)
  | _,_=>none
def mrgC (m:Option (List Nat)) (env:Env C) (b:Bool) (p q:Pg C (X × Env C)):Pg C (X × Env C) :=
 match m with
 | some l=>match p,q with
  | .ret (.normal,x),.ret (.normal,y)=>match mrgE b x y l with
   | some r=>.ret (.normal,r++env)
   | none=>.br b (.ret (.normal,x)) (.ret (.normal,y))
  | p,q=>.br b p q
 | none=>.br b p q
def Qun (m:Option (List Nat)) (c:Operand) (x y:Env C->Pg C (X × Env C)) (env:Env C):Pg C (X × Env C) :=
 match c with
 | .tmp t=>match eget env t with
  | .bool b=>mrgC m env b (x ((t,.bool true)::env)) (y ((t,.bool false)::env))
  | _=>.fail
 | .const (.bool b)=>.br b (x env) (y env)
 | _=>.fail
def regC (call:FuncId->List (D C)->Pg C (D C)) (ops:Array Oper) (env:Env C):Pg C (X × Env C) :=
 .bind (JV T call ops ops.toList env) fun env=>.ret (.normal,env)
def Quo (call:FuncId->List (D C)->Pg C (D C)) (ops:Array Oper) (env:Env C):Pg C (X × Env C) :=
 .cnt fun base span=>.bind (QbM T call ops base span 0 ops.toList env []) fun env=>.ret (.normal,env)
def preR (ops:Array Oper) (env:Env C):List (Nat × List Nat) :=
 ops.toList.filterMap fun o=>match o.op with
  | .load t (.tmp a)=>(match T.ty t with
   | .struct _ _=>bif !T.settle t || ops.toList.any (fun o=>match o.dst with | some d=>Nat.beq d a | none=>false) then none else (match eget env a with
    | .ptr _ []=>some (a,[])
    | _=>none)
   | _=>none)
  | _=>none
def asgL:Code->List Nat
 | .region _ ops _=>ops.toList.filterMap (·.dst)
 | .seq a b=>asgL a++asgL b
 | .cond _ a b=>asgL a++asgL b
 | .block _ a=>asgL a
 | .loop a=>asgL a
 | .scope a=>asgL a
 | _=>[]
def keepE (l:List Nat):Env C->Env C
 | []=>[]
 | (j,d)::r=>bif l.any (Nat.beq j) then keepE l r else (j,d)::keepE l r
def Qr5 (Φ:Fns C) (f:FuncId) (key:Nat) (asg:List Nat) (b:Env C->Pg C (X × Env C)) (again:Env C->Pg C (X × Env C)) (env:Env C):Pg C (X × Env C) :=
 match Φ.loop f key with
 | some s=>.bind (s env) fun r=>.ret (r.1,r.2++keepE asg env)
 | none=>.bind (b env) (QoR again)
def QjG:Env C->List Nat
 | []=>[]
 | (j,d)::r=>bif (QjG r).any (Nat.beq j) then QjG r else (match d with
  | .top=>QjG r
  | _=>j::QjG r)
def YH:Code->List Nat
 | .region _ ops _=>ops.toList.flatMap fun o=>o.op.operands.toList.filterMap fun x=>match x with | .tmp t=>some t | _=>none
 | .seq a b=>YH a++YH b
 | .cond c a b=>(match c with | .tmp t=>[t] | _=>[])++(YH a++YH b)
 | .block _ a=>YH a
 | _=>[]
def KX (used:List Nat) (env:Env C):List Nat:=(QjG env).filter fun t=>used.any (Nat.beq t) && (eget env t).noYl
def QbB:Code->Nat
 | .exit id=>id
 | .seq a b=>match QbB a with | 0=>QbB b | n=>n
 | .cond _ a b=>match QbB a with | 0=>QbB b | n=>n
 | .block id a=>match QbB a with | 0=>0 | n=>bif Nat.beq n id then 0 else n
 | _=>0
def QqD (id ex0:Nat) (env:Env C):Obj C->Pg C (X × Env C)
 | .ctl (.lp busy dn ex)=>.br (!busy && Nat.beq ex ex0) (.dl id (.br dn (.ret (.exit ex0,env)) (.ret (.normal,env)))) .fail
 | _=>.fail
def QqE (Φ:Fns C) (call:FuncId->List (D C)->Pg C (D C)) (f:FuncId) (g:D C) (ps:List Nat) (asn body:Code) (env:Env C):Pg C (X × Env C) :=
 match Φ.fn f with
 | some fn=>(match g with
  | .fn fid caps=>bif Nat.beq fid ZP then .fail else
   .nw (.ctl (.lp false false (QbB body))) fun id =>
   .bind (call fid (.yl fn.ntmps (KX (YH asn++YH body) env) ps asn body (D.ofList ((KX (YH asn++YH body) env).map (eget env))) id::caps.toList)) fun _=>.rd id (QqD id (QbB body) env)
  | _=>.fail)
 | none=>.fail
def evC (Φ:Fns C):Nat->FuncId->Code->Env C->Pg C (X × Env C)
 | 0,_,_,_=>.fail
 | n+1,f,c,env =>
  match c with
  | .skip=>.ret (.normal,env)
  | .label _=>.ret (.normal,env)
  | .ret=>.ret (.ret,env)
  | .exit id=>.ret (.exit id,env)
  | .region _ ops draw=>bif draw then .bind (QdA T env (preR T ops env)) fun _=>Quo T (QbA T Φ (evC Φ n)) ops env else regC T (QbA T Φ (evC Φ n)) ops env
  | .seq a b=>.bind (evC Φ n f a env) (QoR (evC Φ n f b))
  | .cond c x y=>Qun (bif pureC Φ x && pureC Φ y then some (asgL x++asgL y) else none) c (evC Φ n f x) (evC Φ n f y) env
  | .block id b=>.bind (evC Φ n f b env) (Qgh id)
  | .scope b=>evC Φ n f b env
  | .loop b=>Qr5 Φ f (Qv b) (asgL b) (evC Φ n f b) (evC Φ n f (.loop b)) env
  | .rangeFunc g ps asn body=>QqE Φ (QbA T Φ (evC Φ n)) f (evAt env g) ps.toList asn body env
  | _=>.fail
def evF (Φ:Fns C) (n:Nat) (f:FuncId) (args:List (D C)):Option (D C):=(QaE T Φ (evC T Φ n) f args).run (0,0) [] 0 [] fun d _ _ _=>bif d.refs.isEmpty && d.noYl then some d else none
end
set_option linter.unusedVariables false
set_option linter.unusedSimpArgs false
section
variable {C:Cdc} (T:Tab C)
theorem D.ones_nth:∀ {ds:D C} {i:Nat} {x:D C},ds.ones=true->ds.nth i=some x->x.isRow=false
 | .acons d ds,0,x,h,hq=>by simp [D.nth] at hq;subst hq;simp [D.ones] at h;exact h.1
 | .acons d ds,i+1,x,h,hq=>by simp [D.ones] at h;exact D.ones_nth h.2 (by simpa [D.nth] using hq)
def lenV:Value->Nat
 | .slice _ n _=>n
 | _=>0
inductive CtlL where
 | lp (b:Nat) (rec:Loop)
 | it (bm r:Nat)
def CtlL.owns:CtlL->Nat->Prop
 | .lp b _,c=>c=b
 | .it bm r,c=>c=bm \/ c=r
inductive Loc where
 | var (b:Nat) (t:TypeId)
 | vec (v:Value) (e:TypeId) (b lo hi:Nat)
 | map (b:Nat)
 | ctl (s:CtlL)
def Loc.owns:Loc->Nat->Nat->Prop
 | .var b _,c,_=>c=b
 | .vec _ _ b lo hi,c,o=>c=b /\ lo <= o /\ o < hi
 | .map b,c,_=>c=b
 | .ctl s,c,_=>s.owns c
structure Cx where
 w:World
 ρ:Nat->Option Loc
 O:Nat->Nat->Prop
def Cx.mine (X:Cx) (b o:Nat):Prop := ∃ id l,X.ρ id=some l /\ l.owns b o
def Cx.free (X:Cx) (b o:Nat):Prop := ¬ X.O b o /\ ¬ X.mine b o
def Cx.at (X:Cx) (b off:Nat) (cs:List Value):Prop :=
 ∀ j v,cs[j]? = some v->X.w.cell? ⟨b,off+j,none⟩=some v /\ X.free b (off+j)
def QP:List TypeId->Nat
 | []=>0
 | t::ts=>T.size t+QP ts
def offAt:TypeId->List Nat->Nat
 | _,[]=>0
 | t,i::p=>match T.ty t with
  | .struct _ fs=>QP T (fs.take i)+offAt (fs.getD i 0) p
  | .arr _ e _=>i * T.size e+offAt e p
  | _=>0
def QT:TypeId->List Nat->Prop
 | _,[]=>True
 | t,i::p=>match T.ty t with
  | .struct _ fs=>i < fs.length /\ QT (fs.getD i 0) p
  | .arr n e _=>i < n /\ QT e p
  | _=>False
inductive R (X:Cx):Bool->D C->List Value->Prop
 | bool (b:Bool):R X false (.bool b) [.bool b]
 | int {k:IntKind} {n:Int} (h:k.min <= n /\ n <= k.max):R X false (.int k n) [.int k n]
 | str (s:List UInt8):R X false (.str s) [.string ⟨⟨s⟩⟩]
 | anil:R X false .anil []
 | acons {d ds:D C} {c1 c2:List Value} (h1:R X false d c1) (h2:R X false ds c2):R X false (.acons d ds) (c1++c2)
 | arr0 (t:C.Ty):R X false (.arr t 0 []) []
 | arrS {t:C.Ty} {n:Nat} {x:C.A t} {l:List (C.A t)} {c1 c2:List Value} (h1:R X false (T.enc t x) c1) (h2:R X false (.arr t n l) c2):R X false (.arr t (n+1) (x::l)) (c1++c2)
 | nils:R X false .nils [.slice none 0 0]
 | sl0 (t:C.Ty) (cap:Bool) (a:Option Addr):R X false (.sl t cap []) [.slice a 0 0]
 | sl {t:C.Ty} {cap:Bool} {l:List (C.A t)} {b off cp:Nat} {cs:List Value} (ha:X.at b off cs) (h:R X false (.arr t l.length l) cs) (hc:l.length <= cp)
  (hcap:cap=true->cp=l.length):R X false (.sl t cap l) [.slice (some ⟨b,off,none⟩) l.length cp]
 | vs {id n cp:Nat} {a:Option Addr} (h:∀ v e b lo hi,X.ρ id=some (.vec v e b lo hi)->n <= lenV v /\ (lenV v=n->v=.slice a n cp)):R X false (.vs id n) [.slice a n cp]
 | ptr {id:Nat} {p:List Nat} {a:Addr} (h:∀ b t,X.ρ id=some (.var b t)->QT T t p /\ a=⟨b,offAt T t p,none⟩):R X false (.ptr id p) [.pointer (some a)]
 | vptr {id n i:Nat} {p:List Nat} {a:Addr} (h:∀ v e b lo hi,X.ρ id=some (.vec v e b lo hi)->n <= lenV v /\
  (lenV v=n -> ∃ b' off cp,v=.slice (some ⟨b',off,none⟩) n cp /\ i < n /\ QT T e p /\ a=⟨b',off+i * T.size e+offAt T e p,none⟩)):R X false (.vptr id n (i::p)) [.pointer (some a)]
 | cptr {d:D C} {b off:Nat} {cs:List Value} (ha:X.at b off cs) (h:R X false d cs):R X false (.cptr d) [.pointer (some ⟨b,off,none⟩)]
 | nilp:R X false .nilp [.pointer none]
 | fn {f:Nat} {caps:D C} {vs:List Value} (h:R X true caps vs):R X false (.fn f caps) [.func (.func f) #[] ⟨vs⟩]
 | nilfn:R X false .nilfn [.nilFunc]
 | nilm:R X false .nilm [.map none]
 | bm {f:Nat} {d:D C} {v:Value} (h:R X false d [v]) (hr:d.isRow=false):R X false (.bm f d) [.func (.func f) #[v] #[]]
 | yl {nt l id:Nat} {slots ps:List Nat} {asn body:Code} {caps:D C} {rec:Loop} (hw:∀ s,X.ρ id=some (.ctl s)->s=.lp l rec) (hs:rec.params.toList=ps /\ rec.assign=asn /\ rec.body=body /\ nt <= rec.tmps.size)
  (h:R X true caps (slots.map fun t=>rec.tmps.getD t undef)):R X false (.yl nt slots ps asn body caps id) [.func (.yield l) #[] #[]]
 | dsl {n b off cp:Nat} {cap:Bool} {ds:D C} {cs:List Value} (ha:X.at b off cs) (h:R X true ds cs) (hn:n <= cs.length) (h1:ds.ones=true) (hc:n <= cp /\ (cap=true->cp=n /\ cs.length=n)):R X false (.dsl n cap ds) [.slice (some ⟨b,off,none⟩) n cp]
 | itp {id r:Nat} (h:∀ s,X.ρ id=some (.ctl s) -> ∃ bm,s=.it bm r):R X false (.itp id) [.pointer (some ⟨r,0,none⟩)]
 | mp {id b:Nat} (h:∀ b',X.ρ id=some (.map b')->b'=b):R X false (.mp id) [.map (some b)]
 | asl {ta id lo n cp:Nat} {p:List Nat} {ao:Option Addr} (h:∀ b t,X.ρ id=some (.var b t) -> ∃ m e ty,T.ty ta=.arr m e ty /\ tyAt T t p=some ta /\ QT T t p /\ lo+n <= m /\ ao=some ⟨b,offAt T t p+lo * T.size (T.ety ty),none⟩)
  (hs:0 < n -> ∃ b0 o0,ao=some ⟨b0,o0,none⟩) (hv:∀ v e b l' hi,X.ρ id=some (.vec v e b l' hi)->p.getD 0 0 <= lenV v /\ (lenV v=p.getD 0 0 -> ∃ a0 cp0,v=.slice a0 (p.getD 0 0) cp0 /\ n=p.getD 0 0 - lo /\ cp=cp0 - lo /\
   ao=(if cp0=lo then a0 else a0.map (·.add (lo * T.size e))))):R X false (.asl ta id p lo n) [.slice ao n cp]
 | tup {ds:D C} {vs:List Value} (h:R X true ds vs):R X false (.tup ds) [.tuple ⟨vs⟩]
 | top (v:Value):R X false .top [v]
 | vnil:R X true .anil []
 | vrow {d ds:D C} {cs vs:List Value} (h:R X false d cs) (hr:d.isRow=true) (h2:R X true ds vs):R X true (.acons d ds) (.agg ⟨cs⟩::vs)
 | vone {d ds:D C} {v:Value} {vs:List Value} (h:R X false d [v]) (hr:d.isRow=false) (h2:R X true ds vs):R X true (.acons d ds) (v::vs)
def RV (X:Cx) (d:D C) (v:Value):Prop :=
 (d.isRow=true /\ ∃ cs,R T X false d cs /\ v=.agg ⟨cs⟩) \/ (d.isRow=false /\ R T X false d [v])
def Qd:Option Loc->Option Loc->Prop
 | _,none=>True
 | some (.var b t),some l=>l=.var b t
 | some (.map b),some l=>l=.map b
 | some (.ctl s),some l=>l=.ctl s
 | some (.vec v e _ _ _),some (.vec v' e' _ _ _)=>e'=e /\ lenV v <= lenV v' /\ (lenV v=lenV v'->v'=v)
 | _,_=>False
theorem Qd.refl (l:Option Loc):Qd l l:=by
 cases l with
 | none=>trivial
 | some l=>cases l <;> simp [Qd]
theorem Qd.trans {a b c:Option Loc} (h:Qd a b) (k:Qd b c):Qd a c:=by
 cases c with
 | none=>simp [Qd]
 | some c =>
  cases b with
  | none=>simp [Qd] at k
  | some b =>
   cases a with
   | none=>simp [Qd] at h
   | some a =>
    cases a <;> cases b <;> cases c <;> simp_all [Qd]
    obtain ⟨_,h1,h2⟩:=h;obtain ⟨_,k1,k2⟩:=k;refine ⟨by omega,fun e=>?_⟩
    have e1:=h2 (by omega)
    have e2:=k2 (by omega)
    rw [e2,e1]
structure Kps (X X':Cx):Prop where
 cell:∀ b o v,X.w.cell? ⟨b,o,none⟩=some v->X.free b o->X'.w.cell? ⟨b,o,none⟩=some v /\ X'.free b o
theorem R.monoG {X X':Cx} {y:Bool} (he:∀ t x,(T.enc t x).refs=[] /\ (T.enc t x).noYl=true) (hX:∀ b o v,X.w.cell? ⟨b,o,none⟩=some v->X.free b o->X'.w.cell? ⟨b,o,none⟩=some v /\ X'.free b o)
 (hL:y=true->True)
 {m:Bool} {d:D C} {vs:List Value} (h:R T X m d vs):(∀ id ∈ d.refs,Qd (X.ρ id) (X'.ρ id))->(y=true \/ d.noYl=true)->R T X' m d vs:=by
 induction h with
 | bool b=>exact fun _ _=>.bool b
 | int h=>exact fun _ _=>.int h
 | str s=>exact fun _ _=>.str s
 | anil=>exact fun _ _=>.anil
 | acons _ _ i1 i2 =>
  intro hr hy;simp only [D.refs,List.mem_append] at hr;exact .acons (i1 (fun id h=>hr id (.inl h)) (hy.imp id fun h=>by simp only [D.noYl,Bool.and_eq_true] at h;exact h.1)) (i2 (fun id h=>hr id (.inr h)) (hy.imp id fun h=>by simp only [D.noYl,Bool.and_eq_true] at h;exact h.2))
 | arr0 t=>exact fun _ _=>.arr0 t
 | arrS _ _ i1 i2=>exact fun _ _=>.arrS (i1 (by simp [he]) (.inr (he _ _).2)) (i2 (by simp [D.refs]) (.inr rfl))
 | nils=>exact fun _ _=>.nils
 | sl0 t c a=>exact fun _ _=>.sl0 t c a
 | sl ha _ hc hcap ih=>exact fun _ _=>.sl (fun j v hj=>hX _ _ _ (ha j v hj).1 (ha j v hj).2) (ih (by simp [D.refs]) (.inr rfl)) hc hcap
 | @vs id n cp a h =>
  intro hr hy;refine .vs fun v e b lo hi hv=>?_;have hc:=hr id (by simp [D.refs])
  rw [hv] at hc;cases ho:X.ρ id with
  | none=>rw [ho] at hc;simp [Qd] at hc
  | some l =>
   rw [ho] at hc;cases l with
   | var b t=>simp [Qd] at hc
   | map b0=>simp [Qd] at hc
   | ctl _=>simp [Qd] at hc
   | vec v0 e0 b0 lo0 hi0 =>
    simp only [Qd] at hc;have:=h _ _ _ _ _ ho;refine ⟨by omega,fun hl=>?_⟩
    have e1:=hc.2.2 (by omega)
    rw [e1];exact this.2 (by omega)
 | @ptr id p a h =>
  intro hr hy;refine .ptr fun b t hv=>?_;have hc:=hr id (by simp [D.refs])
  rw [hv] at hc;cases ho:X.ρ id with
  | none=>rw [ho] at hc;simp [Qd] at hc
  | some l =>
   rw [ho] at hc;cases l with
   | var b0 t0 =>
    simp only [Qd,Loc.var.injEq] at hc;obtain ⟨rfl,rfl⟩:=hc;exact h _ _ ho
   | vec v0 e0 b0 lo0 hi0=>simp [Qd] at hc
   | map b0=>simp [Qd] at hc
   | ctl _=>simp [Qd] at hc
 | @asl ta id lo n cp p ao h hs hw =>
  intro hr hy;refine .asl (fun b t hv=>?_) hs (fun v e b lo hi hv=>?_)
  · have hc:=hr id (by simp [D.refs])
    rw [hv] at hc;cases ho:X.ρ id with
    | none=>rw [ho] at hc;simp [Qd] at hc
    | some l =>
     rw [ho] at hc;cases l with
     | var b0 t0 =>
      simp only [Qd,Loc.var.injEq] at hc;obtain ⟨rfl,rfl⟩:=hc;exact h _ _ ho
     | vec v0 e0 b0 lo0 hi0=>simp [Qd] at hc
     | map b0=>simp [Qd] at hc
     | ctl _=>simp [Qd] at hc
  · have hc:=hr id (by simp [D.refs])
    rw [hv] at hc;cases ho:X.ρ id with
    | none=>rw [ho] at hc;simp [Qd] at hc
    | some l =>
     rw [ho] at hc;cases l with
     | var b t=>simp [Qd] at hc
     | map b0=>simp [Qd] at hc
     | ctl _=>simp [Qd] at hc
     | vec v0 e0 b0 lo0 hi0 =>
      simp only [Qd] at hc;have:=hw _ _ _ _ _ ho;refine ⟨by omega,fun hl=>?_⟩
      have e1:=hc.2.2 (by omega)
      rw [e1,hc.1];exact this.2 (by omega)
 | @vptr id n i p a h =>
  intro hr hy;refine .vptr fun v e b lo hi hv=>?_;have hc:=hr id (by simp [D.refs])
  rw [hv] at hc;cases ho:X.ρ id with
  | none=>rw [ho] at hc;simp [Qd] at hc
  | some l =>
   rw [ho] at hc;cases l with
   | var b t=>simp [Qd] at hc
   | map b0=>simp [Qd] at hc
   | ctl _=>simp [Qd] at hc
   | vec v0 e0 b0 lo0 hi0 =>
    simp only [Qd] at hc;have:=h _ _ _ _ _ ho;refine ⟨by omega,fun hl=>?_⟩
    have e1:=hc.2.2 (by omega)
    rw [e1,hc.1];exact this.2 (by omega)
 | cptr ha _ ih =>
  intro hr hy;exact .cptr (fun j v hj=>hX _ _ _ (ha j v hj).1 (ha j v hj).2) (ih (by simpa [D.refs] using hr) hy)
 | nilp=>exact fun _ _=>.nilp
 | dsl ha _ hn h1 hc ih =>
  intro hr hy;exact .dsl (fun j v hj=>hX _ _ _ (ha j v hj).1 (ha j v hj).2) (ih (by simpa [D.refs] using hr) hy) hn h1 hc
 | @itp id r h =>
  intro hr hy;refine .itp fun s hv=>?_;have hc:=hr id (by simp [D.refs])
  rw [hv] at hc;cases ho:X.ρ id with
  | none=>rw [ho] at hc;simp [Qd] at hc
  | some l =>
   rw [ho] at hc;cases l with
   | ctl s0 =>
    simp only [Qd,Loc.ctl.injEq] at hc;obtain rfl:=hc;exact h _ ho
   | _=>simp [Qd] at hc
 | @mp id b h =>
  intro hr hy;refine .mp fun b' hv=>?_;have hc:=hr id (by simp [D.refs])
  rw [hv] at hc;cases ho:X.ρ id with
  | none=>rw [ho] at hc;simp [Qd] at hc
  | some l =>
   rw [ho] at hc;cases l with
   | map b0 =>
    simp only [Qd,Loc.map.injEq] at hc;obtain rfl:=hc;exact h _ ho
   | _=>simp [Qd] at hc
 | fn _ ih=>exact fun hr hy=>.fn (ih (by simpa [D.refs] using hr) hy)
 | nilfn=>exact fun _ _=>.nilfn
 | nilm=>exact fun _ _=>.nilm
 | bm _ hrow ih=>exact fun hr hy=>.bm (ih (by simpa [D.refs] using hr) hy) hrow
 | @yl nt l id slots ps asn body caps rec hw hs _ ih =>
  intro hr hy;rcases hy with hy | hy
  · refine .yl (fun s hv=>?_) hs (ih (fun i hi=>hr i (by simp [D.refs,hi])) (.inl hy))
    have hc:=hr id (by simp [D.refs])
    rw [hv] at hc;cases ho:X.ρ id with
    | none=>rw [ho] at hc;simp [Qd] at hc
    | some l =>
     rw [ho] at hc;cases l with
     | ctl s0 =>
      simp only [Qd,Loc.ctl.injEq] at hc;obtain rfl:=hc;exact hw _ ho
     | _=>simp [Qd] at hc
  · cases hy
 | tup _ ih=>exact fun hr hy=>.tup (ih (by simpa [D.refs] using hr) hy)
 | top v=>exact fun _ _=>.top v
 | vnil=>exact fun _ _=>.vnil
 | vrow _ hr' _ i1 i2 =>
  intro hr hy;simp only [D.refs,List.mem_append] at hr;exact .vrow (i1 (fun id h=>hr id (.inl h)) (hy.imp id fun h=>by simp only [D.noYl,Bool.and_eq_true] at h;exact h.1)) hr' (i2 (fun id h=>hr id (.inr h)) (hy.imp id fun h=>by simp only [D.noYl,Bool.and_eq_true] at h;exact h.2))
 | vone _ hr' _ i1 i2 =>
  intro hr hy;simp only [D.refs,List.mem_append] at hr;exact .vone (i1 (fun id h=>hr id (.inl h)) (hy.imp id fun h=>by simp only [D.noYl,Bool.and_eq_true] at h;exact h.1)) hr' (i2 (fun id h=>hr id (.inr h)) (hy.imp id fun h=>by simp only [D.noYl,Bool.and_eq_true] at h;exact h.2))
theorem R.mono {X X':Cx} (he:∀ t x,(T.enc t x).refs=[] /\ (T.enc t x).noYl=true) (hX:Kps X X')
 {m:Bool} {d:D C} {vs:List Value} (h:R T X m d vs) (hr:∀ id ∈ d.refs,Qd (X.ρ id) (X'.ρ id)):R T X' m d vs :=
 h.monoG T (y:=true) he hX.cell (fun _=>trivial) hr (.inl rfl)
theorem RV.mono {X X':Cx} (he:∀ t x,(T.enc t x).refs=[] /\ (T.enc t x).noYl=true) (hX:Kps X X')
 {d:D C} {v:Value} (h:RV T X d v) (hr:∀ id ∈ d.refs,Qd (X.ρ id) (X'.ρ id)):RV T X' d v:=by
 rcases h with ⟨h1,cs,h2,h3⟩ | ⟨h1,h2⟩
 · exact .inl ⟨h1,cs,h2.mono T he hX hr,h3⟩
 · exact .inr ⟨h1,h2.mono T he hX hr⟩
theorem RV.top (X:Cx) (v:Value):RV T X .top v:=.inr ⟨rfl,.top v⟩
theorem R.nth {X:Cx} {m:Bool} {d:D C} {vs:List Value} (h:R T X m d vs):m=true -> ∀ i x,d.nth i=some x -> ∃ v,vs[i]? = some v /\ RV T X x v:=by
 induction h with
 | vnil=>intro _ i x h;simp [D.nth] at h
 | vrow h hr _ _ ih =>
  intro _ i x hx;cases i with
  | zero=>simp [D.nth] at hx;subst hx;exact ⟨_,rfl,.inl ⟨hr,_,h,rfl⟩⟩
  | succ i=>simpa using ih rfl i x (by simpa [D.nth] using hx)
 | vone h hr _ _ ih =>
  intro _ i x hx;cases i with
  | zero=>simp [D.nth] at hx;subst hx;exact ⟨_,rfl,.inr ⟨hr,h⟩⟩
  | succ i=>simpa using ih rfl i x (by simpa [D.nth] using hx)
 | _=>intro hm;simp at hm
inductive RVs (X:Cx):List (D C)->List Value->Prop
 | nil:RVs X [] []
 | cons {d:D C} {ds:List (D C)} {v:Value} {vs:List Value} (h:RV T X d v) (r:RVs X ds vs):RVs X (d::ds) (v::vs)
theorem RVs.row {X:Cx} {ds:List (D C)} {vs:List Value} (h:RVs T X ds vs):R T X true (D.ofList ds) vs:=by
 induction h with
 | nil=>exact .vnil
 | cons h _ ih =>
  rcases h with ⟨h1,cs,h2,rfl⟩ | ⟨h1,h2⟩
  · exact .vrow h2 h1 ih
  · exact .vone h2 h1 ih
theorem R.toList {X:Cx} {m:Bool} {d:D C} {vs:List Value} (h:R T X m d vs):m=true->RVs T X d.toList vs:=by
 induction h with
 | vnil=>exact fun _=>.nil
 | vrow h hr _ _ ih=>exact fun _=>.cons (.inl ⟨hr,_,h,rfl⟩) (ih rfl)
 | vone h hr _ _ ih=>exact fun _=>.cons (.inr ⟨hr,h⟩) (ih rfl)
 | _=>intro hm;simp at hm
theorem RVs.append {X:Cx} {ds es:List (D C)} {vs us:List Value} (h:RVs T X ds vs) (k:RVs T X es us):RVs T X (ds++es) (vs++us):=by
 induction h with
 | nil=>exact k
 | cons h _ ih=>exact .cons h ih
theorem RVs.length {X:Cx} {ds:List (D C)} {vs:List Value} (h:RVs T X ds vs):ds.length=vs.length:=by
 induction h with
 | nil=>rfl
 | cons _ _ ih=>simp [ih]
end
section
variable {C:Cdc}
structure Laws (T:Tab C):Prop where
 encRefs:∀ t x,(T.enc t x).refs=[]
 encFit:∀ t x,fit T (T.enc t x) (.inl (T.ety t))=true
 decR:∀ X t d x cs,T.dec t d=some x->R T X false d cs->R T X false (T.enc t x) cs
 u8s:∀ t f l,T.u8s t=some f->bytesOf T l=some (f l)
 ofU8s:∀ t g l,T.ofU8s t=some g->(g l).map (T.enc t)=l.map fun b=>.int .u8 (b.toNat:Int)
 szStruct:∀ u a fs,T.ty u=.struct a fs->T.size u=QP T fs
 szArr:∀ u n e t,T.ty u=.arr n e t->T.size u=n * T.size e /\ T.ty e=T.ty (T.ety t) /\ T.size e=T.size (T.ety t)
 szSl:∀ u e t,T.ty u=.sl e t->T.size u=1 /\ T.ty e=T.ty (T.ety t) /\ T.size e=T.size (T.ety t)
 szBool:∀ u,T.ty u=.bool->T.size u=1
 szInt:∀ u k,T.ty u=.int k->T.size u=1
 szStr:∀ u,T.ty u=.str->T.size u=1
 szPtr:∀ u e,T.ty u=.ptr e->T.size u=1
 szFn:∀ u,T.ty u=.fn->T.size u=1
 szDsl:∀ u e,T.ty u=.dsl e->T.size u=1
 szMap:∀ u k v ck cv,T.ty u=.map k v ck cv->T.size u=1
 pos:∀ u,(∀ h:T.ty u=.none,False)->0 < T.size u
variable {T:Tab C} (L:Laws T)
theorem Yx:∀ (d:D C) (u:TypeId ⊕ List TypeId),fit T d u=true->d.noYl=true
 | .acons d ds,.inl t,h=>by
  simp only [fit] at h
  split at h
  · simp only [Bool.and_eq_true] at h;simp only [D.noYl,Yx d _ h.1,Yx ds _ h.2,Bool.and_self]
  · cases h
 | .acons d ds,.inr [],h=>by simp [fit] at h
 | .acons d ds,.inr (a::fs),h=>by
  simp only [fit,Bool.and_eq_true] at h;simp only [D.noYl,Yx d _ h.1,Yx ds _ h.2,Bool.and_self]
 | .tup _,.inl _,h=>by simp [fit] at h
 | .tup _,.inr _,h=>by simp [fit] at h
 | .yl _ _ _ _ _ _ _,.inl _,h=>by simp [fit] at h
 | .yl _ _ _ _ _ _ _,.inr _,h=>by simp [fit] at h
 | .itp _,_,_=>rfl
 | .fn _ _,.inr _,h=>by simp [fit] at h
 | .cptr _,.inr _,h=>by simp [fit] at h
 | .dsl _ _ _,.inr _,h=>by simp [fit] at h
 | .bm _ _,.inr _,h=>by simp [fit] at h
 | .bm _ d,.inl _,h=>by
  simp only [fit] at h
  split at h
  · exact h
  · cases h
 | .fn _ d,.inl _,h=>by
  simp only [fit] at h
  split at h
  · exact h
  · cases h
 | .cptr d,.inl _,h=>by
  simp only [fit] at h
  split at h
  · exact h
  · cases h
 | .dsl _ _ d,.inl _,h=>by
  simp only [fit] at h
  split at h
  · exact h
  · cases h
 | .mp _,_,_=>rfl
 | .vs _ _,_,_=>rfl
 | .ptr _ _,_,_=>rfl
 | .asl _ _ _ _ _,_,_=>rfl
 | .vptr _ _ _,_,_=>rfl
 | .bool _,_,_=>rfl
 | .int _ _,_,_=>rfl
 | .str _,_,_=>rfl
 | .anil,_,_=>rfl
 | .arr _ _ _,_,_=>rfl
 | .nils,_,_=>rfl
 | .sl _ _ _,_,_=>rfl
 | .nilp,_,_=>rfl
 | .nilfn,_,_=>rfl
 | .nilm,_,_=>rfl
 | .top,_,_=>rfl
theorem Laws.encOK (L:Laws T) (t:C.Ty) (x:C.A t):(T.enc t x).refs=[] /\ (T.enc t x).noYl=true:=⟨L.encRefs t x,Yx _ _ (L.encFit t x)⟩
theorem Zv {d:D C} {e e':TypeId} (h:T.ty e=T.ty e'):fit T d (.inl e)=fit T d (.inl e'):=by
 cases d <;> simp [fit,h]
include L
theorem R.sizes {X:Cx} {m:Bool} {d:D C} {cs:List Value} (h:R T X m d cs):m=false ->
 (∀ t,fit T d (.inl t)=true->cs.length=T.size t) /\ (∀ fs,fit T d (.inr fs)=true->cs.length=QP T fs) /\
 (∀ t n l,d=.arr t n l->cs.length=n * T.size (T.ety t) /\ l.length=n):=by
 have e1:∀ (d:D C) (u:TypeId) (v:Value),d.isRow=false->fit T d (.inl u)=true->[v].length=T.size u:=by
  intro d u v hr hf;simp only [List.length_singleton];cases hd:T.ty u <;> cases d <;> simp_all [fit,D.isRow]
  all_goals first | exact (L.szBool _ hd).symm | exact (L.szInt _ _ hd).symm | exact (L.szStr _ hd).symm | exact (L.szSl _ _ _ hd).1.symm | exact (L.szPtr _ _ hd).symm | exact (L.szFn _ hd).symm | exact (L.szDsl _ _ hd).symm | exact (L.szMap _ _ _ _ _ hd).symm
 have e2:∀ (d:D C) (fs:List TypeId) (P:Prop),d.isRow=false->fit T d (.inr fs)=true->P:=by
  intro d fs P hr hf;cases d <;> simp_all [fit,D.isRow]
 have e3:∀ (d:D C) (P:Prop),d.isRow=false -> ∀ t n l,d=.arr t n l->P:=by
  intro d P hr t n l hd;subst hd;simp [D.isRow] at hr
 induction h with
 | anil =>
  refine fun _=>⟨fun t hf=>?_,fun fs hf=>?_,fun t n l hd=>by simp at hd⟩
  · cases hd:T.ty t <;> simp [fit,hd] at hf
    rename_i fs;cases fs with
    | nil=>simp [L.szStruct _ _ _ hd,QP]
    | cons=>simp at hf
  · cases fs with
    | nil=>rfl
    | cons=>simp [fit] at hf
 | @acons d ds c1 c2 _ _ i1 i2 =>
  intro hm;have i1:=i1 hm;have i2:=i2 hm
  have key:∀ f fs,(fit T d (.inl f) && fit T ds (.inr fs))=true->(c1++c2).length=QP T (f::fs):=by
   intro f fs hf;simp only [Bool.and_eq_true] at hf;simp [QP,i1.1 f hf.1,i2.2.1 fs hf.2]
  refine ⟨fun t hf=>?_,fun fs hf=>?_,fun t n l hd=>by simp at hd⟩
  · cases hd:T.ty t <;> simp only [fit,hd,Bool.false_eq_true] at hf
    rename_i fs;cases fs with
    | nil=>simp at hf
    | cons f fs=>rw [L.szStruct _ _ _ hd];exact key f fs hf
  · cases fs with
    | nil=>simp [fit] at hf
    | cons f fs=>exact key f fs hf
 | arr0 t =>
  refine fun _=>⟨fun u hf=>?_,fun fs hf=>by simp [fit] at hf,fun t n l hd=>by simp at hd;obtain ⟨rfl,rfl,hd⟩:=hd;subst hd;simp⟩
  cases hd:T.ty u <;> simp [fit,hd] at hf
  obtain ⟨rfl,rfl⟩:=hf;simp [(L.szArr _ _ _ _ hd).1]
 | @arrS t n x l c1 c2 _ _ i1 i2 =>
  intro hm;have h1:=(i1 hm).1 (T.ety t) (L.encFit t x);have h2:=(i2 hm).2.2 t n l rfl;refine ⟨fun u hf=>?_,fun fs hf=>by simp [fit] at hf,fun t' n' l' hd=>?_⟩
  · cases hd:T.ty u <;> simp [fit,hd] at hf
    obtain ⟨hn,rfl⟩:=hf;have:=L.szArr _ _ _ _ hd;rw [this.1,this.2.2,hn,List.length_append,h1,h2.1,Nat.add_mul];omega
  · simp at hd;obtain ⟨rfl,rfl,hd⟩:=hd;simp at hd;subst hd;simp [h1,h2.1,h2.2,Nat.add_mul];omega
 | bool | int | str | nils | sl0 | sl | vs | asl | ptr | vptr | cptr | nilp | fn | nilfn | nilm | bm | yl | dsl | mp | itp | tup | top =>
  exact fun _=>⟨fun u hf=>e1 _ u _ rfl hf,fun fs hf=>e2 _ fs _ rfl hf,fun t n l hd=>e3 _ _ rfl t n l hd⟩
 | vnil | vrow | vone=>intro hm;simp at hm
theorem R.len {X:Cx} {d:D C} {cs:List Value} (h:R T X false d cs) {t:TypeId} (hf:fit T d (.inl t)=true):cs.length=T.size t:=(h.sizes L rfl).1 t hf
theorem R.lenArr {X:Cx} {t:C.Ty} {n:Nat} {l:List (C.A t)} {cs:List Value} (h:R T X false (.arr t n l) cs):cs.length=n * T.size (T.ety t) /\ l.length=n:=(h.sizes L rfl).2.2 t n l rfl
theorem R.part {X:Cx} {d:D C}:∀ {fs:List TypeId} {i:Nat} {x:D C} {cs:List Value},fit T d (.inr fs)=true->R T X false d cs->d.nth i=some x ->
 ∃ c1 c2 c3,cs=c1++c2++c3 /\ c1.length=QP T (fs.take i) /\ R T X false x c2 /\ i < fs.length /\ fit T x (.inl (fs.getD i 0))=true:=by
 induction d with
 | acons d ds _ ih =>
  intro fs i x cs hf h hx;cases fs with
  | nil=>simp [fit] at hf
  | cons f fs =>
   simp only [fit,Bool.and_eq_true] at hf;cases h with
   | @acons _ _ c1 c2 h1 h2 =>
    cases i with
    | zero =>
     simp [D.nth] at hx;subst hx;exact ⟨[],c1,c2,by simp,by simp [QP],h1,by simp,hf.1⟩
    | succ i =>
     obtain ⟨a,b,c,hc,hl,hr,hi,hfi⟩:=ih hf.2 h2 (by simpa [D.nth] using hx)
     exact ⟨c1++a,b,c,by simp [hc],by simp [QP,hl,h1.len L hf.1],hr,by simpa using hi,by simpa using hfi⟩
 | _=>intro fs i x cs _ _ hx;simp [D.nth] at hx
theorem R.partT {X:Cx} {d:D C} {t:TypeId} {fs:List TypeId} {a:Bool} (ht:T.ty t=.struct a fs) {i:Nat} {x:D C} {cs:List Value} (hf:fit T d (.inl t)=true) (h:R T X false d cs) (hx:d.nth i=some x) :
 ∃ c1 c2 c3,cs=c1++c2++c3 /\ c1.length=QP T (fs.take i) /\ R T X false x c2 /\ i < fs.length /\ fit T x (.inl (fs.getD i 0))=true:=by
 refine h.part L (fs:=fs) ?_ hx;cases d with
 | acons a b =>
  cases fs with
  | nil=>simp [fit,ht] at hf
  | cons f fs=>simpa [fit,ht] using hf
 | _=>simp [D.nth] at hx
theorem R.setPart {X:Cx} {d:D C}:∀ {fs:List TypeId} {i:Nat} {x d':D C} {cs cx:List Value},fit T d (.inr fs)=true->R T X false d cs->d.setNth i x=some d' ->
 R T X false x cx->fit T x (.inl (fs.getD i 0))=true ->
 ∃ c1 c2 c3,cs=c1++c2++c3 /\ c1.length=QP T (fs.take i) /\ c2.length=cx.length /\ i < fs.length /\ R T X false d' (c1++cx++c3) /\ fit T d' (.inr fs)=true:=by
 induction d with
 | acons d ds _ ih =>
  intro fs i x d' cs cx hf h hx hxc hxf;cases fs with
  | nil=>simp [fit] at hf
  | cons f fs =>
   simp only [fit,Bool.and_eq_true] at hf;cases h with
   | @acons _ _ c1 c2 h1 h2 =>
    cases i with
    | zero =>
     simp [D.setNth] at hx;subst hx;simp at hxf;refine ⟨[],c1,c2,by simp,by simp [QP],by rw [h1.len L hf.1,hxc.len L hxf],by simp,by simpa using R.acons hxc h2,?_⟩
     simp [fit,hxf,hf.2]
    | succ i =>
     simp only [D.setNth,Option.map_eq_some_iff] at hx;obtain ⟨y,hy,rfl⟩:=hx;obtain ⟨a,b,c,hc,hl,hlen,hi,hr,hfi⟩:=ih hf.2 h2 hy hxc (by simpa using hxf)
     refine ⟨c1++a,b,c,by simp [hc],by simp [QP,hl,h1.len L hf.1],hlen,by simpa using hi,by simpa using R.acons h1 hr,?_⟩
     simp [fit,hf.1,hfi]
 | _=>intro fs i x d' cs cx _ _ hx;simp [D.setNth] at hx
omit L in
theorem QaF {d:D C} {t:TypeId} {fs:List TypeId} {a:Bool} (ht:T.ty t=.struct a fs) (hr:∃ a b,d=.acons a b):fit T d (.inl t)=fit T d (.inr fs):=by
 obtain ⟨a,b,rfl⟩:=hr;cases fs with
 | nil=>simp [fit,ht]
 | cons f fs=>simp [fit,ht]
omit L in
theorem KY {d x d':D C} {i:Nat} (h:d.setNth i x=some d'):(∃ a b,d=.acons a b) /\ ∃ a b,d'=.acons a b:=by
 cases d with
 | acons a b =>
  cases i with
  | zero=>simp [D.setNth] at h;subst h;exact ⟨⟨_,_,rfl⟩,⟨_,_,rfl⟩⟩
  | succ i=>simp [D.setNth] at h;obtain ⟨y,_,rfl⟩:=h;exact ⟨⟨_,_,rfl⟩,⟨_,_,rfl⟩⟩
 | _=>simp [D.setNth] at h
theorem R.elem {X:Cx} {t:C.Ty}:∀ {n:Nat} {l:List (C.A t)} {cs:List Value} (i:Nat),R T X false (.arr t n l) cs->i < n ->
 ∃ c1 c2 c3,cs=c1++c2++c3 /\ c1.length=i * T.size (T.ety t) /\ R T X false (T.enc t (l.getD i (T.dflt t))) c2:=by
 intro n l
 induction l generalizing n with
 | nil =>
  intro cs i h hi;cases h with
  | arr0=>omega
 | cons x l ih =>
  intro cs i h hi;cases h with
  | @arrS _ n _ _ c1 c2 h1 h2 =>
   cases i with
   | zero=>exact ⟨[],c1,c2,by simp,by simp,by simpa using h1⟩
   | succ i =>
    obtain ⟨a,b,c,hc,hl,hr⟩:=ih i h2 (by omega)
    refine ⟨c1++a,b,c,by simp [hc],?_,by simpa using hr⟩
    have:=h1.len L (L.encFit t x);simp [hl,this,Nat.add_mul];omega
theorem R.setElem {X:Cx} {t:C.Ty}:∀ {n:Nat} {l:List (C.A t)} {cs:List Value} (i:Nat) (z:C.A t) {cz:List Value},R T X false (.arr t n l) cs->i < n->R T X false (T.enc t z) cz ->
 ∃ c1 c2 c3,cs=c1++c2++c3 /\ c1.length=i * T.size (T.ety t) /\ c2.length=cz.length /\ R T X false (.arr t n (l.set i z)) (c1++cz++c3):=by
 intro n l
 induction l generalizing n with
 | nil =>
  intro cs i z cz h hi;cases h with
  | arr0=>omega
 | cons x l ih =>
  intro cs i z cz h hi hz;cases h with
  | @arrS _ n _ _ c1 c2 h1 h2 =>
   have e1:=h1.len L (L.encFit t x);have e2:=hz.len L (L.encFit t z);cases i with
   | zero=>exact ⟨[],c1,c2,by simp,by simp,by omega,by simpa using R.arrS hz h2⟩
   | succ i =>
    obtain ⟨a,b,c,hc,hl,hlen,hr⟩:=ih i z h2 (by omega) hz
    refine ⟨c1++a,b,c,by simp [hc],?_,hlen,by simpa using R.arrS h1 hr⟩
    simp [hl,e1,Nat.add_mul];omega
omit L in
theorem R.arrAppend {X:Cx} {t:C.Ty}:∀ {n m:Nat} {l k:List (C.A t)} {cs ds:List Value},R T X false (.arr t n l) cs->R T X false (.arr t m k) ds->R T X false (.arr t (n+m) (l++k)) (cs++ds):=by
 intro n m l
 induction l generalizing n with
 | nil=>intro k cs ds h g;cases h with | arr0=>simpa using g
 | cons x l ih =>
  intro k cs ds h g;cases h with
  | @arrS _ n _ _ c1 c2 h1 h2 =>
   have:=R.arrS h1 (ih h2 g);rw [show n+1+m=n+m+1 by omega]
   simpa using this
theorem R.arrSplit {X:Cx} {t:C.Ty}:∀ {n:Nat} {l:List (C.A t)} {cs:List Value} (i:Nat),R T X false (.arr t n l) cs->i <= n ->
 ∃ c1 c2,cs=c1++c2 /\ c1.length=i * T.size (T.ety t) /\ R T X false (.arr t i (l.take i)) c1 /\ R T X false (.arr t (n - i) (l.drop i)) c2:=by
 intro n l
 induction l generalizing n with
 | nil =>
  intro cs i h hi;cases h with
  | arr0 =>
   obtain rfl:i=0:=by omega
   exact ⟨[],[],rfl,by simp,.arr0 t,.arr0 t⟩
 | cons x l ih =>
  intro cs i h hi;cases h with
  | @arrS _ n _ _ c1 c2 h1 h2 =>
   cases i with
   | zero=>exact ⟨[],c1++c2,rfl,by simp,.arr0 t,by simpa using R.arrS h1 h2⟩
   | succ i =>
    obtain ⟨a,b,hc,hl,hr,hr'⟩:=ih i h2 (by omega)
    refine ⟨c1++a,b,by simp [hc],?_,by simpa using R.arrS h1 hr,by rw [show n+1 - (i+1)=n - i by omega];simpa using hr'⟩
    have:=h1.len L (L.encFit t x);simp [hl,this,Nat.add_mul];omega
theorem R.path {X:Cx}:∀ (p:List Nat) {d x:D C} {t:TypeId} {cs:List Value},QT T t p->fit T d (.inl t)=true->R T X false d cs->getPath T d p=some x ->
 ∃ c1 c2 c3,cs=c1++c2++c3 /\ c1.length=offAt T t p /\ R T X false x c2 /\ ∀ t',tyAt T t p=some t'->fit T x (.inl t')=true:=by
 intro p
 induction p with
 | nil =>
  intro d x t cs _ hf h hx;simp [getPath] at hx;subst hx;exact ⟨[],cs,[],by simp,by simp [offAt],h,fun t' ht=>by simp [tyAt] at ht;exact ht ▸ hf⟩
 | cons i p ih =>
  intro d x t cs hp hf h hx;cases d with
  | acons d ds =>
   simp only [getPath] at hx;cases hn:(D.acons d ds).nth i with
   | none=>simp [hn] at hx
   | some y =>
    simp only [hn] at hx;cases ht:T.ty t <;> simp [QT,ht] at hp
    case struct a fs =>
     obtain ⟨a,b,c,hc,hl,hr,hi,hfy⟩:=h.partT L ht hf hn;obtain ⟨a',b',c',hc',hl',hr',hfx⟩:=ih (by simpa using hp.2) (by simpa using hfy) hr hx
     refine ⟨a++a',b',c'++c,by simp [hc,hc'],?_,hr',fun t' h'=>hfx t' ?_⟩
     · simp [offAt,ht,hl,hl']
     · simp only [tyAt,ht] at h';have:fs[i]? = some (fs.getD i 0):=by simp [hi]
       rw [this] at h'
       simpa using h'
    case arr n e ty=>simp [fit,ht] at hf
  | arr ty n l =>
   simp only [getPath] at hx;cases ht:T.ty t <;> simp [QT,ht] at hp
   case struct a fs=>simp [fit,ht] at hf
   case arr m e ty' =>
    simp only [fit,ht,Bool.and_eq_true,Nat.beq_eq,decide_eq_true_eq] at hf;obtain ⟨rfl,rfl⟩:=hf;obtain ⟨a,b,c,hc,hl,hr⟩:=h.elem L i hp.1;have hs:=L.szArr _ _ _ _ ht;have hfe:fit T (T.enc ty (l.getD i (T.dflt ty))) (.inl e)=true:=by rw [Zv hs.2.1];exact L.encFit _ _
    obtain ⟨a',b',c',hc',hl',hr',hfx⟩:=ih hp.2 hfe hr hx;refine ⟨a++a',b',c'++c,by simp [hc,hc'],?_,hr',fun t' h'=>hfx t' ?_⟩
    · simp [offAt,ht,hl,hl',hs.2.2]
    · simpa [tyAt,ht] using h'
  | _=>simp [getPath] at hx
theorem R.setPath {X:Cx}:∀ (p:List Nat) {d v d':D C} {t t':TypeId} {cs cv:List Value},QT T t p->fit T d (.inl t)=true->R T X false d cs->setPath T d p v=some d' ->
 R T X false v cv->tyAt T t p=some t'->fit T v (.inl t')=true ->
 ∃ c1 c2 c3,cs=c1++c2++c3 /\ c1.length=offAt T t p /\ c2.length=cv.length /\ R T X false d' (c1++cv++c3) /\ fit T d' (.inl t)=true:=by
 intro p
 induction p with
 | nil =>
  intro d v d' t t' cs cv _ hf h hx hv ht hfv;simp [Ev.setPath] at hx;subst hx;simp [tyAt] at ht;subst ht;exact ⟨[],cs,[],by simp,by simp [offAt],by rw [h.len L hf,hv.len L hfv],by simpa using hv,hfv⟩
 | cons i p ih =>
  intro d v d' t t' cs cv hp hf h hx hv htt hfv;cases d with
  | acons d ds =>
   simp only [Ev.setPath] at hx;cases hn:(D.acons d ds).nth i with
   | none=>simp [hn] at hx
   | some y =>
    simp only [hn] at hx;cases hs:Ev.setPath T y p v with
    | none=>simp [hs] at hx
    | some y' =>
     simp only [hs] at hx;cases ht:T.ty t <;> simp [QT,ht] at hp
     case struct a fs =>
      obtain ⟨a,b,c,hc,hl,hr,hi,hfy⟩:=h.partT L ht hf hn
      have htt':tyAt T (fs.getD i 0) p=some t':=by
       simp only [tyAt,ht] at htt;have:fs[i]? = some (fs.getD i 0):=by simp [hi]
       rw [this] at htt
       simpa using htt
      obtain ⟨a',b',c',hc',hl',hlen,hr',hfx⟩:=ih (by simpa using hp.2) (by simpa using hfy) hr hs hv htt' hfv
      have hfr:fit T (D.acons d ds) (.inr fs)=true:=by rw [<- QaF ht ⟨_,_,rfl⟩];exact hf
      obtain ⟨e1,e2,e3,hce,hle,hlene,_,hre,hfe⟩:=h.setPart L hfr hx hr' hfx
      have hb:e1=a /\ e2=b /\ e3=c:=by
       have h1:e1.length=a.length:=by omega
       have h2:e2.length=b.length:=by rw [hlene,hc'];simp [hlen]
       have:=hc.symm.trans hce;simp only [List.append_assoc] at this;have q1:=List.append_inj this h1.symm;have q2:=List.append_inj q1.2 h2.symm;exact ⟨q1.1.symm,q2.1.symm,q2.2.symm⟩
      obtain ⟨rfl,rfl,rfl⟩:=hb;refine ⟨e1++a',b',c'++e3,by simp [hce,hc'],by simp [offAt,ht,hle,hl'],hlen,by simpa using hre,?_⟩
      rw [QaF ht (KY hx).2];exact hfe
     case arr n e ty=>simp [fit,ht] at hf
  | arr ty n l =>
   simp only [Ev.setPath] at hx;cases hs:Ev.setPath T (T.enc ty (l.getD i (T.dflt ty))) p v with
   | none=>rw [hs] at hx;simp at hx
   | some y' =>
    simp only [hs] at hx;cases hd:T.dec ty y' with
    | none=>simp [hd] at hx
    | some z =>
     simp [hd] at hx;subst hx;cases ht:T.ty t <;> simp [QT,ht] at hp
     case struct a fs=>simp [fit,ht] at hf
     case arr m e ty' =>
      have hf0:=hf;simp only [fit,ht,Bool.and_eq_true,Nat.beq_eq,decide_eq_true_eq] at hf;obtain ⟨rfl,rfl⟩:=hf;obtain ⟨a,b,c,hc,hl,hr⟩:=h.elem L i hp.1;have hz:=L.szArr _ _ _ _ ht;have hfe:fit T (T.enc ty (l.getD i (T.dflt ty))) (.inl e)=true:=by rw [Zv hz.2.1];exact L.encFit _ _
      obtain ⟨a',b',c',hc',hl',hlen,hr',hfx⟩:=ih hp.2 hfe hr hs hv (by simpa [tyAt,ht] using htt) hfv
      have hzr:=L.decR X ty _ _ _ hd hr';obtain ⟨e1,e2,e3,hce,hle,hlene,hre⟩:=h.setElem L i z hp.1 hzr
      have hb:e1=a /\ e2=b /\ e3=c:=by
       have h1:e1.length=a.length:=by omega
       have h2:e2.length=b.length:=by rw [hlene,hc'];simp [hlen]
       have:=hc.symm.trans hce;simp only [List.append_assoc] at this;have q1:=List.append_inj this h1.symm;have q2:=List.append_inj q1.2 h2.symm;exact ⟨q1.1.symm,q2.1.symm,q2.2.symm⟩
      obtain ⟨rfl,rfl,rfl⟩:=hb;refine ⟨e1++a',b',c'++e3,by simp [hce,hc'],by simp [offAt,ht,hle,hl',hz.2.2],hlen,by simpa using hre,?_⟩
      simp [fit,ht]
  | _=>simp [Ev.setPath] at hx
omit L in
theorem YZ {s:TypeId}:∀ {p:List Nat} {t:TypeId},QT T t p->tyAt T t p=some s -> ∀ i q,QT T s (i::q)->QT T t (p++i::q) /\ offAt T t (p++i::q)=offAt T t p+offAt T s (i::q):=by
 intro p
 induction p with
 | nil=>intro t _ h i q hq;simp [tyAt] at h;subst h;exact ⟨by simpa using hq,by simp [offAt]⟩
 | cons j p ih =>
  intro t hp ht i q hq;simp only [List.cons_append];cases hty:T.ty t <;> simp only [QT,hty] at hp <;> simp only [tyAt,hty] at ht
  case struct a fs =>
   have hj:fs[j]? = some (fs.getD j 0):=by simp [hp.1]
   rw [hj] at ht;obtain ⟨h1,h2⟩:=ih hp.2 ht i q hq;have e1:∀ r,offAt T t (j::r)=QP T (fs.take j)+offAt T (fs.getD j 0) r:=fun r=>by simp only [offAt,hty]
   exact ⟨by simp only [QT,hty];exact ⟨hp.1,h1⟩,by rw [e1,e1,h2];omega⟩
  case arr n e ty =>
   obtain ⟨h1,h2⟩:=ih hp.2 ht i q hq;have e1:∀ r,offAt T t (j::r)=j * T.size e+offAt T e r:=fun r=>by simp only [offAt,hty]
   exact ⟨by simp only [QT,hty];exact ⟨hp.1,h1⟩,by rw [e1,e1,h2];omega⟩
end
section
variable {C:Cdc}
def Obj.refs:Obj C->List Nat
 | .var _ d=>d.refs
 | .vec _ _ _=>[]
 | .map _ _ _=>[]
 | .ctl _=>[]
structure Lim where
 lo:Nat
 top:Nat
 H:Nat->Prop
 ok:∀ id,lo <= id->id < top -> ¬ H id
def old (nx:Nat) (lim:Lim) (id:Nat):Prop:=(id < nx \/ lim.top <= id) /\ ¬ lim.H id
theorem old.mono {nx nx':Nat} {lim:Lim} {id:Nat} (h:old nx lim id) (hn:nx <= nx'):old nx' lim id:=⟨by have:=h.1;omega,h.2⟩
variable (T:Tab C)
def ZZ (X:Cx) (t:C.Ty) (own:Bool) (l:List (C.A t)) (v:Value) (b lo hi:Nat):Prop :=
 ((∃ a,v=.slice a 0 0 /\ ∀ b off,a ≠ some ⟨b,off,none⟩) /\ l=[] /\ hi <= lo) \/
 ∃ off cp,v=.slice (some ⟨b,off,none⟩) l.length cp /\ l.length <= cp /\ hi=off+cp * T.size (T.ety t) /\
  ((own=true /\ lo=off /\ (cp=0 \/ ∃ c e,X.w.heap[b]? = some (.cells c e (0,0)) /\ hi <= c.size /\ R T X false (.arr t l.length l) ((c.toList.drop off).take (l.length * T.size (T.ety t))))) \/
   (own=false /\ lo=off+l.length * T.size (T.ety t) /\ (∃ cs,X.at b off cs /\ R T X false (.arr t l.length l) cs) /\
    (cp=l.length \/ ∃ c e,X.w.heap[b]? = some (.cells c e (0,0)) /\ hi <= c.size)))
inductive Zr (X:Cx) (ck cv:C.Ty):List (C.A ck × C.A cv)->List MapEntry->Prop
 | nil:Zr X ck cv [] []
 | cons {x:C.A ck × C.A cv} {l:List (C.A ck × C.A cv)} {e:MapEntry} {es:List MapEntry} (hk:R T X false (T.enc ck x.1) [e.key]) (hv:RV T X (T.enc cv x.2) e.val) (h:Zr X ck cv l es):Zr X ck cv (x::l) (e::es)
structure Y0 (X:Cx) (ck cv:C.Ty) (l:List (C.A ck × C.A cv)) (es:Array MapEntry) (clock:Nat):Prop where
 ents:Zr T X ck cv l es.toList
 born:∀ x ∈ es.toList,x.born < clock
 nodup:(es.toList.map (·.born)).Nodup
theorem Y0.nil (X:Cx) (ck cv:C.Ty) (k:Nat):Y0 T X ck cv [] #[] k:=⟨.nil,fun x hx=>by simp at hx,List.nodup_nil⟩
def lpSt (busy dn:Bool):LoopState:=if busy then .busy else if dn then .done else .ready
def QcD (X:Cx):Ctl C->CtlL->Prop
 | .lp busy dn ex,.lp b rec => ∃ pend,X.w.heap[b]? = some (.loop { rec with state:=lpSt busy dn,pending:=pend }) /\ (dn=false->pend=none) /\ (dn=true->pend=some (.exit ex))
 | .it ck cv l,.it bm r=>bm ≠ r /\ ∃ es since seen clock,X.w.heap[bm]? = some (.map es clock) /\ X.w.heap[r]? = some (.mapIter (some bm) since seen clock) /\ Zr T X ck cv l (es.toList.filter fun e => !seen.contains e.born) /\
  (∀ x ∈ es.toList,x.born < since) /\ since <= clock /\ (es.toList.map (·.born)).Nodup
 | _,_=>False
def QoS (X:Cx):Prop := ∀ p ∈ T.pre,(∃ t f,X.w.heap[p.1]? = some (.cells p.2 t f)) /\ ∀ o,¬ X.mine p.1 o
structure G (X:Cx) (h:Heap C) (nx:Nat) (lim:Lim):Prop where
 var:∀ id t d,h.get id=some (.var t d) -> ∃ b c,X.ρ id=some (.var b t) /\ X.w.heap[b]? = some (.cells c t (0,0)) /\ R T X false d c.toList /\ fit T d (.inl t)=true
 vec:∀ id t own l,h.get id=some (.vec t own l) -> ∃ v b lo hi,X.ρ id=some (.vec v (T.ety t) b lo hi) /\ ZZ T X t own l v b lo hi
 map:∀ id ck cv l,h.get id=some (.map ck cv l) -> ∃ b es clock,X.ρ id=some (.map b) /\ X.w.heap[b]? = some (.map es clock) /\ Y0 T X ck cv l es clock
 ctl:∀ id c,h.get id=some (.ctl c) -> ∃ s,X.ρ id=some (.ctl s) /\ QcD T X c s
 dom:∀ id l,X.ρ id=some l->(h.get id).isSome=true
 nums:∀ id o,h.get id=some o->old nx lim id /\ ∀ r ∈ o.refs,old nx lim r
 apart:∀ id id' l l' b o o',X.ρ id=some l->X.ρ id'=some l'->l.owns b o->l'.owns b o'->id=id'
 outer:∀ b o,X.mine b o -> ¬ X.O b o /\ b < X.w.heap.size
 outs:∀ b o,X.O b o->b < X.w.heap.size
 low:lim.lo <= nx
 pre:QoS T X
structure Step (X:Cx) (nx:Nat) (lim:Lim) (X':Cx):Prop where
 O:X'.O=X.O
 os:X'.w.os=X.w.os
 tape:X'.w.tape=X.w.tape
 output:X'.w.output=X.w.output
 size:X.w.heap.size <= X'.w.heap.size
 ρ:∀ id,old nx lim id->Qd (X.ρ id) (X'.ρ id)
 mine:∀ b o,b < X.w.heap.size->X'.mine b o->X.mine b o
 cell:∀ b o,b < X.w.heap.size -> ¬ X.mine b o->X'.w.cell? ⟨b,o,none⟩=X.w.cell? ⟨b,o,none⟩
 block:∀ b,b < X.w.heap.size->(∀ o,¬ X.mine b o)->X'.w.heap[b]? = X.w.heap[b]?
 frz:∀ a:Addr,a.block < X.w.heap.size->X'.w.frozen? a=X.w.frozen? a
theorem Qr6 {w:World} {a:Addr} {v:Value} (h:w.cell? a=some v):a.block < w.heap.size:=by
 unfold World.cell? at h;rcases Nat.lt_or_ge a.block w.heap.size with hl | hl
 · exact hl
 · rw [Array.getElem?_eq_none hl] at h;simp at h
theorem Step.refl (X:Cx) (nx:Nat) (lim:Lim):Step X nx lim X :=
 ⟨rfl,rfl,rfl,rfl,Nat.le_refl _,fun _ _=>.refl _,fun _ _ _ h=>h,fun _ _ _ _=>rfl,fun _ _ _=>rfl,fun _ _=>rfl⟩
theorem Step.trans {X Y Z:Cx} {nx ny:Nat} {lim:Lim} (h:Step X nx lim Y) (k:Step Y ny lim Z) (hn:nx <= ny):Step X nx lim Z where
 O:=k.O.trans h.O
 os:=k.os.trans h.os
 tape:=k.tape.trans h.tape
 output:=k.output.trans h.output
 size:=Nat.le_trans h.size k.size
 ρ id ho:=(h.ρ id ho).trans (k.ρ id (ho.mono hn))
 mine b o hb hm:=h.mine b o hb (k.mine b o (Nat.lt_of_lt_of_le hb h.size) hm)
 cell b o hb hm:=(k.cell b o (Nat.lt_of_lt_of_le hb h.size) (fun hy=>hm (h.mine b o hb hy))).trans (h.cell b o hb hm)
 block b hb hm:=(k.block b (Nat.lt_of_lt_of_le hb h.size) (fun o hy=>hm o (h.mine b o hb hy))).trans (h.block b hb hm)
 frz a ha:=(k.frz a (Nat.lt_of_lt_of_le ha h.size)).trans (h.frz a ha)
theorem QoS.step {T:Tab C} {X X':Cx} {nx:Nat} {lim:Lim} (h:QoS T X) (s:Step X nx lim X'):QoS T X':=by
 intro p hp;obtain ⟨⟨t,f,h1⟩,h2⟩:=h p hp;have hb:=(Array.getElem?_eq_some_iff.1 h1).1;exact ⟨⟨t,f,(s.block p.1 hb h2).trans h1⟩,fun o hm=>h2 o (s.mine p.1 o hb hm)⟩
theorem Step.keeps {X X':Cx} {nx:Nat} {lim:Lim} (h:Step X nx lim X'):Kps X X' where
 cell:=by
  intro b o v hc hf;have hb:=Qr6 hc;exact ⟨by rw [h.cell b o hb hf.2];exact hc,by rw [h.O];exact hf.1,fun hm=>hf.2 (h.mine b o hb hm)⟩
def RO (X:Cx) (nx:Nat) (lim:Lim) (d:D C) (v:Value):Prop:=RV T X d v /\ ∀ id ∈ d.refs,old nx lim id
variable {T} (L:Laws T)
include L in
theorem R.step {X X':Cx} {nx:Nat} {lim:Lim} (s:Step X nx lim X') {m:Bool} {d:D C} {vs:List Value} (h:R T X m d vs) (hr:∀ id ∈ d.refs,old nx lim id):R T X' m d vs :=
 h.mono T L.encOK s.keeps fun id hi=>s.ρ id (hr id hi)
include L in
theorem RO.step {X X':Cx} {nx nx':Nat} {lim:Lim} (s:Step X nx lim X') {d:D C} {v:Value} (h:RO T X nx lim d v) (hn:nx <= nx'):RO T X' nx' lim d v :=
 ⟨h.1.mono T L.encOK s.keeps fun id hi=>s.ρ id (h.2 id hi),fun id hi=>(h.2 id hi).mono hn⟩
include L in
theorem Zr.step {X X':Cx} {nx:Nat} {lim:Lim} (s:Step X nx lim X') {ck cv:C.Ty} {l:List (C.A ck × C.A cv)} {es:List MapEntry} (h:Zr T X ck cv l es):Zr T X' ck cv l es:=by
 induction h with
 | nil=>exact .nil
 | cons hk hv _ ih=>exact .cons (hk.step L s (by simp [L.encRefs])) (hv.mono T L.encOK s.keeps fun id hi=>by simp [L.encRefs] at hi) ih
include L in
theorem Y0.step {X X':Cx} {nx:Nat} {lim:Lim} (s:Step X nx lim X') {ck cv:C.Ty} {l:List (C.A ck × C.A cv)} {es:Array MapEntry} {k:Nat} (h:Y0 T X ck cv l es k):Y0 T X' ck cv l es k :=
 ⟨h.ents.step L s,h.born,h.nodup⟩
theorem Cx.at.step {X X':Cx} {nx:Nat} {lim:Lim} (s:Step X nx lim X') {b off:Nat} {cs:List Value} (h:X.at b off cs):X'.at b off cs :=
 fun j v hj=>s.keeps.cell _ _ _ (h j v hj).1 (h j v hj).2
def Qu (T:Tab C) (X:Cx) (nx:Nat) (lim:Lim) (env:Env C) (tmps:Array Value):Prop := ∀ t,RO T X nx lim (eget env t) (tmps.getD t undef)
include L in
theorem Qu.step {X X':Cx} {nx nx':Nat} {lim:Lim} (s:Step X nx lim X') {env:Env C} {tmps:Array Value} (h:Qu T X nx lim env tmps) (hn:nx <= nx'):Qu T X' nx' lim env tmps :=
 fun t=>(h t).step L s hn
namespace Pg
def Ex {α:Type} (e:Lv) (p:Pg C α) (h:Heap C) (n:Nat) (a:α) (h':Heap C) (n':Nat) (t:Tr):Prop :=
 p.run e h n [] (fun a h n t=>some (a,h,n,t))=some (a,h',n',t)
theorem run_eq {α:Type} (p:Pg C α):∀ {β:Type} (e:Lv) (h:Heap C) (n:Nat) (l:Tr) (k:α->Heap C->Nat->Tr->Option β),
 p.run e h n l k=(p.run e h n [] (fun a h n t=>some (a,h,n,t))).bind fun r=>k r.1 r.2.1 r.2.2.1 (r.2.2.2++l):=by
 induction p with
 | ret a=>intro β e h n l k;simp [run]
 | fail=>intro β e h n l k;simp [run]
 | br b x y ix iy=>intro β e h n l k;cases b <;> simp only [run,cond_true,cond_false] <;> first | exact ix e h n l k | exact iy e h n l k
 | rd id f ih =>
  intro β e h n l k;simp only [run];cases h.get id with
  | none=>rfl
  | some o =>
   simp only;rw [ih o e h n ((id,false)::l) k,ih o e h n [(id,false)]];simp [Option.bind_assoc]
 | wr id o f ih =>
  intro β e h n l k;simp only [run];cases h.get id with
  | none=>rfl
  | some _ =>
   simp only;rw [ih e _ n ((id,true)::l) k,ih e _ n [(id,true)]];simp [Option.bind_assoc]
 | nw o f ih =>
  intro β e h n l k;simp only [run];rw [ih n e _ _ ((n,true)::l) k,ih n e _ _ [(n,true)]];simp [Option.bind_assoc]
 | dl id f ih =>
  intro β e h n l k;simp only [run];cases h.get id with
  | none=>rfl
  | some _ =>
   simp only;rw [ih e _ n ((id,true)::l) k,ih e _ n [(id,true)]];simp [Option.bind_assoc]
 | cnt f ih=>intro β e h n l k;simp only [run];exact ih _ _ e h n l k
 | upto m f ih =>
  intro β e h n l k;simp only [run];cases Nat.ble n m with
  | true=>exact ih e h m l k
  | false=>rfl
 | gc lo keep f ih =>
  intro β e h n l k;simp only [run];cases Nat.ble e.2 lo with
  | true=>exact ih e _ n l k
  | false=>rfl
 | sub p f ip ik =>
  intro β e h n l k;simp only [run];rw [ip (e.1+1,n) h n [],ip (e.1+1,n) h n [] (fun a h n t=>(f a t).run e h n (t++[]) fun a h n t=>some (a,h,n,t))];simp only [List.append_nil,Option.bind_assoc]
  congr 1
  funext r
  rw [ik r.1 r.2.2.2 e r.2.1 r.2.2.1 (r.2.2.2++l) k,ik r.1 r.2.2.2 e r.2.1 r.2.2.1 r.2.2.2];simp [Option.bind_assoc]
theorem run_some {α β:Type} {p:Pg C α} {e:Lv} {h:Heap C} {n:Nat} {l:Tr} {k:α->Heap C->Nat->Tr->Option β} {b:β} (hr:p.run e h n l k=some b) :
 ∃ a h' n' t,Ex e p h n a h' n' t /\ k a h' n' (t++l)=some b:=by
 rw [run_eq] at hr;cases hx:p.run e h n [] (fun a h n t=>some (a,h,n,t)) with
 | none=>simp [hx] at hr
 | some r=>obtain ⟨a,h',n',t⟩:=r;simp [hx] at hr;exact ⟨a,h',n',t,hx,hr⟩
variable {α β:Type} {e:Lv} {h h':Heap C} {n n':Nat} {t:Tr}
theorem Ex.ret {a a':α} (hx:Ex e (.ret a:Pg C α) h n a' h' n' t):a'=a /\ h'=h /\ n'=n /\ t=[]:=by
 simp [Ex,run] at hx;obtain ⟨rfl,rfl,rfl,rfl⟩:=hx;exact ⟨rfl,rfl,rfl,rfl⟩
theorem Ex.fail {a:α} (hx:Ex e (.fail:Pg C α) h n a h' n' t):False:=by simp [Ex,run] at hx
theorem Ex.br {b:Bool} {x y:Pg C α} {a:α} (hx:Ex e (.br b x y) h n a h' n' t):(b=true /\ Ex e x h n a h' n' t) \/ (b=false /\ Ex e y h n a h' n' t):=by
 cases b
 · exact .inr ⟨rfl,by simpa [Ex,run] using hx⟩
 · exact .inl ⟨rfl,by simpa [Ex,run] using hx⟩
theorem Ex.rd {id:Nat} {f:Obj C->Pg C α} {a:α} (hx:Ex e (.rd id f) h n a h' n' t):∃ o t',h.get id=some o /\ Ex e (f o) h n a h' n' t' /\ t=t'++[(id,false)]:=by
 unfold Ex at hx;simp only [run] at hx;cases hg:h.get id with
 | none=>simp [hg] at hx
 | some o =>
  simp only [hg] at hx;obtain ⟨a1,h1,n1,t1,h2,h3⟩:=run_some hx;simp at h3;obtain ⟨rfl,rfl,rfl,rfl⟩:=h3;exact ⟨o,t1,rfl,h2,rfl⟩
theorem Ex.wr {id:Nat} {o:Obj C} {f:Pg C α} {a:α} (hx:Ex e (.wr id o f) h n a h' n' t):∃ o' t',h.get id=some o' /\ Ex e f (h.put id o) n a h' n' t' /\ t=t'++[(id,true)]:=by
 unfold Ex at hx;simp only [run] at hx;cases hg:h.get id with
 | none=>simp [hg] at hx
 | some o' =>
  simp only [hg] at hx;obtain ⟨a1,h1,n1,t1,h2,h3⟩:=run_some hx;simp at h3;obtain ⟨rfl,rfl,rfl,rfl⟩:=h3;exact ⟨o',t1,rfl,h2,rfl⟩
theorem Ex.nw {o:Obj C} {f:Nat->Pg C α} {a:α} (hx:Ex e (.nw o f) h n a h' n' t):∃ t',Ex e (f n) ((n,o)::h) (n+1) a h' n' t' /\ t=t'++[(n,true)]:=by
 unfold Ex at hx;simp only [run] at hx;obtain ⟨a1,h1,n1,t1,h2,h3⟩:=run_some hx;simp at h3;obtain ⟨rfl,rfl,rfl,rfl⟩:=h3;exact ⟨t1,h2,rfl⟩
theorem Ex.dl {id:Nat} {f:Pg C α} {a:α} (hx:Ex e (.dl id f) h n a h' n' t):∃ o' t',h.get id=some o' /\ Ex e f (h.del id) n a h' n' t' /\ t=t'++[(id,true)]:=by
 unfold Ex at hx;simp only [run] at hx;cases hg:h.get id with
 | none=>simp [hg] at hx
 | some o' =>
  simp only [hg] at hx;obtain ⟨a1,h1,n1,t1,h2,h3⟩:=run_some hx;simp at h3;obtain ⟨rfl,rfl,rfl,rfl⟩:=h3;exact ⟨o',t1,rfl,h2,rfl⟩
theorem Ex.cnt {f:Nat->Nat->Pg C α} {a:α} (hx:Ex e (.cnt f) h n a h' n' t):Ex e (f n (span e.1)) h n a h' n' t:=by simpa [Ex,run] using hx
theorem Ex.upto {m:Nat} {f:Pg C α} {a:α} (hx:Ex e (.upto m f) h n a h' n' t):n <= m /\ Ex e f h m a h' n' t:=by
 unfold Ex at hx;simp only [run] at hx;cases hb:Nat.ble n m with
 | true=>simp only [hb,cond_true] at hx;exact ⟨Nat.le_of_ble_eq_true hb,hx⟩
 | false=>simp [hb] at hx
theorem Ex.gc {lo:Nat} {keep:List Nat} {f:Pg C α} {a:α} (hx:Ex e (.gc lo keep f) h n a h' n' t):e.2 <= lo /\ Ex e f (h.drop lo n keep) n a h' n' t:=by
 unfold Ex at hx;simp only [run] at hx;cases hb:Nat.ble e.2 lo with
 | true=>simp only [hb,cond_true] at hx;exact ⟨Nat.le_of_ble_eq_true hb,hx⟩
 | false=>simp [hb] at hx
theorem Ex.sub {p:Pg C (Env C)} {f:Env C->Tr->Pg C α} {a:α} (hx:Ex e (.sub p f) h n a h' n' t) :
 ∃ v h1 n1 t1 t2,Ex (e.1+1,n) p h n v h1 n1 t1 /\ Ex e (f v t1) h1 n1 a h' n' t2 /\ t=t2++t1:=by
 unfold Ex at hx;simp only [run] at hx;obtain ⟨a1,h1,n1,t1,h2,h3⟩:=run_some hx;simp only [List.append_nil] at h3;obtain ⟨a2,h4,n4,t4,h5,h6⟩:=run_some h3;simp at h6;obtain ⟨rfl,rfl,rfl,rfl⟩:=h6;exact ⟨a1,h1,n1,t1,t4,h2,h5,rfl⟩
theorem run_bind {γ:Type} (p:Pg C α) (f:α->Pg C β):∀ (e:Lv) (h:Heap C) (n:Nat) (l:Tr) (k:β->Heap C->Nat->Tr->Option γ),
 (p.bind f).run e h n l k=p.run e h n l fun a h n l=>(f a).run e h n l k:=by
 induction p with
 | ret a=>intro e h n l k;rfl
 | fail=>intro e h n l k;rfl
 | br b x y ix iy=>intro e h n l k;cases b <;> simp only [bind,run,cond_true,cond_false] <;> first | exact ix f e h n l k | exact iy f e h n l k
 | rd id g ih=>intro e h n l k;simp only [bind,run];cases h.get id <;> simp only <;> exact ih _ f e h n _ k
 | wr id o g ih=>intro e h n l k;simp only [bind,run];cases h.get id <;> simp only <;> exact ih f e _ n _ k
 | nw o g ih=>intro e h n l k;simp only [bind,run];exact ih _ f e _ _ _ k
 | dl id g ih=>intro e h n l k;simp only [bind,run];cases h.get id <;> simp only <;> exact ih f e _ n _ k
 | cnt g ih=>intro e h n l k;simp only [bind,run];exact ih _ _ f e h n l k
 | upto m g ih=>intro e h n l k;simp only [bind,run];cases Nat.ble n m <;> simp only [cond_true,cond_false];exact ih f e h m l k
 | gc lo keep g ih=>intro e h n l k;simp only [bind,run];cases Nat.ble e.2 lo <;> simp only [cond_true,cond_false];exact ih f e _ n l k
 | sub p g ip ik=>intro e h n l k;simp only [bind,run];congr 1;funext a h n t;exact ik _ _ f e _ _ _ k
theorem Ex.bind {p:Pg C α} {f:α->Pg C β} {b:β} (hx:Ex e (p.bind f) h n b h' n' t) :
 ∃ a h1 n1 t1 t2,Ex e p h n a h1 n1 t1 /\ Ex e (f a) h1 n1 b h' n' t2 /\ t=t2++t1:=by
 unfold Ex at hx;rw [run_bind] at hx;obtain ⟨a1,h1,n1,t1,h2,h3⟩:=run_some hx;simp only [List.append_nil] at h3;obtain ⟨a2,h4,n4,t4,h5,h6⟩:=run_some h3;simp at h6;obtain ⟨rfl,rfl,rfl,rfl⟩:=h6;exact ⟨a1,h1,n1,t1,t4,h2,h5,rfl⟩
theorem Ex.ofOpt {o:Option α} {a:α} (hx:Ex e (.ofOpt o:Pg C α) h n a h' n' t):o=some a /\ h'=h /\ n'=n /\ t=[]:=by
 cases o with
 | none=>exact (Ex.fail hx).elim
 | some b=>obtain ⟨rfl,h1,h2,h3⟩:=Ex.ret hx;exact ⟨rfl,h1,h2,h3⟩
theorem Ex.le {p:Pg C α}:∀ {e:Lv} {h:Heap C} {n:Nat} {a:α} {h':Heap C} {n':Nat} {t:Tr},Ex e p h n a h' n' t->n <= n':=by
 induction p with
 | ret a=>intro e h n a' h' n' t hx;have:=Ex.ret hx;omega
 | fail=>intro e h n a' h' n' t hx;exact (Ex.fail hx).elim
 | br b x y ix iy=>intro e h n a h' n' t hx;rcases Ex.br hx with ⟨_,h1⟩ | ⟨_,h1⟩ <;> first | exact ix h1 | exact iy h1
 | rd id f ih=>intro e h n a h' n' t hx;obtain ⟨_,_,_,h1,_⟩:=Ex.rd hx;exact ih _ h1
 | wr id o f ih=>intro e h n a h' n' t hx;obtain ⟨_,_,_,h1,_⟩:=Ex.wr hx;exact ih h1
 | nw o f ih=>intro e h n a h' n' t hx;obtain ⟨_,h1,_⟩:=Ex.nw hx;have:=ih _ h1;omega
 | dl id f ih=>intro e h n a h' n' t hx;obtain ⟨_,_,_,h1,_⟩:=Ex.dl hx;exact ih h1
 | cnt f ih=>intro e h n a h' n' t hx;exact ih _ _ (Ex.cnt hx)
 | upto m f ih=>intro e h n a h' n' t hx;obtain ⟨h0,h1⟩:=Ex.upto hx;have:=ih h1;omega
 | gc lo keep f ih=>intro e h n a h' n' t hx;exact ih (Ex.gc hx).2
 | sub p f ip ik=>intro e h n a h' n' t hx;obtain ⟨_,_,_,_,_,h1,h2,_⟩:=Ex.sub hx;have:=ip h1;have:=ik _ _ h2;omega
end Pg
end
section
variable {C:Cdc} {T:Tab C} (L:Laws T)
theorem beqF {a b:Nat} (h:¬ a=b):Nat.beq a b=false:=by
 cases hb:Nat.beq a b with
 | false=>rfl
 | true=>exact absurd (Nat.eq_of_beq_eq_true hb) h
theorem Ql {h:Heap C} {id id':Nat} {o:Obj C} (hi:(h.get id).isSome=true):(Heap.put id o h).get id'=if id'=id then some o else h.get id':=by
 induction h with
 | nil=>simp [Heap.get] at hi
 | cons x h ih =>
  obtain ⟨j,p⟩:=x;simp only [Heap.put,Heap.get] at hi ⊢
  by_cases hj:id=j
  · subst hj;simp only [Nat.beq_refl,cond_true,Heap.get]
    by_cases h':id'=id
    · subst h';simp
    · have:Nat.beq id' id=false:=beqF h';simp [this,h']
  · have e1:Nat.beq id j=false:=beqF hj;simp only [e1,cond_false] at hi ⊢;simp only [Heap.get]
    by_cases h':id'=j
    · subst h';have:¬ id'=id:=fun e=>hj e.symm;simp [this]
    · have e2:Nat.beq id' j=false:=beqF h';simp only [e2,cond_false];exact ih hi
theorem QR {h:Heap C} {id id':Nat}:(Heap.del id h).get id'=if id'=id then none else h.get id':=by
 induction h with
 | nil=>simp [Heap.del,Heap.get]
 | cons x h ih =>
  obtain ⟨j,p⟩:=x;simp only [Heap.del]
  by_cases hj:id=j
  · subst hj;simp only [Nat.beq_refl,cond_true,ih,Heap.get]
    by_cases h':id'=id
    · simp [h']
    · have:Nat.beq id' id=false:=beqF h';simp [this,h']
  · have e1:Nat.beq id j=false:=beqF hj;simp only [e1,cond_false,Heap.get]
    by_cases h':id'=j
    · subst h';have:¬ id'=id:=fun e=>hj e.symm;simp [this]
    · have e2:Nat.beq id' j=false:=beqF h';simp only [e2,cond_false];exact ih
theorem Yb {h:Heap C} {lo hi:Nat} {keep:List Nat} {id:Nat}:(Heap.drop lo hi keep h).get id=if (Nat.ble lo id && Nat.blt id hi && !(keep.any (Nat.beq id)))=true then none else h.get id:=by
 induction h with
 | nil=>simp [Heap.drop,Heap.get]
 | cons x h ih =>
  obtain ⟨j,p⟩:=x;simp only [Heap.drop];cases hb:Nat.ble lo j && Nat.blt j hi && !(keep.any (Nat.beq j)) with
  | true =>
   simp only [cond_true,ih,Heap.get]
   by_cases h':id=j
   · subst h';simp [hb]
   · have e2:Nat.beq id j=false:=beqF h';simp [e2]
  | false =>
   simp only [cond_false,Heap.get]
   by_cases h':id=j
   · subst h';simp [hb]
   · have e2:Nat.beq id j=false:=beqF h';simp only [e2,cond_false];exact ih
theorem Qn {h:Heap C} {n id:Nat} {o:Obj C}:Heap.get id ((n,o)::h)=if id=n then some o else h.get id:=by
 simp only [Heap.get]
 by_cases h':id=n
 · subst h';simp
 · have e2:Nat.beq id n=false:=beqF h';simp [e2,h']
theorem G.new {X:Cx} {h:Heap C} {nx:Nat} {lim:Lim} (g:G T X h nx lim) (hn:nx < lim.top):old (nx+1) lim nx:=⟨.inl (by omega),lim.ok nx g.low hn⟩
theorem G.fresh {X:Cx} {h:Heap C} {nx:Nat} {lim:Lim} (g:G T X h nx lim) (hn:nx < lim.top):X.ρ nx=none:=by
 cases hr:X.ρ nx with
 | none=>rfl
 | some l =>
  have:=g.dom nx l hr;cases ho:h.get nx with
  | none=>simp [ho] at this
  | some o=>have:=(g.nums nx o ho).1.1;omega
theorem G.nums' {X:Cx} {h:Heap C} {nx nx':Nat} {lim:Lim} (g:G T X h nx lim) (hn:nx <= nx'):∀ id o,h.get id=some o->old nx' lim id /\ ∀ r ∈ o.refs,old nx' lim r :=
 fun id o ho=>⟨(g.nums id o ho).1.mono hn,fun r hr=>((g.nums id o ho).2 r hr).mono hn⟩
structure Ch (X X':Cx) (nx:Nat) (lim:Lim) (id0:Nat):Prop where
 step:Step X nx lim X'
 same:∀ id,id ≠ id0->X'.ρ id=X.ρ id
 blk:∀ b c e f,X.w.heap[b]? = some (.cells c e f) -> ∃ c',X'.w.heap[b]? = some (.cells c' e f) /\ c'.size=c.size /\ ∀ o,(∀ l,X.ρ id0=some l -> ¬ l.owns b o)->c'[o]? = c[o]?
 mp:∀ b (o:Go.Obj),X.w.heap[b]? = some o->(∀ c e f,o ≠ .cells c e f)->(∀ l,X.ρ id0=some l -> ¬ l.owns b 0)->X'.w.heap[b]? = some o
include L in
theorem QcD.same {X X':Cx} {nx:Nat} {lim:Lim} {cc:Ctl C} {s:CtlL} (h:QcD T X cc s) (hs:Step X nx lim X') (hw:X'.w=X.w):QcD T X' cc s:=by
 cases cc with
 | lp busy dn ex =>
  cases s with
  | lp b rec=>obtain ⟨pend,h3,h4⟩:=h;exact ⟨pend,by rw [hw];exact h3,h4⟩
  | it bm r=>exact h.elim
 | it ck cv l =>
  cases s with
  | lp b rec=>exact h.elim
  | it bm r =>
   obtain ⟨hne,es,si,se,k,h3,h4,h5,h6⟩:=h;exact ⟨hne,es,si,se,k,by rw [hw];exact h3,by rw [hw];exact h4,h5.step L hs,h6⟩
include L in
theorem G.others {X X':Cx} {h:Heap C} {nx id0:Nat} {lim:Lim} (g:G T X h nx lim) (c:Ch X X' nx lim id0) :
 (∀ id t d,id ≠ id0->h.get id=some (.var t d) -> ∃ b c,X'.ρ id=some (.var b t) /\ X'.w.heap[b]? = some (.cells c t (0,0)) /\ R T X' false d c.toList /\ fit T d (.inl t)=true) /\
 (∀ id t own l,id ≠ id0->h.get id=some (.vec t own l) -> ∃ v b lo hi,X'.ρ id=some (.vec v (T.ety t) b lo hi) /\ ZZ T X' t own l v b lo hi) /\
 (∀ id ck cv l,id ≠ id0->h.get id=some (.map ck cv l) -> ∃ b es k,X'.ρ id=some (.map b) /\ X'.w.heap[b]? = some (.map es k) /\ Y0 T X' ck cv l es k) /\
 (∀ id cc,id ≠ id0->h.get id=some (.ctl cc) -> ∃ s,X'.ρ id=some (.ctl s) /\ QcD T X' cc s):=by
 refine ⟨?_,?_,?_,?_⟩
 · intro id t d hne ho;obtain ⟨b,cs,h1,h2,h3,h4⟩:=g.var id t d ho;obtain ⟨c',h5,h6,h7⟩:=c.blk b cs _ _ h2
   have e:c'=cs:=by
    apply Array.ext';apply List.ext_getElem?;intro o;have:=h7 o fun l hl hown=>hne (g.apart id id0 _ _ b o o h1 hl rfl hown)
    simpa using this
   subst e;refine ⟨b,c',by rw [c.same id hne];exact h1,h5,h3.step L c.step ?_,h4⟩
   intro r hr;exact (g.nums id _ ho).2 r hr
 · intro id t own l hne ho;obtain ⟨v,b,lo,hi,h1,h2⟩:=g.vec id t own l ho;refine ⟨v,b,lo,hi,by rw [c.same id hne];exact h1,?_⟩
   rcases h2 with h2 | ⟨off,cp,h2,h3,h4,h5⟩
   · exact .inl h2
   · refine .inr ⟨off,cp,h2,h3,h4,?_⟩;rcases h5 with ⟨ht,hlo,h5 | ⟨cs,e,h5,h6,h7⟩⟩ | ⟨ht,hlo,⟨cs,h5,h6⟩,h7⟩
     · exact .inl ⟨ht,hlo,.inl h5⟩
     · obtain ⟨c',h8,h9,h10⟩:=c.blk b cs _ _ h5;refine .inl ⟨ht,hlo,.inr ⟨c',e,h8,by omega,?_⟩⟩
       have e:(c'.toList.drop off).take (l.length * T.size (T.ety t))=(cs.toList.drop off).take (l.length * T.size (T.ety t)):=by
        apply List.ext_getElem?;intro o;simp only [List.getElem?_take]
        split
        · rename_i hlt;simp only [List.getElem?_drop];have hmul:l.length * T.size (T.ety t) <= cp * T.size (T.ety t):=Nat.mul_le_mul_right _ h3;have:=h10 (off+o) fun l' hl hown=>hne (g.apart id id0 _ _ b (off+o) (off+o) h1 hl ⟨rfl,by omega,by omega⟩ hown)
          simpa using this
        · rfl
       rw [e];exact h7.step L c.step (by simp [D.refs])
     · refine .inr ⟨ht,hlo,⟨cs,h5.step c.step,h6.step L c.step (by simp [D.refs])⟩,?_⟩
       rcases h7 with h7 | ⟨c0,e,h7,h8⟩
       · exact .inl h7
       · obtain ⟨c',h9,h10,_⟩:=c.blk b c0 _ _ h7;exact .inr ⟨c',e,h9,by omega⟩
 · intro id ck cv l hne ho;obtain ⟨b,es,k,h1,h2,h3⟩:=g.map id ck cv l ho;exact ⟨b,es,k,by rw [c.same id hne];exact h1,c.mp b _ h2 (fun _ _ _ h=>by cases h) fun l' hl hown=>hne (g.apart id id0 _ _ b 0 0 h1 hl rfl hown),h3.step L c.step⟩
 · intro id cc hne ho;obtain ⟨s,h1,h2⟩:=g.ctl id cc ho;refine ⟨s,by rw [c.same id hne];exact h1,?_⟩
   cases cc with
   | lp busy dn ex =>
    cases s with
    | lp b rec =>
     obtain ⟨pend,h3,h4⟩:=h2;exact ⟨pend,c.mp b _ h3 (fun _ _ _ h=>by cases h) fun l' hl hown=>hne (g.apart id id0 _ _ b 0 0 h1 hl rfl hown),h4⟩
    | it bm r=>exact h2.elim
   | it ck cv l =>
    cases s with
    | lp b rec=>exact h2.elim
    | it bm r =>
     obtain ⟨hbr,es,si,se,k,h3,h4,h5,h6⟩:=h2
     exact ⟨hbr,es,si,se,k,c.mp bm _ h3 (fun _ _ _ h=>by cases h) fun l' hl hown=>hne (g.apart id id0 _ _ bm 0 0 h1 hl (.inl rfl) hown),
      c.mp r _ h4 (fun _ _ _ h=>by cases h) fun l' hl hown=>hne (g.apart id id0 _ _ r 0 0 h1 hl (.inr rfl) hown),h5.step L c.step,h6⟩
def Cx.newVar (X:Cx) (nx:Nat) (t:TypeId) (c:Array Value):Cx :=
 ⟨X.w.alloc (.cells c t),fun id=>if id=nx then some (.var X.w.heap.size t) else X.ρ id,X.O⟩
theorem Qr (w:World) (o:Go.Obj) (b:Nat) (hb:b < w.heap.size):(w.alloc o).heap[b]? = w.heap[b]? := RowKit.Below.heap_alloc w o b hb
theorem QJ (w:World) (o:Go.Obj):(w.alloc o).heap[w.heap.size]? = some o:=by
 show (w.heap.push o)[w.heap.size]? = _;simp
theorem Q6 {w w':World} {b:Nat} (h:w'.heap[b]? = w.heap[b]?) (o:Nat):w'.cell? ⟨b,o,none⟩=w.cell? ⟨b,o,none⟩:=by
 simp [World.cell?,h]
theorem Zs {w w':World} {a:Addr} (h:w'.heap[a.block]? = w.heap[a.block]?):w'.frozen? a=w.frozen? a:=by
 unfold World.frozen?;rw [h]
theorem Step.allocO {X:Cx} {h:Heap C} {nx:Nat} {lim:Lim} (g:G T X h nx lim) (hn:nx < lim.top) (ob:Go.Obj) (l:Loc) (hl:∀ b o,l.owns b o->b=X.w.heap.size) :
 Step X nx lim ⟨X.w.alloc ob,fun id=>if id=nx then some l else X.ρ id,X.O⟩ where
 O:=rfl
 os:=rfl
 tape:=rfl
 output:=rfl
 size:=by simp
 ρ id ho:=by
  have:id ≠ nx:=by have:=ho.1;omega
  simp [this,Qd.refl]
 mine b o hb hm:=by
  obtain ⟨id,l',h1,h2⟩:=hm
  by_cases hi:id=nx
  · simp [hi] at h1;subst h1;have:=hl b o h2;omega
  · simp [hi] at h1;exact ⟨id,l',h1,h2⟩
 cell b o hb _:=Q6 (Qr _ _ _ hb) o
 block b hb _:=Qr _ _ _ hb
 frz a ha:=Zs (Qr _ _ _ ha)
theorem Step.alloc {X:Cx} {h:Heap C} {nx:Nat} {lim:Lim} (g:G T X h nx lim) (hn:nx < lim.top) (c:Array Value) (t:TypeId) (l:Loc) (hl:∀ b o,l.owns b o->b=X.w.heap.size) :
 Step X nx lim ⟨X.w.alloc (.cells c t),fun id=>if id=nx then some l else X.ρ id,X.O⟩:=Step.allocO g hn _ l hl
theorem Ch.alloc {X:Cx} {h:Heap C} {nx:Nat} {lim:Lim} (g:G T X h nx lim) (hn:nx < lim.top) (ob:Go.Obj) (l:Loc) (hl:∀ b o,l.owns b o->b=X.w.heap.size) :
 Ch X ⟨X.w.alloc ob,fun id=>if id=nx then some l else X.ρ id,X.O⟩ nx lim nx where
 step:=Step.allocO g hn ob l hl
 same id hi:=by simp [hi]
 blk b c' e f hb:=by
  have hlt:b < X.w.heap.size:=(Array.getElem?_eq_some_iff.1 hb).1;exact ⟨c',by rw [Qr _ _ _ hlt];exact hb,rfl,fun _ _=>rfl⟩
 mp b o hb _ _:=by
  have hlt:b < X.w.heap.size:=(Array.getElem?_eq_some_iff.1 hb).1;rw [Qr _ _ _ hlt];exact hb
theorem G.mine_alloc {X:Cx} {h:Heap C} {nx:Nat} {lim:Lim} (g:G T X h nx lim) (hn:nx < lim.top) (ob:Go.Obj) (l:Loc) (hl:∀ b o,l.owns b o->b=X.w.heap.size) (o:Obj C) :
 let X':Cx:=⟨X.w.alloc ob,fun id=>if id=nx then some l else X.ρ id,X.O⟩
 (∀ id l,X'.ρ id=some l->(Heap.get id ((nx,o)::h)).isSome=true) /\
 (∀ id id' l l' b o o',X'.ρ id=some l->X'.ρ id'=some l'->l.owns b o->l'.owns b o'->id=id') /\ (∀ b o,X'.mine b o->(¬ X.O b o \/ b=X.w.heap.size) /\ b < X'.w.heap.size):=by
 refine ⟨?_,?_,?_⟩
 · intro id l' hr;rw [Qn]
   by_cases hi:id=nx
   · simp [hi]
   · simp [hi] at hr ⊢;exact g.dom id l' hr
 · intro id id' l1 l2 b o o' h1 h2 h3 h4
   by_cases hi:id=nx <;> by_cases hj:id'=nx
   · rw [hi,hj]
   · simp [hi] at h1;simp [hj] at h2;subst h1;have:=hl b o h3;have:=(g.outer b o' ⟨id',l2,h2,h4⟩).2;omega
   · simp [hi] at h1;simp [hj] at h2;subst h2;have:=hl b o' h4;have:=(g.outer b o ⟨id,l1,h1,h3⟩).2;omega
   · simp [hi] at h1;simp [hj] at h2;exact g.apart id id' l1 l2 b o o' h1 h2 h3 h4
 · rintro b o ⟨id,l',h1,h2⟩
   by_cases hi:id=nx
   · simp [hi] at h1;subst h1;have:=hl b o h2;exact ⟨.inr this,by simp;omega⟩
   · simp [hi] at h1;have:=g.outer b o ⟨id,l',h1,h2⟩;exact ⟨.inl this.1,by simp;omega⟩
include L in
theorem G.newVar {X:Cx} {h:Heap C} {nx:Nat} {lim:Lim} (g:G T X h nx lim) (hn:nx < lim.top) {d:D C} {t:TypeId} {c:Array Value} (hR:R T X false d c.toList) (hf:fit T d (.inl t)=true)
 (hr:∀ id ∈ d.refs,old nx lim id) :
 G T (X.newVar nx t c) ((nx,.var t d)::h) (nx+1) lim /\ Step X nx lim (X.newVar nx t c):=by
 have hl:∀ b o,(Loc.var X.w.heap.size t).owns b o->b=X.w.heap.size:=fun b o h=>h;have hO:=g.outs;have hs:Step X nx lim (X.newVar nx t c):=Step.alloc g hn c t _ hl;have hc:Ch X (X.newVar nx t c) nx lim nx:=Ch.alloc g hn _ _ hl;obtain ⟨m1,m2,m3⟩:=G.mine_alloc g hn (.cells c t) _ hl (.var t d);obtain ⟨o1,o2,o3,o4⟩:=G.others L g hc;refine ⟨⟨?_,?_,?_,?_,m1,?_,m2,?_,fun b o ho=>Nat.lt_of_lt_of_le (hO b o ho) hs.size,Nat.le_succ_of_le g.low,g.pre.step hs⟩,hs⟩
 · intro id t' d' hg;rw [Qn] at hg
   by_cases hi:id=nx
   · simp [hi] at hg;obtain ⟨rfl,rfl⟩:=hg;exact ⟨X.w.heap.size,c,by simp [Cx.newVar,hi],QJ _ _,hR.step L hs hr,hf⟩
   · simp [hi] at hg;exact o1 id t' d' hi hg
 · intro id t' own l hg;rw [Qn] at hg
   by_cases hi:id=nx
   · simp [hi] at hg
   · simp [hi] at hg;exact o2 id t' own l hi hg
 · intro id ck cv l hg;rw [Qn] at hg
   by_cases hi:id=nx
   · simp [hi] at hg
   · simp [hi] at hg;exact o3 id ck cv l hi hg
 · intro id cc hg;rw [Qn] at hg
   by_cases hi:id=nx
   · simp [hi] at hg
   · simp [hi] at hg;exact o4 id cc hi hg
 · intro id o hg;rw [Qn] at hg
   by_cases hi:id=nx
   · simp [hi] at hg;subst hg;exact ⟨hi ▸ g.new hn,fun r hr'=>(hr r hr').mono (by omega)⟩
   · simp [hi] at hg;exact g.nums' (by omega) id o hg
 · intro b o hm;have:=m3 b o hm;refine ⟨?_,this.2⟩;rcases this.1 with h1 | h1
   · exact h1
   · intro hO';have:=hO b o hO';omega
def Cx.newVec (X:Cx) (nx:Nat) (t:C.Ty) (e:TypeId) (c:Array Value) (n cp:Nat):Cx :=
 ⟨X.w.alloc (.cells c e),fun id=>if id=nx then some (.vec (.slice (some ⟨X.w.heap.size,0,none⟩) n cp) (T.ety t) X.w.heap.size 0 (cp * T.size (T.ety t))) else X.ρ id,X.O⟩
include L in
theorem G.newVec {X:Cx} {h:Heap C} {nx:Nat} {lim:Lim} (g:G T X h nx lim) (hn:nx < lim.top) {t:C.Ty} {l:List (C.A t)} {c:Array Value} {e:TypeId} {cp:Nat} (own:Bool)
 (hR:R T X false (.arr t l.length l) (c.toList.take (l.length * T.size (T.ety t)))) (hcp:l.length <= cp) (hc:cp * T.size (T.ety t) <= c.size) :
 ∃ X',X'.w=X.w.alloc (.cells c e) /\ G T X' ((nx,.vec t own l)::h) (nx+1) lim /\ Step X nx lim X' /\ R T X' false (.vs nx l.length) [.slice (some ⟨X.w.heap.size,0,none⟩) l.length cp]:=by
 let v:Value:=.slice (some ⟨X.w.heap.size,0,none⟩) l.length cp
 let lo:=if own then 0 else l.length * T.size (T.ety t)
 let l0:Loc:=.vec v (T.ety t) X.w.heap.size lo (cp * T.size (T.ety t))
 have hl:∀ b o,l0.owns b o->b=X.w.heap.size:=fun b o h=>h.1;have hO:=g.outs
 let X':Cx:=⟨X.w.alloc (.cells c e),fun id=>if id=nx then some l0 else X.ρ id,X.O⟩
 have hs:Step X nx lim X':=Step.alloc g hn c e _ hl;have hch:Ch X X' nx lim nx:=Ch.alloc g hn _ _ hl;obtain ⟨m1,m2,m3⟩:=G.mine_alloc g hn (.cells c e) _ hl (.vec t own l);obtain ⟨o1,o2,o3,o4⟩:=G.others L g hch;have hRs:R T X' false (.arr t l.length l) (c.toList.take (l.length * T.size (T.ety t))):=hR.step L hs (by simp [D.refs])
 have hmul:l.length * T.size (T.ety t) <= cp * T.size (T.ety t):=Nat.mul_le_mul_right _ hcp;refine ⟨X',rfl,⟨?_,?_,?_,?_,m1,?_,m2,?_,fun b o ho=>Nat.lt_of_lt_of_le (hO b o ho) hs.size,Nat.le_succ_of_le g.low,g.pre.step hs⟩,hs,?_⟩
 · intro id t' d' hg;rw [Qn] at hg
   by_cases hi:id=nx
   · simp [hi] at hg
   · simp [hi] at hg;exact o1 id t' d' hi hg
 · intro id t' own' l' hg;rw [Qn] at hg
   by_cases hi:id=nx
   · simp [hi] at hg;obtain ⟨rfl,rfl,hg⟩:=hg;simp at hg;subst hg;refine ⟨v,X.w.heap.size,lo,cp * T.size (T.ety t),by simp [X',hi,l0],.inr ⟨0,cp,rfl,hcp,by simp,?_⟩⟩
     cases own with
     | true=>exact .inl ⟨rfl,by simp [lo],.inr ⟨c,e,QJ _ _,hc,by simpa using hRs⟩⟩
     | false =>
      refine .inr ⟨rfl,by simp [lo],⟨_,?_,hRs⟩,.inr ⟨c,e,QJ _ _,hc⟩⟩
      intro j u hj
      have hj':j < l.length * T.size (T.ety t):=by
       have:=(List.getElem?_eq_some_iff.1 hj).1;simp at this;omega
      refine ⟨?_,?_,?_⟩
      · simp only [World.cell?,Nat.zero_add];rw [show X'.w.heap[X.w.heap.size]? = some (.cells c e) from QJ _ _];rw [List.getElem?_take,if_pos hj'] at hj
        simpa using hj
      · intro ho;have:=hO _ _ ho;omega
      · rintro ⟨id',l',h1,h2⟩
        by_cases hi':id'=nx
        · simp [X',hi',l0] at h1;subst h1;simp [Loc.owns,lo] at h2;omega
        · simp [X',hi'] at h1;have:=(g.outer _ _ ⟨id',l',h1,h2⟩).2;omega
   · simp [hi] at hg;exact o2 id t' own' l' hi hg
 · intro id ck cv l hg;rw [Qn] at hg
   by_cases hi:id=nx
   · simp [hi] at hg
   · simp [hi] at hg;exact o3 id ck cv l hi hg
 · intro id cc hg;rw [Qn] at hg
   by_cases hi:id=nx
   · simp [hi] at hg
   · simp [hi] at hg;exact o4 id cc hi hg
 · intro id o hg;rw [Qn] at hg
   by_cases hi:id=nx
   · simp [hi] at hg;subst hg;exact ⟨hi ▸ g.new hn,fun r hr'=>by simp [Obj.refs] at hr'⟩
   · simp [hi] at hg;exact g.nums' (by omega) id o hg
 · intro b o hm;have:=m3 b o hm;refine ⟨?_,this.2⟩;rcases this.1 with h1 | h1
   · exact h1
   · intro hO';have:=hO b o hO';omega
 · refine .vs fun v' e' b' lo' hi' hv=>?_;simp [X',l0] at hv;obtain ⟨rfl,_⟩:=hv;exact ⟨Nat.le_refl _,fun _=>rfl⟩
theorem G.upto {X:Cx} {h:Heap C} {nx nx':Nat} {lim:Lim} (g:G T X h nx lim) (hn:nx <= nx'):G T X h nx' lim :=
 ⟨g.var,g.vec,g.map,g.ctl,g.dom,g.nums' hn,g.apart,g.outer,g.outs,Nat.le_trans g.low hn,g.pre⟩
include L in
theorem G.drop {X:Cx} {h h':Heap C} {nx:Nat} {lim:Lim} (g:G T X h nx lim) (hh:∀ id,h'.get id=h.get id \/ h'.get id=none) :
 ∃ X',X'.w=X.w /\ G T X' h' nx lim /\ Step X nx lim X' /\ ∀ id l,X'.ρ id=some l->X.ρ id=some l:=by
 let X':Cx:=⟨X.w,fun id=>if (h'.get id).isSome then X.ρ id else none,X.O⟩
 have hmine:∀ b o,X'.mine b o->X.mine b o:=by
  rintro b o ⟨id,l,h1,h2⟩
  simp only [X'] at h1
  split at h1
  · exact ⟨id,l,h1,h2⟩
  · simp at h1
 have hs:Step X nx lim X':=by
  refine ⟨rfl,rfl,rfl,rfl,Nat.le_refl _,?_,fun b o _ hm=>hmine b o hm,fun _ _ _ _=>rfl,fun _ _ _=>rfl,fun _ _=>rfl⟩;intro id _;simp only [X']
  split
  · exact .refl _
  · cases X.ρ id <;> simp [Qd]
 refine ⟨X',rfl,⟨?_,?_,?_,?_,?_,?_,?_,?_,g.outs,g.low,g.pre.step hs⟩,hs,fun id l h1=>by simp only [X'] at h1;split at h1 <;> simp_all⟩
 · intro id t d ho;have ho':h.get id=some (.var t d):=by rcases hh id with e | e <;> rw [e] at ho <;> simp_all
   obtain ⟨b,c,h1,h2,h3,h4⟩:=g.var id t d ho';exact ⟨b,c,by simp [X',ho,h1],h2,h3.step L hs (g.nums id _ ho').2,h4⟩
 · intro id t own l ho;have ho':h.get id=some (.vec t own l):=by rcases hh id with e | e <;> rw [e] at ho <;> simp_all
   obtain ⟨v,b,lo,hi,h1,h2⟩:=g.vec id t own l ho';refine ⟨v,b,lo,hi,by simp [X',ho,h1],?_⟩
   rcases h2 with h2 | ⟨off,cp,h2,h3,h4,h5⟩
   · exact .inl h2
   · refine .inr ⟨off,cp,h2,h3,h4,?_⟩;rcases h5 with ⟨ht,hlo,h5 | ⟨cs,e,h5,h6,h7⟩⟩ | ⟨ht,hlo,⟨cs,h5,h6⟩,h7⟩
     · exact .inl ⟨ht,hlo,.inl h5⟩
     · exact .inl ⟨ht,hlo,.inr ⟨cs,e,h5,h6,h7.step L hs (by simp [D.refs])⟩⟩
     · exact .inr ⟨ht,hlo,⟨cs,h5.step hs,h6.step L hs (by simp [D.refs])⟩,h7⟩
 · intro id ck cv l ho;have ho':h.get id=some (.map ck cv l):=by rcases hh id with e | e <;> rw [e] at ho <;> simp_all
   obtain ⟨b,es,k,h1,h2,h3⟩:=g.map id ck cv l ho';exact ⟨b,es,k,by simp [X',ho,h1],h2,h3.step L hs⟩
 · intro id cc ho;have ho':h.get id=some (.ctl cc):=by rcases hh id with e | e <;> rw [e] at ho <;> simp_all
   obtain ⟨s,h1,h2⟩:=g.ctl id cc ho';exact ⟨s,by simp [X',ho,h1],h2.same L hs rfl⟩
 · intro id l hr;simp only [X'] at hr
   split at hr
   · assumption
   · simp at hr
 · intro id o ho;have ho':h.get id=some o:=by rcases hh id with e | e <;> rw [e] at ho <;> simp_all
   exact g.nums id o ho'
 · intro id id' l l' b o o' h1 h2
   have e1:X.ρ id=some l:=by
    simp only [X'] at h1
    split at h1
    · exact h1
    · simp at h1
   have e2:X.ρ id'=some l':=by
    simp only [X'] at h2
    split at h2
    · exact h2
    · simp at h2
   exact g.apart id id' l l' b o o' e1 e2
 · intro b o hm;exact g.outer b o (hmine b o hm)
theorem Zk (w:World) (g:Nat) (cs:Array Value) (b:Nat) (h:b ≠ g):(w.setRow g cs).heap[b]? = w.heap[b]? := by
 simp only [World.setRow,Array.getElem?_modify];rw [if_neg (fun e=>h e.symm)]
theorem QcE (w:World) (g:Nat) (cs old:Array Value) (t:TypeId) (f:Nat × Nat) (hg:w.heap[g]? = some (.cells old t f)) (a:Addr):(w.setRow g cs).frozen? a=w.frozen? a:=by
 unfold World.frozen?
 by_cases h:a.block=g
 · rw [h,setRow_heap w g old cs t f hg,hg]
 · rw [Zk _ _ _ _ h]
theorem JD (w:World) (g:Nat) (cs:Array Value):(w.setRow g cs).heap.size=w.heap.size:=by simp [World.setRow]
theorem Ch.setRow {X:Cx} {nx id:Nat} {lim:Lim} {b:Nat} {c c':Array Value} {e:TypeId} (hb:X.w.heap[b]? = some (.cells c e (0,0))) (hsz:c'.size=c.size) (l l':Loc) (hl:X.ρ id=some l)
 (hc:∀ o,¬ l.owns b o->c'[o]? = c[o]?) (hl':∀ b o,l'.owns b o->l.owns b o) (hcp:Qd (some l) (some l')) :
 Ch X ⟨X.w.setRow b c',fun j=>if j=id then some l' else X.ρ j,X.O⟩ nx lim id where
 same j hj:=by simp [hj]
 blk g k u f hg:=by
  by_cases hgb:g=b
  · subst hgb;rw [hb] at hg;simp at hg;obtain ⟨rfl,rfl,rfl⟩:=hg;exact ⟨c',setRow_heap _ _ _ _ _ _ hb,hsz,fun o ho=>hc o (ho l hl)⟩
  · exact ⟨k,by rw [Zk _ _ _ _ hgb];exact hg,rfl,fun _ _=>rfl⟩
 mp g o hg hno _:=by
  by_cases hgb:g=b
  · subst hgb;rw [hb] at hg;cases hg;exact absurd rfl (hno _ _ _)
  · rw [Zk _ _ _ _ hgb];exact hg
 step:=by
  have hm:∀ g o,Cx.mine ⟨X.w.setRow b c',fun j=>if j=id then some l' else X.ρ j,X.O⟩ g o->X.mine g o:=by
   rintro g o ⟨j,k,h1,h2⟩
   by_cases hj:j=id
   · simp [hj] at h1;subst h1;exact ⟨id,l,hl,hl' g o h2⟩
   · simp [hj] at h1;exact ⟨j,k,h1,h2⟩
  refine ⟨rfl,rfl,rfl,rfl,by simp [JD],?_,fun g o _=>hm g o,?_,?_,fun a _=>QcE _ _ _ _ _ _ hb a⟩
  · intro j _
    by_cases hj:j=id
    · simp only [hj,if_true];rw [hl];exact hcp
    · simp [hj,Qd.refl]
  · intro g o _ hno
    by_cases hgb:g=b
    · subst hgb;have:=hc o fun hown=>hno ⟨id,l,hl,hown⟩;simp only [World.cell?,setRow_heap _ _ _ _ _ _ hb,hb]
      simpa using this
    · exact Q6 (Zk _ _ _ _ hgb) o
  · intro g _ hno
    by_cases hgb:g=b
    · subst hgb
      have e:c'=c:=by
       apply Array.ext';apply List.ext_getElem?;intro o;have:=hc o fun hown=>hno o ⟨id,l,hl,hown⟩
       simpa using this
      rw [setRow_heap _ _ _ _ _ _ hb,hb,e]
    · exact Zk _ _ _ _ hgb
theorem G.mine_put {X:Cx} {h:Heap C} {nx id:Nat} {lim:Lim} (g:G T X h nx lim) (l l':Loc) (hl:X.ρ id=some l) (hl':∀ b o,l'.owns b o->l.owns b o) (w':World) (hs:X.w.heap.size <= w'.heap.size) (o:Obj C) :
 let X':Cx:=⟨w',fun j=>if j=id then some l' else X.ρ j,X.O⟩
 (∀ j l,X'.ρ j=some l->((h.put id o).get j).isSome=true) /\
 (∀ j j' l l' b o o',X'.ρ j=some l->X'.ρ j'=some l'->l.owns b o->l'.owns b o'->j=j') /\ (∀ b o,X'.mine b o -> ¬ X'.O b o /\ b < X'.w.heap.size) /\ (∀ b o,X'.O b o->b < X'.w.heap.size):=by
 have hsome:=g.dom id l hl
 have hback:∀ j k b o,(if j=id then some l' else X.ρ j)=some k->k.owns b o -> ∃ k',X.ρ j=some k' /\ k'.owns b o:=by
  intro j k b o h1 h2
  by_cases hj:j=id
  · simp [hj] at h1;subst h1;exact ⟨l,by rw [hj];exact hl,hl' b o h2⟩
  · simp [hj] at h1;exact ⟨k,h1,h2⟩
 refine ⟨?_,?_,?_,?_⟩
 · intro j k hr;rw [Ql hsome]
   by_cases hj:j=id
   · simp [hj]
   · simp [hj] at hr ⊢;exact g.dom j k hr
 · intro j j' k k' b o o' h1 h2 h3 h4;obtain ⟨k1,h5,h6⟩:=hback j k b o h1 h3;obtain ⟨k2,h7,h8⟩:=hback j' k' b o' h2 h4;exact g.apart j j' k1 k2 b o o' h5 h7 h6 h8
 · rintro b o ⟨j,k,h1,h2⟩
   obtain ⟨k1,h5,h6⟩:=hback j k b o h1 h2;have:=g.outer b o ⟨j,k1,h5,h6⟩;exact ⟨this.1,by show b < w'.heap.size;omega⟩
 · intro b o ho;have:=g.outs b o ho;show b < w'.heap.size;omega
include L in
theorem G.setVar {X:Cx} {h:Heap C} {nx id b:Nat} {lim:Lim} {t:TypeId} {d d':D C} {c c':Array Value} (g:G T X h nx lim) (ho:h.get id=some (.var t d)) (hρ:X.ρ id=some (.var b t))
 (hb:X.w.heap[b]? = some (.cells c t (0,0))) (hR:R T X false d' c'.toList) (hsz:c'.size=c.size) (hf:fit T d' (.inl t)=true) (hr:∀ r ∈ d'.refs,old nx lim r) :
 ∃ X',X'.w=X.w.setRow b c' /\ G T X' (h.put id (.var t d')) nx lim /\ Step X nx lim X':=by
 have hch:Ch X ⟨X.w.setRow b c',fun j=>if j=id then some (.var b t) else X.ρ j,X.O⟩ nx lim id :=
  Ch.setRow hb hsz _ _ hρ (fun o ho=>absurd rfl ho) (fun _ _ h=>h) (by simp [Qd])
 obtain ⟨m1,m2,m3,m4⟩:=G.mine_put (h:=h) g _ (.var b t) hρ (fun _ _ h=>h) (X.w.setRow b c') (by simp [JD]) (.var t d')
 obtain ⟨o1,o2,o3,o4⟩:=G.others L g hch;have hsome:=g.dom id _ hρ;refine ⟨_,rfl,⟨?_,?_,?_,?_,m1,?_,m2,m3,m4,g.low,g.pre.step hch.step⟩,hch.step⟩
 · intro j t' e hg;rw [Ql hsome] at hg
   by_cases hj:j=id
   · simp [hj] at hg;obtain ⟨rfl,rfl⟩:=hg;exact ⟨b,c',by simp [hj],setRow_heap _ _ _ _ _ _ hb,hR.step L hch.step hr,hf⟩
   · simp [hj] at hg;exact o1 j t' e hj hg
 · intro j t' own l hg;rw [Ql hsome] at hg
   by_cases hj:j=id
   · simp [hj] at hg
   · simp [hj] at hg;exact o2 j t' own l hj hg
 · intro j ck cv k hg;rw [Ql hsome] at hg
   by_cases hj:j=id
   · simp [hj] at hg
   · simp [hj] at hg;exact o3 j ck cv k hj hg
 · intro j cc hg;rw [Ql hsome] at hg
   by_cases hj:j=id
   · simp [hj] at hg
   · simp [hj] at hg;exact o4 j cc hj hg
 · intro j o hg;rw [Ql hsome] at hg
   by_cases hj:j=id
   · simp [hj] at hg;subst hg;exact ⟨hj ▸ (g.nums id _ ho).1,hr⟩
   · simp [hj] at hg;exact g.nums j o hg
end
section
variable {C:Cdc} {T:Tab C} (L:Laws T)
include L in
theorem G.world {X:Cx} {h:Heap C} {nx:Nat} {lim:Lim} (g:G T X h nx lim) (w':World) (hh:w'.heap=X.w.heap) (h1:w'.os=X.w.os) (h2:w'.tape=X.w.tape) (h3:w'.output=X.w.output) :
 G T ⟨w',X.ρ,X.O⟩ h nx lim /\ Step X nx lim ⟨w',X.ρ,X.O⟩:=by
 have hs:Step X nx lim ⟨w',X.ρ,X.O⟩:=⟨rfl,h1,h2,h3,by simp [hh],fun _ _=>.refl _,fun _ _ _ hm=>hm,fun b o _ _=>by simp [World.cell?,hh],fun b _ _=>by simp [hh],fun a _=>by simp [World.frozen?,hh]⟩
 have hc:∀ n,Ch X ⟨w',X.ρ,X.O⟩ nx lim n:=fun n=>⟨hs,fun _ _=>rfl,fun b c e f hb=>⟨c,by simp [hh,hb],rfl,fun _ _=>rfl⟩,fun b o hb _ _=>by simp [hh,hb]⟩
 refine ⟨⟨?_,?_,?_,?_,g.dom,g.nums,g.apart,?_,?_,g.low,g.pre.step hs⟩,hs⟩
 · intro id t d ho
   by_cases hi:id=0
   · exact (G.others L g (hc 1)).1 id t d (by omega) ho
   · exact (G.others L g (hc 0)).1 id t d hi ho
 · intro id t own l ho
   by_cases hi:id=0
   · exact (G.others L g (hc 1)).2.1 id t own l (by omega) ho
   · exact (G.others L g (hc 0)).2.1 id t own l hi ho
 · intro id ck cv l ho
   by_cases hi:id=0
   · exact (G.others L g (hc 1)).2.2.1 id ck cv l (by omega) ho
   · exact (G.others L g (hc 0)).2.2.1 id ck cv l hi ho
 · intro id cc ho
   by_cases hi:id=0
   · exact (G.others L g (hc 1)).2.2.2 id cc (by omega) ho
   · exact (G.others L g (hc 0)).2.2.2 id cc hi ho
 · intro b o hm;simpa [hh] using g.outer b o hm
 · intro b o hm;simpa [hh] using g.outs b o hm
include L in
theorem G.data {X:Cx} {h:Heap C} {nx:Nat} {lim:Lim} (g:G T X h nx lim) (c:Array Value) (e:TypeId) :
 G T ⟨X.w.alloc (.cells c e),X.ρ,X.O⟩ h nx lim /\ Step X nx lim ⟨X.w.alloc (.cells c e),X.ρ,X.O⟩ /\
  ∀ o,Cx.free ⟨X.w.alloc (.cells c e),X.ρ,X.O⟩ X.w.heap.size o:=by
 have hs:Step X nx lim ⟨X.w.alloc (.cells c e),X.ρ,X.O⟩ :=
  ⟨rfl,rfl,rfl,rfl,by simp,fun _ _=>.refl _,fun _ _ _ hm=>hm,fun b o hb _=>Q6 (Qr _ _ _ hb) o,fun b hb _=>Qr _ _ _ hb,fun a ha=>Zs (Qr _ _ _ ha)⟩
 have hc:∀ n,Ch X ⟨X.w.alloc (.cells c e),X.ρ,X.O⟩ nx lim n:=fun n=>⟨hs,fun _ _=>rfl,fun b c' e' f hb =>
  ⟨c',by rw [Qr _ _ _ (Array.getElem?_eq_some_iff.1 hb).1];exact hb,rfl,fun _ _=>rfl⟩,fun b o hb _ _=>by rw [Qr _ _ _ (Array.getElem?_eq_some_iff.1 hb).1];exact hb⟩
 refine ⟨⟨?_,?_,?_,?_,g.dom,g.nums,g.apart,?_,?_,g.low,g.pre.step hs⟩,hs,?_⟩
 · intro id t d ho
   by_cases hi:id=0
   · exact (G.others L g (hc 1)).1 id t d (by omega) ho
   · exact (G.others L g (hc 0)).1 id t d hi ho
 · intro id t own l ho
   by_cases hi:id=0
   · exact (G.others L g (hc 1)).2.1 id t own l (by omega) ho
   · exact (G.others L g (hc 0)).2.1 id t own l hi ho
 · intro id ck cv l ho
   by_cases hi:id=0
   · exact (G.others L g (hc 1)).2.2.1 id ck cv l (by omega) ho
   · exact (G.others L g (hc 0)).2.2.1 id ck cv l hi ho
 · intro id cc ho
   by_cases hi:id=0
   · exact (G.others L g (hc 1)).2.2.2 id cc (by omega) ho
   · exact (G.others L g (hc 0)).2.2.2 id cc hi ho
 · intro b o hm;have:=g.outer b o hm;exact ⟨this.1,by simp;omega⟩
 · intro b o hm;have:=g.outs b o hm;simp;omega
 · intro o;refine ⟨fun ho=>?_,fun hm=>?_⟩
   · have:=g.outs _ _ ho;omega
   · have:=(g.outer _ _ hm).2;omega
include L in
theorem G.setVec {X:Cx} {h:Heap C} {nx id b lo hi lo':Nat} {lim:Lim} {t:C.Ty} {own:Bool} {l l':List (C.A t)} {v v':Value} {c c':Array Value} {e:TypeId} (g:G T X h nx lim)
 (ho:h.get id=some (.vec t own l)) (hρ:X.ρ id=some (.vec v (T.ety t) b lo hi)) (hb:X.w.heap[b]? = some (.cells c e (0,0))) (hsz:c'.size=c.size)
 (hc:∀ o,¬ (lo <= o /\ o < hi)->c'[o]? = c[o]?) (hlo:lo <= lo') (hlh:lo' <= hi \/ lo'=lo) (hcp:lenV v <= lenV v' /\ (lenV v=lenV v'->v'=v))
 (hok:∀ X':Cx,X'.w=X.w.setRow b c'->X'.O=X.O->(∀ b o,X'.mine b o->X.mine b o)->(∀ o,lo <= o->o < lo' -> ¬ X'.mine b o)->Step X nx lim X'->ZZ T X' t own l' v' b lo' hi) :
 ∃ X',X'.w=X.w.setRow b c' /\ X'.ρ id=some (.vec v' (T.ety t) b lo' hi) /\ G T X' (h.put id (.vec t own l')) nx lim /\ Step X nx lim X':=by
 have hown:∀ b o,(Loc.vec v' (T.ety t) b lo' hi).owns b o->(Loc.vec v (T.ety t) b lo hi).owns b o:=fun b o h=>⟨h.1,by have:=h.2;omega,h.2.2⟩
 have hown':∀ g o,(Loc.vec v' (T.ety t) b lo' hi).owns g o->(Loc.vec v (T.ety t) b lo hi).owns g o:=fun g o h=>⟨h.1,by have:=h.2;omega,h.2.2⟩
 have hch:Ch X ⟨X.w.setRow b c',fun j=>if j=id then some (.vec v' (T.ety t) b lo' hi) else X.ρ j,X.O⟩ nx lim id :=
  Ch.setRow hb hsz _ _ hρ (fun o ho=>hc o fun h=>ho ⟨rfl,h⟩) hown' ⟨rfl,hcp.1,hcp.2⟩
 obtain ⟨m1,m2,m3,m4⟩:=G.mine_put (h:=h) g _ (.vec v' (T.ety t) b lo' hi) hρ hown' (X.w.setRow b c') (by simp [JD]) (.vec t own l')
 obtain ⟨o1,o2,o3,o4⟩:=G.others L g hch;have hsome:=g.dom id _ hρ
 have hmine:∀ b' o,Cx.mine ⟨X.w.setRow b c',fun j=>if j=id then some (.vec v' (T.ety t) b lo' hi) else X.ρ j,X.O⟩ b' o->X.mine b' o:=by
  rintro b' o ⟨j,k,h1,h2⟩
  by_cases hj:j=id
  · simp [hj] at h1;subst h1;exact ⟨id,_,hρ,hown' _ _ h2⟩
  · simp [hj] at h1;exact ⟨j,k,h1,h2⟩
 have hV:=hok ⟨X.w.setRow b c',fun j=>if j=id then some (.vec v' (T.ety t) b lo' hi) else X.ρ j,X.O⟩ rfl rfl hmine (by
  rintro o h1 h2 ⟨j,k,h3,h4⟩
  by_cases hj:j=id
  · simp [hj] at h3;subst h3;have:=h4.2;omega
  · simp [hj] at h3;exact hj (g.apart j id _ _ b o o h3 hρ h4 ⟨rfl,h1,by omega⟩)) hch.step
 refine ⟨_,rfl,by simp,⟨?_,?_,?_,?_,m1,?_,m2,m3,m4,g.low,g.pre.step hch.step⟩,hch.step⟩
 · intro j t' e hg;rw [Ql hsome] at hg
   by_cases hj:j=id
   · simp [hj] at hg
   · simp [hj] at hg;exact o1 j t' e hj hg
 · intro j t' own' k hg;rw [Ql hsome] at hg
   by_cases hj:j=id
   · simp [hj] at hg;obtain ⟨rfl,rfl,hg⟩:=hg;simp at hg;subst hg;exact ⟨v',b,lo',hi,by simp [hj],hV⟩
   · simp [hj] at hg;exact o2 j t' own' k hj hg
 · intro j ck cv k hg;rw [Ql hsome] at hg
   by_cases hj:j=id
   · simp [hj] at hg
   · simp [hj] at hg;exact o3 j ck cv k hj hg
 · intro j cc hg;rw [Ql hsome] at hg
   by_cases hj:j=id
   · simp [hj] at hg
   · simp [hj] at hg;exact o4 j cc hj hg
 · intro j o hg;rw [Ql hsome] at hg
   by_cases hj:j=id
   · simp [hj] at hg;subst hg;exact ⟨hj ▸ (g.nums id _ ho).1,by simp [Obj.refs]⟩
   · simp [hj] at hg;exact g.nums j o hg
include L in
theorem G.refit {X:Cx} {h:Heap C} {nx id b lo hi lo':Nat} {lim:Lim} {t:C.Ty} {own own':Bool} {l:List (C.A t)} {v:Value} (g:G T X h nx lim)
 (ho:h.get id=some (.vec t own l)) (hρ:X.ρ id=some (.vec v (T.ety t) b lo hi)) (hlo:lo <= lo')
 (hok:∀ X':Cx,X'.w=X.w->X'.O=X.O->(∀ o,lo <= o->o < lo'->o < hi -> ¬ X'.mine b o)->Step X nx lim X'->ZZ T X' t own' l v b lo' hi) :
 ∃ X',X'.w=X.w /\ X'.ρ id=some (.vec v (T.ety t) b lo' hi) /\ G T X' (h.put id (.vec t own' l)) nx lim /\ Step X nx lim X' /\ ZZ T X' t own' l v b lo' hi:=by
 let X':Cx:=⟨X.w,fun j=>if j=id then some (.vec v (T.ety t) b lo' hi) else X.ρ j,X.O⟩
 have hmine:∀ b' o,X'.mine b' o->X.mine b' o:=by
  rintro b' o ⟨j,k,h1,h2⟩
  by_cases hj:j=id
  · simp [X',hj] at h1;subst h1;exact ⟨id,_,hρ,h2.1,by have:=h2.2.1;omega,h2.2.2⟩
  · simp [X',hj] at h1;exact ⟨j,k,h1,h2⟩
 have hs:Step X nx lim X':=by
  refine ⟨rfl,rfl,rfl,rfl,Nat.le_refl _,?_,fun b' o _ hm=>hmine b' o hm,fun _ _ _ _=>rfl,fun _ _ _=>rfl,fun _ _=>rfl⟩;intro j _
  by_cases hj:j=id
  · simp only [X',hj,if_true];rw [hρ];exact ⟨rfl,Nat.le_refl _,fun _=>rfl⟩
  · simp [X',hj,Qd.refl]
 have hch:Ch X X' nx lim id:=⟨hs,fun j hj=>by simp [X',hj],fun b c' e' f hb=>⟨c',hb,rfl,fun _ _=>rfl⟩,fun b o hb _ _=>hb⟩
 obtain ⟨o1,o2,o3,o4⟩:=G.others L g hch;have hsome:=g.dom id _ hρ
 have hV:=hok X' rfl rfl (by
  rintro o h1 h2 h5 ⟨j,k,h3,h4⟩
  by_cases hj:j=id
  · simp [X',hj] at h3;subst h3;have:=h4.2.1;omega
  · simp [X',hj] at h3;exact hj (g.apart j id _ _ b o o h3 hρ h4 ⟨rfl,h1,h5⟩)) hs
 refine ⟨X',rfl,by simp [X'],⟨?_,?_,?_,?_,?_,?_,?_,?_,?_,g.low,g.pre.step hs⟩,hs,hV⟩
 · intro j t' e hg;rw [Ql hsome] at hg
   by_cases hj:j=id
   · simp [hj] at hg
   · simp [hj] at hg;exact o1 j t' e hj hg
 · intro j t' own' k hg;rw [Ql hsome] at hg
   by_cases hj:j=id
   · simp [hj] at hg;obtain ⟨rfl,rfl,hg⟩:=hg;simp at hg;subst hg;exact ⟨v,b,lo',hi,by simp [X',hj],hV⟩
   · simp [hj] at hg;exact o2 j t' own' k hj hg
 · intro j ck cv k hg;rw [Ql hsome] at hg
   by_cases hj:j=id
   · simp [hj] at hg
   · simp [hj] at hg;exact o3 j ck cv k hj hg
 · intro j cc hg;rw [Ql hsome] at hg
   by_cases hj:j=id
   · simp [hj] at hg
   · simp [hj] at hg;exact o4 j cc hj hg
 · intro j k hr;rw [Ql hsome]
   by_cases hj:j=id
   · simp [hj]
   · simp [X',hj] at hr ⊢;exact g.dom j k hr
 · intro j o hg;rw [Ql hsome] at hg
   by_cases hj:j=id
   · simp [hj] at hg;subst hg;exact ⟨hj ▸ (g.nums id _ ho).1,by simp [Obj.refs]⟩
   · simp [hj] at hg;exact g.nums j o hg
 · intro j j' k k' b' o o' h1 h2 h3 h4
   have up:∀ j k,X'.ρ j=some k -> ∀ b o,k.owns b o -> ∃ k0,X.ρ j=some k0 /\ k0.owns b o:=by
    intro j k h1 b0 o h2
    by_cases hj:j=id
    · simp [X',hj] at h1;subst h1;exact ⟨.vec v (T.ety t) b lo hi,hj ▸ hρ,show b0=b /\ lo <= o /\ o < hi from ⟨h2.1,by have:=h2.2.1;omega,h2.2.2⟩⟩
    · simp [X',hj] at h1;exact ⟨k,h1,h2⟩
   obtain ⟨k0,q1,q2⟩:=up j k h1 b' o h3;obtain ⟨k1,q3,q4⟩:=up j' k' h2 b' o' h4;exact g.apart j j' k0 k1 b' o o' q1 q3 q2 q4
 · intro b' o hm;exact g.outer b' o (hmine b' o hm)
 · intro b' o ho;exact g.outs b' o ho
include L in
theorem G.moveVec {X:Cx} {h:Heap C} {nx id b lo hi lo' hi':Nat} {lim:Lim} {t:C.Ty} {own own':Bool} {l l':List (C.A t)} {v v':Value} {c:Array Value} {e:TypeId} (g:G T X h nx lim)
 (ho:h.get id=some (.vec t own l)) (hρ:X.ρ id=some (.vec v (T.ety t) b lo hi)) (hcp:lenV v <= lenV v' /\ (lenV v=lenV v'->v'=v))
 (hok:∀ X':Cx,X'.w=X.w.alloc (.cells c e)->X'.O=X.O->(∀ o,o < lo' -> ¬ X'.mine X.w.heap.size o)->(∀ o,¬ X'.O X.w.heap.size o)->Step X nx lim X'->ZZ T X' t own' l' v' X.w.heap.size lo' hi') :
 ∃ X',X'.w=X.w.alloc (.cells c e) /\ X'.ρ id=some (.vec v' (T.ety t) X.w.heap.size lo' hi') /\ G T X' (h.put id (.vec t own' l')) nx lim /\ Step X nx lim X':=by
 let X':Cx:=⟨X.w.alloc (.cells c e),fun j=>if j=id then some (.vec v' (T.ety t) X.w.heap.size lo' hi') else X.ρ j,X.O⟩
 have hmine:∀ b' o,X'.mine b' o->X.mine b' o \/ (b'=X.w.heap.size /\ lo' <= o):=by
  rintro b' o ⟨j,k,h1,h2⟩
  by_cases hj:j=id
  · simp [X',hj] at h1;subst h1;exact .inr ⟨h2.1,h2.2.1⟩
  · simp [X',hj] at h1;exact .inl ⟨j,k,h1,h2⟩
 have hs:Step X nx lim X':=by
  refine ⟨rfl,rfl,rfl,rfl,by simp [X'],?_,?_,fun b o hb _=>Q6 (Qr _ _ _ hb) o,fun b hb _=>Qr _ _ _ hb,fun a ha=>Zs (Qr _ _ _ ha)⟩
  · intro j _
    by_cases hj:j=id
    · simp only [X',hj,if_true];rw [hρ];exact ⟨rfl,hcp.1,hcp.2⟩
    · simp [X',hj,Qd.refl]
  · intro b' o hb' hm;rcases hmine b' o hm with h1 | h1
    · exact h1
    · omega
 have hch:Ch X X' nx lim id:=⟨hs,fun j hj=>by simp [X',hj],fun b c' e' f hb=>⟨c',by show (X.w.alloc _).heap[b]? = _;rw [Qr _ _ _ (Array.getElem?_eq_some_iff.1 hb).1];exact hb,rfl,fun _ _=>rfl⟩,fun b o hb _ _=>by show (X.w.alloc _).heap[b]? = _;rw [Qr _ _ _ (Array.getElem?_eq_some_iff.1 hb).1];exact hb⟩
 obtain ⟨o1,o2,o3,o4⟩:=G.others L g hch;have hsome:=g.dom id _ hρ
 have hV:=hok X' rfl rfl (by
  intro o h1 hm;rcases hmine _ o hm with h2 | h2
  · have:=(g.outer _ _ h2).2;omega
  · omega) (fun o ho=>by have:=g.outs _ _ ho;omega) hs
 refine ⟨X',rfl,by simp [X'],⟨?_,?_,?_,?_,?_,?_,?_,?_,?_,g.low,g.pre.step hs⟩,hs⟩
 · intro j t' e hg;rw [Ql hsome] at hg
   by_cases hj:j=id
   · simp [hj] at hg
   · simp [hj] at hg;exact o1 j t' e hj hg
 · intro j t' own' k hg;rw [Ql hsome] at hg
   by_cases hj:j=id
   · simp [hj] at hg;obtain ⟨rfl,rfl,hg⟩:=hg;simp at hg;subst hg;exact ⟨v',X.w.heap.size,lo',hi',by simp [X',hj],hV⟩
   · simp [hj] at hg;exact o2 j t' own' k hj hg
 · intro j ck cv k hg;rw [Ql hsome] at hg
   by_cases hj:j=id
   · simp [hj] at hg
   · simp [hj] at hg;exact o3 j ck cv k hj hg
 · intro j cc hg;rw [Ql hsome] at hg
   by_cases hj:j=id
   · simp [hj] at hg
   · simp [hj] at hg;exact o4 j cc hj hg
 · intro j k hr;rw [Ql hsome]
   by_cases hj:j=id
   · simp [hj]
   · simp [X',hj] at hr ⊢;exact g.dom j k hr
 · intro j o hg;rw [Ql hsome] at hg
   by_cases hj:j=id
   · simp [hj] at hg;subst hg;exact ⟨hj ▸ (g.nums id _ ho).1,by simp [Obj.refs]⟩
   · simp [hj] at hg;exact g.nums j o hg
 · intro j j' k k' b' o o' h1 h2 h3 h4
   by_cases hj:j=id <;> by_cases hj':j'=id
   · rw [hj,hj']
   · simp [X',hj] at h1;simp [X',hj'] at h2;subst h1;have h5:=h3.1;have:=(g.outer b' o' ⟨j',k',h2,h4⟩).2;omega
   · simp [X',hj] at h1;simp [X',hj'] at h2;subst h2;have h5:=h4.1;have:=(g.outer b' o ⟨j,k,h1,h3⟩).2;omega
   · simp [X',hj] at h1;simp [X',hj'] at h2;exact g.apart j j' k k' b' o o' h1 h2 h3 h4
 · intro b' o hm;rcases hmine b' o hm with h1 | h1
   · have:=g.outer b' o h1;exact ⟨this.1,by simp [X'];omega⟩
   · refine ⟨fun ho=>?_,by simp [X'];omega⟩
     have:=g.outs b' o ho;omega
 · intro b' o ho;have:=g.outs b' o ho;simp [X'];omega
theorem QU (w:World) (b:Nat) (o:Go.Obj) (j:Nat) (h:j ≠ b):({ w with heap:=w.heap.setIfInBounds b o }:World).heap[j]? = w.heap[j]? := by
 simp [Array.getElem?_setIfInBounds,Ne.symm h]
theorem Vw (w:World) (b:Nat) (o o':Go.Obj) (h:w.heap[b]? = some o'):({ w with heap:=w.heap.setIfInBounds b o }:World).heap[b]? = some o:=by
 have:=(Array.getElem?_eq_some_iff.1 h).1;simp [Array.getElem?_setIfInBounds,this]
include L in
theorem G.newMap {X:Cx} {h:Heap C} {nx:Nat} {lim:Lim} (g:G T X h nx lim) (hn:nx < lim.top) (ck cv:C.Ty) :
 ∃ X',X'.w=X.w.alloc (.map #[] 0) /\ G T X' ((nx,.map ck cv [])::h) (nx+1) lim /\ Step X nx lim X' /\ R T X' false (.mp nx) [.map (some X.w.heap.size)]:=by
 have hl:∀ b o,(Loc.map X.w.heap.size).owns b o->b=X.w.heap.size:=fun b o h=>h;have hO:=g.outs
 let X':Cx:=⟨X.w.alloc (.map #[] 0),fun id=>if id=nx then some (.map X.w.heap.size) else X.ρ id,X.O⟩
 have hs:Step X nx lim X':=Step.allocO g hn (.map #[] 0) _ hl;have hc:Ch X X' nx lim nx:=Ch.alloc g hn (.map #[] 0) _ hl;obtain ⟨m1,m2,m3⟩:=G.mine_alloc g hn (.map #[] 0) _ hl (.map ck cv []);obtain ⟨o1,o2,o3,o4⟩:=G.others L g hc;refine ⟨X',rfl,⟨?_,?_,?_,?_,m1,?_,m2,?_,fun b o ho=>Nat.lt_of_lt_of_le (hO b o ho) hs.size,Nat.le_succ_of_le g.low,g.pre.step hs⟩,hs,?_⟩
 · intro id t' d' hg;rw [Qn] at hg
   by_cases hi:id=nx
   · simp [hi] at hg
   · simp [hi] at hg;exact o1 id t' d' hi hg
 · intro id t' own l hg;rw [Qn] at hg
   by_cases hi:id=nx
   · simp [hi] at hg
   · simp [hi] at hg;exact o2 id t' own l hi hg
 · intro id ck' cv' l hg;rw [Qn] at hg
   by_cases hi:id=nx
   · simp [hi] at hg;obtain ⟨rfl,rfl,hg⟩:=hg;simp at hg;subst hg;exact ⟨X.w.heap.size,#[],0,by simp [X',hi],QJ _ _,.nil _ _ _ _ _⟩
   · simp [hi] at hg;exact o3 id ck' cv' l hi hg
 · intro id cc hg;rw [Qn] at hg
   by_cases hi:id=nx
   · simp [hi] at hg
   · simp [hi] at hg;exact o4 id cc hi hg
 · intro id o hg;rw [Qn] at hg
   by_cases hi:id=nx
   · simp [hi] at hg;subst hg;exact ⟨hi ▸ g.new hn,fun r hr'=>by simp [Obj.refs] at hr'⟩
   · simp [hi] at hg;exact g.nums' (by omega) id o hg
 · intro b o hm;have:=m3 b o hm;refine ⟨?_,this.2⟩;rcases this.1 with h1 | h1
   · exact h1
   · intro hO';have:=hO b o hO';omega
 · refine .mp fun b' hv=>?_;simp [X'] at hv;exact hv.symm
include L in
theorem G.setMap {X:Cx} {h:Heap C} {nx id b:Nat} {lim:Lim} {ck cv:C.Ty} {l l':List (C.A ck × C.A cv)} {es es':Array MapEntry} {k k':Nat} (g:G T X h nx lim)
 (ho:h.get id=some (.map ck cv l)) (hρ:X.ρ id=some (.map b)) (hb:X.w.heap[b]? = some (.map es k)) (hE:Y0 T X ck cv l' es' k') :
 ∃ X',X'.w={ X.w with heap:=X.w.heap.setIfInBounds b (.map es' k') } /\ G T X' (h.put id (.map ck cv l')) nx lim /\ Step X nx lim X':=by
 let X':Cx:=⟨{ X.w with heap:=X.w.heap.setIfInBounds b (.map es' k') },X.ρ,X.O⟩
 have hb':∀ o,X.mine b o:=fun o=>⟨id,_,hρ,rfl⟩
 have hs:Step X nx lim X':=by
  refine ⟨rfl,rfl,rfl,rfl,by simp [X'],fun _ _=>.refl _,fun _ _ _ hm=>hm,fun g o _ hno=>?_,fun g _ hno=>?_,fun a ha=>?_⟩
  · have hgb:g ≠ b:=fun e=>hno (e ▸ hb' o);exact Q6 (QU _ _ _ _ hgb) o
  · have hgb:g ≠ b:=fun e=>hno 0 (e ▸ hb' 0);exact QU _ _ _ _ hgb
  · by_cases hgb:a.block=b
    · unfold World.frozen?;rw [hgb,show X'.w.heap[b]? = _ from Vw _ _ _ _ hb,hb]
    · exact Zs (QU _ _ _ _ hgb)
 have hch:Ch X X' nx lim id:=by
  refine ⟨hs,fun _ _=>rfl,fun g c e f hg=>?_,fun g o2 hg _ hno=>?_⟩
  · have hgb:g ≠ b:=by rintro rfl;rw [hb] at hg;cases hg
    exact ⟨c,by rw [show X'.w.heap[g]? = _ from QU _ _ _ _ hgb];exact hg,rfl,fun _ _=>rfl⟩
  · have hgb:g ≠ b:=by rintro rfl;exact hno _ hρ rfl
    rw [show X'.w.heap[g]? = _ from QU _ _ _ _ hgb];exact hg
 obtain ⟨o1,o2,o3,o4⟩:=G.others L g hch;have hsome:=g.dom id _ hρ;refine ⟨X',rfl,⟨?_,?_,?_,?_,?_,?_,g.apart,fun b o hm=>⟨(g.outer b o hm).1,?_⟩,fun b o hm=>?_,g.low,g.pre.step hs⟩,hs⟩
 · intro j t' e hg;rw [Ql hsome] at hg
   by_cases hj:j=id
   · simp [hj] at hg
   · simp [hj] at hg;exact o1 j t' e hj hg
 · intro j t' own' k hg;rw [Ql hsome] at hg
   by_cases hj:j=id
   · simp [hj] at hg
   · simp [hj] at hg;exact o2 j t' own' k hj hg
 · intro j ck' cv' k hg;rw [Ql hsome] at hg
   by_cases hj:j=id
   · simp [hj] at hg;obtain ⟨rfl,rfl,hg⟩:=hg;simp at hg;subst hg;exact ⟨b,es',k',by simp [X',hj,hρ],Vw _ _ _ _ hb,hE.step L hs⟩
   · simp [hj] at hg;exact o3 j ck' cv' k hj hg
 · intro j cc hg;rw [Ql hsome] at hg
   by_cases hj:j=id
   · simp [hj] at hg
   · simp [hj] at hg;exact o4 j cc hj hg
 · intro j k hr;rw [Ql hsome]
   by_cases hj:j=id
   · simp [hj]
   · simp [hj];exact g.dom j k hr
 · intro j o hg;rw [Ql hsome] at hg
   by_cases hj:j=id
   · simp [hj] at hg;subst hg;exact ⟨hj ▸ (g.nums id _ ho).1,by simp [Obj.refs]⟩
   · simp [hj] at hg;exact g.nums j o hg
 · have:=(g.outer b o hm).2;simp [X'];exact this
 · have:=g.outs b o hm;simp [X'];exact this
include L in
theorem G.newLp {X:Cx} {h:Heap C} {nx:Nat} {lim:Lim} (g:G T X h nx lim) (hn:nx < lim.top) (rec:Loop) (ex:Nat) (hst:rec.state=.ready) (hp:rec.pending=none) :
 ∃ X',X'.w=X.w.alloc (.loop rec) /\ X'.O=X.O /\ X'.ρ nx=some (.ctl (.lp X.w.heap.size rec)) /\ G T X' ((nx,.ctl (.lp false false ex))::h) (nx+1) lim /\ Step X nx lim X':=by
 have hl:∀ b o,(Loc.ctl (.lp X.w.heap.size rec)).owns b o->b=X.w.heap.size:=fun b o h=>h;have hO:=g.outs
 let X':Cx:=⟨X.w.alloc (.loop rec),fun id=>if id=nx then some (.ctl (.lp X.w.heap.size rec)) else X.ρ id,X.O⟩
 have hs:Step X nx lim X':=Step.allocO g hn (.loop rec) _ hl;have hc:Ch X X' nx lim nx:=Ch.alloc g hn (.loop rec) _ hl;obtain ⟨m1,m2,m3⟩:=G.mine_alloc g hn (.loop rec) _ hl (.ctl (.lp false false ex));obtain ⟨o1,o2,o3,o4⟩:=G.others L g hc;refine ⟨X',rfl,rfl,by simp [X'],⟨?_,?_,?_,?_,m1,?_,m2,?_,fun b o ho=>Nat.lt_of_lt_of_le (hO b o ho) hs.size,Nat.le_succ_of_le g.low,g.pre.step hs⟩,hs⟩
 · intro id t' d' hg;rw [Qn] at hg
   by_cases hi:id=nx
   · simp [hi] at hg
   · simp [hi] at hg;exact o1 id t' d' hi hg
 · intro id t' own l hg;rw [Qn] at hg
   by_cases hi:id=nx
   · simp [hi] at hg
   · simp [hi] at hg;exact o2 id t' own l hi hg
 · intro id ck' cv' l hg;rw [Qn] at hg
   by_cases hi:id=nx
   · simp [hi] at hg
   · simp [hi] at hg;exact o3 id ck' cv' l hi hg
 · intro id cc hg;rw [Qn] at hg
   by_cases hi:id=nx
   · simp [hi] at hg;subst hg;refine ⟨.lp X.w.heap.size rec,by simp [X',hi],none,?_,fun _=>rfl,fun h=>by cases h⟩
     show (X.w.alloc (.loop rec)).heap[X.w.heap.size]? = _;rw [QJ]
     have:({ rec with state:=lpSt false false,pending:=none }:Loop)=rec:=by
      show ({ rec with state:=LoopState.ready,pending:=none }:Loop)=rec;rw [<- hst,<- hp]
     rw [this]
   · simp [hi] at hg;exact o4 id cc hi hg
 · intro id o hg;rw [Qn] at hg
   by_cases hi:id=nx
   · simp [hi] at hg;subst hg;exact ⟨hi ▸ g.new hn,fun r hr'=>by simp [Obj.refs] at hr'⟩
   · simp [hi] at hg;exact g.nums' (by omega) id o hg
 · intro b o hm;have:=m3 b o hm;refine ⟨?_,this.2⟩;rcases this.1 with h1 | h1
   · exact h1
   · intro hO';have:=hO b o hO';omega
include L in
theorem G.setLp {X:Cx} {h:Heap C} {nx id b:Nat} {lim:Lim} {rec:Loop} {cc:Ctl C} {busy dn:Bool} {ex:Nat} {o0:Go.Obj} {pend:Option Code} (g:G T X h nx lim)
 (ho:h.get id=some (.ctl cc)) (hρ:X.ρ id=some (.ctl (.lp b rec))) (hb:X.w.heap[b]? = some o0) (hn:∀ c e f,o0 ≠ .cells c e f) (hp:(dn=false->pend=none) /\ (dn=true->pend=some (.exit ex))) :
 ∃ X',X'.w={ X.w with heap:=X.w.heap.setIfInBounds b (.loop { rec with state:=lpSt busy dn,pending:=pend }) } /\ X'.ρ=X.ρ /\ G T X' (h.put id (.ctl (.lp busy dn ex))) nx lim /\ Step X nx lim X':=by
 let X':Cx:=⟨{ X.w with heap:=X.w.heap.setIfInBounds b (.loop { rec with state:=lpSt busy dn,pending:=pend }) },X.ρ,X.O⟩
 have hb':∀ o,X.mine b o:=fun o=>⟨id,_,hρ,rfl⟩
 have hs:Step X nx lim X':=by
  refine ⟨rfl,rfl,rfl,rfl,by simp [X'],fun _ _=>.refl _,fun _ _ _ hm=>hm,fun g o _ hno=>?_,fun g _ hno=>?_,fun a ha=>?_⟩
  · have hgb:g ≠ b:=fun e=>hno (e ▸ hb' o);exact Q6 (QU _ _ _ _ hgb) o
  · have hgb:g ≠ b:=fun e=>hno 0 (e ▸ hb' 0);exact QU _ _ _ _ hgb
  · by_cases hgb:a.block=b
    · unfold World.frozen?;rw [hgb,show X'.w.heap[b]? = _ from Vw _ _ _ _ hb,hb];cases o0 <;> first | rfl | exact absurd rfl (hn _ _ _)
    · exact Zs (QU _ _ _ _ hgb)
 have hch:Ch X X' nx lim id:=by
  refine ⟨hs,fun _ _=>rfl,fun g c e f hg=>?_,fun g o2 hg _ hno=>?_⟩
  · have hgb:g ≠ b:=by rintro rfl;rw [hb] at hg;cases hg;exact hn _ _ _ rfl
    exact ⟨c,by rw [show X'.w.heap[g]? = _ from QU _ _ _ _ hgb];exact hg,rfl,fun _ _=>rfl⟩
  · have hgb:g ≠ b:=by rintro rfl;exact hno _ hρ rfl
    rw [show X'.w.heap[g]? = _ from QU _ _ _ _ hgb];exact hg
 obtain ⟨o1,o2,o3,o4⟩:=G.others L g hch;have hsome:=g.dom id _ hρ;refine ⟨X',rfl,rfl,⟨?_,?_,?_,?_,?_,?_,g.apart,fun b o hm=>⟨(g.outer b o hm).1,?_⟩,fun b o hm=>?_,g.low,g.pre.step hs⟩,hs⟩
 · intro j t' e hg;rw [Ql hsome] at hg
   by_cases hj:j=id
   · simp [hj] at hg
   · simp [hj] at hg;exact o1 j t' e hj hg
 · intro j t' own' k hg;rw [Ql hsome] at hg
   by_cases hj:j=id
   · simp [hj] at hg
   · simp [hj] at hg;exact o2 j t' own' k hj hg
 · intro j ck' cv' k hg;rw [Ql hsome] at hg
   by_cases hj:j=id
   · simp [hj] at hg
   · simp [hj] at hg;exact o3 j ck' cv' k hj hg
 · intro j c2 hg;rw [Ql hsome] at hg
   by_cases hj:j=id
   · simp [hj] at hg;subst hg;exact ⟨.lp b rec,by simp [X',hj,hρ],pend,Vw _ _ _ _ hb,hp⟩
   · simp [hj] at hg;exact o4 j c2 hj hg
 · intro j k hr;rw [Ql hsome]
   by_cases hj:j=id
   · simp [hj]
   · simp [hj];exact g.dom j k hr
 · intro j o hg;rw [Ql hsome] at hg
   by_cases hj:j=id
   · simp [hj] at hg;subst hg;exact ⟨hj ▸ (g.nums id _ ho).1,by simp [Obj.refs]⟩
   · simp [hj] at hg;exact g.nums j o hg
 · have:=(g.outer b o hm).2;simp [X'];exact this
 · have:=g.outs b o hm;simp [X'];exact this
include L in
theorem G.setIt {X:Cx} {h:Heap C} {nx id bm r:Nat} {lim:Lim} {cc:Ctl C} {o0 ob:Go.Obj} {c2:Ctl C} (g:G T X h nx lim)
 (ho:h.get id=some (.ctl cc)) (hρ:X.ρ id=some (.ctl (.it bm r))) (hb:X.w.heap[r]? = some o0) (hn:∀ c e f,o0 ≠ .cells c e f) (hn2:∀ c e f,ob ≠ .cells c e f)
 (hok:∀ X':Cx,X'.w={ X.w with heap:=X.w.heap.setIfInBounds r ob }->Step X nx lim X'->QcD T X' c2 (.it bm r)) :
 ∃ X',X'.w={ X.w with heap:=X.w.heap.setIfInBounds r ob } /\ X'.ρ=X.ρ /\ G T X' (h.put id (.ctl c2)) nx lim /\ Step X nx lim X':=by
 let X':Cx:=⟨{ X.w with heap:=X.w.heap.setIfInBounds r ob },X.ρ,X.O⟩
 have hb':∀ o,X.mine r o:=fun o=>⟨id,_,hρ,.inr rfl⟩
 have hs:Step X nx lim X':=by
  refine ⟨rfl,rfl,rfl,rfl,by simp [X'],fun _ _=>.refl _,fun _ _ _ hm=>hm,fun g o _ hno=>?_,fun g _ hno=>?_,fun a ha=>?_⟩
  · have hgb:g ≠ r:=fun e=>hno (e ▸ hb' o);exact Q6 (QU _ _ _ _ hgb) o
  · have hgb:g ≠ r:=fun e=>hno 0 (e ▸ hb' 0);exact QU _ _ _ _ hgb
  · by_cases hgb:a.block=r
    · unfold World.frozen?;rw [hgb,show X'.w.heap[r]? = _ from Vw _ _ _ _ hb,hb];cases o0 <;> cases ob <;> first | rfl | exact absurd rfl (hn _ _ _) | exact absurd rfl (hn2 _ _ _)
    · exact Zs (QU _ _ _ _ hgb)
 have hch:Ch X X' nx lim id:=by
  refine ⟨hs,fun _ _=>rfl,fun g c e f hg=>?_,fun g o2 hg _ hno=>?_⟩
  · have hgb:g ≠ r:=by rintro rfl;rw [hb] at hg;cases hg;exact hn _ _ _ rfl
    exact ⟨c,by rw [show X'.w.heap[g]? = _ from QU _ _ _ _ hgb];exact hg,rfl,fun _ _=>rfl⟩
  · have hgb:g ≠ r:=by rintro rfl;exact hno _ hρ (.inr rfl)
    rw [show X'.w.heap[g]? = _ from QU _ _ _ _ hgb];exact hg
 obtain ⟨o1,o2,o3,o4⟩:=G.others L g hch;have hsome:=g.dom id _ hρ;refine ⟨X',rfl,rfl,⟨?_,?_,?_,?_,?_,?_,g.apart,fun b o hm=>⟨(g.outer b o hm).1,?_⟩,fun b o hm=>?_,g.low,g.pre.step hs⟩,hs⟩
 · intro j t' e hg;rw [Ql hsome] at hg
   by_cases hj:j=id
   · simp [hj] at hg
   · simp [hj] at hg;exact o1 j t' e hj hg
 · intro j t' own' k hg;rw [Ql hsome] at hg
   by_cases hj:j=id
   · simp [hj] at hg
   · simp [hj] at hg;exact o2 j t' own' k hj hg
 · intro j ck' cv' k hg;rw [Ql hsome] at hg
   by_cases hj:j=id
   · simp [hj] at hg
   · simp [hj] at hg;exact o3 j ck' cv' k hj hg
 · intro j c3 hg;rw [Ql hsome] at hg
   by_cases hj:j=id
   · simp [hj] at hg;subst hg;exact ⟨.it bm r,by simp [X',hj,hρ],hok X' rfl hs⟩
   · simp [hj] at hg;exact o4 j c3 hj hg
 · intro j k hr;rw [Ql hsome]
   by_cases hj:j=id
   · simp [hj]
   · simp [hj];exact g.dom j k hr
 · intro j o hg;rw [Ql hsome] at hg
   by_cases hj:j=id
   · simp [hj] at hg;subst hg;exact ⟨hj ▸ (g.nums id _ ho).1,by simp [Obj.refs]⟩
   · simp [hj] at hg;exact g.nums j o hg
 · have:=(g.outer b o hm).2;simp [X'];exact this
 · have:=g.outs b o hm;simp [X'];exact this
include L in
theorem G.newIt {X:Cx} {h:Heap C} {nx id b:Nat} {lim:Lim} {ck cv:C.Ty} {l:List (C.A ck × C.A cv)} {es:Array MapEntry} {k:Nat} (g:G T X h nx lim) (hn:nx < lim.top)
 (ho:h.get id=some (.map ck cv l)) (hρ:X.ρ id=some (.map b)) (hb:X.w.heap[b]? = some (.map es k)) (hE:Y0 T X ck cv l es k) :
 ∃ X',X'.w=X.w.alloc (.mapIter (some b) k #[] k) /\ G T X' ((nx,.ctl (.it ck cv l))::h.del id) (nx+1) lim /\ Step X nx lim X' /\ R T X' false (.itp nx) [.pointer (some ⟨X.w.heap.size,0,none⟩)]:=by
 let ob:Go.Obj:=.mapIter (some b) k #[] k
 let X':Cx:=⟨X.w.alloc ob,fun j=>if j=nx then some (.ctl (.it b X.w.heap.size)) else if j=id then none else X.ρ j,X.O⟩
 have hlt:b < X.w.heap.size:=(Array.getElem?_eq_some_iff.1 hb).1;have hidn:id ≠ nx:=by rintro rfl;rw [g.fresh hn] at hρ;cases hρ
 have hmine:∀ b' o,X'.mine b' o->X.mine b' o \/ b'=X.w.heap.size:=by
  rintro b' o ⟨j,l',h1,h2⟩
  by_cases hj:j=nx
  · simp [X',hj] at h1;subst h1;rcases h2 with h2 | h2
    · exact .inl ⟨id,_,hρ,h2⟩
    · exact .inr h2
  · by_cases hj2:j=id
    · simp only [X',hj,hj2,hidn,if_false,if_true] at h1;cases h1
    · simp only [X',hj,hj2,if_false] at h1;exact .inl ⟨j,l',h1,h2⟩
 have hs:Step X nx lim X':=by
  refine ⟨rfl,rfl,rfl,rfl,by simp [X'],?_,?_,fun b o hb _=>Q6 (Qr _ _ _ hb) o,fun b hb _=>Qr _ _ _ hb,fun a ha=>Zs (Qr _ _ _ ha)⟩
  · intro j ho';have hj:j ≠ nx:=by have:=ho'.1;omega
    by_cases hj2:j=id
    · simp only [X',hj,hj2,hidn,if_false,if_true];cases X.ρ id <;> simp [Qd]
    · simp [X',hj,hj2,Qd.refl]
  · intro b' o hb' hm;rcases hmine b' o hm with h1 | h1
    · exact h1
    · omega
 have hold:∀ b',b' < X.w.heap.size->X'.w.heap[b']? = X.w.heap[b']? := fun b' hb'=>Qr _ _ _ hb';have hch:Ch X X' nx lim nx->True:=fun _=>trivial;have sub:∀ j,j ≠ nx->j ≠ id->X'.ρ j=X.ρ j:=fun j h1 h2=>by simp [X',h1,h2]
 obtain ⟨gd,hgd⟩:∃ X0:Cx,X0=⟨X.w,fun j=>if j=id then none else X.ρ j,X.O⟩:=⟨_,rfl⟩
 -- the map's object is given up,a new block is made
 obtain ⟨X1,w1,g1,s1,hback⟩:=G.drop L g (h':=h.del id) (fun j=>by rw [QR];by_cases hj:j=id <;> simp [hj])
 have hρ1:X1.ρ id=none:=by
  cases hq:X1.ρ id with
  | none=>rfl
  | some l' =>
   have:=g1.dom id l' hq;rw [QR] at this;simp at this
 have hO1:X1.O=X.O:=s1.O;refine ⟨X',rfl,⟨?_,?_,?_,?_,?_,?_,?_,?_,?_,Nat.le_succ_of_le g.low,g.pre.step hs⟩,hs,?_⟩
 · intro j t' d' hg;rw [Qn] at hg
   by_cases hj:j=nx
   · simp [hj] at hg
   · simp only [hj,if_false] at hg;rw [QR] at hg
     by_cases hj2:j=id
     · simp [hj2] at hg
     · simp only [hj2,if_false] at hg;obtain ⟨b',c,h1,h2,h3,h4⟩:=g.var j t' d' hg;exact ⟨b',c,by rw [sub j hj hj2];exact h1,by rw [hold b' (Array.getElem?_eq_some_iff.1 h2).1];exact h2,h3.step L hs (g.nums j _ hg).2,h4⟩
 · intro j t' own l' hg;rw [Qn] at hg
   by_cases hj:j=nx
   · simp [hj] at hg
   · simp only [hj,if_false] at hg;rw [QR] at hg
     by_cases hj2:j=id
     · simp [hj2] at hg
     · simp only [hj2,if_false] at hg;obtain ⟨v,b',lo,hi,h1,h2⟩:=g.vec j t' own l' hg;refine ⟨v,b',lo,hi,by rw [sub j hj hj2];exact h1,?_⟩
       rcases h2 with h2 | ⟨off,cp,h2,h3,h4,h5⟩
       · exact .inl h2
       · refine .inr ⟨off,cp,h2,h3,h4,?_⟩;rcases h5 with ⟨ht,hlo,h5 | ⟨cs,e,h5,h6,h7⟩⟩ | ⟨ht,hlo,⟨cs,h5,h6⟩,h7⟩
         · exact .inl ⟨ht,hlo,.inl h5⟩
         · exact .inl ⟨ht,hlo,.inr ⟨cs,e,by rw [hold b' (Array.getElem?_eq_some_iff.1 h5).1];exact h5,h6,h7.step L hs (by simp [D.refs])⟩⟩
         · refine .inr ⟨ht,hlo,⟨cs,h5.step hs,h6.step L hs (by simp [D.refs])⟩,?_⟩
           rcases h7 with h7 | ⟨c0,e,h7,h8⟩
           · exact .inl h7
           · exact .inr ⟨c0,e,by rw [hold b' (Array.getElem?_eq_some_iff.1 h7).1];exact h7,h8⟩
 · intro j ck' cv' l' hg;rw [Qn] at hg
   by_cases hj:j=nx
   · simp [hj] at hg
   · simp only [hj,if_false] at hg;rw [QR] at hg
     by_cases hj2:j=id
     · simp [hj2] at hg
     · simp only [hj2,if_false] at hg;obtain ⟨b',es',k',h1,h2,h3⟩:=g.map j ck' cv' l' hg;exact ⟨b',es',k',by rw [sub j hj hj2];exact h1,by rw [hold b' (Array.getElem?_eq_some_iff.1 h2).1];exact h2,h3.step L hs⟩
 · intro j cc hg;rw [Qn] at hg
   by_cases hj:j=nx
   · simp [hj] at hg;subst hg;refine ⟨.it b X.w.heap.size,by simp [X',hj],Nat.ne_of_lt hlt,es,k,#[],k,by rw [hold b hlt];exact hb,QJ _ _,?_,hE.born,Nat.le_refl _,hE.nodup⟩
     have:(es.toList.filter fun e => !(#[]:Array Nat).contains e.born)=es.toList:=List.filter_eq_self.2 fun x _=>by simp
     rw [this];exact (hE.step L hs).ents
   · simp only [hj,if_false] at hg;rw [QR] at hg
     by_cases hj2:j=id
     · simp [hj2] at hg
     · simp only [hj2,if_false] at hg;obtain ⟨s,h1,h2⟩:=g.ctl j cc hg;refine ⟨s,by rw [sub j hj hj2];exact h1,?_⟩
       cases cc with
       | lp busy dn ex =>
        cases s with
        | lp b2 rec =>
         obtain ⟨pend,h3,h4⟩:=h2;exact ⟨pend,by rw [hold b2 (Array.getElem?_eq_some_iff.1 h3).1];exact h3,h4⟩
        | it bm r=>exact h2.elim
       | it ck' cv' l' =>
        cases s with
        | lp b rec=>exact h2.elim
        | it bm r =>
         obtain ⟨hbr,es',si,se,k',h3,h4,h5,h6⟩:=h2;exact ⟨hbr,es',si,se,k',by rw [hold bm (Array.getElem?_eq_some_iff.1 h3).1];exact h3,by rw [hold r (Array.getElem?_eq_some_iff.1 h4).1];exact h4,h5.step L hs,h6⟩
 · intro j l' hr;rw [Qn]
   by_cases hj:j=nx
   · simp [hj]
   · by_cases hj2:j=id
     · subst hj2;simp [X',hj] at hr
     · rw [sub j hj hj2] at hr;simp only [hj,if_false];rw [QR];simp only [hj2,if_false];exact g.dom j l' hr
 · intro j o hg;rw [Qn] at hg
   by_cases hj:j=nx
   · simp [hj] at hg;subst hg;exact ⟨hj ▸ g.new hn,fun r hr'=>by simp [Obj.refs] at hr'⟩
   · simp only [hj,if_false] at hg;rw [QR] at hg
     by_cases hj2:j=id
     · simp [hj2] at hg
     · simp only [hj2,if_false] at hg;exact g.nums' (by omega) j o hg
 · have up:∀ j l',X'.ρ j=some l' -> ∀ b' o,l'.owns b' o->b' < X.w.heap.size -> ∃ l0,X.ρ (if j=nx then id else j)=some l0 /\ l0.owns b' o:=by
    intro j l' h1 b' o h2 hb'
    by_cases hj:j=nx
    · simp only [X',hj,if_true,Option.some.injEq] at h1;subst h1;rcases h2 with h2 | h2
      · exact ⟨.map b,by rw [if_pos hj];exact hρ,h2⟩
      · omega
    · by_cases hj2:j=id
      · subst hj2;simp [X',hj] at h1
      · rw [sub j hj hj2] at h1;exact ⟨l',by rw [if_neg hj];exact h1,h2⟩
   have nid:∀ j l',X'.ρ j=some l'->j ≠ id:=fun j l' h1 e=>by subst e;simp [X',hidn] at h1
   have top:∀ j l',X'.ρ j=some l' -> ∀ o,l'.owns X.w.heap.size o->j=nx:=by
    intro j l' h1 o h2;refine Classical.byContradiction fun hj=>?_;have hj2:=nid j l' h1;rw [sub j hj hj2] at h1;have:=(g.outer _ o ⟨j,l',h1,h2⟩).2;omega
   intro i j l1 l2 b' o o' h1 h2 h3 h4
   by_cases hb':b' < X.w.heap.size
   · obtain ⟨k1,q1,q2⟩:=up i l1 h1 b' o h3 hb';obtain ⟨k2,q3,q4⟩:=up j l2 h2 b' o' h4 hb';have e:=g.apart _ _ _ _ _ _ _ q1 q3 q2 q4
     by_cases hi:i=nx <;> by_cases hj:j=nx
     · rw [hi,hj]
     · simp only [hi,hj,if_true,if_false] at e;exact absurd e.symm (nid j l2 h2)
     · simp only [hi,hj,if_true,if_false] at e;exact absurd e (nid i l1 h1)
     · simpa only [hi,hj,if_false] using e
   · have hbs:b'=X.w.heap.size:=by
      rcases hmine b' o ⟨i,l1,h1,h3⟩ with q | q
      · exact absurd (g.outer b' o q).2 hb'
      · exact q
     subst hbs;rw [top i l1 h1 o h3,top j l2 h2 o' h4]
 · intro b' o hm;rcases hmine b' o hm with h1 | h1
   · have:=g.outer b' o h1;exact ⟨this.1,by simp [X'];omega⟩
   · refine ⟨fun ho'=>?_,by simp [X'];omega⟩
     have:=g.outs b' o ho';omega
 · intro b' o ho';have:=g.outs b' o ho';simp [X'];omega
 · refine .itp fun s hv=>?_;simp [X'] at hv;exact ⟨b,hv.symm⟩
include L in
theorem G.grow {X:Cx} {h:Heap C} {nx:Nat} {lim:Lim} (g:G T X h nx lim) (w':World) (hsz:X.w.heap.size <= w'.heap.size) (hh:∀ b,b < X.w.heap.size->w'.heap[b]? = X.w.heap[b]?) (h1:w'.os=X.w.os) (h2:w'.tape=X.w.tape) (h3:w'.output=X.w.output)
 (h4:∀ a:Addr,a.block < X.w.heap.size->w'.frozen? a=X.w.frozen? a):G T ⟨w',X.ρ,X.O⟩ h nx lim /\ Step X nx lim ⟨w',X.ρ,X.O⟩:=by
 have hs:Step X nx lim ⟨w',X.ρ,X.O⟩:=⟨rfl,h1,h2,h3,hsz,fun _ _=>.refl _,fun _ _ _ hm=>hm,fun b o hb _=>by simp [World.cell?,hh b hb],fun b hb _=>hh b hb,h4⟩
 have hc:∀ n,Ch X ⟨w',X.ρ,X.O⟩ nx lim n:=fun n=>⟨hs,fun _ _=>rfl,fun b c e f hb=>⟨c,by simp only;rw [hh b (Array.getElem?_eq_some_iff.1 hb).1];exact hb,rfl,fun _ _=>rfl⟩,fun b o hb _ _=>by simp only;rw [hh b (Array.getElem?_eq_some_iff.1 hb).1];exact hb⟩
 refine ⟨⟨?_,?_,?_,?_,g.dom,g.nums,g.apart,?_,?_,g.low,g.pre.step hs⟩,hs⟩
 · intro id t d ho
   by_cases hi:id=0
   · exact (G.others L g (hc 1)).1 id t d (by omega) ho
   · exact (G.others L g (hc 0)).1 id t d hi ho
 · intro id t own l ho
   by_cases hi:id=0
   · exact (G.others L g (hc 1)).2.1 id t own l (by omega) ho
   · exact (G.others L g (hc 0)).2.1 id t own l hi ho
 · intro id ck cv l ho
   by_cases hi:id=0
   · exact (G.others L g (hc 1)).2.2.1 id ck cv l (by omega) ho
   · exact (G.others L g (hc 0)).2.2.1 id ck cv l hi ho
 · intro id cc ho
   by_cases hi:id=0
   · exact (G.others L g (hc 1)).2.2.2 id cc (by omega) ho
   · exact (G.others L g (hc 0)).2.2.2 id cc hi ho
 · intro b o hm;have:=g.outer b o hm;exact ⟨this.1,by simp only;omega⟩
 · intro b o hm;have:=g.outs b o hm;simp only at this ⊢;omega
end
section
variable {C:Cdc}
structure QX (P:Program) (T:Tab C):Prop where
 base:Laws T
 uBool:∀ u,T.ty u=.bool->P.underlying u=some .bool
 uInt:∀ u k,T.ty u=.int k->P.underlying u=some (.int k)
 uStr:∀ u,T.ty u=.str->P.underlying u=some .string
 uStruct:∀ u fs,T.ty u=.struct false fs -> ∃ fields:Array Field,P.underlying u=some (.struct fields) /\ fields.toList.map (·.type)=fs /\
  (∀ i (f : Field),fields[i]? = some f->f.offset=QP T (fs.take i)) /\ P.stoodInHeld u=false /\ P.eqGuardType P.depth u=false /\ (∀ f ∈ fields.toList,f.name ≠ "_")
 uField:∀ u fs f,T.ty u=.struct false fs->f ∈ fs -> ∃ i,P.info? f=some i /\ i.size=T.size f /\ 0 < T.size f
 uRow:∀ u fs,T.ty u=.struct true fs -> ∃ e,P.underlying u=some (.array fs.length e) /\ fs=List.replicate fs.length e /\ 0 < fs.length /\ ∃ i,P.info? e=some i /\ i.size=T.size e
 uArr:∀ u n e t,T.ty u=.arr n e t->P.underlying u=some (.array n e) /\ P.eqGuardType P.depth u=false
 uSl:∀ u e t,T.ty u=.sl e t->P.underlying u=some (.slice e)
 uElem:∀ u e t,(∃ n,T.ty u=.arr n e t) \/ T.ty u=.sl e t -> ∃ i z,P.info? e=some i /\ i.size=T.size e /\ i.bytes=T.bytes e /\ 0 < T.bytes e /\ 0 < T.size e /\ i.zero=some z /\ z.cells.size=T.size e /\
  ∀ X,R T X false (T.enc t (T.dflt t)) z.cells.toList
 uDsl:∀ u e,T.ty u=.dsl e->P.underlying u=some (.slice e) /\ (∀ d,fit T d (.inl e)=true->d.isRow=false) /\ ∃ i z,P.info? e=some i /\ i.size=1 /\ i.zero=some z /\ z.cells.size=1 /\ i.bytes <= 1024
 uMap:∀ u k v ck cv,T.ty u=.map k v ck cv->P.underlying u=some (.map k v) /\ T.ty k=T.ty (T.ety ck) /\ T.ty v=T.ty (T.ety cv) /\ ((∃ ik,T.ty k=.int ik) \/ T.ty k=.str \/ T.ty k=.bool) /\
  ∃ i z,P.info? v=some i /\ i.zero=some z /\ ∀ X,RV T X (T.enc cv (T.dflt cv)) z
 uPtr:∀ u e,T.ty u=.ptr e->P.underlying u=some (.pointer e)
 uFn:∀ u,T.ty u=.fn -> ∃ a b c,P.underlying u=some (.func a b c)
 info:∀ u d,fit T d (.inl u)=true -> ∃ i,P.info? u=some i /\ i.size=T.size u
 zero:∀ u z,T.zero u=some z -> ∃ i v,P.info? u=some i /\ i.zero=some v /\ z.refs=[] /\ ∀ X,R T X false z v.cells.toList
 eqb:∀ t a b r,T.eqb t a b=some r->eqS (T.enc t a) (T.enc t b)=some r
 order:P.follows .mixedOrders=true
variable {P:Program} {T:Tab C} (K:QX P T)
section inversions
variable {X:Cx} {v:Value}
theorem RV.int {k:IntKind} {n:Int} (h:RV T X (.int k n) v):v=.int k n /\ k.min <= n /\ n <= k.max:=by
 rcases h with ⟨h,_⟩ | ⟨_,h⟩
 · simp [D.isRow] at h
 · cases h with | int h=>exact ⟨rfl,h⟩
theorem RV.bool {b:Bool} (h:RV T X (.bool b) v):v=.bool b:=by
 rcases h with ⟨h,_⟩ | ⟨_,h⟩
 · simp [D.isRow] at h
 · cases h;rfl
theorem RV.str {s:List UInt8} (h:RV T X (.str s) v):v=.string ⟨⟨s⟩⟩:=by
 rcases h with ⟨h,_⟩ | ⟨_,h⟩
 · simp [D.isRow] at h
 · cases h;rfl
theorem RV.nils (h:RV T X .nils v):v=.slice none 0 0:=by
 rcases h with ⟨h,_⟩ | ⟨_,h⟩
 · simp [D.isRow] at h
 · cases h;rfl
theorem RV.one {d:D C} (hd:d.isRow=false) (h:RV T X d v):R T X false d [v]:=by
 rcases h with ⟨h,_⟩ | ⟨_,h⟩
 · simp [hd] at h
 · exact h
theorem RV.row {d:D C} (hd:d.isRow=true) (h:RV T X d v):∃ cs,R T X false d cs /\ v=.agg ⟨cs⟩:=by
 rcases h with ⟨_,h⟩ | ⟨h,_⟩
 · exact h
 · simp [hd] at h
theorem RV.mk {d:D C} (hd:d.isRow=false) (h:R T X false d [v]):RV T X d v:=.inr ⟨hd,h⟩
end inversions
theorem RO.mk {X:Cx} {nx:Nat} {lim:Lim} {d:D C} {v:Value} (h:RV T X d v) (hr:d.refs=[]):RO T X nx lim d v:=⟨h,by simp [hr]⟩
theorem R.ones {X:Cx} (L:Laws T) {m:Bool} {d:D C} {cs:List Value} (h:R T X m d cs):m=false->((∃ u,fit T d u=true) \/ ∃ t n l,d=.arr t n l) -> ∀ v ∈ cs,v.oneCell'=true:=by
 induction h with
 | @acons d ds c1 c2 _ _ i1 i2 =>
  rintro hm (⟨u,hf⟩ | ⟨t,n,l,hd⟩)
  · have:(∃ u,fit T d u=true) /\ (∃ u,fit T ds u=true):=by
     cases u with
     | inl t =>
      cases ht:T.ty t <;> simp only [fit,ht,Bool.false_eq_true] at hf
      rename_i fs;cases fs with
      | nil=>simp at hf
      | cons f fs=>simp only [Bool.and_eq_true] at hf;exact ⟨⟨_,hf.1⟩,⟨_,hf.2⟩⟩
     | inr fs =>
      cases fs with
      | nil=>simp [fit] at hf
      | cons f fs=>simp only [fit,Bool.and_eq_true] at hf;exact ⟨⟨_,hf.1⟩,⟨_,hf.2⟩⟩
    intro v hv;rcases List.mem_append.1 hv with hv | hv
    · exact i1 hm (.inl this.1) v hv
    · exact i2 hm (.inl this.2) v hv
  · simp at hd
 | arrS _ _ i1 i2 =>
  intro hm _ v hv;rcases List.mem_append.1 hv with hv | hv
  · exact i1 hm (.inl ⟨_,L.encFit _ _⟩) v hv
  · exact i2 hm (.inr ⟨_,_,_,rfl⟩) v hv
 | tup | top =>
  rintro _ (⟨u,hf⟩ | ⟨t,n,l,hd⟩)
  · cases u <;> simp [fit] at hf
  · simp at hd
 | vnil | vrow | vone=>intro hm;simp at hm
 | _=>intro _ _ v hv;first | (simp at hv;done) | (simp only [List.mem_singleton] at hv;subst hv;rfl)
include K in
theorem RV.cells {X:Cx} {d:D C} {v:Value} (h:RV T X d v) {t:TypeId} (hf:fit T d (.inl t)=true):R T X false d v.cells.toList:=by
 rcases h with ⟨_,cs,h,rfl⟩ | ⟨_,h⟩
 · exact h
 · have:=h.ones K.base rfl (.inl ⟨_,hf⟩) v (by simp)
   cases v <;> simp [Value.oneCell'] at this <;> exact h
theorem Y1 {d:D C} {t:TypeId} (hf:fit T d (.inl t)=true):d.isRow=true ↔ ((∃ a fs,T.ty t=.struct a fs) \/ ∃ n e ty,T.ty t=.arr n e ty):=by
 cases d <;> cases ht:T.ty t <;> simp [fit,ht,D.isRow] at hf ⊢
include K in
theorem JW {d:D C} {t:TypeId} (hf:fit T d (.inl t)=true) (w:World):(isAgg t).run P w=.ok d.isRow w:=by
 have hr:=Y1 hf;cases hb:d.isRow with
 | true =>
  rcases hr.1 hb with ⟨a,fs,ht⟩ | ⟨n,e,ty,ht⟩
  · cases a with
    | false =>
     obtain ⟨fields,hu,_⟩:=K.uStruct _ _ ht;simp [isAgg,run_underlying hu]
    | true =>
     obtain ⟨e,hu,_⟩:=K.uRow _ _ ht;simp [isAgg,run_underlying hu]
  · simp [isAgg,run_underlying (K.uArr _ _ _ _ ht).1]
 | false =>
  cases ht:T.ty t with
  | struct a fs=>have:=hr.2 (.inl ⟨a,fs,ht⟩);simp [hb] at this
  | arr n e ty=>have:=hr.2 (.inr ⟨n,e,ty,ht⟩);simp [hb] at this
  | bool=>simp [isAgg,run_underlying (K.uBool _ ht)]
  | int k=>simp [isAgg,run_underlying (K.uInt _ _ ht)]
  | str=>simp [isAgg,run_underlying (K.uStr _ ht)]
  | sl e ty=>simp [isAgg,run_underlying (K.uSl _ _ _ ht)]
  | ptr e=>simp [isAgg,run_underlying (K.uPtr _ _ ht)]
  | fn=>obtain ⟨a,b,c,hu⟩:=K.uFn _ ht;simp [isAgg,run_underlying hu]
  | dsl e=>simp [isAgg,run_underlying (K.uDsl _ _ ht).1]
  | map k v ck cv=>simp [isAgg,run_underlying (K.uMap _ _ _ _ _ ht).1]
  | none=>cases d <;> simp [fit,ht] at hf
include K in
theorem V6 {d:D C} {t:TypeId} (hf:fit T d (.inl t)=true) (w:World):(sizeOf t).run P w=.ok (T.size t) w:=by
 obtain ⟨i,hi,hs⟩:=K.info _ _ hf;simp [sizeOf,typeInfo,hi,hs]
include K in
theorem Y2 {X:Cx} {x:D C} {t:TypeId} {b off:Nat} {cs:List Value} {w:World} (hf:fit T x (.inl t)=true) (h:R T X false x cs) (hc:∀ j v,cs[j]? = some v->w.cell? ⟨b,off+j,none⟩=some v) :
 ∃ v,(loadVar t ⟨b,off,none⟩).run P w=.ok v w /\ RV T X x v:=by
 have hl:=h.len K.base hf;cases hb:x.isRow with
 | true =>
  refine ⟨.agg ⟨cs⟩,?_,.inl ⟨hb,cs,h,rfl⟩⟩;have:=run_loadCells_list (P:=P) w ⟨b,off,none⟩ cs (fun j v hj=>by rw [Addr.add_lit];exact hc j v hj)
  rw [hl] at this;simp [loadVar,JW K hf,hb,V6 K hf,this]
 | false =>
  have h1:∃ v,cs=[v]:=by
   cases h <;> simp [D.isRow] at hb <;> exact ⟨_,rfl⟩
  obtain ⟨v,rfl⟩:=h1;have h0:=hc 0 v rfl;exact ⟨v,by simp [loadVar,JW K hf,hb];simp at h0;rw [h0],.inr ⟨hb,h⟩⟩
def Post (P:Program) (T:Tab C) (X:Cx) (nx:Nat) (lim:Lim) (h':Heap C) (nx':Nat) (d:D C) (s:Sem Value):Prop :=
 ∃ v X',s.run P X.w=.ok v X'.w /\ G T X' h' nx' lim /\ Step X nx lim X' /\ RO T X' nx' lim d v
theorem Post.same {X:Cx} {nx:Nat} {lim:Lim} {h:Heap C} {d:D C} {s:Sem Value} (g:G T X h nx lim) (v:Value) (hs:s.run P X.w=.ok v X.w) (hv:RO T X nx lim d v):Post P T X nx lim h nx d s :=
 ⟨v,X,hs,g,.refl _ _ _,hv⟩
def Qfi (P:Program) (T:Tab C) (X:Cx) (nx:Nat) (lim:Lim) (h h':Heap C) (n n':Nat) (d:D C) (s:Sem Value):Prop :=
 ∃ v,s.run P X.w=.ok v X.w /\ h'=h /\ n'=n /\ RO T X nx lim d v
theorem Qfi.same {X:Cx} {nx n:Nat} {lim:Lim} {h:Heap C} {d:D C} {s:Sem Value} (v:Value) (hs:s.run P X.w=.ok v X.w) (hv:RO T X nx lim d v):Qfi P T X nx lim h h n n d s:=⟨v,hs,rfl,rfl,hv⟩
theorem Yc:∀ (q:D C) (i:Nat) (y:D C),q.nth i=some y -> ∀ r ∈ y.refs,r ∈ q.refs:=by
 intro q
 induction q with
 | acons a b _ ih =>
  intro i y hy r hr;cases i with
  | zero=>simp [D.nth] at hy;subst hy;simp [D.refs,hr]
  | succ i=>simp [D.refs];exact .inr (ih i y (by simpa [D.nth] using hy) r hr)
 | _=>intro i y hy;simp [D.nth] at hy
theorem refs_setNth:∀ (q:D C) (i:Nat) (y q':D C),q.setNth i y=some q' -> ∀ r ∈ q'.refs,r ∈ q.refs \/ r ∈ y.refs:=by
 intro q
 induction q with
 | acons a b _ ih =>
  intro i y q' hy r hr;cases i with
  | zero=>simp [D.setNth] at hy;subst hy;simp [D.refs] at hr ⊢;rcases hr with hr | hr <;> simp [hr]
  | succ i =>
   simp [D.setNth] at hy;obtain ⟨z,hz,rfl⟩:=hy;simp [D.refs] at hr ⊢;rcases hr with hr | hr
   · simp [hr]
   · rcases ih i y z hz r hr with h | h <;> simp [h]
 | _=>intro i y q' hy;simp [D.setNth] at hy
theorem QjH (L:Laws T):∀ (p:List Nat) {d x:D C},getPath T d p=some x -> ∀ r ∈ x.refs,r ∈ d.refs:=by
 intro p
 induction p with
 | nil=>intro d x hx;simp [getPath] at hx;subst hx;exact fun _ h=>h
 | cons i p ih =>
  intro d x hx r hr;cases d with
  | acons a b =>
   simp only [getPath] at hx;cases hn:(D.acons a b).nth i with
   | none=>simp [hn] at hx
   | some y =>
    simp only [hn] at hx;exact Yc _ i y hn r (ih hx r hr)
  | arr t n l =>
   simp only [getPath] at hx;have:=ih hx r hr;rw [L.encRefs] at this;simp at this
  | _=>simp [getPath] at hx
theorem refs_setPath (L:Laws T):∀ (p:List Nat) {d v d':D C},setPath T d p v=some d' -> ∀ r ∈ d'.refs,r ∈ d.refs \/ r ∈ v.refs:=by
 intro p
 induction p with
 | nil=>intro d v d' hx;simp [Ev.setPath] at hx;subst hx;exact fun _ h=>.inr h
 | cons i p ih =>
  intro d v d' hx r hr;cases d with
  | acons a b =>
   simp only [Ev.setPath] at hx;cases hn:(D.acons a b).nth i with
   | none=>simp [hn] at hx
   | some y =>
    simp only [hn] at hx;cases hs:Ev.setPath T y p v with
    | none=>simp [hs] at hx
    | some y' =>
     simp only [hs] at hx;rcases refs_setNth _ i y' d' hx r hr with h | h
     · exact .inl h
     · rcases ih hs r h with h | h
       · exact .inl (Yc _ i y hn r h)
       · exact .inr h
  | arr t n l =>
   simp only [Ev.setPath] at hx;cases hs:Ev.setPath T (T.enc t (l.getD i (T.dflt t))) p v with
   | none=>rw [hs] at hx;simp at hx
   | some y' =>
    simp only [hs] at hx;cases hd:T.dec t y' with
    | none=>simp [hd] at hx
    | some z=>simp [hd] at hx;subst hx;simp [D.refs] at hr
  | _=>simp [Ev.setPath] at hx
theorem ZZ.cells {X:Cx} {ty:C.Ty} {own:Bool} {l:List (C.A ty)} {v:Value} {b lo hi:Nat} (hv:ZZ T X ty own l v b lo hi) {b' off n cp:Nat} (he:v=.slice (some ⟨b',off,none⟩) n cp) :
 b'=b /\ n=l.length /\ l.length <= cp /\ ∃ cs,R T X false (.arr ty l.length l) cs /\ ∀ j u,cs[j]? = some u->X.w.cell? ⟨b,off+j,none⟩=some u:=by
 rcases hv with ⟨⟨a,h1,ha⟩,_⟩ | ⟨off',cp',h1,h2,h3,h4⟩
 · rw [h1] at he;simp only [Value.slice.injEq] at he;exact (ha _ _ he.1).elim
 · rw [h1] at he;simp at he;obtain ⟨⟨rfl,rfl⟩,rfl,rfl⟩:=he;refine ⟨rfl,rfl,h2,?_⟩;rcases h4 with ⟨_,_,h4 | ⟨c,e,h4,h5,h6⟩⟩ | ⟨_,_,⟨cs,h4,h5⟩,_⟩
   · have:l=[]:=List.length_eq_zero_iff.1 (by omega)
     subst this;exact ⟨[],.arr0 _,by simp⟩
   · refine ⟨_,h6,fun j u hj=>?_⟩;rw [List.getElem?_take] at hj
     split at hj
     · rw [List.getElem?_drop] at hj;simp only [World.cell?,h4]
       simpa using hj
     · simp at hj
   · exact ⟨cs,h5,fun j u hj=>(h4 j u hj).1⟩
theorem ZZ.len {X:Cx} {ty:C.Ty} {own:Bool} {l:List (C.A ty)} {v:Value} {b lo hi:Nat} (hv:ZZ T X ty own l v b lo hi):lenV v=l.length:=by
 rcases hv with ⟨⟨a,h1,_⟩,h2,_⟩ | ⟨off',cp',h1,_⟩
 · rw [h1,h2];rfl
 · rw [h1];rfl
section ops
open Pg (Ex)
variable {X:Cx} {h h':Heap C} {nx nx':Nat} {e:Pg.Lv} {lim:Lim} {tr:Tr} (g:G T X h nx lim)
include K g in
theorem QdB {t:TypeId} {a d:D C} {va:Value} (ha:RO T X nx lim a va) (hx:Ex e (KW T t a) h nx d h' nx' tr):Qfi P T X nx lim h h' nx nx' d (Instr.loadAt t va):=by
 unfold KW at hx;cases a with
 | ptr id p =>
  simp only at hx;obtain ⟨o,tr',ho,hx,_⟩:=Ex.rd hx;cases o with
  | vec ty own l=>exact (Ex.fail hx).elim
  | map _ _ _=>exact (Ex.fail hx).elim
  | ctl _=>exact (Ex.fail hx).elim
  | var u d0 =>
   simp only [QrZ] at hx;cases hp:getPath T d0 p with
   | none=>rw [hp] at hx;exact (Ex.fail hx).elim
   | some x =>
    simp only [hp] at hx;cases hf:fit T x (.inl t) with
    | false=>rw [hf] at hx;exact (Ex.fail hx).elim
    | true =>
     rw [hf] at hx;obtain ⟨rfl,rfl,rfl,rfl⟩:=Ex.ret hx;obtain ⟨b,c,h1,h2,h3,h4⟩:=g.var id u d0 ho;have hR:=ha.1.one rfl;cases hR with
     | @ptr _ _ a' hq =>
      obtain ⟨hok,rfl⟩:=hq b u h1;obtain ⟨c1,c2,c3,hc,hl,hr,_⟩:=h3.path K.base p hok h4 hp
      obtain ⟨v,hv,hrv⟩:=Y2 K (w:=X.w) (b:=b) (off:=offAt T u p) hf hr (by
       intro j w hj;simp only [World.cell?,h2]
       have:c.toList[offAt T u p+j]? = some w:=by
        rw [hc,<- hl,List.append_assoc,List.getElem?_append_right (by omega)]
        simp;rw [List.getElem?_append_left (List.getElem?_eq_some_iff.1 hj).1];exact hj
       simpa using this)
      refine Qfi.same v (by simp [Instr.loadAt,Instr.sureAddr,hv]) ⟨hrv,fun r hr'=>(g.nums id _ ho).2 r (QjH K.base p hp r hr')⟩
 | vptr id n p =>
  simp only at hx;obtain ⟨o,tr',ho,hx,_⟩:=Ex.rd hx;cases o with
  | var u d0=>exact (Ex.fail hx).elim
  | map _ _ _=>exact (Ex.fail hx).elim
  | ctl _=>exact (Ex.fail hx).elim
  | vec ty own l =>
   obtain ⟨v0,b,lo,hi,h1,h2⟩:=g.vec id ty own l ho
   have key:∀ i q x,p=i::q->Nat.beq n l.length=true->fit T x (.inl t)=true->(∀ c2,R T X false (T.enc ty (l.getD i (T.dflt ty))) c2->QT T (T.ety ty) q -> ∃ a1 a2 a3,c2=a1++a2++a3 /\ a1.length=offAt T (T.ety ty) q /\ R T X false x a2) ->
    ∃ v,(Instr.loadAt t va).run P X.w=.ok v X.w /\ RV T X x v:=by
    rintro i q x rfl hn hf hq
    have hn:n=l.length:=Nat.eq_of_beq_eq_true hn;have hR:=ha.1.one rfl;cases hR with
    | vptr hh =>
     obtain ⟨b',off,cp,hv0,hi',hok,rfl⟩:=(hh _ _ _ _ _ h1).2 (by rw [h2.len,hn])
     obtain ⟨rfl,_,_,cs,hcs,hcell⟩:=h2.cells hv0;obtain ⟨c1,c2,c3,hc,hl,hr⟩:=hcs.elem K.base i (by omega)
     obtain ⟨a1,a2,a3,ha',hl',hr'⟩:=hq c2 hr hok
     obtain ⟨v,hv,hrv⟩:=Y2 K (w:=X.w) (b:=b') (off:=off+i * T.size (T.ety ty)+offAt T (T.ety ty) q) hf hr' (by
      intro j w hj;rw [Nat.add_assoc,Nat.add_assoc];refine hcell _ w ?_;rw [hc,ha',<- hl,<- hl'];simp only [List.append_assoc];rw [List.getElem?_append_right (by omega)]
      rw [show c1.length+(a1.length+j) - c1.length=a1.length+j by omega]
      rw [List.getElem?_append_right (by omega)]
      rw [show a1.length+j - a1.length=j by omega]
      rw [List.getElem?_append_left (List.getElem?_eq_some_iff.1 hj).1];exact hj)
     exact ⟨v,by simp [Instr.loadAt,Instr.sureAddr,hv],hrv⟩
   simp only [Quk] at hx
   match p,hx with
   | [],hx=>exact (Ex.fail hx).elim
   | [i],hx =>
    simp only at hx;rcases Ex.br hx with ⟨hbn,hx⟩ | ⟨_,hx⟩
    · skip
      cases hb:(fit T (T.enc ty (l.getD i (T.dflt ty))) (.inl t)) with
      | false=>rw [hb] at hx;exact (Ex.fail hx).elim
      | true =>
      rw [hb] at hx;obtain ⟨rfl,rfl,rfl,rfl⟩:=Ex.ret hx;obtain ⟨v,hv,hrv⟩:=key i [] _ rfl hbn hb (fun c2 hc2 _=>⟨[],c2,[],by simp,by simp [offAt],hc2⟩)
      exact Qfi.same v hv (RO.mk hrv (K.base.encRefs _ _))
    · exact (Ex.fail hx).elim
   | [i,j],hx =>
    simp only at hx;cases hn:(T.enc ty (l.getD i (T.dflt ty))).nth j with
    | none=>rw [hn] at hx;exact (Ex.fail hx).elim
    | some x =>
     simp only [hn] at hx;rcases Ex.br hx with ⟨hbn,hx⟩ | ⟨_,hx⟩
     · cases hb:(fit T x (.inl t)) with
       | false=>rw [hb] at hx;exact (Ex.fail hx).elim
       | true =>
       rw [hb] at hx;obtain ⟨rfl,rfl,rfl,rfl⟩:=Ex.ret hx
       obtain ⟨v,hv,hrv⟩:=key i [j] _ rfl hbn hb (fun c2 hc2 hok=>by
        have hp:getPath T (T.enc ty (l.getD i (T.dflt ty))) [j]=some d:=by
         have he:∃ a b,T.enc ty (l.getD i (T.dflt ty))=.acons a b:=by
          generalize T.enc ty (l.getD i (T.dflt ty))=q at hn;cases q with
          | acons a b=>exact ⟨_,_,rfl⟩
          | _=>simp [D.nth] at hn
         obtain ⟨a,b,he⟩:=he;rw [he] at hn ⊢;simp [getPath,hn]
        obtain ⟨a1,a2,a3,h1,h2,h3,_⟩:=hc2.path K.base [j] hok (K.base.encFit _ _) hp;exact ⟨a1,a2,a3,h1,h2,h3⟩)
       refine Qfi.same v hv ⟨hrv,fun r hr=>?_⟩;have:=Yc _ _ _ hn r hr;rw [K.base.encRefs] at this;simp at this
     · exact (Ex.fail hx).elim
   | i::j::k::q,hx=>exact (Ex.fail hx).elim
 | cptr x =>
  simp only at hx;cases hf:fit T x (.inl t) with
  | false=>rw [hf] at hx;exact (Ex.fail hx).elim
  | true =>
   rw [hf] at hx;obtain ⟨rfl,rfl,rfl,rfl⟩:=Ex.ret hx;have hR:=ha.1.one rfl;cases hR with
   | @cptr _ b off cs hat hr =>
    obtain ⟨v,hv,hrv⟩:=Y2 K (w:=X.w) (b:=b) (off:=off) hf hr (fun j w hj=>(hat j w hj).1);exact Qfi.same v (by simp [Instr.loadAt,Instr.sureAddr,hv]) ⟨hrv,by simpa [D.refs] using ha.2⟩
 | _=>exact (Ex.fail hx).elim
include K g in
theorem QcF {t:TypeId} {a d:D C} {va:Value} (ha:RO T X nx lim a va) (hx:Ex e (KW T t a) h nx d h' nx' tr):Post P T X nx lim h' nx' d (Instr.loadAt t va):=by
 obtain ⟨v,h1,rfl,rfl,h2⟩:=QdB K g ha hx;exact Post.same g v h1 h2
end ops
end
section
variable {C:Cdc} {P:Program} {T:Tab C} (K:QX P T)
open Pg (Ex)
variable {X:Cx} {h h':Heap C} {nx nx':Nat} {e:Pg.Lv} {lim:Lim} {tr:Tr} (g:G T X h nx lim)
theorem V7 {α:Type} (l:List α) (k:Nat) (vs:List α) (h:k+vs.length <= l.length):(l.take k++vs++l.drop (k+vs.length)).length=l.length:=by
 simp only [List.length_append,List.length_take,List.length_drop];omega
theorem V8 {α:Type} (l:List α) (k:Nat) (vs:List α) (h:k+vs.length <= l.length) (o:Nat) (ho:o < k \/ k+vs.length <= o):(l.take k++vs++l.drop (k+vs.length))[o]? = l[o]? := by
 rcases ho with ho | ho
 · rw [List.append_assoc,List.getElem?_append_left (by simp only [List.length_take];omega),List.getElem?_take,if_pos ho]
 · rw [List.getElem?_append_right (by simp only [List.length_append,List.length_take];omega),List.getElem?_drop]
   congr 1
   simp only [List.length_append,List.length_take];omega
theorem V9 {α:Type} (l1 a1 a2 a3 l3 vs:List α) (hl:a2.length=vs.length) :
 (l1++(a1++a2++a3)++l3).take (l1.length+a1.length)++vs++(l1++(a1++a2++a3)++l3).drop (l1.length+a1.length+vs.length)=l1++(a1++vs++a3)++l3:=by
 have e1:l1++(a1++a2++a3)++l3=(l1++a1)++(a2++(a3++l3)):=by simp
 have e2:(l1++(a1++a2++a3)++l3).take (l1.length+a1.length)=l1++a1:=by
  rw [e1];exact List.take_left' (by simp)
 have e3:(l1++(a1++a2++a3)++l3).drop (l1.length+a1.length+vs.length)=a3++l3:=by
  rw [show l1++(a1++a2++a3)++l3=(l1++a1++a2)++(a3++l3) by simp];exact List.drop_left' (by simp;omega)
 rw [e2,e3];simp
theorem Kx {α:Type} (l:List α) (off n:Nat) (a1 a2 a3 vs:List α) (h:(l.drop off).take n=a1++a2++a3) (hn:off+n <= l.length) (hl:a2.length=vs.length) :
 ((l.take (off+a1.length)++vs++l.drop (off+a1.length+vs.length)).drop off).take n=a1++vs++a3:=by
 have hlen:a1.length+a2.length+a3.length=n:=by
  have:=congrArg List.length h;simp at this;omega
 have e:l=l.take off++(a1++a2++a3)++l.drop (off+n):=by
  rw [<- h,<- List.drop_drop,List.append_assoc,List.take_append_drop,List.take_append_drop]
 have h1:(l.take off).length=off:=by simp;omega
 have:=V9 (l.take off) a1 a2 a3 (l.drop (off+n)) vs hl;rw [<- e,h1] at this;rw [this,List.append_assoc,List.drop_left' h1,List.take_left' (by simp;omega)]
include K g in
theorem Qgi {t:TypeId} {a v d:D C} {va vv:Value} (ha:RO T X nx lim a va) (hv:RO T X nx lim v vv) (hx:Ex e (YX T t a v) h nx d h' nx' tr) :
 ∃ X',(Instr.storeAt t va vv).run P X.w=.ok () X'.w /\ G T X' h' nx' lim /\ Step X nx lim X' /\ d=.tup .anil:=by
 unfold YX at hx;cases a with
 | ptr id p =>
  simp only at hx;obtain ⟨o,tr',ho,hx,_⟩:=Ex.rd hx;cases o with
  | vec ty own l=>exact (Ex.fail hx).elim
  | map _ _ _=>exact (Ex.fail hx).elim
  | ctl _=>exact (Ex.fail hx).elim
  | var u d0 =>
   simp only [Qr0] at hx;cases hp:setPath T d0 p v with
   | none=>rw [hp] at hx;exact (Ex.fail hx).elim
   | some d1 =>
    cases ht:tyAt T u p with
    | none=>rw [hp,ht] at hx;exact (Ex.fail hx).elim
    | some t' =>
     simp only [hp,ht] at hx;cases hf:fit T v (.inl t) && fit T v (.inl t') with
     | false=>rw [hf] at hx;exact (Ex.fail hx).elim
     | true =>
      rw [hf] at hx;simp only [cond_true] at hx;obtain ⟨o',tr2,_,hx,_⟩:=Ex.wr hx;obtain ⟨rfl,rfl,rfl,rfl⟩:=Ex.ret hx;simp only [Bool.and_eq_true] at hf;obtain ⟨b,c,h1,h2,h3,h4⟩:=g.var id u d0 ho;have hR:=ha.1.one rfl;cases hR with
      | @ptr _ _ a' hq =>
       obtain ⟨hok,rfl⟩:=hq b u h1;have hvc:=hv.1.cells K hf.1;obtain ⟨c1,c2,c3,hc,hl,hlen,hr,hfd⟩:=h3.setPath K.base p hok h4 hp hvc ht hf.2;have hone:=hvc.ones K.base rfl (.inl ⟨_,hf.1⟩);have hsz:=hvc.len K.base hf.1
       have hst:=run_storeCells_at P b (offAt T u p) u vv.cells.toList 0 c X.w h2 (by
        have:c.size=c.toList.length:=by simp
        rw [this,hc];simp only [List.length_append];omega) hone
       have hsp:=V9 [] c1 c2 c3 [] vv.cells.toList hlen;simp only [List.nil_append,List.append_nil,List.length_nil,Nat.zero_add] at hsp;rw [<- hc,hl] at hsp;simp only [Nat.add_zero] at hst;rw [hsp] at hst
       obtain ⟨X',hX',hg,hs⟩:=G.setVar K.base g ho h1 h2 (c':=(c1++vv.cells.toList++c3).toArray) (by simpa using hr) (by
        have:c.size=c.toList.length:=by simp
        rw [this,hc];simp only [List.size_toArray,List.length_append];omega) hfd (fun r hr'=>by
         rcases refs_setPath K.base p hp r hr' with h5 | h5
         · exact (g.nums id _ ho).2 r h5
         · exact hv.2 r h5)
       refine ⟨X',?_,hg,hs,rfl⟩;have hsz':vv.cells.size=T.size t:=by simpa using hsz
       simp [Instr.storeAt,Instr.sureAddr,storeVar,V6 K hf.1,hsz',hst,hX']
 | vptr id n p =>
  simp only at hx;obtain ⟨o,tr',ho,hx,_⟩:=Ex.rd hx;cases o with
  | var u d0=>exact (Ex.fail hx).elim
  | map _ _ _=>exact (Ex.fail hx).elim
  | ctl _=>exact (Ex.fail hx).elim
  | vec ty own l =>
   cases own with
   | false=>exact (Ex.fail hx).elim
   | true =>
    simp only [Qr1] at hx
    match p,hx with
    | [],hx=>exact (Ex.fail hx).elim
    | i::j::q,hx=>exact (Ex.fail hx).elim
    | [i],hx =>
     simp only at hx;cases hd:T.dec ty v with
     | none=>rw [hd] at hx;exact (Ex.fail hx).elim
     | some z =>
      simp only [hd] at hx;rcases Ex.br hx with ⟨hbn,hx⟩ | ⟨_,hx⟩
      case inr=>exact (Ex.fail hx).elim
      cases hb:(fit T v (.inl t)) with
      | false=>rw [hb] at hx;exact (Ex.fail hx).elim
      | true =>
       rw [hb] at hx;simp only [cond_true] at hx;obtain ⟨o',tr2,_,hx,_⟩:=Ex.wr hx;obtain ⟨rfl,rfl,rfl,rfl⟩:=Ex.ret hx;have hn:n=l.length:=Nat.eq_of_beq_eq_true hbn;obtain ⟨v0,b,lo,hi,h1,h2⟩:=g.vec id ty true l ho;have hlenv:=h2.len;have hR:=ha.1.one rfl;cases hR with
       | vptr hh =>
        obtain ⟨b',off,cp,hv0,hi',hok,rfl⟩:=(hh _ _ _ _ _ h1).2 (by rw [h2.len,hn])
        have hvc:=hv.1.cells K hb;have hone:=hvc.ones K.base rfl (.inl ⟨_,hb⟩);have hsz:=hvc.len K.base hb;have hzr:=K.base.decR X ty _ _ _ hd hvc;have hzl:=hzr.len K.base (K.base.encFit _ _);rcases h2 with ⟨⟨a,q1,qa⟩,_⟩ | ⟨off',cp',q1,q2,q3,q4⟩
        · rw [q1] at hv0;simp only [Value.slice.injEq] at hv0;exact (qa _ _ hv0.1).elim
        · rw [q1] at hv0;simp at hv0;obtain ⟨⟨rfl,rfl⟩,_,rfl⟩:=hv0;rcases q4 with ⟨_,q5,q6 | ⟨c,ee,q6,q7,q8⟩⟩ | ⟨q5,_⟩
          · omega
          · obtain ⟨a1,a2,a3,hc,hl,hlen,hr⟩:=q8.setElem K.base i z (by omega) hzr
            have hmul:l.length * T.size (T.ety ty) <= cp' * T.size (T.ety ty):=Nat.mul_le_mul_right _ q2;have hcs:c.toList.length=c.size:=by simp
            have htot:a1.length+a2.length+a3.length=l.length * T.size (T.ety ty):=by
             have:=congrArg List.length hc;simp only [List.length_append,List.length_take,List.length_drop] at this;omega
            have hst:=run_storeCells_at P b (off'+i * T.size (T.ety ty)) ee vv.cells.toList 0 c X.w q6 (by omega) hone
            simp only [Nat.add_zero,<- hl] at hst;have hseg:=Kx c.toList off' (l.length * T.size (T.ety ty)) a1 a2 a3 vv.cells.toList hc (by omega) hlen
            have hgt:=V8 c.toList (off'+a1.length) vv.cells.toList (by omega)
            have hln:=V7 c.toList (off'+a1.length) vv.cells.toList (by omega)
            generalize hc':c.toList.take (off'+a1.length)++vv.cells.toList++c.toList.drop (off'+a1.length+vv.cells.toList.length)=k at hst hseg hgt hln
            obtain ⟨X',hX',_,hg,hs⟩:=G.setVec K.base g ho h1 q6 (c':=k.toArray) (l':=l.set i z) (v':=v0) (lo':=lo) (by simp [hln]) (by
             intro o ho';have:=hgt o (by omega)
             simpa using this) (Nat.le_refl _) (.inr rfl) ⟨Nat.le_refl _,fun _=>rfl⟩ (by
             intro X' hw hO hm _ hs;refine .inr ⟨off',cp',by simp [q1],by simpa using q2,q3,.inl ⟨rfl,q5,.inr ⟨_,ee,by rw [hw];exact setRow_heap _ _ _ _ _ _ q6,by simpa [hln] using q7,?_⟩⟩⟩
             have hr':=hr.step K.base hs (by simp [D.refs])
             simpa [hseg] using hr')
            refine ⟨X',?_,hg,hs,rfl⟩;have hsz':vv.cells.size=T.size t:=by simpa using hsz
            rw [hl] at hst;simp only [offAt,Nat.add_zero];simp [Instr.storeAt,Instr.sureAddr,storeVar,V6 K hb,hsz',hst,hX']
          · simp at q5
 | _=>exact (Ex.fail hx).elim
include K
omit g in
theorem QjI {s:TypeId} {fs:List TypeId} (hs:T.ty s=.struct false fs) {i:Nat} (hi:i < fs.length) :
 ∃ (fields:Array Field) (f:Field),P.underlying s=some (.struct fields) /\ fields[i]? = some f /\ f.type=fs.getD i 0 /\ f.type ∈ fs /\ f.offset=QP T (fs.take i):=by
 obtain ⟨fields,hu,hm,ho,_⟩:=K.uStruct _ _ hs;have h1:(fields.toList.map (·.type))[i]? = some (fs.getD i 0):=by rw [hm];simp [hi]
 rw [List.getElem?_map,Option.map_eq_some_iff] at h1;obtain ⟨f,hf,ht⟩:=h1;have hf':fields[i]? = some f:=by simpa using hf
 refine ⟨fields,f,hu,hf',ht,?_,ho i f hf'⟩;rw [ht];simp [hi]
omit g in
theorem JE {s:TypeId} {fs:List TypeId} (hs:T.ty s=.struct false fs) {i:Nat} (hi:i < fs.length) (w:World) (b off:Nat) :
 (Instr.fieldAt s (.pointer (some ⟨b,off,none⟩)) i).run P w=.ok (.pointer (some ⟨b,off+QP T (fs.take i),none⟩)) w:=by
 obtain ⟨fields,f,hu,hf,_,hmem,ho⟩:=QjI K hs hi;obtain ⟨inf,h1,h2,h3⟩:=K.uField _ _ _ hs hmem;have hne:¬ inf.size=0:=by omega
 simp [Instr.fieldAt,run_underlying hu,hf,Instr.sureAddr,fieldPlace,sizeOf,typeInfo,h1,hne,Addr.add_lit,ho]
include g
theorem QdC {s:TypeId} {i:Nat} {a d:D C} {va:Value} (ha:RO T X nx lim a va) (hx:Ex e (Ye T s a i) h nx d h' nx' tr):Post P T X nx lim h' nx' d (Instr.fieldAt s va i):=by
 unfold Ye at hx;cases hs:T.ty s with
 | struct isA fs =>
  cases isA with
  | true=>rw [hs] at hx;exact (Ex.fail hx).elim
  | false=>?_
  simp only [hs] at hx;cases hi:Nat.blt i fs.length with
  | false=>rw [hi] at hx;exact (Ex.fail hx).elim
  | true =>
   rw [hi] at hx;simp only [cond_true] at hx;have hi:i < fs.length:=by simpa [Nat.blt_eq] using hi
   have hok1:QT T s [i]:=by simp [QT,hs,hi]
   have hoff1:offAt T s [i]=QP T (fs.take i):=by simp [offAt,hs]
   match a,ha,hx with
   | .ptr id p,ha,hx =>
    obtain ⟨o,tr',ho,hx,_⟩:=Ex.rd hx;cases o with
    | vec ty own l=>exact (Ex.fail hx).elim
    | map _ _ _=>exact (Ex.fail hx).elim
    | ctl _=>exact (Ex.fail hx).elim
    | var u d0 =>
     simp only [Qr2] at hx;cases hty:decide (tyAt T u p=some s) with
     | false=>rw [hty] at hx;exact (Ex.fail hx).elim
     | true =>
      rw [hty] at hx;obtain ⟨rfl,rfl,rfl,rfl⟩:=Ex.ret hx;have hty:tyAt T u p=some s:=by simpa using hty
      obtain ⟨b,c,h1,h2,h3,h4⟩:=g.var id u d0 ho;have hR:=ha.1.one rfl;cases hR with
      | @ptr _ _ a' hq =>
       obtain ⟨hok,rfl⟩:=hq b u h1;obtain ⟨k1,k2⟩:=YZ hok hty i [] hok1;refine Post.same g _ (JE K hs hi X.w b _) ⟨.mk rfl (.ptr fun b' t' h5=>?_),?_⟩
       · rw [h1] at h5;simp at h5;obtain ⟨rfl,rfl⟩:=h5;exact ⟨k1,by rw [k2,hoff1]⟩
       · simpa [D.refs] using ha.2
   | .vptr id n [j],ha,hx =>
    obtain ⟨o,tr',ho,hx,_⟩:=Ex.rd hx;cases o with
    | var u d0=>exact (Ex.fail hx).elim
    | map _ _ _=>exact (Ex.fail hx).elim
    | ctl _=>exact (Ex.fail hx).elim
    | vec ty own l =>
     simp only [QoN] at hx;rcases Ex.br hx with ⟨hbn,hx⟩ | ⟨_,hx⟩
     case inr=>exact (Ex.fail hx).elim
     cases hb:(Nat.beq s (T.ety ty)) with
     | false=>rw [hb] at hx;exact (Ex.fail hx).elim
     | true =>
      rw [hb] at hx;obtain ⟨rfl,rfl,rfl,rfl⟩:=Ex.ret hx;have hn:n=l.length:=Nat.eq_of_beq_eq_true hbn;have hse:s=T.ety ty:=Nat.eq_of_beq_eq_true hb;obtain ⟨v0,b,lo,hi',h1,h2⟩:=g.vec id ty own l ho;have hR:=ha.1.one rfl;cases hR with
      | vptr hh =>
       obtain ⟨b',off,cp,hv0,hj,hok,rfl⟩:=(hh _ _ _ _ _ h1).2 (by rw [h2.len,hn])
       refine Post.same g _ (JE K hs hi X.w b' _) ⟨.mk rfl (.vptr fun v e b lo hi'' h5=>?_),?_⟩
       · rw [h1] at h5;simp at h5;obtain ⟨rfl,rfl,rfl,rfl,rfl⟩:=h5;refine ⟨by rw [h2.len];omega,fun _=>⟨b',off,cp,hv0,hj,by rw [<- hse];exact hok1,?_⟩⟩
         rw [<- hse,hoff1];simp [offAt]
       · simpa [D.refs] using ha.2
   | .cptr q,ha,hx =>
    simp only at hx;cases hf:fit T q (.inl s) with
    | false=>rw [hf] at hx;exact (Ex.fail hx).elim
    | true =>
     rw [hf] at hx;simp only [cond_true] at hx;cases hn:q.nth i with
     | none=>rw [hn] at hx;exact (Ex.fail hx).elim
     | some x =>
      rw [hn] at hx;obtain ⟨rfl,rfl,rfl,rfl⟩:=Ex.ret hx;have hR:=ha.1.one rfl;cases hR with
      | @cptr _ b off cs hat hr =>
       obtain ⟨c1,c2,c3,hc,hl,hr',_,_⟩:=hr.partT K.base hs hf hn;refine Post.same g _ (JE K hs hi X.w b off) ⟨.mk rfl (.cptr (cs:=c2) (fun j v hj=>?_) hr'),?_⟩
       · rw [<- hl,Nat.add_assoc];refine hat _ v ?_;rw [hc,List.append_assoc,List.getElem?_append_right (by omega)]
         rw [show c1.length+j - c1.length=j by omega,List.getElem?_append_left (List.getElem?_eq_some_iff.1 hj).1];exact hj
       · intro r hr2;exact ha.2 r (by simpa [D.refs] using Yc _ _ _ hn r (by simpa [D.refs] using hr2))
   | .vptr id n [],ha,hx=>exact (Ex.fail hx).elim
   | .vptr id n (_::_::_),ha,hx=>exact (Ex.fail hx).elim
   | .bool _,ha,hx=>exact (Ex.fail hx).elim
   | .int _ _,ha,hx=>exact (Ex.fail hx).elim
   | .str _,ha,hx=>exact (Ex.fail hx).elim
   | .anil,ha,hx=>exact (Ex.fail hx).elim
   | .acons _ _,ha,hx=>exact (Ex.fail hx).elim
   | .arr _ _ _,ha,hx=>exact (Ex.fail hx).elim
   | .tup _,ha,hx=>exact (Ex.fail hx).elim
   | .nils,ha,hx=>exact (Ex.fail hx).elim
   | .sl _ _ _,ha,hx=>exact (Ex.fail hx).elim
   | .vs _ _,ha,hx=>exact (Ex.fail hx).elim
   | .nilp,ha,hx=>exact (Ex.fail hx).elim
   | .fn _ _,ha,hx=>exact (Ex.fail hx).elim
   | .nilfn,ha,hx=>exact (Ex.fail hx).elim
   | .nilm,ha,hx=>exact (Ex.fail hx).elim
   | .bm _ _,ha,hx=>exact (Ex.fail hx).elim
   | .yl _ _ _ _ _ _ _,ha,hx=>exact (Ex.fail hx).elim
   | .top,ha,hx=>exact (Ex.fail hx).elim
 | _=>rw [hs] at hx;exact (Ex.fail hx).elim
omit g in
theorem Y3 {x:D C} {t:TypeId} {c1 c2 c3:List Value} (hf:fit T x (.inl t)=true) (hr:R T X false x c2) (w:World) :
 ∃ v,(part t ⟨c1++c2++c3⟩ c1.length).run P w=.ok v w /\ RV T X x v:=by
 have hl:=hr.len K.base hf;cases hb:x.isRow with
 | true =>
  refine ⟨.agg ⟨c2⟩,?_,.inl ⟨hb,c2,hr,rfl⟩⟩
  have:((⟨c1++c2++c3⟩:Array Value).extract c1.length (c1.length+T.size t))=⟨c2⟩:=by
   apply Array.ext';simp only [Array.toList_extract,List.extract_eq_take_drop];rw [<- hl,show c1.length+c2.length - c1.length=c2.length by omega,List.append_assoc,List.drop_left' rfl,List.take_left' rfl]
  simp only [part,Sem.run_bind,JW K hf,hb,Result.andThen_ok,V6 K hf,if_true,Sem.run_pure,this]
 | false =>
  have h1:∃ v,c2=[v]:=by
   cases hr <;> simp [D.isRow] at hb <;> exact ⟨_,rfl⟩
  obtain ⟨v,rfl⟩:=h1;exact ⟨v,by simp [part,JW K hf,hb],.inr ⟨hb,hr⟩⟩
theorem QoT {s:TypeId} {i:Nat} {a d:D C} {va:Value} (ha:RO T X nx lim a va) (hx:Ex e (Qfe T s a i) h nx d h' nx' tr):Post P T X nx lim h' nx' d (Instr.field s va i):=by
 unfold Qfe at hx;cases hs:T.ty s with
 | struct isA fs =>
  cases isA with
  | true=>rw [hs] at hx;exact (Ex.fail hx).elim
  | false=>?_
  simp only [hs] at hx;cases hf:fit T a (.inl s) with
  | false=>rw [hf] at hx;exact (Ex.fail hx).elim
  | true =>
   rw [hf] at hx;simp only [cond_true] at hx;cases hn:a.nth i with
   | none=>rw [hn] at hx;exact (Ex.fail hx).elim
   | some x =>
    rw [hn] at hx;obtain ⟨rfl,rfl,rfl,rfl⟩:=Ex.ret hx;obtain ⟨cs,hr,rfl⟩:=ha.1.row ((Y1 hf).2 (.inl ⟨_,fs,hs⟩));obtain ⟨c1,c2,c3,hc,hl,hr',hi,hfx⟩:=hr.partT K.base hs hf hn;obtain ⟨fields,f,hu,hfi,hty,_,ho⟩:=QjI K hs hi;obtain ⟨v,hv,hrv⟩:=Y3 K (c1:=c1) (c3:=c3) hfx hr' X.w;refine Post.same g v ?_ ⟨hrv,fun r hr2=>ha.2 r (Yc _ _ _ hn r hr2)⟩;rw [<- hc,hl] at hv;simp only [Instr.field,Sem.run_bind,run_underlying hu,Result.andThen_ok,hfi,asAgg,Sem.run_pure,ho];rw [hty];exact hv
 | _=>rw [hs] at hx;exact (Ex.fail hx).elim
end
section
variable {C:Cdc} {P:Program} {T:Tab C} (K:QX P T)
open Pg (Ex)
variable {X:Cx} {h h':Heap C} {nx nx':Nat} {e:Pg.Lv} {lim:Lim} {tr:Tr} (g:G T X h nx lim)
include K
omit g
theorem QZ {u el:TypeId} {ty:C.Ty} (hu:(∃ n,T.ty u=.arr n el ty) \/ T.ty u=.sl el ty) (w:World):(sizeOf el).run P w=.ok (T.size el) w /\ T.size el=T.size (T.ety ty) /\ T.ty el=T.ty (T.ety ty):=by
 obtain ⟨i,z,h1,h2,_⟩:=K.uElem _ _ _ hu;refine ⟨by simp [sizeOf,typeInfo,h1,h2],?_⟩
 rcases hu with ⟨n,hu⟩ | hu
 · exact ⟨(K.base.szArr _ _ _ _ hu).2.2,(K.base.szArr _ _ _ _ hu).2.1⟩
 · exact ⟨(K.base.szSl _ _ _ hu).2.2,(K.base.szSl _ _ _ hu).2.1⟩
theorem YI {t el:TypeId} {ty:C.Ty} (ht:T.ty t=.sl el ty) (b off len cp:Nat) (k:IntKind) (n:Int) (h0:0 <= n) (h1:n < len) (w:World) :
 (Instr.indexAt t (.slice (some ⟨b,off,none⟩) len cp) (.int k n)).run P w=.ok (.pointer (some ⟨b,off+n.toNat * T.size (T.ety ty),none⟩)) w:=by
 have hs:=QZ K (.inr ht) w;rw [<- hs.2.1];simp [Instr.indexAt,asIntOf,run_underlying (K.uSl _ _ _ ht),h0,h1,hs.1,Addr.add_lit]
theorem QaG {t el:TypeId} (ht:T.ty t=.dsl el) (b off len cp:Nat) (k:IntKind) (n:Int) (h0:0 <= n) (h1:n < len) (w:World) :
 (Instr.indexAt t (.slice (some ⟨b,off,none⟩) len cp) (.int k n)).run P w=.ok (.pointer (some ⟨b,off+n.toNat,none⟩)) w:=by
 obtain ⟨hu,_,i,z,hi,hs,_,_,_⟩:=K.uDsl _ _ ht;have hsz:(sizeOf el).run P w=.ok 1 w:=by simp [sizeOf,typeInfo,hi,hs]
 simp [Instr.indexAt,asIntOf,run_underlying hu,h0,h1,hsz,Addr.add_lit]
theorem Vx {t el:TypeId} {ty:C.Ty} {m:Nat} (ht:T.ty t=.arr m el ty) (b off:Nat) (k:IntKind) (n:Int) (h0:0 <= n) (h1:n < m) (w:World) :
 (Instr.indexAt t (.pointer (some ⟨b,off,none⟩)) (.int k n)).run P w=.ok (.pointer (some ⟨b,off+n.toNat * T.size (T.ety ty),none⟩)) w:=by
 have hs:=QZ K (.inl ⟨_,ht⟩) w;rw [<- hs.2.1];simp [Instr.indexAt,asIntOf,run_underlying (K.uArr _ _ _ _ ht).1,h0,h1,hs.1,Addr.add_lit,Instr.sureAddr]
theorem Qr7 {t:TypeId} {fs:List TypeId} (ht:T.ty t=.struct true fs):∃ el,P.underlying t=some (.array fs.length el) /\ (∀ w,(sizeOf el).run P w=.ok (T.size el) w) /\ (∀ i,i < fs.length->fs.getD i 0=el) /\
 ∀ i,i <= fs.length->QP T (fs.take i)=i * T.size el:=by
 obtain ⟨el,h1,h2,_,i,h3,h4⟩:=K.uRow _ _ ht;refine ⟨el,h1,fun w=>by simp [sizeOf,typeInfo,h3,h4],fun i hi=>?_,?_⟩
 · rw [h2];simp [List.getD_eq_getElem?_getD,List.getElem?_replicate,hi]
 · intro i hi;rw [h2,List.take_replicate,Nat.min_eq_left hi];clear hi
   induction i with
   | zero=>simp [QP]
   | succ i ih=>simp only [List.replicate_succ,QP,ih];rw [Nat.succ_mul];omega
theorem Vy {t:TypeId} {fs:List TypeId} (ht:T.ty t=.struct true fs) (b off:Nat) (k:IntKind) (n:Int) (h0:0 <= n) (h1:n < fs.length) (w:World) :
 (Instr.indexAt t (.pointer (some ⟨b,off,none⟩)) (.int k n)).run P w=.ok (.pointer (some ⟨b,off+QP T (fs.take n.toNat),none⟩)) w:=by
 obtain ⟨el,hu,hs,_,ho⟩:=Qr7 K ht;rw [ho _ (by omega)]
 simp [Instr.indexAt,asIntOf,run_underlying hu,h0,h1,hs,Addr.add_lit,Instr.sureAddr]
theorem QjJ {ty:C.Ty} {n:Nat} {l:List (C.A ty)} {b off:Nat} {cs:List Value} (hat:X.at b off cs) (hr:R T X false (.arr ty n l) cs) (i:Nat) (hi:i < n) :
 R T X false (.cptr (T.enc ty (l.getD i (T.dflt ty)))) [.pointer (some ⟨b,off+i * T.size (T.ety ty),none⟩)]:=by
 obtain ⟨c1,c2,c3,hc,hl,hr'⟩:=hr.elem K.base i hi;refine .cptr (cs:=c2) (fun j v hj=>?_) hr';rw [<- hl,Nat.add_assoc];refine hat _ v ?_;rw [hc,List.append_assoc,List.getElem?_append_right (by omega)]
 rw [show c1.length+j - c1.length=j by omega,List.getElem?_append_left (List.getElem?_eq_some_iff.1 hj).1];exact hj
include g
theorem QdD {t:TypeId} {a i d:D C} {va vi:Value} (ha:RO T X nx lim a va) (hi:RO T X nx lim i vi) (hx:Ex e (Yf T t a i) h nx d h' nx' tr):Post P T X nx lim h' nx' d (Instr.indexAt t va vi):=by
 unfold Yf at hx;cases i with
 | int k n =>
  obtain ⟨rfl,_⟩:=hi.1.int;simp only at hx;cases ht:T.ty t with
  | dsl el =>
   simp only [ht] at hx;cases a with
   | dsl m cp0 ds =>
    simp only at hx;rcases Ex.br hx with ⟨hb,hx⟩ | ⟨_,hx⟩
    · have hb:0 <= n /\ n < m:=by simpa using hb
      cases hq:ds.nth n.toNat with
      | none=>rw [hq] at hx;exact (Ex.fail hx).elim
      | some x =>
       rw [hq] at hx;obtain ⟨rfl,rfl,rfl,rfl⟩:=Ex.ret hx;have hR:=ha.1.one rfl;cases hR with
       | @dsl _ b off cp _ _ cs hat hr hn h1 hc =>
        obtain ⟨v,hv,hrv⟩:=hr.nth T rfl _ _ hq;have hrow:x.isRow=false:=D.ones_nth h1 hq;refine Post.same g _ (QaG K ht b off m cp k n hb.1 hb.2 X.w) ⟨.mk rfl (.cptr (cs:=[v]) (fun j u hj=>?_) (hrv.one hrow)),?_⟩
        · cases j with
          | zero=>simp at hj;subst hj;exact hat _ _ hv
          | succ j=>simp at hj
        · intro r hr';exact ha.2 r (Yc _ _ _ hq r (by simpa [D.refs] using hr'))
    · exact (Ex.fail hx).elim
   | _=>exact (Ex.fail hx).elim
  | sl el ty0 =>
   simp only [ht] at hx;cases a with
   | sl ty cap l =>
    simp only at hx;cases hd:decide (ty=ty0) with
    | false=>rw [hd] at hx;exact (Ex.fail hx).elim
    | true =>
     rw [hd] at hx;simp only [cond_true] at hx;have hd:ty=ty0:=by simpa using hd
     subst hd;rcases Ex.br hx with ⟨hb,hx⟩ | ⟨_,hx⟩
     · obtain ⟨rfl,rfl,rfl,rfl⟩:=Ex.ret hx;have hb:0 <= n /\ n < l.length:=by simpa using hb
       have hR:=ha.1.one rfl;cases hR with
       | sl0=>simp at hb;omega
       | @sl _ _ _ b off cp cs hat hr hc hcap =>
        refine Post.same g _ (YI K ht b off l.length cp k n hb.1 hb.2 X.w) ⟨.mk rfl (QjJ K hat hr n.toNat (by omega)),?_⟩
        simp [D.refs,K.base.encRefs]
     · exact (Ex.fail hx).elim
   | vs id m =>
    simp only at hx;obtain ⟨o,tr',ho,hy,_⟩:=Ex.rd hx;clear hx;cases o with
    | var u d0=>exact (Ex.fail hy).elim
    | map _ _ _=>exact (Ex.fail hy).elim
    | ctl _=>exact (Ex.fail hy).elim
    | vec ty own l =>
     simp only [QoO] at hy;cases hd:decide (ty=ty0) with
     | false=>rw [hd] at hy;exact (Ex.fail hy).elim
     | true =>
      rw [hd] at hy;simp only [cond_true] at hy;have hd:ty=ty0:=by simpa using hd
      subst hd;rcases Ex.br hy with ⟨hb,hx⟩ | ⟨_,hx⟩
      · obtain ⟨rfl,rfl,rfl,rfl⟩:=Ex.ret hx;simp only [Bool.and_eq_true,decide_eq_true_eq] at hb;have hm:m=l.length:=Nat.eq_of_beq_eq_true hb.1;obtain ⟨v0,b,lo,hi',h1,h2⟩:=g.vec id ty own l ho;have hR:=ha.1.one rfl;cases hR with
        | @vs _ _ cp a0 hh =>
         have hv0:=(hh _ _ _ _ _ h1).2 (by rw [h2.len,hm])
         cases a0 with
         | none =>
          rcases h2 with ⟨q1,q2,_⟩ | ⟨off',cp',q1,_⟩
          · subst q2;simp at hb;omega
          · rw [q1] at hv0;simp at hv0
         | some a1 =>
          have ha1:∃ off,a1=⟨b,off,none⟩:=by
           rcases h2 with ⟨q1,q2,_⟩ | ⟨off',cp',q1,_⟩
           · subst q2;simp at hb;omega
           · rw [q1] at hv0;simp at hv0;exact ⟨off',hv0.1.symm⟩
          obtain ⟨off,rfl⟩:=ha1;refine Post.same g _ (YI K ht b off m cp k n hb.2.1 (by omega) X.w) ⟨.mk rfl (.vptr fun v e b' lo' hi'' h5=>?_),by simpa [D.refs] using ha.2⟩
          rw [h1] at h5;simp at h5;obtain ⟨rfl,rfl,rfl,rfl,rfl⟩:=h5;exact ⟨by rw [h2.len];omega,fun _=>⟨b,off,cp,hv0,by omega,by simp [QT],by simp [offAt]⟩⟩
      · exact (Ex.fail hx).elim
   | asl ta id p lo m =>
    simp only at hx;cases hta:T.ty ta with
    | arr mm ee ty =>
     simp only [hta] at hx;cases hd:decide (ty=ty0) with
     | false=>rw [hd] at hx;exact (Ex.fail hx).elim
     | true =>
      rw [hd] at hx;simp only [cond_true] at hx;have hd:ty=ty0:=by simpa using hd
      subst hd;rcases Ex.br hx with ⟨hb,hx⟩ | ⟨_,hx⟩
      · obtain ⟨rfl,rfl,rfl,rfl⟩:=Ex.ret hx;have hb:0 <= n /\ n < m:=by simpa using hb
        have hR:=ha.1.one rfl;cases hR with
        | @asl _ _ _ _ cp _ ao hq hs _ =>
         obtain ⟨b0,o0,rfl⟩:=hs (by omega)
         refine Post.same g _ (YI K ht b0 o0 m cp k n hb.1 hb.2 X.w) ⟨.mk rfl (.ptr fun b' t' h5=>?_),by simpa [D.refs] using ha.2⟩
         obtain ⟨m1,e1,ty1,q1,q2,q3,q4,q56⟩:=hq b' t' h5;simp only [Option.some.injEq,Addr.mk.injEq,and_true] at q56;obtain ⟨q5,q6⟩:=q56;rw [hta] at q1;cases q1;have hok1:QT T ta [lo+n.toNat]:=by simp [QT,hta];omega
         have hoff1:offAt T ta [lo+n.toNat]=(lo+n.toNat) * T.size (T.ety ty):=by simp [offAt,hta,(K.base.szArr _ _ _ _ hta).2.2]
         obtain ⟨k1,k2⟩:=YZ q3 q2 (lo+n.toNat) [] hok1;exact ⟨k1,by rw [k2,hoff1,q5,q6,Nat.add_mul,Nat.add_assoc]⟩
      · exact (Ex.fail hx).elim
    | _=>rw [hta] at hx;exact (Ex.fail hx).elim
   | _=>exact (Ex.fail hx).elim
  | arr m el ty0 =>
   simp only [ht] at hx
   match a,ha,hx with
   | .ptr id p,ha,hx =>
    simp only at hx;obtain ⟨o,tr',ho,hx,_⟩:=Ex.rd hx;cases o with
    | vec ty own l=>exact (Ex.fail hx).elim
    | map _ _ _=>exact (Ex.fail hx).elim
    | ctl _=>exact (Ex.fail hx).elim
    | var u d0 =>
     simp only [QhX] at hx;cases hty:decide (tyAt T u p=some t) with
     | false=>rw [hty] at hx;exact (Ex.fail hx).elim
     | true =>
      rw [hty] at hx;simp only [cond_true] at hx;rcases Ex.br hx with ⟨hb,hx⟩ | ⟨_,hx⟩
      · obtain ⟨rfl,rfl,rfl,rfl⟩:=Ex.ret hx;have hb:0 <= n /\ n < m:=by simpa using hb
        have hty:tyAt T u p=some t:=by simpa using hty
        obtain ⟨b,c,h1,h2,h3,h4⟩:=g.var id u d0 ho;have hR:=ha.1.one rfl;cases hR with
        | @ptr _ _ a' hq =>
         obtain ⟨hok,rfl⟩:=hq b u h1;have hok1:QT T t [n.toNat]:=by simp [QT,ht];omega
         have hoff1:offAt T t [n.toNat]=n.toNat * T.size (T.ety ty0):=by simp [offAt,ht,(K.base.szArr _ _ _ _ ht).2.2]
         obtain ⟨k1,k2⟩:=YZ hok hty n.toNat [] hok1;refine Post.same g _ (Vx K ht b _ k n hb.1 hb.2 X.w) ⟨.mk rfl (.ptr fun b' t' h5=>?_),by simpa [D.refs] using ha.2⟩
         rw [h1] at h5;simp at h5;obtain ⟨rfl,rfl⟩:=h5;exact ⟨k1,by rw [k2,hoff1]⟩
      · exact (Ex.fail hx).elim
   | .cptr (.arr ty m' l),ha,hx =>
    simp only at hx;cases hf:fit T (.arr ty m' l) (.inl t) with
    | false=>rw [hf] at hx;exact (Ex.fail hx).elim
    | true =>
     rw [hf] at hx;simp only [cond_true] at hx;simp only [fit,ht,Bool.and_eq_true,Nat.beq_eq,decide_eq_true_eq] at hf;obtain ⟨rfl,rfl⟩:=hf;rcases Ex.br hx with ⟨hb,hx⟩ | ⟨_,hx⟩
     · obtain ⟨rfl,rfl,rfl,rfl⟩:=Ex.ret hx;have hb:0 <= n /\ n < m:=by simpa using hb
       have hR:=ha.1.one rfl;cases hR with
       | @cptr _ b off cs hat hr =>
        refine Post.same g _ (Vx K ht b off k n hb.1 hb.2 X.w) ⟨.mk rfl (QjJ K hat hr n.toNat (by omega)),?_⟩
        simp [D.refs,K.base.encRefs]
     · exact (Ex.fail hx).elim
   | .cptr (.bool _),ha,hx | .cptr (.int _ _),ha,hx | .cptr (.str _),ha,hx | .cptr .anil,ha,hx | .cptr (.acons _ _),ha,hx | .cptr (.tup _),ha,hx | .cptr .nils,ha,hx | .cptr (.sl _ _ _),ha,hx
   | .cptr (.vs _ _),ha,hx | .cptr (.ptr _ _),ha,hx | .cptr (.asl _ _ _ _ _),ha,hx | .cptr (.vptr _ _ _),ha,hx | .cptr (.cptr _),ha,hx | .cptr .nilp,ha,hx | .cptr (.fn _ _),ha,hx | .cptr .nilfn,ha,hx | .cptr .nilm,ha,hx | .cptr (.bm _ _),ha,hx | .cptr (.yl _ _ _ _ _ _ _),ha,hx | .cptr .top,ha,hx | .cptr (.itp _),ha,hx | .itp _,ha,hx
   | .bool _,ha,hx | .int _ _,ha,hx | .str _,ha,hx | .anil,ha,hx | .acons _ _,ha,hx | .arr _ _ _,ha,hx | .tup _,ha,hx | .nils,ha,hx | .sl _ _ _,ha,hx | .vs _ _,ha,hx | .asl _ _ _ _ _,ha,hx
   | .vptr _ _ _,ha,hx | .nilp,ha,hx | .fn _ _,ha,hx | .nilfn,ha,hx | .nilm,ha,hx | .bm _ _,ha,hx | .yl _ _ _ _ _ _ _,ha,hx | .top,ha,hx=>exact (Ex.fail hx).elim
  | struct isA fs =>
   cases isA with
   | false=>rw [ht] at hx;exact (Ex.fail hx).elim
   | true =>
    simp only [ht] at hx;cases a with
    | ptr id p =>
     simp only at hx;obtain ⟨o,tr',ho,hx,_⟩:=Ex.rd hx;cases o with
     | vec ty own l=>exact (Ex.fail hx).elim
     | map _ _ _=>exact (Ex.fail hx).elim
     | ctl _=>exact (Ex.fail hx).elim
     | var u d0 =>
      simp only [QhX] at hx;cases hty:decide (tyAt T u p=some t) with
      | false=>rw [hty] at hx;exact (Ex.fail hx).elim
      | true =>
       rw [hty] at hx;simp only [cond_true] at hx;rcases Ex.br hx with ⟨hb,hx⟩ | ⟨_,hx⟩
       · obtain ⟨rfl,rfl,rfl,rfl⟩:=Ex.ret hx;have hb:0 <= n /\ n < fs.length:=by simpa using hb
         have hty:tyAt T u p=some t:=by simpa using hty
         obtain ⟨b,c,h1,h2,h3,h4⟩:=g.var id u d0 ho;have hR:=ha.1.one rfl;cases hR with
         | @ptr _ _ a' hq =>
          obtain ⟨hok,rfl⟩:=hq b u h1;have hok1:QT T t [n.toNat]:=by simp [QT,ht];omega
          have hoff1:offAt T t [n.toNat]=QP T (fs.take n.toNat):=by simp [offAt,ht]
          obtain ⟨k1,k2⟩:=YZ hok hty n.toNat [] hok1;refine Post.same g _ (Vy K ht b _ k n hb.1 hb.2 X.w) ⟨.mk rfl (.ptr fun b' t' h5=>?_),by simpa [D.refs] using ha.2⟩
          rw [h1] at h5;simp at h5;obtain ⟨rfl,rfl⟩:=h5;exact ⟨k1,by rw [k2,hoff1]⟩
       · exact (Ex.fail hx).elim
    | cptr q =>
     simp only at hx;cases hf:fit T q (.inl t) with
     | false=>rw [hf] at hx;exact (Ex.fail hx).elim
     | true =>
      rw [hf] at hx;simp only [cond_true] at hx;rcases Ex.br hx with ⟨hb,hx⟩ | ⟨_,hx⟩
      · cases hn:q.nth n.toNat with
        | none=>rw [hn] at hx;exact (Ex.fail hx).elim
        | some x =>
         rw [hn] at hx;obtain ⟨rfl,rfl,rfl,rfl⟩:=Ex.ret hx;have hb:0 <= n /\ n < fs.length:=by simpa using hb
         have hR:=ha.1.one rfl;cases hR with
         | @cptr _ b off cs hat hr =>
          obtain ⟨c1,c2,c3,hc,hl,hr',_,_⟩:=hr.partT K.base ht hf hn;refine Post.same g _ (Vy K ht b off k n hb.1 hb.2 X.w) ⟨.mk rfl (.cptr (cs:=c2) (fun j v hj=>?_) hr'),?_⟩
          · rw [<- hl,Nat.add_assoc];refine hat _ v ?_;rw [hc,List.append_assoc,List.getElem?_append_right (by omega)]
            rw [show c1.length+j - c1.length=j by omega,List.getElem?_append_left (List.getElem?_eq_some_iff.1 hj).1];exact hj
          · intro r hr2;exact ha.2 r (by simpa [D.refs] using Yc _ _ _ hn r (by simpa [D.refs] using hr2))
      · exact (Ex.fail hx).elim
    | _=>exact (Ex.fail hx).elim
  | _=>rw [ht] at hx;exact (Ex.fail hx).elim
 | _=>exact (Ex.fail hx).elim
theorem QoU {t:TypeId} {a i d:D C} {va vi:Value} (ha:RO T X nx lim a va) (hi:RO T X nx lim i vi) (hx:Ex e (Qff T t a i) h nx d h' nx' tr):Post P T X nx lim h' nx' d (Instr.index t va vi):=by
 unfold Qff at hx;cases i with
 | int k n =>
  obtain ⟨rfl,_⟩:=hi.1.int;cases a with
  | arr ty m l =>
   simp only at hx;cases hf:fit T (.arr ty m l) (.inl t) with
   | false=>rw [hf] at hx;exact (Ex.fail hx).elim
   | true =>
    rw [hf] at hx;simp only [cond_true] at hx;rcases Ex.br hx with ⟨hb,hx⟩ | ⟨_,hx⟩
    · obtain ⟨rfl,rfl,rfl,rfl⟩:=Ex.ret hx;have hb:0 <= n /\ n < m:=by simpa using hb
      cases ht:T.ty t with
      | arr m2 el ty2 =>
       simp only [fit,ht,Bool.and_eq_true,Nat.beq_eq,decide_eq_true_eq] at hf;obtain ⟨rfl,rfl⟩:=hf;obtain ⟨cs,hr,rfl⟩:=ha.1.row rfl;obtain ⟨c1,c2,c3,hc,hl,hr'⟩:=hr.elem K.base n.toNat (by omega)
       have hs:=QZ K (.inl ⟨_,ht⟩) X.w;have hfe:fit T (T.enc ty (l.getD n.toNat (T.dflt ty))) (.inl el)=true:=by rw [Zv hs.2.2];exact K.base.encFit _ _
       obtain ⟨v,hv,hrv⟩:=Y3 K (c1:=c1) (c3:=c3) hfe hr' X.w;refine Post.same g v ?_ (RO.mk hrv (K.base.encRefs _ _));rw [<- hc,hl,<- hs.2.1] at hv;simp only [Instr.index,asIntOf,Sem.run_bind,Sem.run_pure,Result.andThen_ok,run_underlying (K.uArr _ _ _ _ ht).1];simp [hb,hs.1,hv]
      | _=>simp [fit,ht] at hf
    · exact (Ex.fail hx).elim
  | str s =>
   simp only at hx;cases ht:T.ty t with
   | str =>
    simp only [ht] at hx;rcases Ex.br hx with ⟨hb,hx⟩ | ⟨_,hx⟩
    · obtain ⟨rfl,rfl,rfl,rfl⟩:=Ex.ret hx;have hb:0 <= n /\ n < s.length:=by simpa using hb
      have hv:=ha.1.str;subst hv;have hlt:n.toNat < s.length:=by omega
      have hsz:(⟨⟨s⟩⟩:ByteArray).size=s.length:=rfl;refine Post.same g (.int .u8 (s.getD n.toNat 0).toNat) ?_ (RO.mk (.mk rfl (.int ?_)) rfl)
      · have e1:(⟨⟨s⟩⟩:ByteArray)[n.toNat]? = some (s.getD n.toNat 0):=by
         rw [getElem?_pos _ _ (by rw [hsz];exact hlt)]
         simp [ByteArray.getElem_eq_getElem_data,hlt]
        simp only [Instr.index,asIntOf,Sem.run_bind,Sem.run_pure,Result.andThen_ok,run_underlying (K.uStr _ ht)];simp [hb.1,e1]
      · generalize s.getD n.toNat 0=q;have:=q.toNat_lt;simp [IntKind.min,IntKind.max,IntKind.signed,IntKind.bits];omega
    · exact (Ex.fail hx).elim
   | _=>rw [ht] at hx;exact (Ex.fail hx).elim
  | acons p q =>
   simp only at hx;cases ht:T.ty t with
   | struct isA fs =>
    cases isA with
    | false=>rw [ht] at hx;exact (Ex.fail hx).elim
    | true =>
     simp only [ht] at hx;cases hf:fit T (.acons p q) (.inl t) with
     | false=>rw [hf] at hx;exact (Ex.fail hx).elim
     | true =>
      rw [hf] at hx;simp only [cond_true] at hx;rcases Ex.br hx with ⟨hb,hx⟩ | ⟨_,hx⟩
      · cases hn:(D.acons p q).nth n.toNat with
        | none=>rw [hn] at hx;exact (Ex.fail hx).elim
        | some x =>
         rw [hn] at hx;obtain ⟨rfl,rfl,rfl,rfl⟩:=Ex.ret hx;have hb:0 <= n /\ n < fs.length:=by simpa using hb
         obtain ⟨cs,hr,rfl⟩:=ha.1.row rfl;obtain ⟨c1,c2,c3,hc,hl,hr',hi,hfx⟩:=hr.partT K.base ht hf hn;obtain ⟨el,hu,hs,he,ho⟩:=Qr7 K ht;obtain ⟨v,hv,hrv⟩:=Y3 K (c1:=c1) (c3:=c3) hfx hr' X.w;refine Post.same g v ?_ ⟨hrv,fun r hr2=>ha.2 r (Yc _ _ _ hn r hr2)⟩;rw [<- hc,hl,ho _ (by omega),he _ hi] at hv
         simp only [Instr.index,asIntOf,Sem.run_bind,Sem.run_pure,Result.andThen_ok,run_underlying hu];simp [hb,hs,hv]
      · exact (Ex.fail hx).elim
   | _=>rw [ht] at hx;exact (Ex.fail hx).elim
  | _=>exact (Ex.fail hx).elim
 | _=>exact (Ex.fail hx).elim
end
theorem Ja (k:IntKind) (n:Int):k.min <= k.wrap n /\ k.wrap n <= k.max:=by
 unfold IntKind.wrap IntKind.min IntKind.max;cases k <;> simp [IntKind.signed,IntKind.bits] <;> (try split) <;> omega
theorem QaH (k:IntKind):k.min <= 0 /\ 0 <= k.max:=by
 cases k <;> simp [IntKind.min,IntKind.max,IntKind.signed,IntKind.bits]
theorem QjK {a:Int} (h0:0 <= a) (b:Int):a.tmod b <= a:=by
 obtain ⟨m,rfl⟩:=Int.eq_ofNat_of_zero_le h0;cases b with
 | ofNat n=>exact Int.ofNat_le.2 (Nat.mod_le m n)
 | negSucc n=>exact Int.ofNat_le.2 (Nat.mod_le m (n+1))
theorem QhZ {k:IntKind} {a:Int} (ha:k.min <= a /\ a <= k.max) (b:Int):k.min <= a.tmod b /\ a.tmod b <= k.max:=by
 have hz:=QaH k;rcases Int.le_total 0 a with h0 | h0
 · have h1:=Int.tmod_nonneg b h0;have h2:a.tmod b <= a:=QjK h0 b;omega
 · have e:a.tmod b = -((-a).tmod b):=by rw [Int.neg_tmod,Int.neg_neg]
   have h1:=Int.tmod_nonneg b (by omega:0 <= -a)
   have h2:(-a).tmod b <= -a:=QjK (by omega) b
   omega
theorem Qh0 {k:IntKind} {a:Int} (ha:k.min <= a /\ a <= k.max) (n:Nat):k.min <= a.fdiv (2 ^ n) /\ a.fdiv (2 ^ n) <= k.max:=by
 have hz:=QaH k;have hp:(0:Int) < 2 ^ n:=Int.pow_pos (by decide)
 rw [Int.fdiv_eq_ediv_of_nonneg _ (by omega)]
 rcases Int.le_total 0 a with h0 | h0
 · have h1:=Int.ediv_nonneg h0 (by omega:(0:Int) <= 2 ^ n)
   have h2:=Int.ediv_le_self (2 ^ n) h0;omega
 · have h1:a / 2 ^ n <= 0:=Int.ediv_nonpos_of_nonpos_of_neg h0 (by omega)
   have h2:a <= a / 2 ^ n:=by
    rw [Int.le_ediv_iff_mul_le hp];have:a * 2 ^ n <= a * 1:=Int.mul_le_mul_of_nonpos_left h0 (by omega)
    omega
   omega
section
variable {C:Cdc} {P:Program} {T:Tab C} (K:QX P T)
open Pg (Ex)
variable {X:Cx} {h h':Heap C} {nx nx':Nat} {e:Pg.Lv} {lim:Lim} {tr:Tr} (g:G T X h nx lim)
include g
theorem QjL {op:BinOp} {k k':IntKind} {a b:Int} {d:D C} (t:TypeId) (x y:Operand) (ha:k.min <= a /\ a <= k.max) (hk:Qcz op=true \/ k=k') (hx:Ex e (Qqw op k a b) h nx d h' nx' tr) :
 Post P T X nx lim h' nx' d (do eqGuard op t x y (.int k a) (.int k' b);binOp op t (.int k a) (.int k' b)):=by
 have hb:∀ (c:Bool),RO T X nx lim (.bool c) (.bool c):=fun c=>RO.mk (.mk rfl (.bool c)) rfl;have hi:∀ (n:Int),k.min <= n /\ n <= k.max->RO T X nx lim (.int k n) (.int k n):=fun n hn=>RO.mk (.mk rfl (.int hn)) rfl;have hw:∀ n,RO T X nx lim (.int k (k.wrap n)) (.int k (k.wrap n)):=fun n=>hi _ (Ja k n);cases op
 case shl =>
  rcases Ex.br hx with ⟨_,hx⟩ | ⟨hb0,hx⟩
  · exact (Ex.fail hx).elim
  · obtain ⟨rfl,rfl,rfl,rfl⟩:=Ex.ret hx;exact Post.same g _ (by simp [eqGuard_at_int,binOp,Op.shift,show ¬ b < 0 by simpa using hb0]) (hw _)
 case shr =>
  rcases Ex.br hx with ⟨_,hx⟩ | ⟨hb0,hx⟩
  · exact (Ex.fail hx).elim
  · obtain ⟨rfl,rfl,rfl,rfl⟩:=Ex.ret hx;exact Post.same g _ (by simp [eqGuard_at_int,binOp,Op.shift,show ¬ b < 0 by simpa using hb0]) (hi _ (Qh0 ha _))
 all_goals
  have hk:k=k':=by simpa [Qcz] using hk
  subst hk
 case quo =>
  rcases Ex.br hx with ⟨_,hx⟩ | ⟨hb0,hx⟩
  · exact (Ex.fail hx).elim
  · obtain ⟨rfl,rfl,rfl,rfl⟩:=Ex.ret hx;exact Post.same g _ (by simp [eqGuard_at_int,binOp,Op.intDiv,show ¬ b=0 by simpa using hb0]) (hw _)
 case rem =>
  rcases Ex.br hx with ⟨_,hx⟩ | ⟨hb0,hx⟩
  · exact (Ex.fail hx).elim
  · obtain ⟨rfl,rfl,rfl,rfl⟩:=Ex.ret hx;exact Post.same g _ (by simp [eqGuard_at_int,binOp,Op.intDiv,show ¬ b=0 by simpa using hb0]) (hi _ (QhZ ha _))
 all_goals obtain ⟨rfl,rfl,rfl,rfl⟩:=Ex.ret hx
 case add | sub | mul=>exact Post.same g _ (by simp [eqGuard_at_int,binOp,Op.intArith]) (hw _)
 case and | or | xor | andNot=>exact Post.same g _ (by simp only [eqGuard_at_int,binOp_and,binOp_or,binOp_xor,binOp_andNot,Sem.run_bind,Sem.run_pure,Result.andThen_ok];rfl) (hw _)
 all_goals exact Post.same g _ (by simp [eqGuard_at_int,binOp,Op.intCmp]) (hb _)
theorem QjM {op:BinOp} {a b:List UInt8} {d:D C} (t:TypeId) (x y:Operand) (hx:Ex e (Qjy op a b) h nx d h' nx' tr) :
 Post P T X nx lim h' nx' d (do eqGuard op t x y (.string ⟨⟨a⟩⟩) (.string ⟨⟨b⟩⟩);binOp op t (.string ⟨⟨a⟩⟩) (.string ⟨⟨b⟩⟩)):=by
 have hb:∀ (c:Bool),RO T X nx lim (.bool c) (.bool c):=fun c=>RO.mk (.mk rfl (.bool c)) rfl;have hl:∀ q:List UInt8,(⟨⟨q⟩⟩:ByteArray).toList=q:=fun q=>by rw [ByteArray.toList_eq]
 cases op <;> simp only [Qjy] at hx
 case eql =>
  obtain ⟨rfl,rfl,rfl,rfl⟩:=Ex.ret hx;exact Post.same g _ (by simp [eqGuard_at_string,binOp,Op.stringOp,hl]) (hb _)
 case neq =>
  obtain ⟨rfl,rfl,rfl,rfl⟩:=Ex.ret hx;exact Post.same g _ (by simp [eqGuard_at_string,binOp,Op.stringOp,hl]) (hb _)
 case add =>
  rcases Ex.br hx with ⟨hb0,hx⟩ | ⟨_,hx⟩
  · obtain ⟨rfl,rfl,rfl,rfl⟩:=Ex.ret hx;have hle:a.length+b.length <= 1000000000:=by simpa using hb0
    refine Post.same g (.string ⟨⟨a++b⟩⟩) ?_ (RO.mk (.mk rfl (.str _)) rfl);have h1:(⟨⟨a⟩⟩:ByteArray).size=a.length:=rfl;have h2:(⟨⟨b⟩⟩:ByteArray).size=b.length:=rfl;have h3:¬ (((⟨⟨a⟩⟩:ByteArray).size+(⟨⟨b⟩⟩:ByteArray).size:Nat):Int) > IntKind.i64.max:=by rw [h1,h2,IntKind.max_i64];omega
    have h4:(⟨⟨a⟩⟩:ByteArray)++⟨⟨b⟩⟩=⟨⟨a++b⟩⟩:=by
     apply ByteArray.ext;simp
    simp only [eqGuard_at_string,binOp,Op.stringOp,Sem.run_bind,Sem.run_pure,Result.andThen_ok];rw [if_neg h3,h4];rfl
  · exact (Ex.fail hx).elim
 all_goals exact (Ex.fail hx).elim
include K in
omit g in
theorem QqF {x y:D C} {b:Bool} {t:TypeId} {vx vy:Value} (he:eqS x y=some b) (hf:fit T x (.inl t)=true) (hx:RV T X x vx) (hy:RV T X y vy) (n:Nat) (w:World) :
 (Op.equalIn (n+1) t vx vy).run P w=.ok b w:=by
 have hl:∀ q:List UInt8,(⟨⟨q⟩⟩:ByteArray).toList=q:=fun q=>by rw [ByteArray.toList_eq]
 have ex:∀ q:D C,(∃ c,eqS x y=some c /\ x=q)->True:=fun _ _=>trivial;cases x <;> cases y <;> simp [eqS] at he
 case bool.bool a c =>
  rw [hx.bool,hy.bool];cases ht:T.ty t <;> simp [fit,ht] at hf
  rw [run_equalIn_bool w n t a c (K.uBool _ ht),<- he]
 case int.int k a k' c =>
  obtain ⟨rfl,rfl⟩:=he;rw [hx.int.1,hy.int.1];cases ht:T.ty t <;> simp [fit,ht] at hf
  rw [run_equalIn_int w n t k _ a c (K.uInt _ _ ht)]
 case str.str a c =>
  rw [hx.str,hy.str];cases ht:T.ty t <;> simp [fit,ht] at hf
  rw [run_equalIn_string w n t _ _ (K.uStr _ ht),hl,hl,<- he]
 all_goals
  have q1:=hx.one rfl;have q2:=hy.one rfl;cases ht:T.ty t <;> simp [fit,ht] at hf
  cases q1;cases q2;subst he
  first
   | simp [Op.equalIn,run_underlying (K.uPtr _ _ ht)]
   | (obtain ⟨a,b,c,hu⟩:=K.uFn _ ht;simp [Op.equalIn,run_underlying hu])
def JF (d:Nat) (el:TypeId) (n:Nat) (xs ys:Array Value):List Nat->Sem Bool
 | []=>pure true
 | i::is=>do
  let a <- part el xs (i * n)
  let b <- part el ys (i * n)
  let r <- Op.equalIn d el a b
  if (!r)=true then pure false else JF d el n xs ys is
omit g in
theorem Ky (d:Nat) (t el:TypeId) (n len:Nat) (xs ys:Array Value) (ht:P.underlying t=some (.array len el)) (hn:∀ w,(sizeOf el).run P w=.ok n w) (w:World) :
 (Op.equalIn (d+1) t (.agg xs) (.agg ys)).run P w=(JF d el n xs ys (List.range' 0 len)).run P w:=by
 simp only [Op.equalIn,Sem.run_bind,run_underlying ht,Result.andThen_ok,hn];rw [Std.Legacy.Range.forIn_eq_forIn_range'];have hs:Std.Legacy.Range.size [:len]=len:=by simp [Std.Legacy.Range.size]
 rw [hs];generalize List.range' 0 len=is;show ((forIn (m:=Sem) is _ _).run P w).andThen _=_
 induction is generalizing w with
 | nil=>simp [JF]
 | cons i is ih =>
  simp only [List.forIn_cons,JF,Sem.run_bind,Sem.run_ite];generalize (part el xs (i * n)).run P w=r1;cases r1 with
  | ok a w1 =>
   simp only [Result.andThen_ok];generalize (part el ys (i * n)).run P w1=r2;cases r2 with
   | ok b w2 =>
    simp only [Result.andThen_ok];generalize (Op.equalIn d el a b).run P w2=r3;cases r3 with
    | ok r w3 =>
     cases r
     · simp only [Result.andThen_ok,Bool.not_false,if_true,Sem.run_pure]
     · simp only [Result.andThen_ok,Bool.not_true,Bool.false_eq_true,if_false,Sem.run_pure];exact ih w3
    | halt x w3=>simp [Result.andThen]
   | halt x w2=>simp [Result.andThen]
  | halt x w1=>simp [Result.andThen]
include K in
omit g in
theorem Qup {ty:C.Ty} {t el:TypeId} {n:Nat} (ht:T.ty t=.arr n el ty) {l m:List (C.A ty)} {cx cy:List Value} (hx:R T X false (.arr ty n l) cx) (hy:R T X false (.arr ty n m) cy) (d:Nat) (w:World) :
 ∀ (j k:Nat) (b:Bool),j+k=n->eqL T (l.drop k) (m.drop k)=some b->(JF (d+1) el (T.size el) ⟨cx⟩ ⟨cy⟩ (List.range' k j)).run P w=.ok b w:=by
 have hlx:=(hx.lenArr K.base).2;have hly:=(hy.lenArr K.base).2;have hs:=QZ K (.inl ⟨_,ht⟩) w;intro j
 induction j with
 | zero =>
  intro k b hk he;rw [List.drop_eq_nil_of_le (by omega),List.drop_eq_nil_of_le (by omega)] at he
  simp [eqL] at he;subst he;simp [JF]
 | succ j ih =>
  intro k b hk he;have hkx:k < l.length:=by omega
  have hky:k < m.length:=by omega
  rw [List.drop_eq_getElem_cons hkx,List.drop_eq_getElem_cons hky] at he;simp only [eqL] at he;cases h1:T.eqb ty l[k] m[k] with
  | none=>rw [h1] at he;simp at he
  | some b1 =>
   cases h2:eqL T (l.drop (k+1)) (m.drop (k+1)) with
   | none=>rw [h1,h2] at he;simp at he
   | some b2 =>
    rw [h1,h2] at he;simp at he;subst he;obtain ⟨c1,c2,c3,hc,hl,hr⟩:=hx.elem K.base k (by omega)
    obtain ⟨d1,d2,d3,hd,hl',hr'⟩:=hy.elem K.base k (by omega)
    have gx:l.getD k (T.dflt ty)=l[k]:=by simp [hkx]
    have gy:m.getD k (T.dflt ty)=m[k]:=by simp [hky]
    rw [gx] at hr;rw [gy] at hr';have hfx:fit T (T.enc ty l[k]) (.inl el)=true:=by rw [Zv hs.2.2];exact K.base.encFit _ _
    have hfy:fit T (T.enc ty m[k]) (.inl el)=true:=by rw [Zv hs.2.2];exact K.base.encFit _ _
    obtain ⟨vx,hvx,hrx⟩:=Y3 K (c1:=c1) (c3:=c3) hfx hr w;obtain ⟨vy,hvy,hry⟩:=Y3 K (c1:=d1) (c3:=d3) hfy hr' w;rw [<- hc,hl,<- hs.2.1] at hvx;rw [<- hd,hl',<- hs.2.1] at hvy;have heq:=QqF K (K.eqb _ _ _ _ h1) hfx hrx hry d w;have hih:=ih (k+1) b2 (by omega) h2
    simp only [List.range'_succ,JF,Sem.run_bind,hvx,Result.andThen_ok,hvy,heq];cases b1
    · simp
    · simp [hih]
include K in
omit g in
theorem Quq (x:D C):(∀ (y:D C) (b:Bool) (t:TypeId) (vx vy:Value) (n:Nat) (w:World),x.dep <= n->eqD T x y=some b->Kv T x (.inl t)=true->fit T x (.inl t)=true->fit T y (.inl t)=true->RV T X x vx->RV T X y vy ->
 (Op.equalIn (n+1) t vx vy).run P w=.ok b w) /\
 (∀ (y:D C) (b:Bool) (fs:List TypeId) (fields:List Field) (px py cx cy:List Value) (n:Nat) (w:World),x.dep <= n->eqD T x y=some b->Kv T x (.inr fs)=true->fit T x (.inr fs)=true->fit T y (.inr fs)=true ->
  R T X false x cx->R T X false y cy->px.length=py.length->fields.map (·.type)=fs->(∀ (j : Nat) (f : Field),fields[j]? = some f->f.offset=px.length+QP T (fs.take j))->(∀ f ∈ fields,f.name ≠ "_") ->
  (Op.eqFields n ⟨px++cx⟩ ⟨py++cy⟩ fields).run P w=.ok b w):=by
 induction x with
 | acons d ds i1 i2 =>
  have row:∀ (y:D C) (b:Bool) (fs:List TypeId) (fields:List Field) (px py cx cy:List Value) (n:Nat) (w:World),(D.acons d ds).dep <= n->eqD T (D.acons d ds) y=some b->Kv T (D.acons d ds) (.inr fs)=true->fit T (D.acons d ds) (.inr fs)=true->fit T y (.inr fs)=true ->
   R T X false (D.acons d ds) cx->R T X false y cy->px.length=py.length->fields.map (·.type)=fs->(∀ (j : Nat) (f : Field),fields[j]? = some f->f.offset=px.length+QP T (fs.take j))->(∀ f ∈ fields,f.name ≠ "_") ->
   (Op.eqFields n ⟨px++cx⟩ ⟨py++cy⟩ fields).run P w=.ok b w:=by
   intro y b fs fields px py cx cy n w hn he hfl hfx hfy hx hy hp hft hoff hnm;cases y with
   | acons d' ds' =>
    simp only [eqD] at he;cases h1:eqD T d d' with
    | none=>rw [h1] at he;simp at he
    | some b1 =>
     cases h2:eqD T ds ds' with
     | none=>rw [h1,h2] at he;simp at he
     | some b2 =>
      rw [h1,h2] at he;simp at he;subst he;cases fs with
      | nil=>simp [fit] at hfx
      | cons f fs =>
       simp only [fit,Bool.and_eq_true] at hfx hfy;simp only [Kv,Bool.and_eq_true] at hfl;cases fields with
       | nil=>simp at hft
       | cons fd fields =>
        simp at hft;obtain ⟨hf1,hf2⟩:=hft;cases hx with
        | @acons _ _ c1 c2 hx1 hx2 =>
         cases hy with
         | @acons _ _ e1 e2 hy1 hy2 =>
          have hdep:d.dep+1 <= n /\ ds.dep <= n:=by simp [D.dep] at hn;omega
          obtain ⟨m,rfl⟩:∃ m,n=m+1:=⟨n - 1,by omega⟩
          have ho:=hoff 0 fd rfl;simp [QP] at ho;rw [<- hf1] at hfx hfy hfl;obtain ⟨vx,hvx,hrx⟩:=Y3 K (c1:=px) (c3:=c2) hfx.1 hx1 w;obtain ⟨vy,hvy,hry⟩:=Y3 K (c1:=py) (c3:=e2) hfy.1 hy1 w;have heq:=i1.1 d' b1 fd.type vx vy m w (by omega) h1 hfl.1 hfx.1 hfy.1 hrx hry
          have hl1:=hx1.len K.base hfx.1;have hl2:=hy1.len K.base hfy.1
          have hih:=i2.2 ds' b2 fs fields (px++c1) (py++e1) c2 e2 (m+1) w hdep.2 h2 hfl.2 hfx.2 hfy.2 hx2 hy2 (by simp;omega) hf2 (by
           intro j f' hj;have:=hoff (j+1) f' (by simpa using hj)
           rw [this];simp [QP,hl1,hf1];omega) (fun q hq=>hnm q (by simp [hq]))
          simp only [List.append_assoc] at hvx hvy hih;rw [<- hp] at hvy;simp only [Op.eqFields,hnm fd (by simp),ne_eq,not_false_eq_true,if_true,Sem.run_bind,ho,hvx,Result.andThen_ok,hvy,heq]
          cases b1
          · simp
          · simp [hih]
   | _=>simp [eqD,eqS] at he
  refine ⟨?_,row⟩;intro y b t vx vy n w hn he hfl hfx hfy hx hy;cases ht:T.ty t with
  | struct isA fs =>
   have hfl2:isA=false /\ Kv T (D.acons d ds) (.inr fs)=true:=by
    cases isA <;> cases fs <;> simp [Kv,ht] at hfl ⊢
    exact hfl
   obtain ⟨rfl,hfl2⟩:=hfl2;obtain ⟨cx,hx2,rfl⟩:=hx.row rfl;have hyr:y.isRow=true:=(Y1 hfy).2 (.inl ⟨_,fs,ht⟩);obtain ⟨cy,hy2,rfl⟩:=hy.row hyr;obtain ⟨fields,hu,hm,ho,hst,_,hnm⟩:=K.uStruct _ _ ht;have hfo:P.fieldsOf t=fields:=by simp [Program.fieldsOf,hu]
   rw [run_equalIn_struct w n t _ _ (by rw [hfo];exact hu) hst,hfo]
   have hyc:∃ a b,y=.acons a b:=by
    cases y <;> simp [eqD,eqS] at he
    exact ⟨_,_,rfl⟩
   refine row y b fs fields.toList [] [] cx cy n w hn he hfl2 (by rw [<- QaF ht ⟨_,_,rfl⟩];exact hfx) (by rw [<- QaF ht hyc];exact hfy) hx2 hy2 rfl hm (fun j f hj=>?_) hnm
   simpa using ho j f (by simpa using hj)
  | _=>simp [fit,ht] at hfx
 | anil =>
  refine ⟨?_,?_⟩
  · intro y b t vx vy n w hn he hfl hfx hfy hx hy;cases ht:T.ty t <;> simp [fit,ht] at hfx
    rename_i fs;cases fs with
    | nil =>
     have:=K.base.pos t (fun h=>by simp [ht] at h)
     rw [K.base.szStruct _ _ _ ht] at this;simp [QP] at this
    | cons=>simp at hfx
  · intro y b fs fields px py cx cy n w hn he hfl hfx hfy hx hy hp hft hoff hnm;cases fs with
    | nil =>
     cases fields with
     | nil =>
      cases y <;> simp [eqD,eqS] at he
      subst he;simp [Op.eqFields]
     | cons=>simp at hft
    | cons=>simp [fit] at hfx
 | arr ty m l =>
  refine ⟨?_,fun y b fs fields px py cx cy n w _ _ _ hf=>by simp [fit] at hf⟩
  intro y b t vx vy n w hn he hfl hfx hfy hx hy;cases ht:T.ty t with
  | arr m2 el ty2 =>
   simp only [fit,ht,Bool.and_eq_true,Nat.beq_eq,decide_eq_true_eq] at hfx;obtain ⟨rfl,rfl⟩:=hfx;cases y with
   | arr ty3 m3 l3 =>
    simp only [fit,ht,Bool.and_eq_true,Nat.beq_eq,decide_eq_true_eq] at hfy;obtain ⟨rfl,rfl⟩:=hfy;simp [eqD] at he;obtain ⟨cx,hx2,rfl⟩:=hx.row rfl;obtain ⟨cy,hy2,rfl⟩:=hy.row rfl;have hsz:=fun w=>(QZ K (.inl ⟨_,ht⟩) w).1;obtain ⟨k,rfl⟩:∃ k,n=k+1:=⟨n - 1,by simp [D.dep] at hn;omega⟩
    rw [Ky (k+1) t el (T.size el) m2 _ _ (K.uArr _ _ _ _ ht).1 hsz];exact Qup K ht hx2 hy2 k w m2 0 b (by omega) (by simpa using he)
   | _=>simp [eqD,eqS] at he
  | _=>simp [fit,ht] at hfx
 | _ =>
  refine ⟨?_,fun y b fs fields px py cx cy n w _ _ _ hf=>by simp [fit] at hf⟩
  intro y b t vx vy n w hn he hfl hfx hfy hx hy;refine QqF K (x:=_) (y:=y) ?_ hfx hx hy n w;cases y <;> simpa [eqD] using he
include K
theorem QoV {op:BinOp} {x y d:D C} {t:TypeId} {vx vy:Value} (ox oy:Operand) (hx:RO T X nx lim x vx) (hy:RO T X nx lim y vy) (hxi:¬ ∃ k n,x=.int k n /\ ∃ k n,y=.int k n) (hxs:¬ ∃ s,x=.str s /\ ∃ s,y=.str s)
 (hex:Ex e (QrS T op t x y) h nx d h' nx' tr):Post P T X nx lim h' nx' d (do eqGuard op t ox oy vx vy;binOp op t vx vy):=by
 unfold QrS at hex;cases hc:fit T x (.inl t) && fit T y (.inl t) && (Nat.ble x.dep 1000 && Kv T x (.inl t)) with
 | false=>rw [hc] at hex;exact (Ex.fail hex).elim
 | true =>
  rw [hc] at hex;simp only [cond_true] at hex;simp only [Bool.and_eq_true] at hc;obtain ⟨⟨hfx,hfy⟩,hdep,hfl⟩:=hc;have hdep:=Nat.le_of_ble_eq_true hdep;have key:∀ b,eqD T x y=some b -> ∀ w,(Op.equalIn 10000 t vx vy).run P w=.ok b w:=fun b hb w=>(Quq K x).1 y b t vx vy 9999 w (by omega) hb hfl hfx hfy hx.1 hy.1
  have fin:(∀ w,(eqGuard op t ox oy vx vy).run P w=.ok () w)->(∀ b w,(Op.equalIn 10000 t vx vy).run P w=.ok b w->(binOp .eql t vx vy).run P w=.ok (.bool b) w /\ (binOp .neq t vx vy).run P w=.ok (.bool !b) w) ->
   Post P T X nx lim h' nx' d (do eqGuard op t ox oy vx vy;binOp op t vx vy):=by
   intro h1 h2;cases op <;> simp only at hex
   case eql =>
    obtain ⟨b,h3,n3,t3,t4,he1,he2,_⟩:=Ex.bind hex;obtain ⟨hb,rfl,rfl,rfl⟩:=Ex.ofOpt he1;obtain ⟨rfl,rfl,rfl,rfl⟩:=Ex.ret he2;refine Post.same g (.bool b) ?_ (RO.mk (.mk rfl (.bool b)) rfl);simp only [Sem.run_bind,h1,Result.andThen_ok];exact (h2 b _ (key b hb _)).1
   case neq =>
    obtain ⟨b,h3,n3,t3,t4,he1,he2,_⟩:=Ex.bind hex;obtain ⟨hb,rfl,rfl,rfl⟩:=Ex.ofOpt he1;obtain ⟨rfl,rfl,rfl,rfl⟩:=Ex.ret he2;refine Post.same g (.bool !b) ?_ (RO.mk (.mk rfl (.bool !b)) rfl);simp only [Sem.run_bind,h1,Result.andThen_ok];exact (h2 b _ (key b hb _)).2
   all_goals exact (Ex.fail hex).elim
  have none:eqD T x y=none->False:=by
   intro hn;cases op <;> simp only at hex
   case eql=>obtain ⟨b,_,_,_,_,he1,_⟩:=Ex.bind hex;rw [hn] at he1;exact Ex.fail he1
   case neq=>obtain ⟨b,_,_,_,_,he1,_⟩:=Ex.bind hex;rw [hn] at he1;exact Ex.fail he1
   all_goals exact Ex.fail hex
  have aggs:∀ cx cy:List Value,vx=.agg ⟨cx⟩->vy=.agg ⟨cy⟩->P.eqGuardType P.depth t=false->Post P T X nx lim h' nx' d (do eqGuard op t ox oy vx vy;binOp op t vx vy):=by
   rintro cx cy rfl rfl hg
   refine fin (fun w=>?_) (fun b w hb=>⟨by rw [run_eql_struct,hb];rfl,by rw [run_neq_struct,hb];rfl⟩)
   unfold eqGuard;cases op <;> simp [hg]
  cases ht:T.ty t with
  | struct isA fs =>
   obtain ⟨cx,_,h1⟩:=hx.1.row ((Y1 hfx).2 (.inl ⟨_,fs,ht⟩));obtain ⟨cy,_,h2⟩:=hy.1.row ((Y1 hfy).2 (.inl ⟨_,fs,ht⟩))
   have hfl2:isA=false:=by
    cases isA with
    | false=>rfl
    | true =>
     have hpos:=K.base.pos t (fun h=>by simp [ht] at h)
     rw [K.base.szStruct _ _ _ ht] at hpos;exfalso;cases x <;> simp [fit,ht] at hfx
     · cases fs with
       | nil=>simp [QP] at hpos
       | cons=>simp at hfx
     · cases fs <;> simp [Kv,ht] at hfl
   subst hfl2;obtain ⟨_,_,_,_,_,hg,_⟩:=K.uStruct _ _ ht;exact aggs cx cy h1 h2 hg
  | arr n el ty =>
   obtain ⟨cx,_,h1⟩:=hx.1.row ((Y1 hfx).2 (.inr ⟨_,_,_,ht⟩));obtain ⟨cy,_,h2⟩:=hy.1.row ((Y1 hfy).2 (.inr ⟨_,_,_,ht⟩));exact aggs cx cy h1 h2 (K.uArr _ _ _ _ ht).2
  | bool =>
   cases x <;> simp [fit,ht] at hfx
   cases y <;> simp [fit,ht] at hfy
   rw [hx.1.bool,hy.1.bool];rw [hx.1.bool,hy.1.bool] at fin;refine fin (fun w=>by rw [eqGuard_at_bool];rfl) (fun b w hb=>?_)
   constructor <;> simp only [binOp,Op.equal,Op.maxDepth,Sem.run_bind,hb,Result.andThen_ok,Sem.run_pure]
  | int k =>
   cases x <;> simp [fit,ht] at hfx
   cases y <;> simp [fit,ht] at hfy
   exact absurd ⟨_,_,rfl,_,_,rfl⟩ hxi
  | str =>
   cases x <;> simp [fit,ht] at hfx
   cases y <;> simp [fit,ht] at hfy
   exact absurd ⟨_,rfl,_,rfl⟩ hxs
  | sl el ty =>
   exfalso;apply none;cases x <;> simp [fit,ht] at hfx <;> cases y <;> simp [fit,ht] at hfy <;> rfl
  | ptr el =>
   have h1:∃ a,vx=.pointer a:=by
    cases x <;> simp [fit,ht] at hfx <;> have q:=hx.1.one rfl <;> cases q <;> exact ⟨_,rfl⟩
   have h2:∃ a,vy=.pointer a:=by
    cases y <;> simp [fit,ht] at hfy <;> have q:=hy.1.one rfl <;> cases q <;> exact ⟨_,rfl⟩
   obtain ⟨a,rfl⟩:=h1;obtain ⟨b,rfl⟩:=h2;refine fin (fun w=>by rw [eqGuard_at_pointer];rfl) (fun b w hb=>?_)
   constructor <;> simp only [binOp,Op.equal,Op.maxDepth,Sem.run_bind,hb,Result.andThen_ok,Sem.run_pure]
  | fn =>
   have h1:(∃ a b c,vx=.func a b c) \/ vx=.nilFunc:=by
    cases x <;> simp [fit,ht] at hfx <;> have q:=hx.1.one rfl <;> cases q
    · exact .inl ⟨_,_,_,rfl⟩
    · exact .inr rfl
    · exact .inl ⟨_,_,_,rfl⟩
   have h2:(∃ a b c,vy=.func a b c) \/ vy=.nilFunc:=by
    cases y <;> simp [fit,ht] at hfy <;> have q:=hy.1.one rfl <;> cases q
    · exact .inl ⟨_,_,_,rfl⟩
    · exact .inr rfl
    · exact .inl ⟨_,_,_,rfl⟩
   refine fin (fun w=>?_) (fun b w hb=>?_)
   · rcases h1 with ⟨_,_,_,rfl⟩ | rfl
     · rw [eqGuard_at_func];rfl
     · rw [eqGuard_at_nilFunc];rfl
   · rcases h1 with ⟨_,_,_,rfl⟩ | rfl <;> rcases h2 with ⟨_,_,_,rfl⟩ | rfl <;>
      constructor <;> simp only [binOp,Op.equal,Op.maxDepth,Sem.run_bind,hb,Result.andThen_ok,Sem.run_pure]
  | dsl el =>
   exfalso;apply none;cases x <;> simp [fit,ht] at hfx <;> cases y <;> simp [fit,ht] at hfy <;> rfl
  | map kt vt ck cv =>
   exfalso;apply none;cases x <;> simp [fit,ht] at hfx <;> cases y <;> simp [fit,ht] at hfy <;> rfl
  | none=>cases x <;> simp [fit,ht] at hfx
theorem Qur {op:BinOp} {x y d:D C} {t:TypeId} {vx vy:Value} (ox oy:Operand) (hx:RO T X nx lim x vx) (hy:RO T X nx lim y vy) (hex:Ex e (binD T op t x y) h nx d h' nx' tr) :
 Post P T X nx lim h' nx' d (do eqGuard op t ox oy vx vy;binOp op t vx vy):=by
 unfold binD at hex
 by_cases h1:∃ k n,x=.int k n /\ ∃ k n,y=.int k n
 · obtain ⟨k,a,rfl,k',b,rfl⟩:=h1;simp only at hex;cases hc:Qcz op || decide (k=k') with
   | false=>rw [hc] at hex;exact (Ex.fail hex).elim
   | true =>
    rw [hc] at hex;obtain ⟨rfl,ha⟩:=hx.1.int;obtain ⟨rfl,_⟩:=hy.1.int;exact QjL g t ox oy ha (by simpa using hc) hex
 · by_cases h2:∃ s,x=.str s /\ ∃ s,y=.str s
   · obtain ⟨a,rfl,b,rfl⟩:=h2;rw [hx.1.str,hy.1.str];exact QjM g t ox oy hex
   · by_cases h3:∃ ty c l,x=.sl ty c l /\ y=.nils
     · obtain ⟨ty,c,l,rfl,rfl⟩:=h3;simp only at hex
       split at hex
       · rename_i el ty' ht;have hu:=K.uSl _ _ _ ht;rw [hy.1.nils]
         have hne:∀ {op:BinOp} {d:D C} {r:Bool},l.isEmpty=false->op=.eql /\ r=false \/ op=.neq /\ r=true->d=.bool r->Post P T X nx lim h nx d (do eqGuard op t ox oy vx (.slice none 0 0);binOp op t vx (.slice none 0 0)):=by
          rintro op d r hl hop rfl
          have hR:=hx.1.one rfl;cases hR with
          | sl0=>simp at hl
          | @sl _ _ _ b off cp cs hat hr hc hcap =>
           refine Post.same g (.bool r) ?_ (RO.mk (.mk rfl (.bool r)) rfl)
           have hq:∀ n w,(Op.equalIn (n+1) t (.slice (some ⟨b,off,none⟩) l.length cp) (.slice none 0 0)).run P w=.ok false w:=by
            intro n w;unfold Op.equalIn;simp only [Sem.run_bind,run_underlying hu,Result.andThen_ok,Sem.run_pure]
           have hgd:∀ w,(eqGuard op t ox oy (.slice (some ⟨b,off,none⟩) l.length cp) (.slice none 0 0)).run P w=.ok () w:=by
            intro w;unfold eqGuard;cases op <;> rfl
           have hb:=hq 9999 X.w;simp only [Nat.reduceAdd] at hb;rw [Sem.run_bind,hgd,Result.andThen_ok];rcases hop with ⟨rfl,rfl⟩ | ⟨rfl,rfl⟩ <;> simp only [binOp,Op.equal,Op.maxDepth,Sem.run_bind,hb,Result.andThen_ok,Sem.run_pure] <;> rfl
         unfold Qqx at hex;cases op <;> simp only at hex
         case eql =>
          rcases Ex.br hex with ⟨_,hex⟩ | ⟨hb,hex⟩
          · exact (Ex.fail hex).elim
          · obtain ⟨rfl,rfl,rfl,rfl⟩:=Ex.ret hex;exact hne hb (.inl ⟨rfl,rfl⟩) rfl
         case neq =>
          rcases Ex.br hex with ⟨_,hex⟩ | ⟨hb,hex⟩
          · exact (Ex.fail hex).elim
          · obtain ⟨rfl,rfl,rfl,rfl⟩:=Ex.ret hex;exact hne hb (.inr ⟨rfl,rfl⟩) rfl
         all_goals exact (Ex.fail hex).elim
       · exact (Ex.fail hex).elim
     · refine QoV (e:=e) (tr:=tr) K g ox oy hx hy h1 h2 ?_;cases x <;> cases y <;> first | exact hex | (exfalso;apply h1;exact ⟨_,_,rfl,_,_,rfl⟩) | (exfalso;apply h2;exact ⟨_,rfl,_,rfl⟩) | (exfalso;apply h3;exact ⟨_,_,_,rfl,rfl⟩)
end
end Go.Ev
