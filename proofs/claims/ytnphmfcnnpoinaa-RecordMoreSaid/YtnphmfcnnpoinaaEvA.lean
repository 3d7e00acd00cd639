/-
  The abstract evaluator: Go's code as the model has it, run over values by content (slices are lists, structs are rows), boxed variables and slices of the run's own as objects with names. Definitions alone.
-/
import Derived.Orders
namespace Go.Ev

structure Cdc where
  Ty : Type
  deq : DecidableEq Ty
  A : Ty → Type

instance instDecTy (C : Cdc) : DecidableEq C.Ty := C.deq

inductive D (C : Cdc) : Type where
  | bool (b : Bool)
  | int (k : IntKind) (n : Int)
  | str (s : List UInt8)
  | anil
  | acons (d ds : D C)
  | arr (t : C.Ty) (n : Nat) (l : List (C.A t))
  | tup (ds : D C)
  | nils
  | sl (t : C.Ty) (cap : Bool) (l : List (C.A t))
  | vs (id n : Nat)
  | ptr (id : Nat) (path : List Nat)
  | vptr (id n : Nat) (path : List Nat)
  | cptr (d : D C)
  | nilp
  | fn (f : Nat) (caps : D C)
  | nilfn
  | top

inductive Obj (C : Cdc) : Type where
  | var (t : TypeId) (d : D C)
  | vec (t : C.Ty) (own : Bool) (l : List (C.A t))

abbrev Heap (C : Cdc) := List (Nat × Obj C)

namespace Heap
variable {C : Cdc}
def get (id : Nat) : Heap C → Option (Obj C)
  | [] => none
  | (j, o) :: h => bif Nat.beq id j then some o else get id h
def put (id : Nat) (o : Obj C) : Heap C → Heap C
  | [] => []
  | (j, p) :: h => bif Nat.beq id j then (j, o) :: h else (j, p) :: put id o h
def del (id : Nat) : Heap C → Heap C
  | [] => []
  | (j, p) :: h => bif Nat.beq id j then del id h else (j, p) :: del id h
/-- those with a number from lo on and below hi are given up, but those to keep -/
def drop (lo hi : Nat) (keep : List Nat) : Heap C → Heap C
  | [] => []
  | (j, p) :: h => bif Nat.ble lo j && Nat.blt j hi && !(keep.any (Nat.beq j)) then drop lo hi keep h else (j, p) :: drop lo hi keep h
end Heap

/-- what was touched: an object, whether it was turned (or made, or given up) -/
abbrev Tr := List (Nat × Bool)
abbrev Env (C : Cdc) := List (Nat × D C)

/-- A program over objects. 'br': a test; 'rd', 'wr', 'nw', 'dl': an object is read, turned, made (its number is handed on), given up; 'cnt': the next number, and how many an operation of a region may use; 'upto': numbers go on at one; 'gc': those made since a number are given up; 'sub': an operation of a region, and what it touched. -/
inductive Pg (C : Cdc) : Type → Type 1 where
  | ret {α : Type} (a : α) : Pg C α
  | fail {α : Type} : Pg C α
  | br {α : Type} (b : Bool) (x y : Pg C α) : Pg C α
  | rd {α : Type} (id : Nat) (k : Obj C → Pg C α) : Pg C α
  | wr {α : Type} (id : Nat) (o : Obj C) (k : Pg C α) : Pg C α
  | nw {α : Type} (o : Obj C) (k : Nat → Pg C α) : Pg C α
  | dl {α : Type} (id : Nat) (k : Pg C α) : Pg C α
  | cnt {α : Type} (k : Nat → Nat → Pg C α) : Pg C α
  | upto {α : Type} (n : Nat) (k : Pg C α) : Pg C α
  | gc {α : Type} (lo : Nat) (keep : List Nat) (k : Pg C α) : Pg C α
  | sub {α : Type} (p : Pg C (Env C)) (k : Env C → Tr → Pg C α) : Pg C α

namespace Pg
variable {C : Cdc}
def bind {α β : Type} : Pg C α → (α → Pg C β) → Pg C β
  | .ret a, f => f a
  | .fail, _ => .fail
  | .br b x y, f => .br b (x.bind f) (y.bind f)
  | .rd id k, f => .rd id fun o => (k o).bind f
  | .wr id o k, f => .wr id o (k.bind f)
  | .nw o k, f => .nw o fun id => (k id).bind f
  | .dl id k, f => .dl id (k.bind f)
  | .cnt k, f => .cnt fun n s => (k n s).bind f
  | .upto n k, f => .upto n (k.bind f)
  | .gc lo l k, f => .gc lo l (k.bind f)
  | .sub p k, f => .sub p fun e t => (k e t).bind f

def ofOpt {α : Type} : Option α → Pg C α
  | some a => .ret a
  | none => .fail

/-- how many numbers an operation of a region may use, by how deep the region lies -/
def span (dep : Nat) : Nat := 2 ^ (24 * (40 - dep))

/-- how deep a region lies, and the number from which on what is made is the operation's own -/
abbrev Lv := Nat × Nat

def run {α β : Type} : Pg C α → Lv → Heap C → Nat → Tr → (α → Heap C → Nat → Tr → Option β) → Option β
  | .ret a, _, h, n, l, k => k a h n l
  | .fail, _, _, _, _, _ => none
  | .br b x y, e, h, n, l, k => bif b then x.run e h n l k else y.run e h n l k
  | .rd id f, e, h, n, l, k => match h.get id with
    | some o => (f o).run e h n ((id, false) :: l) k
    | none => none
  | .wr id o f, e, h, n, l, k => match h.get id with
    | some _ => f.run e (h.put id o) n ((id, true) :: l) k
    | none => none
  | .nw o f, e, h, n, l, k => (f n).run e ((n, o) :: h) (n + 1) ((n, true) :: l) k
  | .dl id f, e, h, n, l, k => match h.get id with
    | some _ => f.run e (h.del id) n ((id, true) :: l) k
    | none => none
  | .cnt f, e, h, n, l, k => (f n (span e.1)).run e h n l k
  | .upto m f, e, h, n, l, k => bif Nat.ble n m then f.run e h m l k else none
  | .gc lo keep f, e, h, n, l, k => bif Nat.ble e.2 lo then f.run e (h.drop lo n keep) n l k else none
  | .sub p f, e, h, n, l, k => p.run (e.1 + 1, n) h n [] fun a h n t => (f a t).run e h n (t ++ l) k
end Pg

inductive GT (C : Cdc) : Type where
  | bool | int (k : IntKind) | str
  | struct (fs : List TypeId)
  | arr (n : Nat) (e : TypeId) (t : C.Ty)
  | sl (e : TypeId) (t : C.Ty)
  | ptr (e : TypeId) | fn | none

structure Tab (C : Cdc) where
  ty : TypeId → GT C
  size : TypeId → Nat
  bytes : TypeId → Nat
  enc : (t : C.Ty) → C.A t → D C
  dec : (t : C.Ty) → D C → Option (C.A t)
  dflt : (t : C.Ty) → C.A t
  ety : C.Ty → TypeId
  eqb : (t : C.Ty) → C.A t → C.A t → Option Bool
  zero : TypeId → Option (D C)
  /-- rows of bytes -/
  u8s : (t : C.Ty) → Option (List (C.A t) → List UInt8)
  ofU8s : (t : C.Ty) → Option (List UInt8 → List (C.A t))

inductive X where
  | normal | exit (id : Nat) | ret

/-- the functions, and what is known of them -/
structure Fns (C : Cdc) where
  fn : FuncId → Option Func
  /-- functions that leave objects behind -/
  keeps : FuncId → Bool
  /-- what is known of a function that only computes: where it may be asked, what it answers -/
  spec : FuncId → Option (List (D C) → Option (Bool × D C))
  /-- what is known of a loop (a function, its first region): how it is left, the slots behind it -/
  loop : FuncId → Nat → Option (List (Nat × D C) → Pg C (X × List (Nat × D C)))

section
variable {C : Cdc} (T : Tab C)

/-- the slots of a frame: the last that was put into each -/
def eget : Env C → Nat → D C
  | [], _ => .top
  | (j, d) :: r, t => bif Nat.beq t j then d else eget r t
def eargs : Nat → List (D C) → Env C
  | _, [] => []
  | n, d :: l => (n, d) :: eargs (n + 1) l

namespace D
def nth : D C → Nat → Option (D C)
  | .acons d _, 0 => some d
  | .acons _ ds, n + 1 => ds.nth n
  | _, _ => none
def setNth : D C → Nat → D C → Option (D C)
  | .acons _ ds, 0, v => some (.acons v ds)
  | .acons d ds, n + 1, v => (ds.setNth n v).map (.acons d)
  | _, _, _ => none
def toList : D C → List (D C)
  | .acons d ds => d :: ds.toList
  | _ => []
def ofList : List (D C) → D C
  | [] => .anil
  | d :: l => .acons d (ofList l)
/-- the objects that a value names -/
def refs : D C → List Nat
  | .acons d ds => d.refs ++ ds.refs
  | .tup d | .fn _ d | .cptr d => d.refs
  | .vs id _ | .ptr id _ | .vptr id _ _ => [id]
  | _ => []
/-- how deep rows stand in one another -/
def dep : D C → Nat
  | .acons d ds => max (d.dep + 1) ds.dep
  | .arr _ _ _ => 1
  | _ => 0
/-- a slice as a list, if its elements are of that type -/
def asList (t : C.Ty) : D C → Option (List (C.A t))
  | .nils => some []
  | .sl t' _ l => if h : t' = t then some (h ▸ l) else Option.none
  | _ => Option.none
def asArr (t : C.Ty) : D C → Option (List (C.A t))
  | .arr t' _ l => if h : t' = t then some (h ▸ l) else Option.none
  | _ => Option.none
end D

def constD : Value → D C
  | .bool b => .bool b
  | .int k n => bif decide (k.min ≤ n) && decide (n ≤ k.max) then .int k n else .top
  | .string s => .str s.data.toList
  | .slice none 0 0 => .nils
  | .pointer none => .nilp
  | .nilFunc => .nilfn
  | .tuple ⟨[]⟩ => .tup .anil
  | _ => .top

/-- nil as a slice of its type -/
def typed (t : TypeId) (d : D C) : D C :=
  match d with
  | .nils => match T.ty t with
    | .sl _ ty => .sl ty true []
    | _ => .nils
  | d => d

def fit : D C → TypeId ⊕ List TypeId → Bool
  | .anil, .inl t => match T.ty t with | .struct [] => true | _ => false
  | .anil, .inr fs => fs.isEmpty
  | .acons d ds, .inl t => match T.ty t with
    | .struct (f :: fs) => fit d (.inl f) && fit ds (.inr fs)
    | _ => false
  | .acons d ds, .inr (f :: fs) => fit d (.inl f) && fit ds (.inr fs)
  | .arr t n _, .inl u => match T.ty u with
    | .arr m _ t' => Nat.beq m n && decide (t = t')
    | _ => false
  | .bool _, .inl u => match T.ty u with | .bool => true | _ => false
  | .int k _, .inl u => match T.ty u with | .int k' => decide (k = k') | _ => false
  | .str _, .inl u => match T.ty u with | .str => true | _ => false
  | .sl t _ _, .inl u => match T.ty u with | .sl _ t' => decide (t = t') | _ => false
  | .vs _ _, .inl u => match T.ty u with | .sl _ _ => true | _ => false
  | .ptr _ _, .inl u => match T.ty u with | .ptr _ => true | _ => false
  | .vptr _ _ _, .inl u => match T.ty u with | .ptr _ => true | _ => false
  | .cptr _, .inl u => match T.ty u with | .ptr _ => true | _ => false
  | .nilp, .inl u => match T.ty u with | .ptr _ => true | _ => false
  | .fn _ _, .inl u => match T.ty u with | .fn => true | _ => false
  | .nilfn, .inl u => match T.ty u with | .fn => true | _ => false
  | _, _ => false

def getPath : D C → List Nat → Option (D C)
  | d, [] => some d
  | .acons d ds, i :: p => match (D.acons d ds).nth i with
    | some x => getPath x p
    | none => none
  | .arr t _ l, i :: p => getPath (T.enc t (l.getD i (T.dflt t))) p
  | _, _ => none

def setPath : D C → List Nat → D C → Option (D C)
  | _, [], v => some v
  | .acons d ds, i :: p, v => match (D.acons d ds).nth i with
    | some x => match setPath x p v with
      | some y => (D.acons d ds).setNth i y
      | none => none
    | none => none
  | .arr t n l, i :: p, v => match setPath (T.enc t (l.getD i (T.dflt t))) p v with
    | some y => match T.dec t y with
      | some z => some (.arr t n (l.set i z))
      | none => none
    | none => none
  | _, _, _ => none

def tyAt : TypeId → List Nat → Option TypeId
  | t, [] => some t
  | t, i :: p => match T.ty t with
    | .struct fs => match fs[i]? with
      | some f => tyAt f p
      | none => none
    | .arr _ e _ => tyAt e p
    | _ => none

/-- '==' of what is no row -/
def eqS : D C → D C → Option Bool
  | .bool a, .bool b => some (a == b)
  | .int k a, .int k' b => if k = k' then some (a == b) else none
  | .str a, .str b => some (a == b)
  | .nilp, .nilp => some true
  | .nilp, .ptr _ _ | .nilp, .cptr _ | .ptr _ _, .nilp | .cptr _, .nilp => some false
  | .nilfn, .nilfn => some true
  | .nilfn, .fn _ _ | .fn _ _, .nilfn => some false
  | _, _ => none

def eqL {t : C.Ty} : List (C.A t) → List (C.A t) → Option Bool
  | [], [] => some true
  | x :: l, y :: m => match T.eqb t x y, eqL l m with
    | some a, some b => some (a && b)
    | _, _ => none
  | _, _ => none

/-- '==' -/
def eqD : D C → D C → Option Bool
  | .anil, .anil => some true
  | .acons a as, .acons b bs => match eqD a b, eqD as bs with
    | some x, some y => some (x && y)
    | _, _ => none
  | .arr t n l, .arr t' n' l' => if h : t = t' then (if n = n' then eqL T l (h ▸ l') else none) else none
  | x, y => eqS x y

def bits (k : IntKind) (f : (n : Nat) → BitVec n → BitVec n → BitVec n) (a b : Int) : Int :=
  k.wrap (f k.bits (BitVec.ofInt k.bits a) (BitVec.ofInt k.bits b)).toNat

def strLt : List UInt8 → List UInt8 → Bool := Op.bytesLess

def binInt (op : BinOp) (k : IntKind) (a b : Int) : Pg C (D C) :=
  match op with
  | .add => .ret (.int k (k.wrap (a + b)))
  | .sub => .ret (.int k (k.wrap (a - b)))
  | .mul => .ret (.int k (k.wrap (a * b)))
  | .quo => .br (b == 0) .fail (.ret (.int k (k.wrap (a.tdiv b))))
  | .rem => .br (b == 0) .fail (.ret (.int k (a.tmod b)))
  | .and => .ret (.int k (bits k (fun _ u v => u &&& v) a b))
  | .or => .ret (.int k (bits k (fun _ u v => u ||| v) a b))
  | .xor => .ret (.int k (bits k (fun _ u v => u ^^^ v) a b))
  | .andNot => .ret (.int k (bits k (fun _ u v => u &&& ~~~v) a b))
  | .eql => .ret (.bool (a == b))
  | .neq => .ret (.bool (a != b))
  | .lss => .ret (.bool (decide (a < b)))
  | .leq => .ret (.bool (decide (a ≤ b)))
  | .gtr => .ret (.bool (decide (b < a)))
  | .geq => .ret (.bool (decide (b ≤ a)))
  | .shl => .br (decide (b < 0)) .fail (.ret (.int k (k.wrap (a * 2 ^ min b.toNat k.bits))))
  | .shr => .br (decide (b < 0)) .fail (.ret (.int k (a.fdiv (2 ^ min b.toNat k.bits))))

def isShift : BinOp → Bool
  | .shl | .shr => true
  | _ => false

def binStr (op : BinOp) (a b : List UInt8) : Pg C (D C) :=
  match op with
  | .eql => .ret (.bool (a == b))
  | .neq => .ret (.bool (!(a == b)))
  | .add => .br (decide (a.length + b.length ≤ 1000000000)) (.ret (.str (a ++ b))) .fail
  | _ => .fail

def binEq (op : BinOp) (t : TypeId) (x y : D C) : Pg C (D C) :=
  bif fit T x (.inl t) && fit T y (.inl t) && Nat.ble x.dep 1000 then (match op with
    | .eql => .bind (.ofOpt (eqD T x y)) fun b => .ret (.bool b)
    | .neq => .bind (.ofOpt (eqD T x y)) fun b => .ret (.bool !b)
    | _ => .fail) else .fail

def binD (op : BinOp) (t : TypeId) (x y : D C) : Pg C (D C) :=
  match x, y with
  | .int k a, .int k' b => bif isShift op || decide (k = k') then binInt op k a b else .fail
  | .str a, .str b => binStr op a b
  | x, y => binEq T op t x y

/-- the slices that stand in a value as objects of the run's own are given out as lists -/
def frz : D C → Pg C (D C)
  | .acons d ds => .bind (frz d) fun d' => .bind (frz ds) fun ds' => .ret (.acons d' ds')
  | .tup d => .bind (frz d) fun d' => .ret (.tup d')
  | .vs id n => .rd id fun
    | .vec t _ l => .br (Nat.beq n l.length) (.dl id (.ret (.sl t false l))) .fail
    | _ => .fail
  | d => .ret d

def frzL : List (D C) → Pg C (List (D C))
  | [] => .ret []
  | d :: ds => .bind (frz d) fun d' => .bind (frzL ds) fun ds' => .ret (d' :: ds')

def sizeOK (n : Nat) (bytes : Nat) : Bool := decide (n * bytes ≤ 1099511627776)

/-- append(s, x...) -/
def app (t : C.Ty) (bytes : Nat) (s : D C) (xs : List (C.A t)) : Pg C (D C) :=
  match s with
  | .nils => .br (sizeOK xs.length bytes) (.nw (.vec t true xs) fun id => .ret (.vs id xs.length)) .fail
  | .sl t' cap l => if h : t' = t then (match cap with
      | true => .br (sizeOK (l.length + xs.length) bytes) (.nw (.vec t l.isEmpty ((h ▸ l) ++ xs)) fun id => .ret (.vs id (l.length + xs.length))) .fail
      | false => .fail) else .fail
  | .vs id n => .rd id fun
    | .vec t' own l => if h : t' = t then .br (Nat.beq n l.length && sizeOK (n + xs.length) bytes) (.wr id (.vec t own ((h ▸ l) ++ xs)) (.ret (.vs id (l.length + xs.length)))) .fail else .fail
    | _ => .fail
  | _ => .fail

/-- a slice's elements -/
def elems (t : C.Ty) (d : D C) (k : List (C.A t) → Pg C (D C)) : Pg C (D C) :=
  match d with
  | .nils => k []
  | .sl t' _ l => if h : t' = t then k (h ▸ l) else .fail
  | .vs id n => .rd id fun
    | .vec t' _ l => if h : t' = t then .br (Nat.beq n l.length) (k (h ▸ l)) .fail else .fail
    | _ => .fail
  | _ => .fail

/-- a length is a number of Go's -/
def lenOK (n : Nat) : Bool := Nat.ble n 9223372036854775807
theorem lenOK_of {n : Nat} (h : n ≤ 9223372036854775807) : lenOK n = true := Nat.ble_eq_true_of_le h
theorem lenOK_le {n : Nat} (h : lenOK n = true) : n ≤ 9223372036854775807 := Nat.le_of_ble_eq_true h
def lenD (t : TypeId) (d : D C) : Pg C (D C) :=
  match T.ty t with
  | .sl _ _ => match d with
    | .nils => .ret (.int .i64 0)
    | .sl _ _ l => .br (lenOK l.length) (.ret (.int .i64 l.length)) .fail
    | .vs _ n => .br (lenOK n) (.ret (.int .i64 n)) .fail
    | _ => .fail
  | .str => match d with
    | .str s => .br (lenOK s.length) (.ret (.int .i64 s.length)) .fail
    | _ => .fail
  | .arr n _ _ => bif Nat.ble n 9223372036854775807 then .ret (.int .i64 n) else .fail
  | _ => .fail

def minL (k : IntKind) : Int → List (D C) → Option Int
  | a, [] => some a
  | a, .int k' b :: l => if k' = k then minL k (if b < a then b else a) l else none
  | _, _ => none
def maxL (k : IntKind) : Int → List (D C) → Option Int
  | a, [] => some a
  | a, .int k' b :: l => if k' = k then maxL k (if a < b then b else a) l else none
  | _, _ => none
def foldMin : List (D C) → Option (D C)
  | .int k a :: l => (minL k a l).map (.int k)
  | _ => none
def foldMax : List (D C) → Option (D C)
  | .int k a :: l => (maxL k a l).map (.int k)
  | _ => none

def builtinD (b : Builtin) (argTypes : List TypeId) (args : List (D C)) : Pg C (D C) :=
  match b, args with
  | .len, [d] => lenD T (argTypes.getD 0 0) d
  | .append, [s, x] => match T.ty (argTypes.getD 0 0) with
    | .sl e t => match T.ty (argTypes.getD 1 0) with
      | .sl _ t' => bif decide (t = t') then elems t x fun xs => app t (T.bytes e) s xs else .fail
      | _ => .fail
    | _ => .fail
  | .min, l => .ofOpt (foldMin l)
  | .max, l => .ofOpt (foldMax l)
  | _, _ => .fail

def numD : Option (D C) → Int → Option Int
  | none, n => some n
  | some (.int _ n), _ => some n
  | _, _ => none
def cutD {t : C.Ty} (cap : Bool) (l : List (C.A t)) (lo hi mx : Option (D C)) : Pg C (D C) :=
  match numD lo 0, numD hi l.length with
  | some a, some b => match mx with
    | none => .br (decide (0 ≤ a ∧ a ≤ b ∧ b ≤ l.length)) (.ret (.sl t (cap && hi.isNone) ((l.take b.toNat).drop a.toNat))) .fail
    | some (.int _ m) => bif hi.isSome then .br (decide (0 ≤ a ∧ a ≤ b ∧ b ≤ l.length ∧ m = b)) (.ret (.sl t true ((l.take b.toNat).drop a.toNat))) .fail else .fail
    | _ => .fail
  | _, _ => .fail
def slVec (ty0 : C.Ty) (n : Nat) (lo hi mx : Option (D C)) : Obj C → Pg C (D C)
  | .vec ty false l => bif decide (ty = ty0) then .br (Nat.beq n l.length) (cutD false l lo hi mx) .fail else .fail
  | _ => .fail
def sliceD (t : TypeId) (d : D C) (lo hi mx : Option (D C)) : Pg C (D C) :=
  match T.ty t with
  | .sl _ ty0 => match d with
    | .sl ty cap l => bif decide (ty = ty0) then cutD cap l lo hi mx else .fail
    | .vs id n => .rd id (slVec ty0 n lo hi mx)
    | _ => .fail
  | .str => match d with
    | .str s => match numD lo 0, numD hi s.length, mx with
      | some a, some b, none => .br (decide (0 ≤ a ∧ a ≤ b ∧ b ≤ s.length)) (.ret (.str ((s.take b.toNat).drop a.toNat))) .fail
      | _, _, _ => .fail
    | _ => .fail
  | _ => .fail

def fillD : D C → List (Nat × D C) → Option (D C)
  | d, [] => some d
  | d, (i, v) :: r => match d.setNth i v with
    | some d' => fillD d' r
    | none => none

def fillL {t : C.Ty} (l : List (C.A t)) : List (Nat × D C) → Option (List (C.A t))
  | [] => some l
  | (i, v) :: r => bif fit T v (.inl (T.ety t)) && Nat.blt i l.length then (match T.dec t v with
    | some x => fillL (l.set i x) r
    | none => none) else none

def bytesOf {t : C.Ty} : List (C.A t) → Option (List UInt8)
  | [] => some []
  | x :: l => match T.enc t x, bytesOf l with
    | .int .u8 n, some r => some (UInt8.ofNat n.toNat :: r)
    | _, _ => none
def convD (src dst : TypeId) (x : D C) : Pg C (D C) :=
  match T.ty src, T.ty dst with
  | .int _, .int k => match x with
    | .int _ n => .ret (.int k (k.wrap n))
    | _ => .fail
  | .str, .str => match x with
    | .str s => .ret (.str s)
    | _ => .fail
  | .sl e t, .str => match T.ty e with
    | .int .u8 => match T.u8s t with
      | some f => elems t (typed T src x) fun xs => .ret (.str (f xs))
      | none => .fail
    | _ => .fail
  | _, _ => .fail

def evPick (c a b : D C) : Pg C (D C) :=
  match c with
  | .bool t => .br t (.ret a) (.ret b)
  | _ => .fail
def evAlloc (t : TypeId) : Pg C (D C) :=
  match T.zero t with
  | some z => bif fit T z (.inl t) then .nw (.var t z) (fun id => .ret (.ptr id [])) else .fail
  | none => .fail
def evBox (t : TypeId) (d : D C) : Pg C (D C) :=
  bif fit T d (.inl t) then .nw (.var t d) (fun id => .ret (.ptr id [])) else .fail
def evBuild (t : TypeId) (ps : List (Nat × D C)) : Pg C (D C) :=
  match T.ty t, T.zero t with
  | .struct fs, some z =>
    bif fit T z (.inl t) && ps.all (fun p => fit T (typed T (fs.getD p.1 0) p.2) (.inl (fs.getD p.1 0))) then .ofOpt (fillD z (ps.map fun p => (p.1, typed T (fs.getD p.1 0) p.2))) else .fail
  | .arr n e ty, some (.arr ty' m l) => if h : ty' = ty then (match fillL T (h ▸ l) (ps.map fun p => (p.1, typed T e p.2)) with
      | some l' => bif Nat.beq n m then .ret (.arr ty n l') else .fail
      | none => .fail) else .fail
  | _, _ => .fail
def evBuildSlice (t : TypeId) (n : Nat) (ps : List (Nat × D C)) : Pg C (D C) :=
  match T.ty t with
  | .sl e ty => match fillL T (List.replicate n (T.dflt ty)) (ps.map fun p => (p.1, typed T e p.2)) with
    | some l => bif Nat.ble (n * T.size e) 16777216 then .ret (.sl ty true l) else .fail
    | none => .fail
  | _ => .fail
def ldVar (t : TypeId) (p : List Nat) : Obj C → Pg C (D C)
  | .var _ d => match getPath T d p with
    | some x => bif fit T x (.inl t) then .ret x else .fail
    | none => .fail
  | _ => .fail
def ldVec (t : TypeId) (n : Nat) (p : List Nat) : Obj C → Pg C (D C)
  | .vec ty _ l => match p with
    | [i] => bif Nat.beq n l.length && fit T (T.enc ty (l.getD i (T.dflt ty))) (.inl t) then .ret (T.enc ty (l.getD i (T.dflt ty))) else .fail
    | [i, j] => match (T.enc ty (l.getD i (T.dflt ty))).nth j with
      | some x => bif Nat.beq n l.length && fit T x (.inl t) then .ret x else .fail
      | none => .fail
    | _ => .fail
  | _ => .fail
def evLoad (t : TypeId) (a : D C) : Pg C (D C) :=
  match a with
  | .ptr id p => .rd id (ldVar T t p)
  | .vptr id n p => .rd id (ldVec T t n p)
  | .cptr d => bif fit T d (.inl t) then .ret d else .fail
  | _ => .fail
/-- are there slices in a row that are objects of the run's own? -/
def D.hasVs : D C → Bool
  | .vs _ _ => true
  | .acons a b => a.hasVs || b.hasVs
  | _ => false
def ldS (t : TypeId) (id : Nat) : Obj C → Pg C (D C)
  | .var u d => bif decide (u = t) && d.hasVs then .bind (frz d) fun d' => bif fit T d' (.inl t) then .wr id (.var u d') (.ret d') else .fail else ldVar T t [] (.var u d)
  | _ => .fail
/-- a load; a variable's row, loaded whole, is settled: its slices turn no more -/
def evLoadS (t : TypeId) (a : D C) : Pg C (D C) :=
  match a with
  | .ptr id [] => match T.ty t with
    | .struct _ => .rd id (ldS T t id)
    | _ => evLoad T t (.ptr id [])
  | a => evLoad T t a
def stVar (t : TypeId) (id : Nat) (p : List Nat) (v : D C) : Obj C → Pg C (D C)
  | .var u d => match setPath T d p v, tyAt T u p with
    | some d', some t' => bif fit T v (.inl t) && fit T v (.inl t') then .wr id (.var u d') (.ret (.tup .anil)) else .fail
    | _, _ => .fail
  | _ => .fail
def stVec (t : TypeId) (id n : Nat) (p : List Nat) (v : D C) : Obj C → Pg C (D C)
  | .vec ty true l => match p with
    | [i] => match T.dec ty v with
      | some z => bif Nat.beq n l.length && fit T v (.inl t) then .wr id (.vec ty true (l.set i z)) (.ret (.tup .anil)) else .fail
      | none => .fail
    | _ => .fail
  | _ => .fail
def evStore (t : TypeId) (a v : D C) : Pg C (D C) :=
  match a with
  | .ptr id p => .rd id (stVar T t id p v)
  | .vptr id n p => .rd id (stVec T t id n p v)
  | _ => .fail
def evNilCheck (x : D C) : Pg C (D C) :=
  match x with
  | .ptr id p => .ret (.ptr id p)
  | .vptr id n p => .ret (.vptr id n p)
  | .cptr d => .ret (.cptr d)
  | .fn f c => .ret (.fn f c)
  | _ => .fail
def evUn (op : UnOp) (x : D C) : Pg C (D C) :=
  match op, x with
  | .not, .bool b => .ret (.bool !b)
  | .neg, .int k n => .ret (.int k (k.wrap (0 - n)))
  | _, _ => .fail
def evMakeFunc (fn : Fn) (first caps : List (D C)) : Pg C (D C) :=
  match fn, first with
  | .func f, [] => .ret (.fn f (D.ofList caps))
  | _, _ => .fail
def evMakeSlice (t : TypeId) (n c : D C) : Pg C (D C) :=
  match T.ty t, n, c with
  | .sl e ty, .int .i64 n, .int .i64 c => .br (decide (0 ≤ n ∧ n = c) && sizeOK n.toNat (T.bytes e)) (.nw (.vec ty true (List.replicate n.toNat (T.dflt ty))) fun id => .ret (.vs id n.toNat)) .fail
  | _, _, _ => .fail
def faVar (s : TypeId) (id : Nat) (p : List Nat) (i : Nat) : Obj C → Pg C (D C)
  | .var u _ => bif decide (tyAt T u p = some s) then .ret (.ptr id (p ++ [i])) else .fail
  | _ => .fail
def faVec (s : TypeId) (id n j i : Nat) : Obj C → Pg C (D C)
  | .vec ty _ l => bif Nat.beq n l.length && Nat.beq s (T.ety ty) then .ret (.vptr id n [j, i]) else .fail
  | _ => .fail
def evFieldAddr (s : TypeId) (x : D C) (i : Nat) : Pg C (D C) :=
  match T.ty s with
  | .struct fs => bif Nat.blt i fs.length then (match x with
    | .ptr id p => .rd id (faVar T s id p i)
    | .vptr id n [j] => .rd id (faVec T s id n j i)
    | .cptr d => bif fit T d (.inl s) then (match d.nth i with | some x => .ret (.cptr x) | none => .fail) else .fail
    | _ => .fail) else .fail
  | _ => .fail
def evField (s : TypeId) (x : D C) (i : Nat) : Pg C (D C) :=
  match T.ty s with
  | .struct _ => bif fit T x (.inl s) then (match x.nth i with | some d => .ret d | none => .fail) else .fail
  | _ => .fail
def ixVec (ty0 : C.Ty) (id m : Nat) (n : Int) : Obj C → Pg C (D C)
  | .vec ty _ l => bif decide (ty = ty0) then .br (Nat.beq m l.length && decide (0 ≤ n ∧ n < l.length)) (.ret (.vptr id m [n.toNat])) .fail else .fail
  | _ => .fail
def ixVar (t : TypeId) (id : Nat) (p : List Nat) (n : Int) (m : Nat) : Obj C → Pg C (D C)
  | .var u _ => bif decide (tyAt T u p = some t) then .br (decide (0 ≤ n ∧ n < m)) (.ret (.ptr id (p ++ [n.toNat]))) .fail else .fail
  | _ => .fail
def evIndexAddr (t : TypeId) (x i : D C) : Pg C (D C) :=
  match i with
  | .int _ n => match T.ty t with
    | .sl _ ty0 => match x with
      | .sl ty _ l => bif decide (ty = ty0) then .br (decide (0 ≤ n ∧ n < l.length)) (.ret (.cptr (T.enc ty (l.getD n.toNat (T.dflt ty))))) .fail else .fail
      | .vs id m => .rd id (ixVec ty0 id m n)
      | _ => .fail
    | .arr m _ _ => match x with
      | .ptr id p => .rd id (ixVar T t id p n m)
      | .cptr (.arr ty m' l) => bif fit T (.arr ty m' l) (.inl t) then .br (decide (0 ≤ n ∧ n < m)) (.ret (.cptr (T.enc ty (l.getD n.toNat (T.dflt ty))))) .fail else .fail
      | _ => .fail
    | _ => .fail
  | _ => .fail
def evIndex (t : TypeId) (x i : D C) : Pg C (D C) :=
  match i with
  | .int _ n => match x with
    | .arr ty m l => bif fit T (.arr ty m l) (.inl t) then .br (decide (0 ≤ n ∧ n < m)) (.ret (T.enc ty (l.getD n.toNat (T.dflt ty)))) .fail else .fail
    | .str s => match T.ty t with
      | .str => .br (decide (0 ≤ n ∧ n < s.length)) (.ret (.int .u8 (s.getD n.toNat 0).toNat)) .fail
      | _ => .fail
    | _ => .fail
  | _ => .fail
def evExtract (x : D C) (i : Nat) : Pg C (D C) :=
  match x with
  | .tup ds => .ofOpt (ds.nth i)
  | _ => .fail
def evCall (call : FuncId → List (D C) → Pg C (D C)) (f : D C) (args : List (D C)) : Pg C (D C) :=
  match f with
  | .fn g caps => call g (args ++ caps.toList)
  | _ => .fail
def typedL : List TypeId → List (D C) → List (D C)
  | t :: ts, d :: ds => typed T t d :: typedL ts ds
  | _, ds => ds

/-- one operation: what it gives. 'call': a function is called. -/
def evOp (call : FuncId → List (D C) → Pg C (D C)) (o : Oper) (ev : Operand → D C) : Pg C (D C) :=
  match o.op with
  | .move x => .ret (typed T o.type (ev x))
  | .assign x => .ret (typed T o.type (ev x))
  | .pick c a b => evPick (ev c) (ev a) (ev b)
  | .alloc t => evAlloc T t
  | .box t x => evBox T t (typed T t (ev x))
  | .build t ps => evBuild T t (ps.toList.map fun p => (p.1, ev p.2))
  | .buildSlice t n ps => evBuildSlice T t n (ps.toList.map fun p => (p.1, ev p.2))
  | .load t a => evLoadS T t (ev a)
  | .store t a x => evStore T t (ev a) (typed T t (ev x))
  | .nilCheck x => evNilCheck (ev x)
  | .binOp op t x y _ => binD T op t (ev x) (ev y)
  | .unOp op _ x => evUn op (ev x)
  | .convert s t x => convD T s t (ev x)
  | .makeFunc fn first caps => evMakeFunc fn (first.toList.map ev) (caps.toList.map ev)
  | .makeSlice t n c => evMakeSlice T t (ev n) (ev c)
  | .slice t x lo hi mx => sliceD T t (ev x) (lo.map ev) (hi.map ev) (mx.map ev)
  | .fieldAddr s x i => evFieldAddr T s (ev x) i
  | .field s x i => evField T s (ev x) i
  | .indexAddr t x i => evIndexAddr T t (ev x) (ev i)
  | .index t x i => evIndex T t (ev x) (ev i)
  | .extract x i => evExtract (ev x) i
  | .call c => match c.callee with
    | .builtin b => bif Nat.beq c.argTypes.toList.length c.args.toList.length then builtinD T b c.argTypes.toList (c.args.toList.map ev) else .fail
    | .value f => evCall call (ev f) (typedL T c.argTypes.toList (c.args.toList.map ev))
    | _ => .fail
  | _ => .fail

def put (env : Env C) (dst : Option Tmp) (d : D C) : Env C :=
  match dst with
  | some t => (t, d) :: env
  | none => env

def evAt (env : Env C) : Operand → D C
  | .tmp t => eget env t
  | .const v => constD v
  | .global _ => .top
  | .func f => .fn f .anil

/-- an operation with its guard -/
def evOpG (call : FuncId → List (D C) → Pg C (D C)) (ops : Array Oper) (o : Oper) (env : Env C) : Pg C (Env C) :=
  let go (env : Env C) : Pg C (Env C) := .bind (evOp T call o (evAt env)) fun d => .ret (put env o.dst d)
  let skip (env : Env C) : Pg C (Env C) := .ret (put env o.dst (.tup .anil))
  match o.guard with
  | none => go env
  | some (j, want) => match (ops[j]?).bind (·.dst) with
    | some d => match eget env d with
      | .bool b => .br b (bif want then go (((d, .bool true) :: env)) else skip (((d, .bool true) :: env)))
          (bif want then skip (((d, .bool false) :: env)) else go (((d, .bool false) :: env)))
      | .tup .anil => skip env
      | _ => .fail
    | none => .fail

def evOps (call : FuncId → List (D C) → Pg C (D C)) (ops : Array Oper) : List Oper → Env C → Pg C (Env C)
  | [], env => .ret env
  | o :: r, env => .bind (evOpG T call ops o env) fun env => evOps call ops r env

/-- may the operations of a region be in any order that its edges let, by what they touched? each two that no edges order touched no object that one of them turned -/
def apartT (a b : Tr) : Bool := a.all fun x => b.all fun y => !(Nat.beq x.1 y.1) || !(x.2 || y.2)
def noClash (ops : Array Oper) (ts : List (Nat × Tr)) : Bool :=
  ts.all fun a => ts.all fun b => apartT a.2 b.2 || !(Nat.blt a.1 b.1) || ((Region.before ops).getD b.1 0).testBit a.1

def evOpsT (call : FuncId → List (D C) → Pg C (D C)) (ops : Array Oper) (base span : Nat) : Nat → List Oper → Env C → List (Nat × Tr) → Pg C (Env C)
  | i, [], env, ts => .upto (base + i * span) (.br (noClash ops ts) (.ret env) .fail)
  | i, o :: r, env, ts => .upto (base + i * span) (.sub (evOpG T call ops o env) fun env t => evOpsT call ops base span (i + 1) r env (match t with | [] => ts | _ => (i, t) :: ts))

def firstRegion : Code → Nat
  | .region id _ _ => id
  | .seq a _ => firstRegion a
  | .cond _ a _ => firstRegion a
  | .block _ a => firstRegion a
  | .loop a => firstRegion a
  | .scope a => firstRegion a
  | _ => 0

def resultD (env : Env C) : List ResultVar → Pg C (List (D C))
  | [] => .ret []
  | .tmp t :: r => .bind (resultD env r) fun l => .ret (eget env t :: l)
  | .cell a t :: r => .bind (evLoad T t (eget env a)) fun d => .bind (resultD env r) fun l => .ret (d :: l)

/-- a function's results, given out -/
def outD (Φ : Fns C) (f : FuncId) (n0 : Nat) (env : Env C) (rs : List ResultVar) : Pg C (D C) :=
  .bind (resultD T env rs) fun l =>
    bif Φ.keeps f then .ret (match l with
      | [d] => d
      | l => .tup (D.ofList l))
    else .bind (match l with
      | [d] => frz d
      | l => frz (.tup (D.ofList l))) fun d => .gc n0 d.refs (.ret d)

/-- a call of a function, its body by 'ev' -/
def enterD (Φ : Fns C) (ev : FuncId → Code → Env C → Pg C (X × Env C)) (g : FuncId) (args : List (D C)) : Pg C (D C) :=
  match Φ.fn g with
  | some fn => match fn.body with
    | some body => .cnt fun n0 _ => .bind (ev g body (eargs 0 args)) fun r =>
      match r.1 with
      | .exit _ => .fail
      | _ => outD T Φ g n0 r.2 fn.results.toList
    | none => .fail
  | none => .fail

def callD (Φ : Fns C) (ev : FuncId → Code → Env C → Pg C (X × Env C)) (g : FuncId) (args : List (D C)) : Pg C (D C) :=
  match Φ.spec g with
  | some s => .bind (frzL args) fun args => match s args with
    | some (b, d) => .br b (.ret d) .fail
    | none => .fail
  | none => enterD T Φ ev g args

def thenC (b : Env C → Pg C (X × Env C)) (r : X × Env C) : Pg C (X × Env C) :=
  match r.1 with
  | .normal => b r.2
  | _ => .ret r
def inBlockC (id : Nat) (r : X × Env C) : Pg C (X × Env C) :=
  match r.1 with
  | .exit i => bif Nat.beq i id then .ret (.normal, r.2) else .ret r
  | _ => .ret r
def condC (c : Operand) (x y : Env C → Pg C (X × Env C)) (env : Env C) : Pg C (X × Env C) :=
  match c with
  | .tmp t => match eget env t with
    | .bool b => .br b (x ((t, .bool true) :: env)) (y ((t, .bool false) :: env))
    | _ => .fail
  | .const (.bool b) => .br b (x env) (y env)
  | _ => .fail
def regC (call : FuncId → List (D C) → Pg C (D C)) (ops : Array Oper) (env : Env C) : Pg C (X × Env C) :=
  .bind (evOps T call ops ops.toList env) fun env => .ret (.normal, env)
def drawC (call : FuncId → List (D C) → Pg C (D C)) (ops : Array Oper) (env : Env C) : Pg C (X × Env C) :=
  .cnt fun base span => .bind (evOpsT T call ops base span 0 ops.toList env []) fun env => .ret (.normal, env)
/-- the slots that code puts something into -/
def asgL : Code → List Nat
  | .region _ ops _ => ops.toList.filterMap (·.dst)
  | .seq a b => asgL a ++ asgL b
  | .cond _ a b => asgL a ++ asgL b
  | .block _ a => asgL a
  | .loop a => asgL a
  | _ => []
def keepE (l : List Nat) : Env C → Env C
  | [] => []
  | (j, d) :: r => bif l.any (Nat.beq j) then keepE l r else (j, d) :: keepE l r
def loopC (Φ : Fns C) (f : FuncId) (key : Nat) (asg : List Nat) (b : Env C → Pg C (X × Env C)) (again : Env C → Pg C (X × Env C)) (env : Env C) : Pg C (X × Env C) :=
  match Φ.loop f key with
  | some s => .bind (s env) fun r => .ret (r.1, r.2 ++ keepE asg env)
  | none => .bind (b env) (thenC again)

def evC (Φ : Fns C) : Nat → FuncId → Code → Env C → Pg C (X × Env C)
  | 0, _, _, _ => .fail
  | n + 1, f, c, env =>
    match c with
    | .skip => .ret (.normal, env)
    | .label _ => .ret (.normal, env)
    | .ret => .ret (.ret, env)
    | .exit id => .ret (.exit id, env)
    | .region _ ops draw => bif draw then drawC T (callD T Φ (evC Φ n)) ops env else regC T (callD T Φ (evC Φ n)) ops env
    | .seq a b => .bind (evC Φ n f a env) (thenC (evC Φ n f b))
    | .cond c x y => condC c (evC Φ n f x) (evC Φ n f y) env
    | .block id b => .bind (evC Φ n f b env) (inBlockC id)
    | .loop b => loopC Φ f (firstRegion b) (asgL b) (evC Φ n f b) (evC Φ n f (.loop b)) env
    | _ => .fail

/-- a function's answer, called with values that name no object -/
def evF (Φ : Fns C) (n : Nat) (f : FuncId) (args : List (D C)) : Option (D C) := (enterD T Φ (evC T Φ n) f args).run (0, 0) [] 0 [] fun d _ _ _ => bif d.refs.isEmpty then some d else none

end
end Go.Ev
