/-
  AN EVALUATOR OVER THE MODEL's CODE, with a heap of its own: definitions alone.
-/
import Derived.CallsIn
import Derived.RangeFuncIn
import Derived.Orders
namespace Go.Ev

/-! ### keys and tries -/
inductive K where
  | h | o (k : K) | i (k : K)
  deriving DecidableEq, Repr, Inhabited
namespace K
def succ : K → K
  | h => o h
  | o k => i k
  | i k => o k.succ
def toNat : K → Nat
  | h => 1
  | o k => 2 * k.toNat
  | i k => 2 * k.toNat + 1
def ofNatF : Nat → Nat → K
  | 0, _ => h
  | f + 1, n => if Nat.ble n 1 then h else if Nat.beq (n % 2) 0 then o (ofNatF f (n / 2)) else i (ofNatF f (n / 2))
/-- the key of a number (from 0 on) -/
def ofNat (n : Nat) : K := ofNatF (n + 1) (n + 1)
def beq : K → K → Bool
  | h, h => true
  | o a, o b => beq a b
  | i a, i b => beq a b
  | _, _ => false
end K

inductive Tr (α : Type) where
  | nil
  | node (l : Tr α) (v : Option α) (r : Tr α)
  deriving Repr, Inhabited
namespace Tr
variable {α : Type}
def root : Tr α → Option α
  | nil => none
  | node _ v _ => v
def left : Tr α → Tr α
  | nil => nil
  | node l _ _ => l
def right : Tr α → Tr α
  | nil => nil
  | node _ _ r => r
def get : K → Tr α → Option α
  | .h, t => t.root
  | .o k, t => get k t.left
  | .i k, t => get k t.right
def put : K → Option α → Tr α → Tr α
  | .h, v, t => node t.left v t.right
  | .o k, v, t => node (put k v t.left) t.root t.right
  | .i k, v, t => node t.left t.root (put k v t.right)
end Tr

/-! ### values -/
inductive AV where
  | b (x : Bool)
  | i (k : IntKind) (n : Int)
  | s (len code : Nat)
  | p (id : K) (off : Nat)
  | pn
  | sl (id : K) (off beg len : Nat) (cap : Option Nat)
  | sn
  /-- an empty slice at the end of one whose cap is not known: at off0 if nothing is left there, else at off1 -/
  | se (id : K) (off0 off1 beg : Nat)
  | m (id : K)
  | mn
  | fn (f : Fn) (first captured : List AV)
  | nf
  | ifc (t : TypeId) (v : AV)
  | ni
  | agg (cs : List AV)
  | tup (vs : List AV)
  deriving Inhabited

structure Ent where
  key : AV
  val : AV
  born : Nat
  deriving Inhabited

structure LoopR where
  state : LoopState
  pending : Option Code
  tmps : Tr AV
  nt : Nat
  params : List Tmp
  asg : Code
  body : Code
  dblock : K
  deriving Inhabited

inductive Blk where
  | cells (cs : List AV) (elem : TypeId) (sz : Nat) (fz : Bool)
  | map (es : List Ent) (clock : Nat)
  | strIter (len code pos : Nat)
  | mapIter (m : Option K) (since : Nat) (seen : List Nat) (stepped : Nat)
  | loop (l : LoopR)
  | defd
  deriving Inhabited

structure H where
  t : Tr Blk
  nx : K
  deriving Inhabited

inductive R (α : Type) where
  | ok (a : α)
  | er (n : Nat)
  deriving Inhabited
namespace R
def bind {α β : Type} : R α → (α → R β) → R β
  | ok a, f => f a
  | er n, _ => er n
def ofO {α : Type} (n : Nat) : Option α → R α
  | some a => ok a
  | none => er n
end R
instance : Monad R where
  pure := R.ok
  bind := R.bind

def undefA : AV := .tup []

def AV.cells : AV → List AV
  | .agg cs => cs
  | v => [v]

/-- bytes as a number, the first byte the lowest -/
def enc : List UInt8 → Nat
  | [] => 0
  | b :: l => b.toNat + 256 * enc l
def bytesOf : Nat → Nat → List UInt8
  | 0, _ => []
  | n + 1, c => UInt8.ofNat (c % 256) :: bytesOf n (c / 256)

mutual
def ofValue : Value → Option AV
  | .bool x => some (.b x)
  | .int k n => some (.i k n)
  | .string s => some (.s s.size (enc s.data.toList))
  | .pointer none => some .pn
  | .slice none 0 0 => some .sn
  | .map none => some .mn
  | .nilFunc => some .nf
  | .nilIface => some .ni
  | .agg ⟨cs⟩ => (match ofValues cs with | some l => some (.agg l) | none => none)
  | .func (.func g) ⟨[]⟩ ⟨[]⟩ => some (.fn (.func g) [] [])
  | _ => none
def ofValues : List Value → Option (List AV)
  | [] => some []
  | v :: l => match ofValue v, ofValues l with | some a, some b => some (a :: b) | _, _ => none
end

def gid (g : Nat) : K := K.ofNat g

def slotK (t : Tmp) : K := K.ofNat t

def opv (t : Tr AV) : Operand → Option AV
  | .tmp x => t.get (slotK x)
  | .const v => ofValue v
  | .global g => if Nat.blt g 64 then some (.p (gid g) 0) else none
  | .func f => some (.fn (.func f) [] [])

def opvs (t : Tr AV) : List Operand → Option (List AV)
  | [] => some []
  | x :: l => match opv t x with | some a => (match opvs t l with | some b => some (a :: b) | none => none) | none => none

def take? {α : Type} : Nat → List α → Option (List α)
  | 0, _ => some []
  | n + 1, a :: l => match take? n l with | some r => some (a :: r) | none => none
  | _ + 1, [] => none

def drop {α : Type} : Nat → List α → List α
  | 0, l => l
  | n + 1, _ :: l => drop n l
  | _ + 1, [] => []

/-- the cells of a row from off on -/
def getCells (h : H) (id : K) (off n : Nat) : Option (List AV) :=
  match h.t.get id with
  | some (.cells cs _ _ _) => take? n (drop off cs)
  | _ => none

def overwrite : List AV → List AV → Option (List AV)
  | cs, [] => some cs
  | _ :: cs, v :: vs => match overwrite cs vs with | some r => some (v :: r) | none => none
  | [], _ :: _ => none
def setAt : Nat → List AV → List AV → Option (List AV)
  | 0, vs, cs => overwrite cs vs
  | n + 1, vs, c :: cs => match setAt n vs cs with | some r => some (c :: r) | none => none
  | _ + 1, _, [] => none

def oneCell : AV → Bool
  | .agg _ | .tup _ => false
  | _ => true

def H.upd (h : H) (id : K) (b : Blk) : H := { h with t := h.t.put id (some b) }
def H.kill (h : H) (id : K) : H := { h with t := h.t.put id none }
def H.new (h : H) (b : Blk) : H := { t := h.t.put h.nx (some b), nx := h.nx.succ }

def setCells (h : H) (id : K) (off : Nat) (vs : List AV) : Option H :=
  match h.t.get id with
  | some (.cells cs e sz false) => if vs.all oneCell then (match setAt off vs cs with | some cs' => some (h.upd id (.cells cs' e sz false)) | none => none) else none
  | _ => none

def desc (P : Program) (t : TypeId) : Option TypeDesc := P.underlying t
def szOf (P : Program) (t : TypeId) : Option Nat := (P.info? t).map (·.size)
def isAggD : TypeDesc → Bool
  | .struct _ => true
  | .array _ _ => true
  | _ => false
def zeroOf (P : Program) (t : TypeId) : Option AV := match P.info? t with | some i => (match i.zero with | some v => ofValue v | none => none) | none => none

def strEq (l c l' c' : Nat) : Option Bool :=
  if Nat.ble (256 ^ l) c then none else if Nat.ble (256 ^ l') c' then none else some (Nat.beq l l' && Nat.beq c c')

def strLt (l c l' c' : Nat) : Bool := Op.bytesLess (bytesOf l c) (bytesOf l' c')

def partA (P : Program) (t : TypeId) (off : Nat) (xs : List AV) : Option AV :=
  match desc P t, szOf P t with
  | some d, some n => if isAggD d then (match take? n (drop off xs) with | some l => some (.agg l) | none => none)
      else (match drop off xs with | v :: _ => some v | [] => none)
  | _, _ => none

def eqlFields (eq : TypeId → AV → AV → Option Bool) (P : Program) : List Field → List AV → List AV → Option Bool
  | [], _, _ => some true
  | f :: fs, xs, ys =>
    if f.name = "_" then eqlFields eq P fs xs ys else
    match partA P f.type f.offset xs, partA P f.type f.offset ys with
    | some a, some b => (match eq f.type a b with
      | some true => eqlFields eq P fs xs ys
      | some false => some false
      | none => none)
    | _, _ => none
def eqlElems (eq : TypeId → AV → AV → Option Bool) (P : Program) (e : TypeId) (n : Nat) (xs ys : List AV) : Nat → Nat → Option Bool
  | 0, _ => some true
  | len + 1, i =>
    match partA P e (i * n) xs, partA P e (i * n) ys with
    | some a, some b => (match eq e a b with
      | some true => eqlElems eq P e n xs ys len (i + 1)
      | some false => some false
      | none => none)
    | _, _ => none

/-- '==' by the kind of type; none: not covered -/
def eqlA (P : Program) : Nat → TypeId → AV → AV → Option Bool
  | 0, _, _, _ => none
  | d + 1, t, x, y =>
    match desc P t, x, y with
    | some .bool, .b a, .b b => some (a == b)
    | some (.int _), .i k a, .i k' b => if k = k' then some (a == b) else none
    | some .string, .s l c, .s l' c' => strEq l c l' c'
    | some (.pointer _), .pn, .pn => some true
    | some (.pointer _), .pn, .p _ _ => some false
    | some (.pointer _), .p _ _, .pn => some false
    | some (.pointer e), .p i o, .p j q => (match szOf P e with | some (_ + 1) => if K.beq i j then some (Nat.beq o q) else none | _ => none)
    | some (.interface _), .ni, .ni => some true
    | some (.interface _), .ni, .ifc _ _ => some false
    | some (.interface _), .ifc _ _, .ni => some false
    | some (.slice _), .sn, .sn => some true
    | some (.slice _), .sn, .sl _ _ _ _ _ => some false
    | some (.slice _), .sl _ _ _ _ _, .sn => some false
    | some (.slice _), .se _ _ _ _, .sn => some false
    | some (.map _ _), .mn, .mn => some true
    | some (.map _ _), .mn, .m _ => some false
    | some (.map _ _), .m _, .mn => some false
    | some (.func _ _ _), .nf, .nf => some true
    | some (.func _ _ _), .nf, .fn _ _ _ => some false
    | some (.func _ _ _), .fn _ _ _, .nf => some false
    | some (.struct fields), .agg xs, .agg ys => if P.stoodInHeld t then none else eqlFields (eqlA P d) P fields.toList xs ys
    | some (.array len e), .agg xs, .agg ys => (match szOf P e with | some n => eqlElems (eqlA P d) P e n xs ys len 0 | none => none)
    | _, _, _ => none


def wrapA (k : IntKind) (n : Int) : AV := .i k (k.wrap n)

def intBin (op : BinOp) (k : IntKind) (a : Int) (k' : IntKind) (b : Int) : Option AV :=
  match op with
  | .shl => if b < 0 then none else some (.i k (k.wrap (a * 2 ^ (min b.toNat k.bits))))
  | .shr => if b < 0 then none else some (.i k (a.fdiv (2 ^ (min b.toNat k.bits))))
  | .add => if k = k' then some (wrapA k (a + b)) else none
  | .sub => if k = k' then some (wrapA k (a - b)) else none
  | .mul => if k = k' then some (wrapA k (a * b)) else none
  | .quo => if k = k' then (if b = 0 then none else some (wrapA k (a.tdiv b))) else none
  | .rem => if k = k' then (if b = 0 then none else some (.i k (a.tmod b))) else none
  | .and => if k = k' then some (wrapA k ((BitVec.ofInt k.bits a &&& BitVec.ofInt k.bits b).toNat)) else none
  | .or => if k = k' then some (wrapA k ((BitVec.ofInt k.bits a ||| BitVec.ofInt k.bits b).toNat)) else none
  | .xor => if k = k' then some (wrapA k ((BitVec.ofInt k.bits a ^^^ BitVec.ofInt k.bits b).toNat)) else none
  | .andNot => if k = k' then some (wrapA k ((BitVec.ofInt k.bits a &&& ~~~(BitVec.ofInt k.bits b)).toNat)) else none
  | .eql => if k = k' then some (.b (a == b)) else none
  | .neq => if k = k' then some (.b (a != b)) else none
  | .lss => if k = k' then some (.b (decide (a < b))) else none
  | .leq => if k = k' then some (.b (decide (a ≤ b))) else none
  | .gtr => if k = k' then some (.b (decide (a > b))) else none
  | .geq => if k = k' then some (.b (decide (a ≥ b))) else none

def strBin (op : BinOp) (l c l' c' : Nat) : Option AV :=
  match op with
  | .add => if Nat.ble (256 ^ l) c then none else if Nat.ble 4611686018427387904 (l + l') then none else some (.s (l + l') (c + c' * 256 ^ l))
  | .eql => (match strEq l c l' c' with | some r => some (.b r) | none => none)
  | .neq => (match strEq l c l' c' with | some r => some (.b !r) | none => none)
  | .lss => some (.b (strLt l c l' c'))
  | .gtr => (match strEq l c l' c' with | some r => some (.b !(strLt l c l' c' || r)) | none => none)
  | .leq => (match strEq l c l' c' with | some r => some (.b (strLt l c l' c' || r)) | none => none)
  | .geq => some (.b !(strLt l c l' c'))
  | _ => none

def binA (P : Program) (op : BinOp) (t : TypeId) (x y : AV) : Option AV :=
  match x, y with
  | .i k a, .i k' b => intBin op k a k' b
  | .s l c, .s l' c' => strBin op l c l' c'
  | x, y =>
    match op with
    | .eql => (match eqlA P 20 t x y with | some r => some (.b r) | none => none)
    | .neq => (match eqlA P 20 t x y with | some r => some (.b !r) | none => none)
    | _ => none

/-- the two operands of an equality need no guard -/
def eqGuardOk (P : Program) (op : BinOp) (t : TypeId) (x y : Operand) (a b : AV) : Bool :=
  match op with
  | .eql | .neq =>
    (match a, b with
    | .ni, .ni => (match x with | .const _ => true | _ => (match y with | .const _ => true | _ => false))
    | .agg _, .agg _ => !(P.eqGuardType P.depth t)
    | _, _ => true)
  | _ => true

def unA (op : UnOp) (x : AV) : Option AV :=
  match op, x with
  | .not, .b v => some (.b !v)
  | .neg, .i k n => some (wrapA k (0 - n))
  | .xor, .i k n => some (wrapA k ((BitVec.ofInt k.bits (if k.signed then -1 else k.max) ^^^ BitVec.ofInt k.bits n).toNat))
  | _, _ => none

def natOf : AV → Option Nat
  | .i _ (.ofNat n) => some n
  | _ => none

def convA (P : Program) (src dst : TypeId) (x : AV) : Option AV :=
  match desc P src, desc P dst, x with
  | some _, some (.int k), .i _ n => some (wrapA k n)
  | some _, some .string, .s l c => some (.s l c)
  | some (.pointer _), some .unsafePointer, .pn => some .pn
  | some .unsafePointer, some (.pointer _), .pn => some .pn
  | _, _, _ => none

/-- the bounds of a slice expression: low, high, max -/
def boundA (v : Option AV) (d y : Nat) : Option Nat :=
  match v with
  | none => some d
  | some a => (match natOf a with | some n => if Nat.ble n y then some n else none | none => none)

/-- how many elements there are at least from a slice's start on, where its cap is not known -/
def roomA (h : H) (id : K) (off beg sz len : Nat) : Option Nat :=
  match h.t.get id with
  | some (.cells cs _ sz' _) =>
    if Nat.beq sz' sz && Nat.beq off (beg * sz) && Nat.blt 0 sz && Nat.ble len ((cs.length - off) / sz) && Nat.ble off cs.length then some ((cs.length - off) / sz) else none
  | _ => none

def sliceA (P : Program) (h : H) (t : TypeId) (x : AV) (lo hi mx : Option AV) : Option AV :=
  match desc P t, x with
  | some .string, .s len c =>
    (match mx with
    | some _ => none
    | none => (match boundA hi len len with
      | some h => (match boundA lo 0 h with
        | some l => some (.s (h - l) (c / 256 ^ l % 256 ^ (h - l)))
        | none => none)
      | none => none))
  | some (.slice e), .sn =>
    (match szOf P e with
    | none => none
    | some _ => match boundA mx 0 0 with
    | some _ => (match boundA hi 0 0 with
      | some _ => (match boundA lo 0 0 with
        | some _ => some .sn
        | none => none)
      | none => none)
    | none => none)
  | some (.slice e), .sl id off beg len cap =>
    (match szOf P e with
    | none => none
    | some sz =>
      match mx, cap with
      | some m, some c => (match boundA (some m) 0 c with
        | some m => (match boundA hi len m with
          | some h => (match boundA lo 0 h with
            | some l => some (.sl id (if Nat.beq m l then off else off + l * sz) (if Nat.beq m l then beg else beg + l) (h - l) (some (m - l)))
            | none => none)
          | none => none)
        | none => none)
      -- the cap is not known: a bound up to what is known to be there is surely within it
      | some m, none => (match roomA h id off beg sz len with
        | none => none
        | some room => (match boundA (some m) 0 room with
        | some m => (match boundA hi len m with
            | some h => (match boundA lo 0 h with
              | some l => some (.sl id (if Nat.beq m l then off else off + l * sz) (if Nat.beq m l then beg else beg + l) (h - l) (some (m - l)))
              | none => none)
            | none => none)
        | none => none))
      | none, some c => (match boundA hi len c with
          | some h => (match boundA lo 0 h with
            | some l => some (.sl id (if Nat.beq c l then off else off + l * sz) (if Nat.beq c l then beg else beg + l) (h - l) (some (c - l)))
            | none => none)
          | none => none)
      | none, none => (match roomA h id off beg sz len with
        | none => none
        | some room => (match boundA hi len room with
          | some hi => (match boundA lo 0 hi with
            -- low = cap is possible at a slice without room: there the address stays; the slice is empty then
            | some l => if Nat.beq l 0 then some (.sl id off beg hi none) else if Nat.blt l room then some (.sl id (off + l * sz) (beg + l) (hi - l) none) else some (.se id off (off + l * sz) (beg + l))
            | none => none)
          | none => none)))
  | some (.array n e), .p id off =>
    (match szOf P e with
    | none => none
    | some sz =>
      match boundA mx n n with
      | some m => (match boundA hi n m with
        | some h => (match boundA lo 0 h with
          | some l => some (.sl id (if Nat.beq m l then off else off + l * sz) 0 (h - l) (some (m - l)))
          | none => none)
        | none => none)
      | none => none)
  | _, _ => none

def lenA (P : Program) (h : H) (t : TypeId) (x : AV) : Option AV :=
  match desc P t, x with
  | some .string, .s l _ => some (.i .i64 l)
  | some (.array n _), _ => some (.i .i64 n)
  | some (.slice _), .sl _ _ _ l _ => some (.i .i64 l)
  | some (.slice _), .sn => some (.i .i64 0)
  | some (.slice _), .se _ _ _ _ => some (.i .i64 0)
  | some (.map _ _), .mn => some (.i .i64 0)
  | some (.map _ _), .m id => (match h.t.get id with | some (.map es _) => some (.i .i64 es.length) | _ => none)
  | _, _ => none

def keyFields (ok : TypeId → AV → Bool) (P : Program) (cs : List AV) : List Field → Bool
  | [] => true
  | f :: fs => (if f.name = "_" then true else match partA P f.type f.offset cs with | some x => ok f.type x | none => false) && keyFields ok P cs fs
def keyElems (ok : TypeId → AV → Bool) (P : Program) (e : TypeId) (n : Nat) (cs : List AV) : Nat → Nat → Bool
  | 0, _ => true
  | len + 1, i => (match partA P e (i * n) cs with | some x => ok e x | none => false) && keyElems ok P e n cs len (i + 1)
/-- a key that the map's own look needs nothing else for -/
def keyOk (P : Program) : Nat → TypeId → AV → Bool
  | 0, _, _ => false
  | d + 1, t, v =>
    match desc P t, v with
    | some (.int _), .i _ _ => true
    | some .string, .s _ _ => true
    | some .bool, .b _ => true
    | some (.array n e), .agg cs => (match szOf P e with
      | some sz => keyElems (keyOk P d) P e sz cs n 0
      | none => false)
    | some (.struct fields), .agg cs => keyFields (keyOk P d) P cs fields.toList
    | _, _ => false

def findA (P : Program) (t : TypeId) (k : AV) : List Ent → Option (Option (Nat × AV))
  | [] => some none
  | e :: es => match eqlA P 20 t k e.key with
    | some true => some (some (0, e.val))
    | some false => (match findA P t k es with
      | some (some (i, v)) => some (some (i + 1, v))
      | some none => some none
      | none => none)
    | none => none

def lookupA (P : Program) (h : H) (t : TypeId) (x k : AV) (ok : Bool) : Option AV :=
  match desc P t with
  | some (.map kt et) =>
    if keyOk P 20 kt k then
      (match (match x with | .mn => some [] | .m id => (match h.t.get id with | some (.map es _) => some es | _ => none) | _ => none) with
      | some es => (match findA P kt k es with
        | some (some (_, v)) => some (if ok then .tup [v, .b true] else v)
        | some none => (match zeroOf P et with | some z => some (if ok then .tup [z, .b false] else z) | none => none)
        | none => none)
      | none => none)
    else none
  | _ => none

def indexAddrA (P : Program) (t : TypeId) (x ix : AV) : Option AV :=
  match natOf ix, desc P t, x with
  | some i, some (.array n e), .p id off => (match szOf P e with | some sz => if Nat.blt i n then some (.p id (off + i * sz)) else none | none => none)
  | some i, some (.slice e), .sl id off _ len _ => (match szOf P e with | some sz => if Nat.blt i len then some (.p id (off + i * sz)) else none | none => none)
  | _, _, _ => none

def indexA (P : Program) (t : TypeId) (x ix : AV) : Option AV :=
  match natOf ix, desc P t, x with
  | some i, some (.array n e), .agg cs => (match szOf P e with | some sz => if Nat.blt i n then partA P e (i * sz) cs else none | none => none)
  | some i, some .string, .s len c => if Nat.blt i len then some (.i .u8 ((c / 256 ^ i % 256 : Nat) : Int)) else none
  | _, _, _ => none

def loadA (P : Program) (h : H) (t : TypeId) (x : AV) : Option AV :=
  match x, desc P t, szOf P t with
  | .p id off, some d, some n =>
    if isAggD d then (match getCells h id off n with | some l => some (.agg l) | none => none)
    else (match getCells h id off 1 with | some (v :: _) => some v | _ => none)
  | _, _, _ => none

def fieldAddrA (P : Program) (t : TypeId) (x : AV) (f : Nat) : Option AV :=
  match desc P t, x with
  | some (.struct fs), .p id off => (match fs[f]? with | some fl => (match szOf P fl.type with | some (_ + 1) => some (.p id (off + fl.offset)) | _ => none) | none => none)
  | _, _ => none

def fieldA (P : Program) (t : TypeId) (x : AV) (f : Nat) : Option AV :=
  match desc P t, x with
  | some (.struct fs), .agg cs => (match fs[f]? with | some fl => partA P fl.type fl.offset cs | none => none)
  | _, _ => none

def fillA (place : Nat → Option (Nat × Nat)) (cells : List AV) : List (Nat × AV) → Option (List AV)
  | [] => some cells
  | (i, v) :: rest => match place i with
    | some (off, size) => if Nat.beq v.cells.length size then (match setAt off v.cells cells with | some cs => fillA place cs rest | none => none) else none
    | none => none

def structPlaces (P : Program) : List Field → Option (List (Nat × Nat))
  | [] => some []
  | f :: fs => match szOf P f.type, structPlaces P fs with
    | some n, some l => some ((f.offset, n) :: l)
    | _, _ => none

def nth? {α : Type} : List α → Nat → Option α
  | [], _ => none
  | a :: _, 0 => some a
  | _ :: l, n + 1 => nth? l n

def buildA (P : Program) (t : TypeId) (parts : List (Nat × AV)) : Option AV :=
  match zeroOf P t, desc P t with
  | some z, some (.struct fs) => (match structPlaces P fs.toList with
    | some pl => (match fillA (nth? pl) z.cells parts with | some cs => some (.agg cs) | none => none)
    | none => none)
  | some z, some (.array _ e) => (match szOf P e with
    | some sz => (match fillA (fun i => some (i * sz, sz)) z.cells parts with | some cs => some (.agg cs) | none => none)
    | none => none)
  | _, _ => none

def repl : Nat → List AV → List AV
  | 0, _ => []
  | n + 1, l => l ++ repl n l

def assertA (P : Program) (x : AV) (asserted : TypeId) (ok : Bool) : Option AV :=
  match desc P asserted, x with
  | some (.interface _), _ => none
  | some _, .ni => if ok then (match zeroOf P asserted with | some z => some (.tup [z, .b false]) | none => none) else none
  | some _, .ifc t v => if Nat.beq t asserted then some (if ok then .tup [v, .b true] else v)
      else if ok then (match zeroOf P asserted with | some z => some (.tup [z, .b false]) | none => none) else none
  | _, _ => none

def extractA (x : AV) (i : Nat) : Option AV :=
  match x with
  | .tup vs => nth? vs i
  | _ => none

def max2A : AV → AV → Option AV
  | .i k x, .i _ y => some (.i k (if y > x then y else x))
  | _, _ => none
def min2A : AV → AV → Option AV
  | .i k x, .i _ y => some (.i k (if y < x then y else x))
  | _, _ => none
def foldA (f : AV → AV → Option AV) : AV → List AV → Option AV
  | a, [] => some a
  | a, b :: l => match f a b with | some c => foldA f c l | none => none

def capA (P : Program) (t : TypeId) (x : AV) : Option AV :=
  match desc P t, x with
  | some (.slice _), .sl _ _ _ _ (some c) => some (.i .i64 c)
  | some (.slice _), .sn => some (.i .i64 0)
  | _, _ => none

/-- what reads at most, and makes nothing -/
def quietA (P : Program) (t : Tr AV) (h : H) (op : Op) : Option AV :=
  match op with
  | .move x | .assign x => opv t x
  | .pick c a b => (match opv t c with | some (.b true) => opv t a | some (.b false) => opv t b | _ => none)
  | .nilCheck x => (match opv t x with | some (.p id o) => some (.p id o) | some (.fn f a b) => (match f with | .func _ => some (.fn f a b) | _ => none) | _ => none)
  | .binOp op ty x y _ => (match opv t x, opv t y with | some a, some b => if eqGuardOk P op ty x y a b then binA P op ty a b else none | _, _ => none)
  | .unOp op _ x => (match opv t x with | some a => unA op a | none => none)
  | .convert s d x => (match opv t x with | some a => convA P s d a | none => none)
  | .makeInterface ty x => (match opv t x, desc P ty with | some _, some (.interface _) => none | some a, some _ => some (.ifc ty a) | _, _ => none)
  | .makeFunc fn first captured => (match fn, opvs t first.toList, opvs t captured.toList with | .func g, some a, some b => some (.fn (.func g) a b) | _, _, _ => none)
  | .slice ty x lo hi mx => (match opv t x with
    | some a => (match opvs t (lo.toList ++ hi.toList ++ mx.toList) with
      | some _ => if mx.isSome && hi.isNone then none else sliceA P h ty a (lo.bind (opv t)) (hi.bind (opv t)) (mx.bind (opv t))
      | none => none)
    | none => none)
  | .fieldAddr ty x f => (match opv t x with | some a => fieldAddrA P ty a f | none => none)
  | .field ty x f => (match opv t x with | some a => fieldA P ty a f | none => none)
  | .indexAddr ty x i => (match opv t x, opv t i with | some a, some b => indexAddrA P ty a b | _, _ => none)
  | .index ty x i => (match opv t x, opv t i with | some a, some b => indexA P ty a b | _, _ => none)
  | .lookup ty x k ok => (match opv t x, opv t k with | some a, some b => lookupA P h ty a b ok | _, _ => none)
  | .load ty x => (match opv t x with | some a => loadA P h ty a | none => none)
  | .extract x i => (match opv t x with | some a => extractA a i | none => none)
  | .typeAssert x _ ty ok => (match opv t x with | some a => assertA P a ty ok | none => none)
  | .build ty parts => (match opvs t (parts.toList.map (·.2)) with | some vs => buildA P ty ((parts.toList.map (·.1)).zip vs) | none => none)
  | .call c => (match c.callee with
    | .builtin .len => (match c.args.toList, c.argTypes.toList with | [x], ty :: _ => (match opv t x with | some a => lenA P h ty a | none => none) | _, _ => none)
    | .builtin .cap => (match c.args.toList, c.argTypes.toList with | [x], ty :: _ => (match opv t x with | some a => capA P ty a | none => none) | _, _ => none)
    | .builtin .max => (match opvs t c.args.toList with | some (a :: l) => foldA max2A a l | _ => none)
    | .builtin .min => (match opvs t c.args.toList with | some (a :: l) => foldA min2A a l | _ => none)
    | _ => none)
  | _ => none

/-- what makes one block, and looks at its operands alone: the block, and the value once its key is known -/
def allocA (P : Program) (t : Tr AV) (op : Op) : Option (Blk × (K → AV)) :=
  match op with
  | .alloc e => (match zeroOf P e with | some z => some (.cells z.cells e z.cells.length false, fun id => .p id 0) | none => none)
  | .box e x => (match opv t x with | some v => some (.cells v.cells e v.cells.length false, fun id => .p id 0) | none => none)
  | .buildSlice ty len parts => (match desc P ty with
    | some (.slice e) => (match szOf P e, opvs t (parts.toList.map (·.2)) with
      | some sz, some vs => if Nat.ble (len * sz) 16777216 then
          (match (if Nat.beq (len * sz) 0 then some [] else (match zeroOf P e with | some z => if Nat.beq z.cells.length sz then some (repl len z.cells) else none | none => none)) with
          | some cs => (match fillA (fun i => some (i * sz, sz)) cs ((parts.toList.map (·.1)).zip vs) with
            | some cs => some (.cells cs e sz false, fun id => .sl id 0 0 len (some len))
            | none => none)
          | none => none) else none
      | _, _ => none)
    | _ => none)
  | .makeMap ty r => (match r with
    | none => some (.map [] 0, fun id => .m id)
    | some x => (match opv t x, desc P ty with | some (.i _ _), some (.map _ _) => some (.map [] 0, fun id => .m id) | _, _ => none))
  | .makeSlice ty l c => (match desc P ty, opv t l, opv t c with
    | some (.slice e), some (.i _ (.ofNat l)), some (.i _ (.ofNat c)) => (match P.info? e, szOf P e with
      | some inf, some sz => if Nat.ble l c && Nat.ble (inf.bytes * c) 1073741824 && Nat.ble c 1073741824 then
          (match (if Nat.beq (c * sz) 0 then some [] else (match zeroOf P e with | some z => if Nat.beq z.cells.length sz then some (repl c z.cells) else none | none => none)) with
          | some cs => some (.cells cs e sz false, fun id => .sl id 0 0 l (some c))
          | none => none) else none
      | _, _ => none)
    | _, _, _ => none)
  | _ => none

def lenOfA : AV → Option Nat
  | .sl _ _ _ l _ => some l
  | .sn => some 0
  | .se _ _ _ _ => some 0
  | .s l _ => some l
  | _ => none
def bytesA : Nat → Nat → List AV
  | 0, _ => []
  | n + 1, c => .i .u8 ((c % 256 : Nat) : Int) :: bytesA n (c / 256)
def firstA (h : H) (sz n : Nat) : AV → Option (List AV)
  | .sl id off _ _ _ => getCells h id off (n * sz)
  | .sn => some []
  | .se _ _ _ _ => (match n with | 0 => some [] | _ => none)
  | .s _ c => some (bytesA n c)
  | _ => none

def lenD : AV → Nat
  | .sl _ _ _ l _ => l
  | _ => 0

/-- n elements of sz cells each, in xs, behind the slice s -/
def appendCells (h : H) (e : TypeId) (sz : Nat) (s : AV) (n : Nat) (xs : List AV) : Option (AV × H) :=
  if xs.all oneCell && Nat.beq xs.length (n * sz) then
    match s with
    | .sn => if Nat.beq n 0 then some (.sn, h) else some (.sl h.nx 0 0 n none, h.new (.cells xs e sz false))
    | .sl id off beg len cap =>
      (match h.t.get id with
      | some (.cells cs e' sz' fz) =>
        if Nat.beq sz' sz then
          let need := len + n
          (match cap with
          | some c =>
            if Nat.ble need c then
              (if Nat.beq n 0 then some (.sl id off beg need (some c), h)
              else if fz then none else (match setAt (off + len * sz) xs cs with | some cs' => some (.sl id off beg need (some c), h.upd id (.cells cs' e' sz' fz)) | none => none))
            else (match take? (len * sz) (drop off cs) with
              | some old => if old.all oneCell then some (.sl h.nx 0 0 need none, h.new (.cells (old ++ xs) e sz false)) else none
              | none => none)
          | none =>
            if Nat.beq n 0 then (if Nat.beq off (beg * sz) && Nat.ble (off + len * sz) cs.length then some (.sl id off beg need none, h) else none)
            else if fz then none
            else if Nat.beq off (beg * sz) then
              (match setAt (off + len * sz) xs cs with
              | some cs' => some (.sl id off beg need none, h.upd id (.cells cs' e' sz' fz))
              | none =>
                if Nat.beq off 0 && Nat.beq (len * sz) cs.length && cs.all oneCell && Nat.beq e e' then
                  some (.sl h.nx 0 0 need none, (h.kill id).new (.cells (cs ++ xs) e' sz' false))
                else none)
            else none)
        else none
      | _ => none)
    | _ => none
  else none

/-- append -/
def appendA (P : Program) (h : H) (ty xty : TypeId) (s x : AV) : Option (AV × H) :=
  match desc P ty, desc P xty with
  | some (.slice e), some xd => (match szOf P e, zeroOf P e, P.info? e with
    | some sz, some z, some inf =>
      if Nat.beq z.cells.length sz && Nat.blt 0 sz then
        (match (match xd with
          | .int _ => (match natOf x with | some n => some (n, some (repl n z.cells)) | none => none)
          | _ => (match lenOfA x with | some n => some (n, firstA h sz n x) | none => none)) with
        | some (n, some xs) => if Nat.ble ((lenD s + n) * inf.bytes) 1073741824 && Nat.ble (lenD s + n) 1073741824 then appendCells h e sz s n xs else none
        | _ => none)
      else none
    | _, _, _ => none)
  | _, _ => none

mutual
def avEq : AV → AV → Bool
  | .b x, .b y => x == y
  | .i k n, .i l m => decide (k = l) && decide (n = m)
  | .s a b, .s c d => Nat.beq a c && Nat.beq b d
  | .p a b, .p c d => K.beq a c && Nat.beq b d
  | .pn, .pn => true
  | .sl a b c d none, .sl e f g h none => K.beq a e && Nat.beq b f && Nat.beq c g && Nat.beq d h
  | .sl a b c d (some x), .sl e f g h (some y) => K.beq a e && Nat.beq b f && Nat.beq c g && Nat.beq d h && Nat.beq x y
  | .sn, .sn => true
  | .se a b c d, .se e f g h => K.beq a e && Nat.beq b f && Nat.beq c g && Nat.beq d h
  | .m a, .m b => K.beq a b
  | .mn, .mn => true
  | .nf, .nf => true
  | .ni, .ni => true
  | .fn (.func f) a b, .fn (.func g) c d => Nat.beq f g && avEqs a c && avEqs b d
  | .ifc t v, .ifc u w => Nat.beq t u && avEq v w
  | .agg a, .agg b => avEqs a b
  | .tup a, .tup b => avEqs a b
  | _, _ => false
def avEqs : List AV → List AV → Bool
  | [], [] => true
  | a :: l, b :: m => avEq a b && avEqs l m
  | _, _ => false
end

def mapPutA (P : Program) (kt : TypeId) (es : List Ent) (clock : Nat) (k v : AV) : Option (List Ent × Nat) :=
  match findA P kt k es with
  | some (some (i, _)) => (match nth? es i with
    | some e => if avEq e.key k then some (modE es i v, clock) else none
    | none => none)
  | some none => some (es ++ [⟨k, v, clock⟩], clock + 1)
  | none => none
where modE : List Ent → Nat → AV → List Ent
  | [], _, _ => []
  | e :: es, 0, v => { e with val := v } :: es
  | e :: es, n + 1, v => e :: modE es n v

def eraseE : List Ent → Nat → List Ent
  | [], _ => []
  | _ :: es, 0 => es
  | e :: es, n + 1 => e :: eraseE es n

/-- a key of which the map keeps no other spelling -/
def plainKey : AV → Bool
  | .i _ _ | .s _ _ | .b _ => true
  | .agg cs => plainKeys cs
  | _ => false
where plainKeys : List AV → Bool
  | [] => true
  | .i _ _ :: l | .s _ _ :: l | .b _ :: l => plainKeys l
  | _ => false

def mapUpdateA (P : Program) (h : H) (t : TypeId) (m k v : AV) : Option H :=
  match desc P t, m with
  | some (.map kt _), .m id => (match h.t.get id with
    | some (.map es clock) => if keyOk P 20 kt k && plainKey k then (match mapPutA P kt es clock k v with
      | some (es', c') => some (h.upd id (.map es' c'))
      | none => none) else none
    | _ => none)
  | _, _ => none

def natMem (n : Nat) : List Nat → Bool
  | [] => false
  | a :: l => Nat.beq n a || natMem n l

/-- one step of an iterator; of a map: at most one entry may be left -/
def nextA (h : H) (it : AV) (isStr : Bool) : Option (AV × H) :=
  match it with
  | .p r 0 => (match h.t.get r, isStr with
    | some (.strIter len c pos), true =>
      if Nat.blt pos len then
        let b := c / 256 ^ pos % 256
        if Nat.blt b 128 then some (.tup [.b true, .i .i64 pos, .i .i32 (b : Int)], h.upd r (.strIter len c (pos + 1))) else none
      else some (.tup [.b false], h)
    | some (.mapIter none _ _ _), false => some (.tup [.b false], h)
    | some (.mapIter (some m) since seen last), false => (match h.t.get m with
      | some (.map es clock) =>
        if !seen.isEmpty && !es.isEmpty && es.all (fun e => Nat.ble last e.born) then none else
        (match es.filter (fun e => !natMem e.born seen) with
        | [] => some (.tup [.b false], h)
        | [e] => if Nat.blt e.born since then some (.tup [.b true, e.key, e.val], h.upd r (.mapIter (some m) since (seen ++ [e.born]) clock)) else none
        | _ => none)
      | _ => none)
    | _, _ => none)
  | _ => none

def lastN : List Nat → Option Nat
  | [] => none
  | [a] => some a
  | _ :: l => lastN l

def entryA (h : H) (it : AV) : Option AV :=
  match it with
  | .p r 0 => (match h.t.get r with
    | some (.mapIter (some m) _ seen stepped) => (match lastN seen, h.t.get m with
      | some st, some (.map es clock) => if Nat.beq clock stepped then (match es.find? (fun e => Nat.beq e.born st) with | some e => some (.tup [e.key, e.val]) | none => none) else none
      | _, _ => none)
    | _ => none)
  | _ => none

/-- what changes the heap, but calls no code -/
def effA (P : Program) (t : Tr AV) (h : H) (op : Op) : Option (AV × H) :=
  match op with
  | .store ty a x => (match opv t a, opv t x, szOf P ty with
    | some (.p id off), some v, some n => if Nat.beq v.cells.length n then (match setCells h id off v.cells with | some h' => some (undefA, h') | none => none) else none
    | _, _, _ => none)
  | .mapUpdate ty m k v | .insert ty m k v => (match opv t m, opv t k, opv t v with
    | some m, some k, some v => (match mapUpdateA P h ty m k v with | some h' => some (undefA, h') | none => none)
    | _, _, _ => none)
  | .range ty x => (match opv t x, desc P ty with
    | some (.s len c), some .string => some (.p h.nx 0, h.new (.strIter len c 0))
    | some .mn, some (.map _ _) => some (.p h.nx 0, h.new (.mapIter none 0 [] 0))
    | some (.m id), some (.map _ _) => (match h.t.get id with | some (.map _ clock) => some (.p h.nx 0, h.new (.mapIter (some id) clock [] clock)) | _ => none)
    | _, _ => none)
  | .next x isStr => (match opv t x with | some a => nextA h a isStr | none => none)
  | .entry x => (match opv t x with | some a => (match entryA h a with | some v => some (v, h) | none => none) | none => none)
  | .call c => (match c.callee with
    | .builtin .append => (match opvs t c.args.toList, c.argTypes.toList with
      | some [s, x], [ty, xty] => appendA P h ty xty s x
      | _, _ => none)
    | .builtin .copy => (match opvs t c.args.toList, c.argTypes.toList with
      | some [d, x], ty :: _ => (match desc P ty with
        | some (.slice e) => (match szOf P e, lenOfA d, lenOfA x with
          | some sz, some dl, some xl =>
            let n := Nat.min xl dl
            (match firstA h sz n x with
            | some cs => (match d with
              | .sn => some (.i .i64 n, h)
              | .sl id off _ _ _ => (match cs with
                | [] => some (.i .i64 n, h)
                | _ => (match setCells h id off cs with | some h' => some (.i .i64 n, h') | none => none))
              | _ => none)
            | none => none)
          | _, _, _ => none)
        | _ => none)
      | _, _ => none)
    | .builtin .delete => (match opvs t c.args.toList, c.argTypes.toList with
      | some [m, k], ty :: _ => (match desc P ty with
        | some (.map kt _) => if keyOk P 20 kt k then (match m with
          | .mn => some (undefA, h)
          | .m id => (match h.t.get id with
            | some (.map es clock) => (match findA P kt k es with
              | some (some (i, _)) => some (undefA, h.upd id (.map (eraseE es i) clock))
              | some none => some (undefA, h)
              | none => none)
            | _ => none)
          | _ => none) else none
        | _ => none)
      | _, _ => none)
    | .builtin .clear => (match opvs t c.args.toList, c.argTypes.toList with
      | some [x], ty :: _ => (match desc P ty, x with
        | some (.map _ _), .mn => some (undefA, h)
        | some (.map _ _), .m id => (match h.t.get id with | some (.map _ clock) => some (undefA, h.upd id (.map [] clock)) | _ => none)
        | some (.slice _), .sn => some (undefA, h)
        | some (.slice _), .sl _ _ _ 0 _ => some (undefA, h)
        | some (.slice e), .sl id off _ n _ => (match zeroOf P e with
          | some z => (match setCells h id off (repl n z.cells) with | some h' => some (undefA, h') | none => none)
          | none => none)
        | _, _ => none)
      | _, _ => none)
    | _ => none)
  | _ => none

/-- what changes the heap, or calls code, or registers a call -/
def isE : Op → Bool
  | .store .. | .mapUpdate .. | .insert .. | .range .. | .next .. | .entry .. | .defer .. => true
  | .call c => (match c.callee with
    | .builtin .len | .builtin .cap | .builtin .max | .builtin .min => false
    | _ => true)
  | _ => false

/-- a quiet operation that looks at the heap -/
def isRead : Op → Bool
  | .load .. | .lookup .. | .slice .. => true
  | .call _ => true
  | _ => false

/-! ### the order of a region that draws -/
structure Row where
  i : Nat
  mask : Nat
  e : Bool

def maskOf (ms : List Nat) : List Edge → Nat
  | [] => 0
  | e :: l => if Region.binds .any e then Nat.lor (Nat.lor (2 ^ e.on) ((nth? ms e.on).getD 0)) (maskOf ms l) else maskOf ms l

/-- the rows of a region: number, what must be done before it, whether it acts -/
def rowsOf : Nat → List Nat → List Oper → List Row
  | _, _, [] => []
  | i, ms, o :: l => let m := maskOf ms o.after.toList; ⟨i, m, isE o.op⟩ :: rowsOf (i + 1) (ms ++ [m]) l

def pendOf : List Row → Nat
  | [] => 0
  | r :: l => if r.e then Nat.lor (2 ^ r.i) (pendOf l) else pendOf l

/-- those that hang on nothing that acts and is still to come, and the others -/
def splitQ (pend : Nat) : List Row → List Row × List Row
  | [] => ([], [])
  | r :: l => match splitQ pend l with
    | (a, b) => if r.e then (a, r :: b) else if Nat.beq (Nat.land r.mask pend) 0 then (r :: a, b) else (a, r :: b)

def firstE : List Row → Option (Row × List Row)
  | [] => none
  | r :: l => if r.e then some (r, l) else match firstE l with | some (x, m) => some (x, r :: m) | none => none

def planGo : Nat → List Row → List Row
  | 0, _ => []
  | n + 1, rs => match splitQ (pendOf rs) rs with
    | (now, later) => match firstE later with
      | some (x, rest) => now ++ x :: planGo n rest
      | none => now

def planOk (all : Nat) : Nat → Nat → List Row → Bool
  | done, _, [] => Nat.beq done all
  | done, acts, r :: l =>
    if Nat.beq (Nat.land r.mask done) r.mask && Nat.beq (Nat.land acts r.mask) acts && Nat.beq (Nat.land (2 ^ r.i) done) 0 then
      planOk all (Nat.lor (2 ^ r.i) done) (if r.e then Nat.lor (2 ^ r.i) acts else acts) l
    else false

def sameDst : Option Tmp → Option Tmp → Bool
  | some a, some b => Nat.beq a b
  | _, _ => false

/-- o against the rows before it in the plan: no two write the same; those that it need not wait for neither look at what the other writes -/
def apartRow (ops : Array Oper) (o : Oper) (mask : Nat) : List Row → Bool
  | [] => true
  | q :: l => (match ops[q.i]? with
    | some p => !(sameDst p.dst o.dst) && (Nat.testBit mask q.i || p.apart ops o)
    | none => false) && apartRow ops o mask l
def apartOk (ops : Array Oper) : List Row → List Row → Bool
  | _, [] => true
  | done, r :: l => (match ops[r.i]? with
    | some o => apartRow ops o r.mask done && apartOk ops (r :: done) l
    | none => false)

def planOf (ops : Array Oper) : Option (List Row) :=
  let rs := planGo (ops.size + 1) (rowsOf 0 [] ops.toList)
  if planOk (2 ^ ops.size - 1) 0 0 rs && apartOk ops [] rs then some rs else none

/-! ### control -/
inductive X where
  | normal
  | exit (id : Nat)
  | goto (l : Nat)
  | ret

structure St where
  t : Tr AV
  nt : Nat                    -- how many temporaries the frame has
  h : H
  ds : List (AV × List AV)    -- the deferred calls: function value, arguments
  deriving Inhabited

def St.set (s : St) (d : Option Tmp) (v : AV) : St :=
  match d with
  | some d => if Nat.blt d s.nt then { s with t := s.t.put (slotK d) (some v) } else { s with t := .nil }
  | none => s

def yieldedA (ops : Array Oper) (t : Tr AV) (j : Nat) : Option Bool :=
  match ops[j]? with
  | some o => (match o.dst with
    | some d => (match t.get (slotK d) with | some (.b v) => some v | _ => none)
    | none => none)
  | none => none

/-- is the operation wanted; none: cannot be told -/
def wantedA (ops : Array Oper) (o : Oper) (t : Tr AV) : Option Bool :=
  match o.guard with
  | none => some true
  | some (j, want) => (match ops[j]? with
    | some q => (match q.dst with
      | some d => (match t.get (slotK d) with
        | some (.b v) => some (v == want)
        | some _ => some false
        | none => none)
      | none => none)
    | none => none)

def initT : Nat → List AV → Tr AV → Tr AV
  | _, [], t => t
  | n, v :: l, t => initT (n + 1) l (t.put (slotK n) (some v))

def resultsA (P : Program) (t : Tr AV) (h : H) : List ResultVar → Option (List AV)
  | [] => some []
  | .tmp x :: l => (match t.get (slotK x), resultsA P t h l with | some v, some r => some (v :: r) | _, _ => none)
  | .cell a ty :: l => (match t.get (slotK a) with
    | some p => (match loadA P h ty p, resultsA P t h l with | some v, some r => some (v :: r) | _, _ => none)
    | none => none)

def resultV : List AV → AV
  | [v] => v
  | l => .tup l

/-- plug-ins: some r: the call is answered by r -/
structure Plug where
  call : FuncId → List AV → H → Option (R (AV × H))
  dfr : FuncId → List AV → H → Bool      -- a deferred call that does nothing

section
variable (P : Program) (G : Plug)

/-- the deferred calls of a frame that returns, one after the other -/
def defersA (ev : Option K → Code → St → R (X × St)) : List (AV × List AV) → H → R H
  | [], h => .ok h
  | d :: ds, h => match d.1 with
    | .p dk 0 => (match d.2, h.t.get dk with
      | [], some .defd => defersA ev ds (h.kill dk)
      | _, _ => .er 17)
    | .fn (.func g) first cap =>
      if G.dfr g (first ++ d.2 ++ cap) h then defersA ev ds h else
      (match P.funcs[g]? with
      | none => .er 4
      | some fn => if fn.name == "runtime.NumGoroutine" then .er 2 else (match fn.body with
        | none => .er 5
        | some c => if Nat.blt fn.ntmps (first ++ d.2 ++ cap).length then .er 9 else (match ev none c { t := initT 0 (first ++ d.2 ++ cap) .nil, nt := fn.ntmps, h, ds := [] } with
          | .ok (.normal, s) | .ok (.ret, s) => (match s.ds, resultsA P s.t s.h fn.results.toList with
            | [], some _ => defersA ev ds s.h
            | _, _ => .er 6)
          | .ok _ => .er 7
          | .er n => .er n)))
    | _ => .er 8

/-- a call of a function, by its body -/
def bodyA (ev : Option K → Code → St → R (X × St)) (f : FuncId) (args : List AV) (h : H) : R (AV × H) :=
  match P.funcs[f]? with
  | none => .er 1
  | some fn =>
    if fn.name == "runtime.NumGoroutine" then .er 2 else
    match fn.body with
    | none => .er (1000000 + f)
    | some c =>
      if Nat.blt fn.ntmps args.length then .er 9 else
      match ev none c { t := initT 0 args .nil, nt := fn.ntmps, h, ds := [] } with
      | .er n => .er n
      | .ok (x, s) =>
        match x with
        | .normal | .ret =>
          match defersA P G ev s.ds s.h with
          | .er n => .er n
          | .ok h => match resultsA P s.t h fn.results.toList with
            | some l => .ok (resultV l, h)
            | none => .er (2000000 + f)
        | _ => .er 3

def callA (ev : Option K → Code → St → R (X × St)) (f : FuncId) (args : List AV) (h : H) : R (AV × H) :=
  match G.call f args h with
  | some r => r
  | none => bodyA P G ev f args h

def setParams (nt : Nat) : List Tmp → List AV → Tr AV → Option (Tr AV)
  | [], [], t => some t
  | p :: ps, v :: vs, t => if Nat.blt p nt then setParams nt ps vs (t.put (slotK p) (some v)) else none
  | _, _, _ => none

def jumpOf : X → Option Code
  | .normal => none
  | .ret => some .ret
  | .exit id => some (.exit id)
  | .goto l => some (.goto l)

def roundA (ev : Option K → Code → St → R (X × St)) (l : K) (args : List AV) (h : H) : R (AV × H) :=
  match h.t.get l with
  | some (.loop r) => (match setParams r.nt r.params args r.tmps with
    | none => .er 10
    | some t => match ev (some l) r.asg { t, nt := r.nt, h, ds := [] } with
      | .er n => .er n
      | .ok (.normal, s) => (match s.h.t.get l with
        | some (.loop r') => (match r'.state with
          | .ready => (match ev (some l) r.body { s with h := s.h.upd l (.loop { r' with state := .busy }) } with
            | .er n => .er n
            | .ok (x, s) => (match s.h.t.get l with
              | some (.loop r'') => (match s.ds with
                | [] => (match x with
                  | .normal => .ok (.b true, s.h.upd l (.loop { r'' with state := .ready, pending := none }))
                  | x => .ok (.b false, s.h.upd l (.loop { r'' with state := .done, pending := jumpOf x })))
                | _ => .er 11)
              | _ => .er 12))
          | _ => .er 13)
        | _ => .er 14)
      | .ok _ => .er 15)
  | _ => .er 16

/-- a call of a function value -/
def callV (ev : Option K → Code → St → R (X × St)) (f : AV) (args : List AV) (h : H) : R (AV × H) :=
  match f with
  | .fn (.func g) first cap => callA P G ev g (first ++ args ++ cap) h
  | .fn (.yield _) [.p l 0] [] => roundA ev l args h
  | _ => .er 20

/-- an operation that does not act -/
def calmA (o : Oper) (s : St) : R St :=
  match quietA P s.t s.h o.op with
  | some v => .ok (s.set o.dst v)
  | none =>
    match allocA P s.t o.op with
    | some (b, f) => .ok ({ s with h := s.h.new b }.set o.dst (f s.h.nx))
    | none => .er (1 + 256 * enc o.pos.toUTF8.data.toList)

/-- an operation that acts -/
def actA (rd : Bool) (ev : Option K → Code → St → R (X × St)) (o : Oper) (s : St) : R St :=
  match effA P s.t s.h o.op with
  | some (v, h) => .ok ({ s with h }.set o.dst v)
  | none =>
    match o.op with
    | .call c => (match c.callee with
      | .value f => (match opv s.t f, opvs s.t c.args.toList with
        | some fv, some args => (match callV P G ev fv args s.h with
          | .ok (v, h) => .ok ({ s with h }.set o.dst v)
          | .er n => .er n)
        | _, _ => .er 30)
      | _ => .er (2 + 256 * enc o.pos.toUTF8.data.toList))
    | .defer c => (match c.callee with
      | .value f => (match opv s.t f, opvs s.t c.args.toList with
        | some (.fn (.func g) a b), some args => if rd then .er 35 else .ok ({ s with ds := (.fn (.func g) a b, args) :: s.ds }.set o.dst undefA)
        | _, _ => .er 33)
      | _ => .er 34)
    | _ => .er (3 + 256 * enc o.pos.toUTF8.data.toList)

def operA (rd : Bool) (ev : Option K → Code → St → R (X × St)) (o : Oper) (s : St) : R St :=
  if isE o.op then actA P G rd ev o s else calmA P o s

def opsA (rd : Bool) (ev : Option K → Code → St → R (X × St)) (ops : Array Oper) : List Oper → St → R St
  | [], s => .ok s
  | o :: l, s =>
    match wantedA ops o s.t with
    | some true => (match operA P G rd ev o s with
      | .ok s' => opsA rd ev ops l s'
      | .er n => .er n)
    | some false => opsA rd ev ops l (s.set o.dst undefA)
    | none => .er 41

/-- a read that is done: the row's number, the operation, the temporaries, the value -/
structure Seen where
  i : Nat
  op : Op
  t : Tr AV
  v : AV

/-- what was read, read again -/
def recheck (mask : Nat) (h : H) : List Seen → Bool
  | [] => true
  | q :: l => (if Nat.testBit mask q.i then true else (match quietA P q.t h q.op with | some v => avEq v q.v | none => false)) && recheck mask h l

def dstOk (nt : Nat) : Option Tmp → Bool
  | some d => Nat.blt d nt
  | none => true

def drawA (rd : Bool) (ev : Option K → Code → St → R (X × St)) (ops : Array Oper) : List Row → List Seen → St → R St
  | [], _, s => .ok s
  | r :: l, done, s =>
    match ops[r.i]? with
    | none => .er 40
    | some o => if dstOk s.nt o.dst then (match wantedA ops o s.t with
      | some true =>
        if r.e then (match actA P G rd ev o s with
          | .ok s' => if recheck P r.mask s'.h done then drawA rd ev ops l done s' else .er (4 + 256 * enc o.pos.toUTF8.data.toList)
          | .er n => .er n)
        else (match quietA P s.t s.h o.op with
          | some v => drawA rd ev ops l (if isRead o.op then ⟨r.i, o.op, s.t, v⟩ :: done else done) (s.set o.dst v)
          | none => (match allocA P s.t o.op with
            | some (b, f) => drawA rd ev ops l done ({ s with h := s.h.new b }.set o.dst (f s.h.nx))
            | none => .er (1 + 256 * enc o.pos.toUTF8.data.toList)))
      | some false => drawA rd ev ops l done (s.set o.dst undefA)
      | none => .er 42) else .er 43

def regionA (rd : Bool) (ev : Option K → Code → St → R (X × St)) (ops : Array Oper) (draw : Bool) (s : St) : R St :=
  if draw then (match planOf ops with
    | some rs => drawA P G rd ev ops rs [] s
    | none => .er (5 + 256 * (match ops[0]? with | some o => enc o.pos.toUTF8.data.toList | none => 0)))
  else opsA P G rd ev ops ops.toList s

/-- entering a range over a function: the block for its rounds' deferred calls, and the mark of it -/
def enterA (ctx : Option K) (s : St) : Option (K × H × List (AV × List AV)) :=
  match ctx with
  | some l => (match s.h.t.get l with | some (.loop r) => some (r.dblock, s.h, []) | _ => none)
  | none => some (s.h.nx, s.h.new .defd, [(.p s.h.nx 0, [])])

/-- behind a scope's code: the gotos back into it -/
def scopeA (ev : Option K → Code → St → R (X × St)) (ctx : Option K) (c : Code) : Nat → X × St → R (X × St)
  | 0, _ => .er 80
  | k + 1, (x, s) => match x with
    | .goto l => (match findLabel c l with
      | some rest => (match ev ctx rest s with
        | .ok r => scopeA ev ctx c k r
        | .er n => .er n)
      | none => .ok (.goto l, s))
    | x => .ok (x, s)

def stepA (ev : Option K → Code → St → R (X × St)) (ctx : Option K) (c : Code) (s : St) : R (X × St) :=
  match c with
  | .skip | .label _ => .ok (.normal, s)
  | .region _ ops draw => (match regionA P G ctx.isSome ev ops draw s with | .ok s' => .ok (.normal, s') | .er n => .er n)
  | .seq a b => (match ev ctx a s with
    | .ok (.normal, s') => ev ctx b s'
    | r => r)
  | .cond c a b => (match opv s.t c with
    | some (.b true) => ev ctx a s
    | some (.b false) => ev ctx b s
    | _ => .er 50)
  | .block id c => (match ev ctx c s with
    | .ok (.exit id', s') => if Nat.beq id' id then .ok (.normal, s') else .ok (.exit id', s')
    | r => r)
  | .loop c => (match ev ctx c s with
    | .ok (.normal, s') => ev ctx (.loop c) s'
    | r => r)
  | .exit id => .ok (.exit id, s)
  | .goto l => .ok (.goto l, s)
  | .ret => .ok (.ret, s)
  | .scope c => (match ev ctx c s with
    | .ok r => scopeA ev ctx c 100000 r
    | .er n => .er n)
  | .rangeFunc f params asg body => (match opv s.t f with
    | some (.fn (.func g) first cap) =>
      (match enterA ctx s with
      | none => .er 63
      | some (dk, h1, mark) =>
      (match bodyA P G ev g (first ++ [.fn (.yield 0) [.p h1.nx 0] []] ++ cap) (h1.new (.loop { state := .ready, pending := none, tmps := s.t, nt := s.nt, params := params.toList, asg, body, dblock := dk })) with
      | .er n => .er n
      | .ok (_, h) => (match h.t.get h1.nx with
        | some (.loop r) => (match r.state with
          | .busy => .er 60
          | _ => (match r.pending with
            | none => .ok (.normal, { s with h := h.upd h1.nx (.loop { r with state := .exhausted }), ds := mark ++ s.ds })
            | some c => ev ctx c { s with h := h.upd h1.nx (.loop { r with state := .exhausted }), ds := mark ++ s.ds }))
        | _ => .er 61)))
    | _ => .er 62)
  | .refuse _ => .er 70

def ev : Nat → Option K → Code → St → R (X × St)
  | 0, _, _, _ => .er 99
  | n + 1, ctx, c, s => stepA P G (ev n) ctx c s

def run (fuel : Nat) (f : FuncId) (args : List AV) (h : H) : R (AV × H) := callA P G (ev P G fuel) f args h
end

end Go.Ev
