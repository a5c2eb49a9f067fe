/-
  THE ABSTRACT MACHINE: definitions. A second, simpler machine for the model's own code: values are trees, memory that a call no longer writes is part of the value ('fptr', 'fsl', 'fmap'), memory that it writes lies in a small heap of numbered objects. Conditions: none; nothing is proved here.
-/
import Derived.Deep.AppendSrc
namespace Go.AM

/-- Abstract values. -/
inductive AV where
  | undef
  | bool (b : Bool)
  | int (k : IntKind) (n : Int)
  | str (s : List UInt8)
  | nilp
  | ptr (id off top : Nat)
  | fptr (cells : List AV)
  | sptr (cells : List AV)
  | nils
  | sl (id es off n top : Nat)
  | fsl (ex : Bool) (n : Nat) (cells : List AV)
  | nilm
  | map (id : Nat)
  | fmap (ks vs : List AV)
  | fn (f : FuncId) (first caps : List AV)
  | nilf
  | iface (t : TypeId) (v : AV)
  | nili
  | agg (cs : List AV)
  | tup (vs : List AV)
  | iter (id : Nat)
  deriving Inhabited

/-- Abstract objects. -/
inductive AObj where
  | cells (xs : List AV)
  | map (gen : Nat) (ks vs : List AV)
  | iter (m gen : Nat) (cur : List AV) (ks vs : List AV)
  deriving Inhabited

def AObj.top : AObj → Nat
  | .cells xs => xs.length
  | _ => 0

/-- The heap of objects that may still be written, and the next number. -/
structure Mem where
  h : Nat → Option AObj
  nx : Nat

def Mem.empty : Mem := ⟨fun _ => none, 0⟩

def upd (h : Nat → Option AObj) (i : Nat) (o : Option AObj) : Nat → Option AObj := fun j => bif j == i then o else h j

def Mem.set (m : Mem) (i : Nat) (o : Option AObj) : Mem := ⟨upd m.h i o, m.nx⟩
def Mem.new (m : Mem) (o : AObj) : Mem := ⟨upd m.h m.nx (some o), m.nx + 1⟩

/-- A frame's slots. -/
structure St where
  t : List (Nat × AV)
  nt : Nat
  m : Mem

def get : List (Nat × AV) → Nat → AV
  | [], _ => .undef
  | (j, v) :: r, i => bif i == j then v else get r i

def St.get (s : St) (i : Nat) : AV := AM.get s.t i

def St.put (s : St) (d : Option Nat) (v : AV) : Option St :=
  match d with
  | none => some s
  | some d => bif Nat.blt d s.nt then some { s with t := (d, v) :: s.t } else none

def St.mem (s : St) (m : Mem) : St := { s with m := m }

/-- Only these slots are kept. -/
def St.keep (s : St) (l : List Nat) : St := { s with t := l.map fun i => (i, s.get i) }

/-- What a cell of a zero value is. -/
def ofCell : Value → Option AV
  | .bool b => some (.bool b)
  | .int k n => some (.int k n)
  | .string s => some (.str s.data.toList)
  | .pointer none => some .nilp
  | .slice none 0 0 => some .nils
  | .map none => some .nilm
  | .nilFunc => some .nilf
  | .nilIface => some .nili
  | _ => none

def ofCells : List Value → Option (List AV)
  | [] => some []
  | v :: r => (ofCell v).bind fun a => (ofCells r).bind fun as => some (a :: as)

def ofConst : Value → Option AV
  | .agg cs => (ofCells cs.toList).map .agg
  | v => ofCell v

def AV.cells : AV → List AV
  | .agg cs => cs
  | v => [v]

/-- May it stand in one cell? -/
def AV.one : AV → Bool
  | .undef | .agg _ | .tup _ => false
  | _ => true

def oneL : List AV → Bool
  | [] => true
  | a :: r => a.one && oneL r

mutual
/-- Does it name no object of the heap? -/
def AV.closed : AV → Bool
  | .ptr .. | .sl .. | .map _ | .iter _ => false
  | .sptr _ => false
  | .iface _ v => v.closed
  | .agg cs => closedL cs
  | .tup cs => closedL cs
  | .fn _ f c => closedL f && closedL c
  | _ => true
def closedL : List AV → Bool
  | [] => true
  | a :: r => a.closed && closedL r
end

/-- Numbers, strings and the like alone. -/
def AV.flat1 : AV → Bool
  | .bool _ | .int .. | .str _ | .nilp | .nils | .nilm | .nilf | .nili => true
  | _ => false

def flatL : List AV → Bool
  | [] => true
  | a :: r => a.flat1 && flatL r

def AV.flat : AV → Bool
  | .agg cs => flatL cs
  | .tup cs => flatL cs
  | v => v.flat1

def mapO (f : AV → Option AV) : List AV → Option (List AV)
  | [] => some []
  | a :: r => (f a).bind fun b => (mapO f r).bind fun bs => some (b :: bs)

/-- The objects behind a value are made part of it. -/
def deep (h : Nat → Option AObj) : Nat → AV → Option AV
  | 0, _ => none
  | d + 1, .ptr id off top => match h id with
    | some (.cells xs) => bif xs.length == top && Nat.ble off top then (mapO (deep h d) xs).bind fun ys => some (.fptr (ys.drop off)) else none
    | _ => none
  | d + 1, .sl id es off n top => match h id with
    | some (.cells xs) => bif xs.length == top && Nat.ble (off + n * es) top then (mapO (deep h d) ((xs.drop off).take (n * es))).bind fun ys => some (.fsl false n ys) else none
    | _ => none
  | d + 1, .map id => match h id with
    | some (.map _ ks vs) => (mapO (deep h d) ks).bind fun ks' => (mapO (deep h d) vs).bind fun vs' => some (.fmap ks' vs')
    | _ => none
  | d + 1, .sptr cs => (mapO (deep h d) cs).bind fun ys => some (.fptr ys)
  | d + 1, .agg cs => (mapO (deep h d) cs).bind fun ys => some (.agg ys)
  | d + 1, .tup cs => (mapO (deep h d) cs).bind fun ys => some (.tup ys)
  | _ + 1, .iter _ => none
  | _ + 1, v => bif v.closed then some v else none

def deepNo : Nat := 6

/-! ### Types -/
def sizeT (P : Program) (t : TypeId) : Option Nat := (P.info? t).map (·.size)
def bytesT (P : Program) (t : TypeId) : Option Nat := (P.info? t).map (·.bytes)
def aggT (P : Program) (t : TypeId) : Option Bool := (P.underlying t).map fun | .struct _ | .array _ _ => true | _ => false
def zeroT (P : Program) (t : TypeId) : Option AV := (P.info? t).bind fun i => i.zero.bind ofConst
def fieldT (P : Program) (t : TypeId) (f : Nat) : Option Field :=
  match P.underlying t with
  | some (.struct fs) => fs[f]?
  | _ => none

/-! ### Memory -/
/-- n cells behind a pointer. -/
def readN (m : Mem) (n : Nat) : AV → Option (List AV)
  | .fptr cells => bif Nat.ble n cells.length then some (cells.take n) else none
  | .sptr cells => bif Nat.ble n cells.length then some (cells.take n) else none
  | .ptr id off top => match m.h id with
    | some (.cells xs) => bif xs.length == top && Nat.ble (off + n) top then some ((xs.drop off).take n) else none
    | _ => none
  | _ => none

def read1 (m : Mem) : AV → Option AV
  | .fptr cells => cells.head?
  | .sptr cells => cells.head?
  | .ptr id off top => match m.h id with
    | some (.cells xs) => bif xs.length == top then xs[off]? else none
    | _ => none
  | _ => none

def splice (xs : List AV) (off : Nat) (cs : List AV) : List AV := xs.take off ++ cs ++ xs.drop (off + cs.length)

def writeN (m : Mem) (cs : List AV) : AV → Option Mem
  | .ptr id off top => match m.h id with
    | some (.cells xs) => bif xs.length == top && (Nat.ble (off + cs.length) top && oneL cs) then some (m.set id (some (.cells (splice xs off cs)))) else none
    | _ => none
  | _ => none

def write1 (m : Mem) (c : AV) : AV → Option Mem
  | .ptr id off top => match m.h id with
    | some (.cells xs) => bif xs.length == top && (Nat.blt off top && c.one) then some (m.set id (some (.cells (xs.set off c)))) else none
    | _ => none
  | _ => none

def loadA (g : Bool) (n : Nat) (m : Mem) (a : AV) : Option AV := bif g then (readN m n a).map .agg else read1 m a
def storeA (g : Bool) (n : Nat) (m : Mem) (a v : AV) : Option Mem :=
  bif g then (match v with | .agg cs => bif cs.length == n then writeN m cs a else none | _ => none) else (bif n == 1 then write1 m v a else none)

/-- A load that looks at no object. -/
def loadF (g : Bool) (n : Nat) : AV → Option AV
  | .fptr cells => bif g then (bif Nat.ble n cells.length then some (.agg (cells.take n)) else none) else cells.head?
  | .sptr cells => bif g then (bif Nat.ble n cells.length then some (.agg (cells.take n)) else none) else cells.head?
  | _ => none

/-- A new object. -/
def newPtr (m : Mem) (cs : List AV) : Option (AV × Mem) := bif oneL cs then some (.ptr m.nx 0 cs.length, m.new (.cells cs)) else none

/-! ### Addresses, indexes, slices -/
def inR (j : Int) (n : Nat) : Bool := decide (0 ≤ j) && decide (j < (n : Int))

def fieldA (off : Nat) : AV → Option AV
  | .ptr id o top => some (.ptr id (o + off) top)
  | .fptr cells => some (.fptr (cells.drop off))
  | .sptr cells => some (.sptr (cells.drop off))
  | _ => none

def idxSl (size : Nat) (x : AV) : AV → Option AV
  | .int _ j => match x with
    | .fsl _ n cells => bif inR j n then some (.fptr (cells.drop (j.toNat * size))) else none
    | .sl id es off n top => bif es == size && inR j n then some (.ptr id (off + j.toNat * size) top) else none
    | _ => none
  | _ => none

def idxArr (len size : Nat) (x : AV) : AV → Option AV
  | .int _ j => bif inR j len then (match x with
    | .fptr cells => some (.fptr (cells.drop (j.toNat * size)))
    | .sptr cells => some (.sptr (cells.drop (j.toNat * size)))
    | .ptr id off top => some (.ptr id (off + j.toNat * size) top)
    | _ => none) else none
  | _ => none

def lenA : AV → Option Nat
  | .nils => some 0
  | .fsl _ n _ => some n
  | .sl _ _ _ n _ => some n
  | .str s => some s.length
  | _ => none

/-- A bound of a slice expression. -/
def bnd (d : Nat) : Option AV → Option Int
  | none => some d
  | some (.int _ j) => some j
  | some _ => none

/-- Both bounds, in range. -/
def bnds (n : Nat) (lo hi : Option AV) : Option (Nat × Nat) :=
  (bnd n hi).bind fun h => (bnd 0 lo).bind fun l => bif decide (0 ≤ l) && (decide (l ≤ h) && decide (h ≤ (n : Int))) then some (l.toNat, h.toNat) else none

def sliceSl (size : Nat) (x : AV) (lo hi : Option AV) : Option AV :=
  match x with
  | .fsl ex n cells => (bnds n lo hi).bind fun (l, h) => some (.fsl (ex && h == n) (h - l) ((cells.drop (l * size)).take ((h - l) * size)))
  | .sl id es off n top => bif es == size then (bnds n lo hi).bind fun (l, h) => some (.sl id es (off + l * size) (h - l) top) else none
  | .nils => (bnds 0 lo hi).bind fun _ => some .nils
  | _ => none

def sliceArr (len size : Nat) (x : AV) (lo hi : Option AV) : Option AV :=
  (bnds len lo hi).bind fun (l, h) => match x with
  | .fptr cells => bif Nat.ble (len * size) cells.length then some (.fsl (h == len) (h - l) ((cells.drop (l * size)).take ((h - l) * size))) else none
  | .ptr id off top => bif Nat.ble (off + len * size) top then some (.sl id size (off + l * size) (h - l) top) else none
  | _ => none

def sliceStr (x : AV) (lo hi : Option AV) : Option AV :=
  match x with
  | .str s => (bnds s.length lo hi).bind fun (l, h) => some (.str ((s.drop l).take (h - l)))
  | _ => none

/-! ### append, copy, make -/
/-- The elements of what is appended or copied: how many, and their cells. -/
def srcA (m : Mem) (size : Nat) : AV → Option (Nat × List AV)
  | .nils => some (0, [])
  | .fsl _ n cells => bif cells.length == n * size then some (n, cells) else none
  | .sl id es off n top => match m.h id with
    | some (.cells xs) => bif xs.length == top && (es == size && Nat.ble (off + n * size) top) then some (n, (xs.drop off).take (n * size)) else none
    | _ => none
  | .str s => bif size == 1 then some (s.length, s.map fun b => .int .u8 b.toNat) else none
  | _ => none

def room (n bytes : Nat) : Bool := Nat.ble n 4611686018427387904 && Nat.ble (n * bytes) 70368744177664

def appendA (size bytes : Nat) (m : Mem) (s x : AV) : Option (AV × Mem) :=
  bif size == 0 then none else (srcA m size x).bind fun (n, news) => match s with
  | .nils => bif n == 0 then some (.nils, m) else bif room n bytes then some (.sl m.nx size 0 n news.length, m.new (.cells news)) else none
  | .fsl true n0 cells => bif n == 0 then some (.fsl true n0 cells, m) else
      bif room (n0 + n) bytes && cells.length == n0 * size then some (.sl m.nx size 0 (n0 + n) (cells ++ news).length, m.new (.cells (cells ++ news))) else none
  | .sl id es off n0 top => match m.h id with
    | some (.cells xs) => bif xs.length == top && (es == size && off + n0 * size == top) then
        (bif n == 0 then some (.sl id es off n0 top, m) else
         bif room (n0 + n) bytes then
          (bif off == 0 then some (.sl id es 0 (n0 + n) (xs ++ news).length, m.set id (some (.cells (xs ++ news))))
           else some (.sl m.nx es 0 (n0 + n) (xs.drop off ++ news).length, (m.set id none).new (.cells (xs.drop off ++ news))))
         else none) else none
    | _ => none
  | _ => none

def AV.isStr : AV → Bool
  | .str _ => true
  | _ => false

def copyA (size : Nat) (m : Mem) (d s : AV) : Option (AV × Mem) :=
  bif size == 1 && !s.isStr then (srcA m size s).bind fun (n, news) => match d with
  | .nils => some (.int .i64 0, m)
  | .sl id es off n0 top => match m.h id with
    | some (.cells xs) => bif xs.length == top && (es == size && Nat.ble (off + n0 * size) top) then
        some (.int .i64 (Nat.min n n0 : Nat), m.set id (some (.cells (splice xs off (news.take (Nat.min n n0 * size)))))) else none
    | _ => none
  | _ => none else none

def repl (n : Nat) : List AV → List AV
  | [z] => List.replicate n z
  | zs => (List.replicate n zs).flatten

def makeA (size bytes : Nat) (z : AV) (m : Mem) (l c : AV) : Option (AV × Mem) :=
  match l, c with
  | .int .i64 l, .int .i64 c =>
      bif decide (0 ≤ l) && (decide (l = c) && (room l.toNat bytes && (z.cells.length == size && oneL z.cells))) then
        some (.sl m.nx size 0 l.toNat (repl l.toNat z.cells).length, m.new (.cells (repl l.toNat z.cells))) else none
  | _, _ => none

/-! ### Numbers, strings, equality -/
def kk (k k' : IntKind) (v : Option AV) : Option AV := bif decide (k = k') then v else none

def bitsA (op : BinOp) (k : IntKind) (x y : Int) : Option AV :=
  match op with
  | .and => some (.int k (k.wrap (BitVec.ofInt k.bits x &&& BitVec.ofInt k.bits y).toNat))
  | .or => some (.int k (k.wrap (BitVec.ofInt k.bits x ||| BitVec.ofInt k.bits y).toNat))
  | .xor => some (.int k (k.wrap (BitVec.ofInt k.bits x ^^^ BitVec.ofInt k.bits y).toNat))
  | .andNot => some (.int k (k.wrap (BitVec.ofInt k.bits x &&& ~~~(BitVec.ofInt k.bits y)).toNat))
  | _ => none

def arithA (op : BinOp) (k : IntKind) (x y : Int) : Option AV :=
  match op with
  | .add => some (.int k (k.wrap (x + y)))
  | .sub => some (.int k (k.wrap (x - y)))
  | .mul => some (.int k (k.wrap (x * y)))
  | .quo => bif decide (y = 0) then none else some (.int k (k.wrap (x.tdiv y)))
  | .rem => bif decide (y = 0) then none else some (.int k (x.tmod y))
  | .eql => some (.bool (x == y))
  | .neq => some (.bool (x != y))
  | .lss => some (.bool (decide (x < y)))
  | .leq => some (.bool (decide (x ≤ y)))
  | .gtr => some (.bool (decide (x > y)))
  | .geq => some (.bool (decide (x ≥ y)))
  | op => bitsA op k x y

def shiftA (op : BinOp) (k : IntKind) (x y : Int) : Option AV :=
  bif decide (y < 0) then none else match op with
  | .shl => some (.int k (k.wrap (x * 2 ^ min y.toNat k.bits)))
  | .shr => some (.int k (x.fdiv (2 ^ min y.toNat k.bits)))
  | _ => none

def strA (op : BinOp) (x y : List UInt8) : Option AV :=
  match op with
  | .add => bif Nat.ble (x.length + y.length) 4611686018427387904 then some (.str (x ++ y)) else none
  | .eql => some (.bool (x == y))
  | .neq => some (.bool (!(x == y)))
  | .lss => some (.bool (Op.bytesLess x y))
  | .leq => some (.bool (Op.bytesLess x y || x == y))
  | .gtr => some (.bool (!(Op.bytesLess x y || x == y)))
  | .geq => some (.bool (!Op.bytesLess x y))
  | _ => none

/-- Equality of scalars. -/
def eqSc : AV → AV → Option Bool
  | .int k a, .int k' b => bif decide (k = k') then some (a == b) else none
  | .str a, .str b => some (a == b)
  | .bool a, .bool b => some (a == b)
  | _, _ => none

/-- A scalar of the type. -/
def scV (P : Program) (t : TypeId) (a : AV) : Bool := match P.underlying t, a with
  | some (.int _), .int .. => true
  | some .string, .str _ => true
  | some .bool, .bool _ => true
  | _, _ => false

/-- Equality of aggregates of scalars, whose types are told. -/
def eqCs (P : Program) : List TypeId → List AV → List AV → Option Bool
  | [], [], [] => some true
  | t :: ts, a :: as, b :: bs => bif scV P t a && scV P t b then (eqSc a b).bind fun r => bif r then eqCs P ts as bs else some false else none
  | _, _, _ => none

def scT (P : Program) (t : TypeId) : Bool := match P.underlying t with
  | some (.int _) | some .string | some .bool => true
  | _ => false

/-- The types of the cells of an aggregate of scalars (one cell each, no field named by the blank). -/
def flatT (P : Program) (t : TypeId) : Option (List TypeId) := match P.underlying t with
  | some (.struct fs) => bif !P.stoodInHeld t && fs.toList.zipIdx.all (fun p => p.1.name != "_" && (scT P p.1.type && p.1.offset == p.2)) then some (fs.toList.map (·.type)) else none
  | some (.array n e) => bif scT P e && ((P.info? e).map (·.size) == some 1) then some (List.replicate n e) else none
  | _ => none

def eqA (P : Program) (t : TypeId) : AV → AV → Option Bool
  | .agg xs, .agg ys => (flatT P t).bind fun ts => bif xs.length == ts.length && ys.length == ts.length then eqCs P ts xs ys else none
  | .nils, .nils => some true
  | .nils, .fsl .. => some false
  | .nils, .sl .. => some false
  | .fsl .., .nils => some false
  | .sl .., .nils => some false
  | .nilp, .nilp => some true
  | .nilp, .ptr .. => some false
  | .nilp, .fptr _ => some false
  | .ptr .., .nilp => some false
  | .fptr _, .nilp => some false
  | .bool a, .bool b => some (a == b)
  | _, _ => none

/-- Types at which equality is asked of slices, pointers, bools. -/
def eqT (P : Program) (t : TypeId) (x : AV) : Bool := match x, P.underlying t with
  | .agg _, _ => true
  | .nils, some (.slice _) | .fsl .., some (.slice _) | .sl .., some (.slice _) => true
  | .nilp, some (.pointer _) | .ptr .., some (.pointer _) | .fptr _, some (.pointer _) => true
  | .bool _, some .bool => true
  | _, _ => false

def binA (P : Program) (op : BinOp) (t : TypeId) (x y : AV) : Option AV :=
  match x, y with
  | .int k a, .int k' b => match op with
    | .shl | .shr => shiftA op k a b
    | op => kk k k' (arithA op k a b)
  | .str a, .str b => strA op a b
  | x, y => match op with
    | .eql => bif eqT P t x then (eqA P t x y).map .bool else none
    | .neq => bif eqT P t x then (eqA P t x y).map (fun b => .bool (!b)) else none
    | _ => none

def unA (op : UnOp) (x : AV) : Option AV :=
  match op, x with
  | .not, .bool b => some (.bool (!b))
  | .neg, .int k n => some (.int k (k.wrap (0 - n)))
  | _, _ => none

def bytesOf : List AV → Option (List UInt8)
  | [] => some []
  | .int .u8 n :: r => (bytesOf r).bind fun bs => some (UInt8.ofNat n.toNat :: bs)
  | _ => none

def convA (P : Program) (m : Mem) (src dst : TypeId) (x : AV) : Option AV :=
  match P.underlying src, P.underlying dst, x with
  | some _, some (.int k), .int _ n => some (.int k (k.wrap n))
  | some .string, some .string, .str s => some (.str s)
  | some (.slice e), some .string, .nils => (match P.underlying e with | some (.int .u8) => some (.str []) | _ => none)
  | some (.slice _), some .string, .str _ => none
  | some (.slice e), some .string, x => (match P.underlying e with
    | some (.int .u8) => (srcA m 1 x).bind fun (_, cs) => (bytesOf cs).map .str
    | _ => none)
  | _, _, _ => none

def max2A : AV → AV → Option AV
  | .int k x, .int k' y => kk k k' (some (.int k (if y > x then y else x)))
  | _, _ => none
def min2A : AV → AV → Option AV
  | .int k x, .int k' y => kk k k' (some (.int k (if y < x then y else x)))
  | _, _ => none
def foldA (f : AV → AV → Option AV) : AV → List AV → Option AV
  | a, [] => some a
  | a, b :: r => (f a b).bind fun c => foldA f c r

/-! ### Aggregates -/
def partA (g : Bool) (size off : Nat) (cs : List AV) : Option AV :=
  bif g then (bif Nat.ble (off + size) cs.length then some (.agg ((cs.drop off).take size)) else none) else cs[off]?

def fillA (place : Nat → Option (Nat × Nat)) : List AV → List (Nat × AV) → Option (List AV)
  | cs, [] => some cs
  | cs, (i, v) :: r => (place i).bind fun (off, size) => bif v.cells.length == size && (Nat.ble (off + size) cs.length && oneL v.cells) then fillA place (splice cs off v.cells) r else none

def placesT (P : Program) : List Field → Option (List (Nat × Nat))
  | [] => some []
  | f :: r => (sizeT P f.type).bind fun n => (placesT P r).bind fun l => some ((f.offset, n) :: l)

def buildA (P : Program) (t : TypeId) (parts : List (Nat × AV)) : Option AV :=
  (zeroT P t).bind fun z => match P.underlying t with
  | some (.struct fs) => (placesT P fs.toList).bind fun pl => (fillA (fun i => pl[i]?) z.cells parts).map .agg
  | some (.array _ e) => (sizeT P e).bind fun n => (fillA (fun i => some (i * n, n)) z.cells parts).map .agg
  | _ => none

def buildSlA (P : Program) (t : TypeId) (len : Nat) (parts : List (Nat × AV)) : Option (Nat × List AV) :=
  match P.underlying t with
  | some (.slice e) => (sizeT P e).bind fun n => (zeroT P e).bind fun z =>
      bif Nat.ble (len * n) 16777216 && z.cells.length == n then (fillA (fun i => some (i * n, n)) (repl len z.cells) parts).bind fun cs => bif oneL cs then some (n, cs) else none else none
  | _ => none

/-! ### Maps -/
def keyEq (P : Program) (t : TypeId) : AV → AV → Option Bool
  | .agg a, .agg b => (flatT P t).bind fun ts => bif a.length == ts.length && b.length == ts.length then eqCs P ts a b else none
  | a, b => bif scV P t a && scV P t b then eqSc a b else none

/-- May it be a key? -/
def keyT (P : Program) (t : TypeId) (k : AV) : Bool := match k with
  | .agg a => match flatT P t with
    | some ts => a.length == ts.length
    | none => false
  | a => scV P t a

def findK (P : Program) (t : TypeId) (k : AV) : List AV → List AV → Option (Option AV)
  | [], [] => some none
  | k' :: ks, v :: vs => (keyEq P t k k').bind fun r => bif r then some (some v) else findK P t k ks vs
  | _, _ => none

/-- The value's place is overwritten, or a new entry is laid. -/
def setK (P : Program) (t : TypeId) (k v : AV) : List AV → List AV → Option (List AV × List AV)
  | [], [] => some ([k], [v])
  | k' :: ks, v' :: vs => (keyEq P t k k').bind fun r => bif r then some (k :: ks, v :: vs) else (setK P t k v ks vs).bind fun (a, b) => some (k' :: a, v' :: b)
  | _, _ => none

def lookA (P : Program) (m : Mem) (t : TypeId) (x : AV) (k : AV) : Option (Option AV) :=
  match x with
  | .nilm => some none
  | .fmap ks vs => findK P t k ks vs
  | .map id => match m.h id with
    | some (.map _ ks vs) => findK P t k ks vs
    | _ => none
  | _ => none

def lookupA (P : Program) (m : Mem) (t : TypeId) (x k : AV) (ok : Bool) : Option AV :=
  match P.underlying t with
  | some (.map kt et) => bif keyT P kt k then (zeroT P et).bind fun z => (lookA P m kt x k).bind fun r => match r with
    | some v => some (bif ok then .tup [v, .bool true] else v)
    | none => some (bif ok then .tup [z, .bool false] else z) else none
  | _ => none

def updA (P : Program) (m : Mem) (t : TypeId) (x k v : AV) : Option Mem :=
  match P.underlying t with
  | some (.map kt _) => bif keyT P kt k then (match x with
    | .map id => match m.h id with
      | some (.map g ks vs) => (setK P kt k v ks vs).bind fun (a, b) => some (m.set id (some (.map (g + 1) a b)))
      | _ => none
    | _ => none) else none
  | _ => none

def findI (P : Program) (t : TypeId) (k : AV) : List AV → Nat → Option (Option Nat)
  | [], _ => some none
  | k' :: ks, i => (keyEq P t k k').bind fun r => bif r then some (some i) else findI P t k ks (i + 1)

def entryA (P : Program) (m : Mem) (t : TypeId) (x k : AV) : Option (AV × Mem) :=
  match P.underlying t with
  | some (.map kt et) => bif keyT P kt k then (zeroT P et).bind fun z => (match x with
    | .map id => match m.h id with
      | some (.map g ks vs) => (findI P kt k ks 0).bind fun r => match r with
        | some i => (vs[i]?).bind fun v => some (.tup [v, .int .i64 (i : Nat)], m.set id (some (.map (g + 1) (ks.set i k) vs)))
        | none => some (.tup [z, .int .i64 (ks.length : Nat)], m.set id (some (.map (g + 1) (ks ++ [k]) (vs ++ [z]))))
      | _ => none
    | _ => none) else none
  | _ => none

def entryStA (m : Mem) (x st v : AV) : Option Mem :=
  match x, st with
  | .map id, .int _ i => match m.h id with
    | some (.map g ks vs) => bif inR i vs.length then some (m.set id (some (.map (g + 1) ks (vs.set i.toNat v)))) else none
    | _ => none
  | _, _ => none

def mapLen (m : Mem) : AV → Option Nat
  | .nilm => some 0
  | .fmap ks _ => some ks.length
  | .map id => match m.h id with
    | some (.map _ ks _) => some ks.length
    | _ => none
  | _ => none

/-- The entry of the last step. -/
def curA (m : Mem) : AV → Option AV
  | .iter id => match m.h id with
    | some (.iter mp g (k :: v :: []) _ _) => match m.h mp with
      | some (.map g' _ _) => bif g == g' then some (.tup [k, v]) else none
      | _ => none
    | _ => none
  | _ => none

def rangeA (m : Mem) : AV → Option (AV × Mem)
  | .map id => match m.h id with
    | some (.map g ks vs) => some (.iter m.nx, m.new (.iter id g [] ks vs))
    | _ => none
  | _ => none
end Go.AM
