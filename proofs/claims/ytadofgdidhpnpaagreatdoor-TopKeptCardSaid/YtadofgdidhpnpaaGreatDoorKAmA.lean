/-
  THE ABSTRACT MACHINE: definitions. A second, simpler machine for the model's own code: values are trees, memory that a call no longer writes is part of the value ('fptr', 'fsl', 'fmap'), memory that it writes lies in a small heap of numbered objects. Conditions: none; nothing is proved here.
-/
import Derived.Deep.AppendSrc
import Derived.Still
set_option linter.all false
namespace Go.AM
inductive AV where
 | undef
 | bool (b:Bool)
 | int (k:IntKind) (n:Int)
 | str (s:List UInt8)
 | nilp
 | ptr (id off top:Nat)
 | fptr (cells:List AV)
 | sptr (cells:List AV)
 | nils
 | sl (id es off n top:Nat)
 | fsl (ex:Bool) (n:Nat) (cells:List AV)
 | nilm
 | map (id:Nat)
 | fmap (ks vs:List AV)
 | fn (f:FuncId) (first caps:List AV)
 | nilf
 | iface (t:TypeId) (v:AV)
 | nili
 | agg (cs:List AV)
 | tup (vs:List AV)
 | iter (id:Nat)
 deriving Inhabited
inductive AObj where
 | cells (xs:List AV)
 | map (gen:Nat) (ks vs:List AV)
 | iter (cur:List AV) (ks vs:List AV)
 deriving Inhabited
def AObj.top:AObj→Nat
 | .cells xs=>xs.length
 | _=>0
structure Mem where
 h:Nat→Option AObj
 nx:Nat
def Mem.empty:Mem:=⟨fun _=>none,0⟩
def upd (h:Nat→Option AObj) (i:Nat) (o:Option AObj):Nat→Option AObj:=fun j=>bif j==i then o else h j
def Mem.set (m:Mem) (i:Nat) (o:Option AObj):Mem:=⟨upd m.h i o,m.nx⟩
def Mem.new (m:Mem) (o:AObj):Mem:=⟨upd m.h m.nx (some o),m.nx+1⟩
structure St where
 t:List (Nat×AV)
 nt:Nat
 m:Mem
def get:List (Nat×AV)→Nat→AV
 | [],_=>.undef
 | (j,v)::r,i=>bif i==j then v else get r i
def St.get (s:St) (i:Nat):AV:=AM.get s.t i
def St.put (s:St) (d:Option Nat) (v:AV):Option St :=
 match d with
 | none=>some s
 | some d=>bif Nat.blt d s.nt then some { s with t:=(d,v)::s.t } else none
def St.mem (s:St) (m:Mem):St:={ s with m:=m }
def St.keep (s:St) (l:List Nat):St:={ s with t:=l.map fun i=>(i,s.get i) }
def ofCell:Value→Option AV
 | .bool b=>some (.bool b)
 | .int k n=>some (.int k n)
 | .string s=>some (.str s.data.toList)
 | .pointer none=>some .nilp
 | .slice none 0 0=>some .nils
 | .map none=>some .nilm
 | .nilFunc=>some .nilf
 | .nilIface=>some .nili
 | _=>none
def ofCells:List Value→Option (List AV)
 | []=>some []
 | v::r=>(ofCell v).bind fun a=>(ofCells r).bind fun as=>some (a::as)
def ofConst:Value→Option AV
 | .agg cs=>(ofCells cs.toList).map .agg
 | v=>ofCell v
def AV.cells:AV→List AV
 | .agg cs=>cs
 | v=>[v]
def AV.one:AV→Bool
 | .undef | .agg _ | .tup _=>false
 | _=>true
def oneL:List AV→Bool
 | []=>true
 | a::r=>a.one&&oneL r
mutual
def AV.closed:AV→Bool
 | .ptr .. | .sl .. | .map _ | .iter _=>false
 | .sptr _=>false
 | .iface _ v=>v.closed
 | .agg cs=>closedL cs
 | .tup cs=>closedL cs
 | .fn _ f c=>closedL f&&closedL c
 | _=>true
def closedL:List AV→Bool
 | []=>true
 | a::r=>a.closed&&closedL r
end
def AV.flat1:AV→Bool
 | .bool _ | .int .. | .str _ | .nilp | .nils | .nilm | .nilf | .nili=>true
 | _=>false
def flatL:List AV→Bool
 | []=>true
 | a::r=>a.flat1&&flatL r
def AV.flat:AV→Bool
 | .agg cs=>flatL cs
 | .tup cs=>flatL cs
 | .iface _ v=>(match v with
  | .agg cs=>flatL cs
  | v=>v.flat1)
 | v=>v.flat1
def mapO (f:AV→Option AV):List AV→Option (List AV)
 | []=>some []
 | a::r=>(f a).bind fun b=>(mapO f r).bind fun bs=>some (b::bs)
def deep (h:Nat→Option AObj):Nat→AV→Option AV
 | 0,_=>none
 | d+1,.ptr id off top=>match h id with
  | some (.cells xs)=>bif xs.length==top&&Nat.ble off top then(mapO (deep h d) xs).bind fun ys=>some (.fptr (ys.drop off)) else none
  | _=>none
 | d+1,.sl id es off n top=>match h id with
  | some (.cells xs)=>bif xs.length==top&&Nat.ble (off+n*es) top then(mapO (deep h d) ((xs.drop off).take (n*es))).bind fun ys=>some (.fsl false n ys) else none
  | _=>none
 | d+1,.map id=>match h id with
  | some (.map _ ks vs)=>(mapO (deep h d) ks).bind fun ks'=>(mapO (deep h d) vs).bind fun vs'=>some (.fmap ks' vs')
  | _=>none
 | d+1,.sptr cs=>(mapO (deep h d) cs).bind fun ys=>some (.fptr ys)
 | d+1,.agg cs=>(mapO (deep h d) cs).bind fun ys=>some (.agg ys)
 | d+1,.tup cs=>(mapO (deep h d) cs).bind fun ys=>some (.tup ys)
 | _+1,.iter _=>none
 | _+1,v=>bif v.closed then some v else none
def deepNo:Nat:=6
def sizeT (P:Program) (t:TypeId):Option Nat:=(P.info? t).map (·.size)
def bytesT (P:Program) (t:TypeId):Option Nat:=(P.info? t).map (·.bytes)
def aggT (P:Program) (t:TypeId):Option Bool:=(P.underlying t).map fun | .struct _ | .array _ _=>true | _=>false
def zeroT (P:Program) (t:TypeId):Option AV:=(P.info? t).bind fun i=>i.zero.bind ofConst
def fieldT (P:Program) (t:TypeId) (f:Nat):Option Field :=
 match P.underlying t with
 | some (.struct fs)=>fs[f]?
 | _=>none
def readN (m:Mem) (n:Nat):AV→Option (List AV)
 | .fptr cells=>bif Nat.ble n cells.length then some (cells.take n) else none
 | .sptr cells=>bif Nat.ble n cells.length then some (cells.take n) else none
 | .ptr id off top=>match m.h id with
  | some (.cells xs)=>bif xs.length==top&&Nat.ble (off+n) top then some ((xs.drop off).take n) else none
  | _=>none
 | _=>none
def read1 (m:Mem):AV→Option AV
 | .fptr cells=>cells.head?
 | .sptr cells=>cells.head?
 | .ptr id off top=>match m.h id with
  | some (.cells xs)=>bif xs.length==top then xs[off]? else none
  | _=>none
 | _=>none
def splice (xs:List AV) (off:Nat) (cs:List AV):List AV:=xs.take off++cs++xs.drop (off+cs.length)
def writeN (m:Mem) (cs:List AV):AV→Option Mem
 | .ptr id off top=>match m.h id with
  | some (.cells xs)=>bif xs.length==top&&(Nat.ble (off+cs.length) top&&oneL cs) then some (m.set id (some (.cells (splice xs off cs)))) else none
  | _=>none
 | _=>none
def write1 (m:Mem) (c:AV):AV→Option Mem
 | .ptr id off top=>match m.h id with
  | some (.cells xs)=>bif xs.length==top&&(Nat.blt off top&&c.one) then some (m.set id (some (.cells (xs.set off c)))) else none
  | _=>none
 | _=>none
def loadA (g:Bool) (n:Nat) (m:Mem) (a:AV):Option AV:=bif g then(readN m n a).map .agg else read1 m a
def storeA (g:Bool) (n:Nat) (m:Mem) (a v:AV):Option Mem :=
 bif g then(match v with | .agg cs=>bif cs.length==n then writeN m cs a else none | _=>none) else(bif n==1 then write1 m v a else none)
def loadF (g:Bool) (n:Nat):AV→Option AV
 | .fptr cells=>bif g then(bif Nat.ble n cells.length then some (.agg (cells.take n)) else none) else cells.head?
 | .sptr cells=>bif g then(bif Nat.ble n cells.length then some (.agg (cells.take n)) else none) else cells.head?
 | _=>none
def newPtr (m:Mem) (cs:List AV):Option (AV×Mem):=bif oneL cs then some (.ptr m.nx 0 cs.length,m.new (.cells cs)) else none
def inR (j:Int) (n:Nat):Bool:=decide (0≤j)&&decide (j < (n:Int))
def fieldA (off:Nat):AV→Option AV
 | .ptr id o top=>some (.ptr id (o+off) top)
 | .fptr cells=>some (.fptr (cells.drop off))
 | .sptr cells=>some (.sptr (cells.drop off))
 | _=>none
def idxSl (size:Nat) (x:AV):AV→Option AV
 | .int _ j=>match x with
  | .fsl _ n cells=>bif inR j n then some (.fptr (cells.drop (j.toNat*size))) else none
  | .sl id es off n top=>bif es==size&&inR j n then some (.ptr id (off+j.toNat*size) top) else none
  | _=>none
 | _=>none
def idxArr (len size:Nat) (x:AV):AV→Option AV
 | .int _ j=>bif inR j len then(match x with
  | .fptr cells=>some (.fptr (cells.drop (j.toNat*size)))
  | .sptr cells=>some (.sptr (cells.drop (j.toNat*size)))
  | .ptr id off top=>some (.ptr id (off+j.toNat*size) top)
  | _=>none) else none
 | _=>none
def lenA:AV→Option Nat
 | .nils=>some 0
 | .fsl _ n _=>some n
 | .sl _ _ _ n _=>some n
 | .str s=>some s.length
 | _=>none
def bnd (d:Nat):Option AV→Option Int
 | none=>some d
 | some (.int _ j)=>some j
 | some _=>none
def bnds (n:Nat) (lo hi:Option AV):Option (Nat×Nat) :=
 (bnd n hi).bind fun h=>(bnd 0 lo).bind fun l=>bif decide (0≤l)&&(decide (l≤h)&&decide (h≤(n:Int))) then some (l.toNat,h.toNat) else none
def sliceSl (size:Nat) (x:AV) (lo hi:Option AV):Option AV :=
 match x with
 | .fsl ex n cells=>(bnds n lo hi).bind fun(l,h)=>some (.fsl (ex&&h==n) (h - l) ((cells.drop (l*size)).take ((h - l)*size)))
 | .sl id es off n top=>bif es==size then(bnds n lo hi).bind fun(l,h)=>some (.sl id es (off+l*size) (h - l) top) else none
 | .nils=>(bnds 0 lo hi).bind fun _=>some .nils
 | _=>none
def sliceArr (len size:Nat) (x:AV) (lo hi:Option AV):Option AV :=
 (bnds len lo hi).bind fun(l,h)=>match x with
 | .fptr cells=>bif Nat.ble (len*size) cells.length then some (.fsl (h==len) (h - l) ((cells.drop (l*size)).take ((h - l)*size))) else none
 | .ptr id off top=>bif Nat.ble (off+len*size) top then some (.sl id size (off+l*size) (h - l) top) else none
 | _=>none
def sliceStr (x:AV) (lo hi:Option AV):Option AV :=
 match x with
 | .str s=>(bnds s.length lo hi).bind fun(l,h)=>some (.str ((s.drop l).take (h - l)))
 | _=>none
def srcA (m:Mem) (size:Nat):AV→Option (Nat×List AV)
 | .nils=>some (0,[])
 | .fsl _ n cells=>bif cells.length==n*size then some (n,cells) else none
 | .sl id es off n top=>match m.h id with
  | some (.cells xs)=>bif xs.length==top&&(es==size&&Nat.ble (off+n*size) top) then some (n,(xs.drop off).take (n*size)) else none
  | _=>none
 | .str s=>bif size==1 then some (s.length,s.map fun b=>.int .u8 b.toNat) else none
 | _=>none
def room (n bytes:Nat):Bool:=Nat.ble n 4611686018427387904&&Nat.ble (n*bytes) 70368744177664
def appendA (size bytes:Nat) (m:Mem) (s x:AV):Option (AV×Mem) :=
 bif size==0 then none else(srcA m size x).bind fun(n,news)=>match s with
 | .nils=>bif n==0 then some (.nils,m) else bif room n bytes then some (.sl m.nx size 0 n news.length,m.new (.cells news)) else none
 | .fsl true n0 cells=>bif n==0 then some (.fsl true n0 cells,m) else
   bif room (n0+n) bytes&&cells.length==n0*size then some (.sl m.nx size 0 (n0+n) (cells++news).length,m.new (.cells (cells++news))) else none
 | .sl id es off n0 top=>match m.h id with
  | some (.cells xs)=>bif xs.length==top&&(es==size&&off+n0*size==top) then
    (bif n==0 then some (.sl id es off n0 top,m) else
     bif room (n0+n) bytes then
     (bif off==0 then some (.sl id es 0 (n0+n) (xs++news).length,m.set id (some (.cells (xs++news))))
      else some (.sl m.nx es 0 (n0+n) (xs.drop off++news).length,(m.set id none).new (.cells (xs.drop off++news))))
     else none) else none
  | _=>none
 | _=>none
def AV.isStr:AV→Bool
 | .str _=>true
 | _=>false
def copyA (size:Nat) (m:Mem) (d s:AV):Option (AV×Mem) :=
 bif size==1&&!s.isStr then(srcA m size s).bind fun(n,news)=>match d with
 | .nils=>some (.int .i64 0,m)
 | .sl id es off n0 top=>match m.h id with
  | some (.cells xs)=>bif xs.length==top&&(es==size&&Nat.ble (off+n0*size) top) then
    some (.int .i64 (Nat.min n n0:Nat),m.set id (some (.cells (splice xs off (news.take (Nat.min n n0*size)))))) else none
  | _=>none
 | _=>none else none
def repl (n:Nat):List AV→List AV
 | [z]=>List.replicate n z
 | zs=>(List.replicate n zs).flatten
def makeA (size bytes:Nat) (z:AV) (m:Mem) (l c:AV):Option (AV×Mem) :=
 match l,c with
 | .int .i64 l,.int .i64 c =>
   bif decide (0≤l)&&(decide (l=c)&&(room l.toNat bytes&&(z.cells.length==size&&oneL z.cells))) then
    some (.sl m.nx size 0 l.toNat (repl l.toNat z.cells).length,m.new (.cells (repl l.toNat z.cells))) else none
 | _,_=>none
def kk (k k':IntKind) (v:Option AV):Option AV:=bif decide (k=k') then v else none
def bitsA (op:BinOp) (k:IntKind) (x y:Int):Option AV :=
 match op with
 | .and=>some (.int k (k.wrap (BitVec.ofInt k.bits x &&& BitVec.ofInt k.bits y).toNat))
 | .or=>some (.int k (k.wrap (BitVec.ofInt k.bits x ||| BitVec.ofInt k.bits y).toNat))
 | .xor=>some (.int k (k.wrap (BitVec.ofInt k.bits x ^^^ BitVec.ofInt k.bits y).toNat))
 | .andNot=>some (.int k (k.wrap (BitVec.ofInt k.bits x &&& ~~~(BitVec.ofInt k.bits y)).toNat))
 | _=>none
def arithA (op:BinOp) (k:IntKind) (x y:Int):Option AV :=
 match op with
 | .add=>some (.int k (k.wrap (x+y)))
 | .sub=>some (.int k (k.wrap (x - y)))
 | .mul=>some (.int k (k.wrap (x*y)))
 | .quo=>bif decide (y=0) then none else some (.int k (k.wrap (x.tdiv y)))
 | .rem=>bif decide (y=0) then none else some (.int k (x.tmod y))
 | .eql=>some (.bool (x==y))
 | .neq=>some (.bool (x != y))
 | .lss=>some (.bool (decide (x < y)))
 | .leq=>some (.bool (decide (x≤y)))
 | .gtr=>some (.bool (decide (x > y)))
 | .geq=>some (.bool (decide (x ≥ y)))
 | op=>bitsA op k x y
def shiftA (op:BinOp) (k:IntKind) (x y:Int):Option AV :=
 bif decide (y < 0) then none else match op with
 | .shl=>some (.int k (k.wrap (x*2 ^ min y.toNat k.bits)))
 | .shr=>some (.int k (x.fdiv (2 ^ min y.toNat k.bits)))
 | _=>none
def strA (op:BinOp) (x y:List UInt8):Option AV :=
 match op with
 | .add=>bif Nat.ble (x.length+y.length) 4611686018427387904 then some (.str (x++y)) else none
 | .eql=>some (.bool (x==y))
 | .neq=>some (.bool (!(x==y)))
 | .lss=>some (.bool (Op.bytesLess x y))
 | .leq=>some (.bool (Op.bytesLess x y||x==y))
 | .gtr=>some (.bool (!(Op.bytesLess x y||x==y)))
 | .geq=>some (.bool (!Op.bytesLess x y))
 | _=>none
def eqSc:AV→AV→Option Bool
 | .int k a,.int k' b=>bif decide (k=k') then some (a==b) else none
 | .str a,.str b=>some (a==b)
 | .bool a,.bool b=>some (a==b)
 | _,_=>none
def scV (P:Program) (t:TypeId) (a:AV):Bool:=match P.underlying t,a with
 | some (.int k),.int k' _=>decide (k=k')
 | some .string,.str _=>true
 | some .bool,.bool _=>true
 | _,_=>false
def eqCs (P:Program):List TypeId→List AV→List AV→Option Bool
 | [],[],[]=>some true
 | t::ts,a::as,b::bs=>bif scV P t a&&scV P t b then(eqSc a b).bind fun r=>bif r then eqCs P ts as bs else some false else none
 | _,_,_=>none
def scT (P:Program) (t:TypeId):Bool:=match P.underlying t with
 | some (.int _) | some .string | some .bool=>true
 | _=>false
def flatT (P:Program) (t:TypeId):Option (List TypeId):=match P.underlying t with
 | some (.struct fs)=>bif !P.stoodInHeld t&&fs.toList.zipIdx.all (fun p=>p.1.name != "_"&&(scT P p.1.type&&p.1.offset==p.2)) then some (fs.toList.map (·.type)) else none
 | some (.array n e)=>bif scT P e&&((P.info? e).map (·.size)==some 1) then some (List.replicate n e) else none
 | _=>none
def eqA (P:Program) (t:TypeId):AV→AV→Option Bool
 | .agg xs,.agg ys=>(flatT P t).bind fun ts=>bif xs.length==ts.length&&ys.length==ts.length then eqCs P ts xs ys else none
 | .nils,.nils=>some true
 | .nils,.fsl .. => some false
 | .nils,.sl .. => some false
 | .fsl ..,.nils=>some false
 | .sl ..,.nils=>some false
 | .nilp,.nilp=>some true
 | .nilp,.ptr .. => some false
 | .nilp,.fptr _=>some false
 | .ptr ..,.nilp=>some false
 | .fptr _,.nilp=>some false
 | .bool a,.bool b=>some (a==b)
 | _,_=>none
def eqT (P:Program) (t:TypeId) (x:AV):Bool:=match x,P.underlying t with
 | .agg _,_=>true
 | .nils,some (.slice _) | .fsl ..,some (.slice _) | .sl ..,some (.slice _)=>true
 | .nilp,some (.pointer _) | .ptr ..,some (.pointer _) | .fptr _,some (.pointer _)=>true
 | .bool _,some .bool=>true
 | _,_=>false
def binA (P:Program) (op:BinOp) (t:TypeId) (x y:AV):Option AV :=
 match x,y with
 | .int k a,.int k' b=>match op with
  | .shl | .shr=>shiftA op k a b
  | op=>kk k k' (arithA op k a b)
 | .str a,.str b=>strA op a b
 | x,y=>match op with
  | .eql=>bif eqT P t x then(eqA P t x y).map .bool else none
  | .neq=>bif eqT P t x then(eqA P t x y).map (fun b=>.bool (!b)) else none
  | _=>none
def unA (op:UnOp) (x:AV):Option AV :=
 match op,x with
 | .not,.bool b=>some (.bool (!b))
 | .neg,.int k n=>some (.int k (k.wrap (0 - n)))
 | _,_=>none
def bytesOf:List AV→Option (List UInt8)
 | []=>some []
 | .int .u8 n::r=>(bytesOf r).bind fun bs=>some (UInt8.ofNat n.toNat::bs)
 | _=>none
def convA (P:Program) (m:Mem) (src dst:TypeId) (x:AV):Option AV :=
 match P.underlying src,P.underlying dst,x with
 | some _,some (.int k),.int _ n=>some (.int k (k.wrap n))
 | some .string,some .string,.str s=>some (.str s)
 | some (.slice e),some .string,.nils=>(match P.underlying e with | some (.int .u8)=>some (.str []) | _=>none)
 | some (.slice _),some .string,.str _=>none
 | some (.slice e),some .string,x=>(match P.underlying e with
  | some (.int .u8)=>(srcA m 1 x).bind fun(_,cs)=>(bytesOf cs).map .str
  | _=>none)
 | _,_,_=>none
def max2A:AV→AV→Option AV
 | .int k x,.int k' y=>kk k k' (some (.int k (if y > x then y else x)))
 | _,_=>none
def min2A:AV→AV→Option AV
 | .int k x,.int k' y=>kk k k' (some (.int k (if y < x then y else x)))
 | _,_=>none
def foldA (f:AV→AV→Option AV):AV→List AV→Option AV
 | a,[]=>some a
 | a,b::r=>(f a b).bind fun c=>foldA f c r
def partA (g:Bool) (size off:Nat) (cs:List AV):Option AV :=
 bif g then(bif Nat.ble (off+size) cs.length then some (.agg ((cs.drop off).take size)) else none) else cs[off]?
def fillA (place:Nat→Option (Nat×Nat)):List AV→List (Nat×AV)→Option (List AV)
 | cs,[]=>some cs
 | cs,(i,v)::r=>(place i).bind fun(off,size)=>bif v.cells.length==size&&(Nat.ble (off+size) cs.length&&oneL v.cells) then fillA place (splice cs off v.cells) r else none
def placesT (P:Program):List Field→Option (List (Nat×Nat))
 | []=>some []
 | f::r=>(sizeT P f.type).bind fun n=>(placesT P r).bind fun l=>some ((f.offset,n)::l)
def buildA (P:Program) (t:TypeId) (parts:List (Nat×AV)):Option AV :=
 (zeroT P t).bind fun z=>match P.underlying t with
 | some (.struct fs)=>(placesT P fs.toList).bind fun pl=>(fillA (fun i=>pl[i]?) z.cells parts).map .agg
 | some (.array _ e)=>(sizeT P e).bind fun n=>(fillA (fun i=>some (i*n,n)) z.cells parts).map .agg
 | _=>none
def buildSlA (P:Program) (t:TypeId) (len:Nat) (parts:List (Nat×AV)):Option (Nat×List AV) :=
 match P.underlying t with
 | some (.slice e)=>(sizeT P e).bind fun n=>(zeroT P e).bind fun z =>
   bif Nat.ble (len*n) 16777216&&z.cells.length==n then(fillA (fun i=>some (i*n,n)) (repl len z.cells) parts).bind fun cs=>bif oneL cs then some (n,cs) else none else none
 | _=>none
def keyEq (P:Program) (t:TypeId):AV→AV→Option Bool
 | .agg a,.agg b=>(flatT P t).bind fun ts=>bif a.length==ts.length&&b.length==ts.length then eqCs P ts a b else none
 | a,b=>bif scV P t a&&scV P t b then eqSc a b else none
def scL (P:Program):List TypeId→List AV→Bool
 | [],[]=>true
 | t::ts,a::as=>scV P t a&&scL P ts as
 | _,_=>false
def keyT (P:Program) (t:TypeId) (k:AV):Bool:=match k with
 | .agg a=>match flatT P t with
  | some ts=>a.length==ts.length&&scL P ts a
  | none=>false
 | a=>scV P t a
def findK (P:Program) (t:TypeId) (k:AV):List AV→List AV→Option (Option AV)
 | [],[]=>some none
 | k'::ks,v::vs=>(keyEq P t k k').bind fun r=>bif r then some (some v) else findK P t k ks vs
 | _,_=>none
def setK (P:Program) (t:TypeId) (k v:AV):List AV→List AV→Option (List AV×List AV)
 | [],[]=>some ([k],[v])
 | k'::ks,v'::vs=>(keyEq P t k k').bind fun r=>bif r then some (k::ks,v::vs) else(setK P t k v ks vs).bind fun(a,b)=>some (k'::a,v'::b)
 | _,_=>none
def lookA (P:Program) (m:Mem) (t:TypeId) (x:AV) (k:AV):Option (Option AV) :=
 match x with
 | .nilm=>some none
 | .fmap ks vs=>findK P t k ks vs
 | .map id=>match m.h id with
  | some (.map _ ks vs)=>findK P t k ks vs
  | _=>none
 | _=>none
def lookupA (P:Program) (m:Mem) (t:TypeId) (x k:AV) (ok:Bool):Option AV :=
 match P.underlying t with
 | some (.map kt et)=>bif keyT P kt k then(zeroT P et).bind fun z=>(lookA P m kt x k).bind fun r=>match r with
  | some v=>some (bif ok then .tup [v,.bool true] else v)
  | none=>some (bif ok then .tup [z,.bool false] else z) else none
 | _=>none
def updA (P:Program) (m:Mem) (t:TypeId) (x k v:AV):Option Mem :=
 match P.underlying t with
 | some (.map kt _)=>bif keyT P kt k then(match x with
  | .map id=>match m.h id with
   | some (.map g ks vs)=>(setK P kt k v ks vs).bind fun(a,b)=>some (m.set id (some (.map (g+1) a b)))
   | _=>none
  | _=>none) else none
 | _=>none
def findI (P:Program) (t:TypeId) (k:AV):List AV→Nat→Option (Option Nat)
 | [],_=>some none
 | k'::ks,i=>(keyEq P t k k').bind fun r=>bif r then some (some i) else findI P t k ks (i+1)
def entryA (P:Program) (m:Mem) (t:TypeId) (x k:AV):Option (AV×Mem) :=
 match P.underlying t with
 | some (.map kt et)=>bif keyT P kt k then(zeroT P et).bind fun z=>(match x with
  | .map id=>match m.h id with
   | some (.map g ks vs)=>(findI P kt k ks 0).bind fun r=>match r with
    | some i=>(vs[i]?).bind fun v=>some (.tup [v,.int .i64 (i:Nat)],m.set id (some (.map (g+1) (ks.set i k) vs)))
    | none=>some (.tup [z,.int .i64 (ks.length:Nat)],m.set id (some (.map (g+1) (ks++[k]) (vs++[z]))))
   | _=>none
  | _=>none) else none
 | _=>none
def entryStA (m:Mem) (x st v:AV):Option Mem :=
 match x,st with
 | .map id,.int _ i=>match m.h id with
  | some (.map g ks vs)=>bif inR i vs.length then some (m.set id (some (.map (g+1) ks (vs.set i.toNat v)))) else none
  | _=>none
 | _,_=>none
def mapLen (m:Mem):AV→Option Nat
 | .nilm=>some 0
 | .fmap ks _=>some ks.length
 | .map id=>match m.h id with
  | some (.map _ ks _)=>some ks.length
  | _=>none
 | _=>none
def curA (m:Mem):AV→Option AV
 | .iter id=>match m.h id with
  | some (.iter [k,v] _ _)=>some (.tup [k,v])
  | _=>none
 | _=>none
def rangeA (m:Mem):AV→Option (AV×Mem)
 | .fmap ks vs=>some (.iter m.nx,m.new (.iter [] ks vs))
 | _=>none
end Go.AM

/-
  THE ABSTRACT MACHINE: what the package's variables hold: chest's errPage is an error (not nil). Conditions: none.
-/
namespace Go.AM
def globV:Nat→AV:=fun g=>bif g==0 then .fptr [.iface 206 .undef] else .undef
theorem pE:∀g,(globV g).closed=true:=fun g=>by
 unfold globV
 cases g==0<;>rfl
end Go.AM

/-
  THE ABSTRACT MACHINE: the library's sort of whole numbers, as one step. Conditions: none.
-/
namespace Go.AM
def intsO:List AV→Option (List Int)
 | []=>some []
 | .int .i64 n::r=>(intsO r).map (n::·)
 | _=>none
def insI (x:Int):List Int→List Int
 | []=>[x]
 | y::r=>bif decide (x≤y) then x::y::r else y::insI x r
def sortI:List Int→List Int
 | []=>[]
 | x::r=>insI x (sortI r)
def cmpL:List UInt8→List UInt8→Int
 | [],[]=>0
 | [],_::_ => -1
 | _::_,[]=>1
 | a::as,b::bs=>if a < b then -1 else if b < a then 1 else cmpL as bs
def strsO:List AV→Option (List (List UInt8))
 | []=>some []
 | .str a::r=>(strsO r).map (a::·)
 | _=>none
def insS (x:List UInt8):List (List UInt8)→List (List UInt8)
 | []=>[x]
 | y::r=>bif decide (cmpL x y≤0) then x::y::r else y::insS x r
def sortS:List (List UInt8)→List (List UInt8)
 | []=>[]
 | x::r=>insS x (sortS r)
def sortG {α:Type} (dec:List AV→Option (List α)) (srt:List α→List α) (av:α→AV) (m:Mem) (id n:Nat):Option AObj→Option (AV×Mem)
 | some (.cells xs)=>bif xs.length==n&&(Nat.blt 0 n&&Nat.ble n 1000000) then(dec xs).bind fun l=>some (.tup [],m.set id (some (.cells ((srt l).map av)))) else none
 | _=>none
def sortX {α:Type} (dec:List AV→Option (List α)) (srt:List α→List α) (av:α→AV) (args:List AV) (m:Mem):Option (AV×Mem):=match args with
 | [.sl id 1 0 n top]=>bif n==top then sortG dec srt av m id n (m.h id) else none
 | _=>none
def sortA (args:List AV) (m:Mem):Option (AV×Mem):=sortX intsO sortI (fun k=>AV.int .i64 k) args m
def sortT (args:List AV) (m:Mem):Option (AV×Mem):=sortX strsO sortS (fun a=>AV.str a) args m
def cmpA (args:List AV) (m:Mem):Option (AV×Mem):=match args with
 | [.str a,.str b]=>some (.int .i64 (cmpL a b),m)
 | _=>none
end Go.AM

/-
  THE ABSTRACT MACHINE: functions of this seat that are taken as one step: the sorted keys of a map, the clone of a map, the leaves of a tree, the tree of a root. Conditions: none.
-/
namespace Go.AM
def seqKeys (g:FuncId) (m:Mem):List AV→Option (List AV)
 | [.fn h [] [.sptr [.map id]]]=>bif h==g then(match m.h id with
  | some (.map _ ks _)=>some ks
  | _=>none) else none
 | [.fn h [] [.fptr [.fmap ks _]]]=>bif h==g then some ks else none
 | _=>none
def sortedV (n:Nat) (cs:List AV):AV:=match cs with
 | []=>.nils
 | cs=>.fsl false n cs
def sortedS (g:FuncId) (args:List AV) (m:Mem):Option (AV×Mem):=(seqKeys g m args).bind fun ks=>(strsO ks).bind fun l =>
 bif Nat.ble l.length 1000&&(decide l.Nodup&&l.all fun k=>Nat.ble k.length 1000) then some (sortedV l.length ((sortS l).map .str),m) else none
def sortedI (g:FuncId) (args:List AV) (m:Mem):Option (AV×Mem):=(seqKeys g m args).bind fun ks=>(intsO ks).bind fun l =>
 bif Nat.ble l.length 1000&&(decide l.Nodup&&l.all fun k=>decide (0≤k)&&decide (k < 1000000)) then some (sortedV l.length ((sortI l).map fun k=>.int .i64 k),m) else none
def cloneA (m:Mem):List AV→Option (AV×Mem)
 | [.nilm]=>some (.nilm,m)
 | [.fmap ks vs]=>some (.map m.nx,m.new (.map 0 ks vs))
 | [.map id]=>match m.h id with
  | some (.map _ ks vs)=>some (.map m.nx,m.new (.map 0 ks vs))
  | _=>none
 | _=>none
def u8L (l:List UInt8):List AV:=l.map fun b=>.int .u8 b.toNat
def textB (s:List UInt8):List UInt8:=UInt8.ofNat s.length::s
def valOf (k:List UInt8):List (List UInt8)→List (List UInt8)→List UInt8
 | k'::ks,v::vs=>bif k'==k then v else valOf k ks vs
 | _,_=>[]
def leafB (ks vs:List (List UInt8)):List UInt8:=1::UInt8.ofNat ks.length::((sortS ks).map fun k=>textB k++textB (valOf k ks vs)).flatten
def padB (l:List UInt8):List UInt8:=(l++List.replicate 256 0).take 256
def leavesL (m:Mem) (ks vs:List AV):Option (AV×Mem):=(strsO ks).bind fun ks=>(strsO vs).bind fun vs =>
 bif Nat.ble ks.length 9&&decide ks.Nodup&&ks.all (fun k=>Nat.ble k.length 100)&&vs.all (fun k=>Nat.ble k.length 100) then(match ks with
  | []=>some (.nils,m)
  | ks=>some (.fsl false 1 (u8L (padB (leafB ks vs))),m)) else none
def leavesA (m:Mem):List AV→Option (AV×Mem)
 | [.map id]=>match m.h id with
  | some (.map _ ks vs)=>leavesL m ks vs
  | _=>none
 | _=>none
def readK:Nat→List UInt8→Option (List (List UInt8)×List (List UInt8))
 | 0,_=>some ([],[])
 | n+1,b=>match b with
  | []=>none
  | a::b=>bif Nat.ble a.toNat b.length then(match b.drop a.toNat with
   | []=>none
   | c::b'=>bif Nat.ble c.toNat b'.length then(readK n (b'.drop c.toNat)).map fun r=>(b.take a.toNat::r.1,b'.take c.toNat::r.2) else none) else none
def leafOf:List UInt8→Option (List (List UInt8)×List (List UInt8))
 | 1::n::b=>readK n.toNat b
 | _=>none
def madeB:List AV→Bool
 | .bool b::_=>b
 | _=>false
def allU8:List AV→Bool
 | []=>true
 | .int .u8 n::r=>decide (0≤n)&&decide (n < 256)&&allU8 r
 | _=>false
def loadT (xs:List AV) (top:Nat) (m:Mem):Option (AV×Mem) :=
 (bytesOf ((xs.drop (5+256*top)).take 256)).bind fun b=>(leafOf b).bind fun r =>
  bif madeB xs&&allU8 ((xs.drop (5+256*top)).take 256)&&Nat.ble 2 top&&Nat.ble top 255&&xs.length==65542&&b.length==256&&decide r.1.Nodup then
   (fun m1:Mem=>some (.tup [.agg [.map m.nx,.map (m.nx+1)],.bool true],m1.new (.map 0 [.int .i64 top] [.agg (u8L b)]))) (m.new (.map 0 (r.1.map .str) (r.2.map .str))) else none
def loadR (m:Mem):List AV→Option (AV×Mem)
 | [.ptr id 0 top,.agg [.int .u64 _,.int .i64 t]]=>match m.h id with
  | some (.cells xs)=>bif !(xs.length==top) then none else bif decide (t=0) then some (.tup [.agg [.map m.nx,.map (m.nx+1)],.bool true],(m.new (.map 0 [] [])).new (.map 0 [] [])) else bif decide (0 < t) then loadT xs t.toNat m else none
  | _=>none
 | _=>none
def extF (g:FuncId) (args:List AV) (m:Mem):Option (AV×Mem) :=
 bif g==33 then sortedS 57 args m else bif g==47 then sortedI 74 args m else bif g==26||g==28 then cloneA m args
 else bif g==53 then leavesA m args else bif g==43 then loadR m args else none
end Go.AM

/-
  THE ABSTRACT MACHINE: its steps. One operation, a region, one step of a frame, and runs with fuel. Conditions: none; nothing is proved here.
-/
namespace Go.AM
structure FnAnn where
 pure:Bool
 keeps:List (Nat×List Nat)
 pre:List (Nat×List Nat)
 frz:List (Nat×List Nat)
 modes:List (Nat×List (Nat×Nat))
abbrev Ann:=FuncId→FnAnn
def assoc {α:Type}:List (Nat×α)→Nat→Option α
 | [],_=>none
 | (j,v)::r,i=>bif i==j then some v else assoc r i
def bj (A:FnAnn) (id i:Nat):Nat:=((assoc A.modes id).bind fun l=>assoc l i).getD 0
def St.ev (s:St):Operand→AV
 | .tmp i=>s.get i
 | .const v=>(ofConst v).getD .undef
 | .global g=>globV g
 | .func f=>.fn f [] []
def St.evO (s:St):Option Operand→Option AV
 | none=>none
 | some x=>some (s.ev x)
def frozenPtr (v:AV):Option AV:=bif oneL v.cells then some (bif closedL v.cells then .fptr v.cells else .sptr v.cells) else none
def pureCall (P:Program) (s:St) (c:Call):Option AV :=
 match c.callee with
 | .builtin .len=>match c.args.toList,c.argTypes.toList with
  | [x],[t]=>(match P.underlying t with
   | some (.slice _)=>(match s.ev x with
    | .str _=>none
    | v=>(lenA v).map fun n=>.int .i64 (n:Nat))
   | some .string=>(match s.ev x with
    | .str b=>some (.int .i64 (b.length:Nat))
    | _=>none)
   | some (.array n _)=>some (.int .i64 (n:Nat))
   | _=>none)
  | _,_=>none
 | .builtin .max=>(match c.args.toList with
  | x::r=>foldA max2A (s.ev x) (r.map s.ev)
  | []=>none)
 | .builtin .min=>(match c.args.toList with
  | x::r=>foldA min2A (s.ev x) (r.map s.ev)
  | []=>none)
 | _=>none
def memCall (P:Program) (s:St) (c:Call):Option (AV×Mem) :=
 match c.callee with
 | .builtin .append=>(match c.args.toList,c.argTypes.toList with
  | [a,b],[t,u]=>(match P.underlying t with
   | some (.slice e)=>(sizeT P e).bind fun n=>(bytesT P e).bind fun by'=>(zeroT P e).bind fun z=>bif z.cells.length==n then(match P.underlying u with
    | some (.slice _)=>appendA n by' s.m (s.ev a) (s.ev b)
    | some .string=>appendA n by' s.m (s.ev a) (s.ev b)
    | _=>none) else none
   | _=>none)
  | _,_=>none)
 | .builtin .copy=>(match c.args.toList,c.argTypes.toList with
  | [a,b],[t,u]=>(match P.underlying t,P.underlying u with
   | some (.slice e),some (.slice _)=>(sizeT P e).bind fun n=>copyA n s.m (s.ev a) (s.ev b)
   | _,_=>none)
  | _,_=>none)
 | _=>none
def frzV (v:AV) (m:Mem):Option (AV×Mem) :=
 match v with
 | .ptr id off top=>match m.h id with
  | some (.cells xs)=>bif xs.length==top then some (bif closedL xs then .fptr (xs.drop off) else .sptr (xs.drop off),m.set id none) else none
  | _=>none
 | .sl id es off n top=>match m.h id with
  | some (.cells xs)=>bif xs.length==top&&(closedL xs&&Nat.ble (off+n*es) top) then some (.fsl false n ((xs.drop off).take (n*es)),m.set id none) else none
  | _=>none
 | v=>some (v,m)
def frzC (f:AV→Mem→Option (AV×Mem)) (id top:Nat):Nat→Nat→Mem→Option Mem
 | 0,_,m=>some m
 | c+1,j,m=>match m.h id with
  | some (.cells xs)=>bif xs.length==top then(xs[j]?).bind fun v=>(f v m).bind fun r=>match r.2.h id with
   | some (.cells ys)=>bif ys.length==top&&r.1.one then frzC f id top c (j+1) (r.2.set id (some (.cells (ys.set j r.1)))) else none
   | _=>none else none
  | _=>none
def frzD:Nat→AV→Mem→Option (AV×Mem)
 | 0,v,m=>frzV v m
 | d+1,v,m=>match v with
  | .ptr id _ top=>(frzC (frzD d) id top top 0 m).bind (frzV v)
  | .sl id _ _ _ top=>(frzC (frzD d) id top top 0 m).bind (frzV v)
  | v=>some (v,m)
def frzM (v:AV) (m:Mem):Option (AV×Mem) :=
 match v with
 | .map id=>match m.h id with
  | some (.map _ ks vs)=>bif closedL ks&&closedL vs then some (.fmap ks vs,m.set id none) else none
  | _=>none
 | _=>none
def frzMJ (id:Nat) (xs:List AV) (j:Nat) (m:Mem):Option Mem :=
 (xs[j]?).bind fun u=>match u with
  | .map k=>bif k==id then none else(frzM (.map k) m).bind fun r=>bif r.1.one then some (r.2.set id (some (.cells (xs.set j r.1)))) else none
  | _=>some m
def cellJ (cell:Option Nat) (off top:Nat):Nat:=match cell with
 | some c=>off+c
 | none=>top - 1
def frzMC (v:AV) (cell:Option Nat) (m:Mem):Option Mem :=
 match v with
 | .ptr id off top=>match m.h id with
  | some (.cells xs)=>bif xs.length==top then frzMJ id xs (cellJ cell off top) m else none
  | _=>none
 | _=>none
def appF (size bytes:Nat) (x y:AV):Option AV:=(appendA size bytes Mem.empty x y).bind fun r=>(frzV r.1 r.2).bind fun q=>bif q.1.closed then some q.1 else none
def appP (P:Program) (c:Call) (vs:List AV):Option AV:=match c.callee with
 | .builtin .append=>(match vs,c.argTypes.toList with
  | [x,y],[t,u]=>bif x.closed&&y.closed then(match P.underlying t with
   | some (.slice e)=>(sizeT P e).bind fun n=>(bytesT P e).bind fun by'=>(zeroT P e).bind fun z=>bif z.cells.length==n then(match P.underlying u with
    | some (.slice _)=>appF n by' x y
    | some .string=>appF n by' x y
    | _=>none) else none
   | _=>none) else none
  | _,_=>none)
 | _=>none
def tyA (t:TypeId) (z:AV):AV→Option AV
 | .iface u v=>some (bif u==t then .tup [v,.bool true] else .tup [z,.bool false])
 | .nili=>some (.tup [z,.bool false])
 | _=>none
def mapLenA (m:Mem) (x:AV):Option AV:=(mapLen m x).map fun n=>.int .i64 (n:Nat)
def lenMap (P:Program) (s:St) (c:Call):Option AV:=match c.callee with
 | .builtin .len=>(match c.args.toList,c.argTypes.toList with
  | [x],[t]=>(match P.underlying t with
   | some (.map _ _)=>mapLenA s.m (s.ev x)
   | _=>none)
  | _,_=>none)
 | _=>none
def markA (P:Program) (m:Mem) (src dst:TypeId) (x:AV):Option (AV×Mem):=match P.underlying src with
 | some (.slice e)=>(match P.underlying e with
  | some (.int .u8)=>(match x with
   | .sl id es off n top=>(match m.h id with
    | some (.cells xs)=>bif src==dst&&(xs.length==top&&Nat.blt 0 n) then some (.sl id es off n top,m) else none
    | _=>none)
   | _=>none)
  | _=>none)
 | _=>none
def pureA (P:Program) (md:Nat) (s:St):Op→Option AV
 | .move x=>some (s.ev x)
 | .assign x=>some (s.ev x)
 | .pick c a b=>match s.ev c with
  | .bool b'=>some (bif b' then s.ev a else s.ev b)
  | _=>none
 | .box _ x=>bif md==1 then frozenPtr (s.ev x) else none
 | .load t a=>bif md==1 then(aggT P t).bind fun g=>(sizeT P t).bind fun n=>loadF g n (s.ev a) else none
 | .build t parts=>buildA P t (parts.toList.map fun p=>(p.1,s.ev p.2))
 | .buildSlice t n parts=>bif md==1 then(buildSlA P t n (parts.toList.map fun p=>(p.1,s.ev p.2))).bind fun(_,cs)=>bif closedL cs then some (.fsl true n cs) else none else none
 | .nilCheck x=>match s.ev x with
  | .ptr id off top=>some (.ptr id off top)
  | .fptr cs=>some (.fptr cs)
  | .sptr cs=>some (.sptr cs)
  | .fn f a b=>some (.fn f a b)
  | _=>none
 | .binOp op t x y _=>binA P op t (s.ev x) (s.ev y)
 | .unOp op _ x=>unA op (s.ev x)
 | .makeInterface t x=>match P.underlying t with
  | some (.interface _)=>none
  | some _=>some (.iface t (s.ev x))
  | none=>none
 | .typeAssert x _ t ok=>bif ok then(match P.underlying t with
  | some (.interface _)=>none
  | some _=>(zeroT P t).bind fun z=>tyA t z (s.ev x)
  | none=>none) else none
 | .makeFunc (.func f) first caps=>some (.fn f (first.toList.map s.ev) (caps.toList.map s.ev))
 | .slice t x lo hi none=>match P.underlying t with
  | some (.slice e)=>(sizeT P e).bind fun n=>sliceSl n (s.ev x) (s.evO lo) (s.evO hi)
  | some (.array l e)=>(sizeT P e).bind fun n=>sliceArr l n (s.ev x) (s.evO lo) (s.evO hi)
  | some .string=>sliceStr (s.ev x) (s.evO lo) (s.evO hi)
  | _=>none
 | .fieldAddr t x f=>(fieldT P t f).bind fun fd=>(sizeT P fd.type).bind fun n=>bif n==0 then none else fieldA fd.offset (s.ev x)
 | .field t x f=>(fieldT P t f).bind fun fd=>(aggT P fd.type).bind fun g=>(sizeT P fd.type).bind fun n=>match s.ev x with
  | .agg cs=>partA g n fd.offset cs
  | _=>none
 | .indexAddr t x i=>match P.underlying t with
  | some (.slice e)=>(sizeT P e).bind fun n=>idxSl n (s.ev x) (s.ev i)
  | some (.array l e)=>(sizeT P e).bind fun n=>idxArr l n (s.ev x) (s.ev i)
  | _=>none
 | .index t x i=>match P.underlying t,s.ev x,s.ev i with
  | some .string,.str b,.int _ j=>bif inR j b.length then(b[j.toNat]?).map fun c=>.int .u8 c.toNat else none
  | some (.array l e),.agg cs,.int _ j=>bif inR j l then(sizeT P e).bind fun n=>(aggT P e).bind fun g=>partA g n (j.toNat*n) cs else none
  | _,_,_=>none
 | .extract x i=>match s.ev x with
  | .tup vs=>vs[i]?
  | _=>none
 | .call c=>bif md==3 then appP P c (c.args.toList.map s.ev) else pureCall P s c
 | .convert src dst x=>bif md==1 then(match s.ev x with
  | .int k n=>convA P Mem.empty src dst (.int k n)
  | _=>none) else none
 | _=>none
def readA (P:Program) (s:St):Op→Option AV
 | .load t a=>(aggT P t).bind fun g=>(sizeT P t).bind fun n=>loadA g n s.m (s.ev a)
 | .lookup t x k ok=>lookupA P s.m t (s.ev x) (s.ev k) ok
 | .convert src dst x=>convA P s.m src dst (s.ev x)
 | .entry x=>curA s.m (s.ev x)
 | .call c=>lenMap P s c
 | _=>none
def memA (P:Program) (s:St):Op→Option (AV×Mem)
 | .alloc t=>(zeroT P t).bind fun z=>newPtr s.m z.cells
 | .box _ x=>newPtr s.m (s.ev x).cells
 | .buildSlice t n parts=>(buildSlA P t n (parts.toList.map fun p=>(p.1,s.ev p.2))).bind fun(es,cs)=>some (.sl s.m.nx es 0 n cs.length,s.m.new (.cells cs))
 | .store t a v=>(aggT P t).bind fun g=>(sizeT P t).bind fun n=>(storeA g n s.m (s.ev a) (s.ev v)).map fun m=>(.tup [],m)
 | .makeSlice t l c=>match P.underlying t with
  | some (.slice e)=>(sizeT P e).bind fun n=>(bytesT P e).bind fun b=>(zeroT P e).bind fun z=>makeA n b z s.m (s.ev l) (s.ev c)
  | _=>none
 | .makeMap _ none=>some (.map s.m.nx,s.m.new (.map 0 [] []))
 | .mapUpdate t x k v=>(updA P s.m t (s.ev x) (s.ev k) (s.ev v)).map fun m=>(.tup [],m)
 | .insert t x k v=>(updA P s.m t (s.ev x) (s.ev k) (s.ev v)).map fun m=>(.tup [],m)
 | .mapEntry t x k=>entryA P s.m t (s.ev x) (s.ev k)
 | .convert src dst x=>markA P s.m src dst (s.ev x)
 | .entryStore _ x st v=>(entryStA s.m (s.ev x) (s.ev st) (s.ev v)).map fun m=>(.tup [],m)
 | .call c=>memCall P s c
 | _=>none
def callClass (c:Call):Nat:=match c.callee with
 | .builtin .len | .builtin .max | .builtin .min=>0
 | .builtin .append | .builtin .copy=>2
 | .value _=>3
 | _=>5
def classOf (md:Nat):Op→Nat
 | .move _ | .assign _ | .pick .. | .build .. | .nilCheck _ | .binOp .. | .unOp .. | .makeInterface .. | .makeFunc .. | .slice .. | .fieldAddr .. | .field .. | .indexAddr .. | .index .. | .extract .. | .typeAssert .. => 0
 | .box .. | .buildSlice .. => bif md==1 then 0 else 6
 | .load .. => bif md==1 then 0 else 1
 | .convert .. => bif md==1 then 0 else bif md==5 then 2 else 1
 | .lookup .. | .entry _=>1
 | .alloc _ | .makeSlice .. | .makeMap .. => 6
 | .store .. | .mapUpdate .. | .insert .. | .mapEntry .. | .entryStore .. => 2
 | .call c=>bif md==3 then 0 else bif md==4 then 1 else callClass c
 | .next _ false | .range .. => 4
 | _=>5
abbrev CallF:=FuncId→List AV→Mem→Option (AV×Mem)
def frzArgs:List AV→Mem→Option (List AV×Mem)
 | [],m=>some ([],m)
 | a::r,m=>(frzV a m).bind fun q=>(frzArgs r q.2).bind fun p=>some (q.1::p.1,p.2)
def callA (pf:FuncId→Bool) (call:CallF) (md:Nat) (m:Mem) (f:AV) (args:List AV):Option (AV×Mem) :=
 match f with
 | .fn g first caps =>
  bif pf g then
   bif md==2 then(frzArgs (first++args++caps) m).bind fun p=>bif closedL p.1 then(call g p.1 Mem.empty).bind fun r=>some (r.1,p.2) else none
   else bif closedL (first++args++caps) then(call g (first++args++caps) Mem.empty).bind fun r=>some (r.1,m)
   else(mapO (deep m.h deepNo) (first++args++caps)).bind fun as=>(call g as Mem.empty).bind fun r=>bif r.1.flat then some (r.1,m) else none
  else bif md==7 then none else call g (first++args++caps) m
 | _=>none
def apartD (s:St) (p q:Nat):Bool :=
 match s.get p with
 | .ptr id _ _=>match s.get q with
  | .ptr id' _ _=>!(id==id')
  | .sl id' _ _ _ _=>!(id==id')
  | _=>false
 | _=>false
def objId:AV→Option Nat
 | .ptr id _ _=>some id
 | .sl id _ _ _ _=>some id
 | .map id=>some id
 | _=>none
def nsl:AV→Bool
 | .sl .. => false
 | _=>true
def apart2 (s:St) (p q:Nat):Bool:=match objId (s.get p),objId (s.get q) with
 | some a,some c=>!(a==c)
 | _,_=>true
def tst (s:St) (e:Nat):Bool:=bif Nat.blt e 2000000 then apartD s ((e - 1000000) / 1000) ((e - 1000000) % 1000) else bif Nat.blt e 3000000 then nsl (s.get (e - 2000000)) else apart2 s ((e - 3000000) / 1000) ((e - 3000000) % 1000)
def frz1 (s:St) (i:Nat):Option St :=
 bif Nat.blt i 1000 then
  (frzV (s.get i) s.m).bind fun r=>(s.mem r.2).put (some i) r.1
 else bif Nat.ble 1000000 i then(bif tst s i then some s else none)
 else bif Nat.ble 900000 i then(frzD 3 (s.get (i % 1000)) s.m).bind fun r=>(s.mem r.2).put (some (i % 1000)) r.1
 else bif Nat.blt i 800000&&Nat.ble 700000 i then(frzMC (s.get (i % 1000)) none s.m).map s.mem
 else bif Nat.blt i 700000&&Nat.ble 600000 i then(frzMC (s.get (i % 1000)) (some ((i - 600000) / 1000)) s.m).map s.mem
 else bif Nat.ble 800000 i then(frzM (s.get (i % 1000)) s.m).bind fun r=>(s.mem r.2).put (some (i % 1000)) r.1
 else match s.get (i % 1000) with
  | .ptr id off top=>match s.m.h id with
   | some (.cells xs)=>bif xs.length==top then((xs[off+(i / 1000 - 1)]?).bind fun v=>(frzV v s.m).bind fun r=>match r.2.h id with
     | some (.cells ys)=>bif ys.length==top&&(Nat.blt (off+(i / 1000 - 1)) top&&r.1.one) then some (s.mem (r.2.set id (some (.cells (ys.set (off+(i / 1000 - 1)) r.1))))) else none
     | _=>none) else none
   | _=>none
  | _=>some s
def frzL:List Nat→St→Option St
 | [],s=>some s
 | i::r,s=>(frz1 s i).bind (frzL r)
def opA (P:Program) (pf:FuncId→Bool) (call:CallF) (md:Nat) (o:Oper) (s:St):Option St :=
 match classOf md o.op with
 | 0=>(pureA P md s o.op).bind fun v=>s.put o.dst v
 | 1=>(readA P s o.op).bind fun v=>s.put o.dst v
 | 2 | 6=>(memA P s o.op).bind fun r=>(bif md==1 then frzV r.1 r.2 else some r).bind fun r=>(s.mem r.2).put o.dst r.1
 | 3=>match o.op with
  | .call c=>match c.callee with
   | .value f=>(callA pf call md s.m (s.ev f) (c.args.toList.map s.ev)).bind fun r=>(s.mem r.2).put o.dst r.1
   | _=>none
  | _=>none
 | _=>none
def St.lit (s:St) (d:Nat) (b:Bool):St:={ s with t:=(d,.bool b)::s.t }
def guardA {R:Type} (ops:Array Oper) (o:Oper) (s:St) (kt kf:St→Option R):Option R :=
 match o.guard with
 | none=>kt s
 | some (j,want)=>match (ops[j]?).bind (·.dst) with
  | none=>none
  | some d=>match s.get d with
   | .bool b=>match b with
    | true=>bif Nat.blt d s.nt then(bif want then kt (s.lit d true) else kf (s.lit d true)) else none
    | false=>bif Nat.blt d s.nt then(bif want then kf (s.lit d false) else kt (s.lit d false)) else none
   | .tup []=>kf s
   | _=>none
noncomputable def allOf {R:Type} (n:Nat) (F:Nat→Option R):Option R :=
 open Classical in if h:∃r,0 < n∧∀i,i < n→F i=some r then some h.choose else none
noncomputable def nextA {R:Type} (P:Program) (s:St) (o:Oper) (k:St→Option R):Option R :=
 match o.op with
 | .next x false=>match s.ev x with
  | .iter id=>match s.m.h id with
   | some (.iter _ ks vs)=>match ks with
    | []=>(s.put o.dst (.tup [.bool false])).bind k
    | _::_=>allOf ks.length fun i=>(ks[i]?).bind fun kv=>(vs[i]?).bind fun v =>
      ((s.mem (s.m.set id (some (.iter [kv,v] (ks.eraseIdx i) (vs.eraseIdx i))))).put o.dst (.tup [.bool true,kv,v])).bind k
   | _=>none
  | _=>none
 | .range t x=>match P.underlying t with
  | some (.map _ _)=>(rangeA s.m (s.ev x)).bind fun r=>((s.mem r.2).put o.dst r.1).bind k
  | _=>none
 | _=>none
def St.nx (s:St) (n:Nat):St:={ s with m:={ s.m with nx:=n } }
def opI (P:Program) (pf:FuncId→Bool) (call:CallF) (md:Nat) (b:Option Nat) (i:Nat) (o:Oper) (s:St):Option St :=
 match b with
 | none=>opA P pf call md o s
 | some b=>match classOf md o.op with
  | 2 | 6=>(opA P pf call md o (s.nx (b+i))).map fun s'=>s'.nx s.m.nx
  | _=>opA P pf call md o s
noncomputable def opsA {R:Type} (P:Program) (pf:FuncId→Bool) (call:CallF) (md:Nat→Nat) (ops:Array Oper) (b:Option Nat):Nat→List Oper→St→(St→Option R)→Option R
 | _,[],s,k=>k s
 | i,o::r,s,k=>guardA ops o s
   (fun s=>match classOf (md i) o.op with
    | 4=>nextA P s o fun s=>opsA P pf call md ops b (i+1) r s k
    | _=>(opI P pf call (md i) b i o s).bind fun s=>opsA P pf call md ops b (i+1) r s k)
   (fun s=>(s.put o.dst (.tup [])).bind fun s=>opsA P pf call md ops b (i+1) r s k)
theorem fo {R:Type} {n:Nat} {F:Nat→Option R} {r:R}:allOf n F=some r↔0 < n∧∀i,i < n→F i=some r:=by
 unfold allOf
 constructor
 ·intro h
  split at h
  ·rename_i h1
   have:=h1.choose_spec
   cases h
   exact this
  ·cases h
 ·intro h
  have h1:∃r,0 < n∧∀i,i < n→F i=some r:=⟨r,h⟩
  rw [dif_pos h1]
  have h2:=h1.choose_spec
  have:=h2.2 0 h.1
  rw [h.2 0 h.1] at this
  cases this
  rfl
def anc:List Oper→List Nat→List Nat
 | [],acc=>acc
 | o::r,acc=>anc r (acc++[o.after.toList.foldl (fun s e=>bif Region.binds .any e then s ||| 2 ^ e.on ||| acc.getD e.on 0 else s) 0])
def classD (pf:FuncId→Bool) (md:Nat) (o:Oper):Nat:=match classOf md o.op with
 | 3=>match o.op with
  | .call c=>match c.callee with
   | .value (.func g)=>bif pf g&&!(md==2) then 1 else 3
   | .value _=>bif md==7 then 1 else 3
   | _=>3
  | _=>3
 | c=>c
def pairOk (ca cb:Nat):Bool :=
 ca==0||cb==0||(ca==1&&cb==1)||(ca==6&&!(cb==3))||(cb==6&&!(ca==3))
def pairIn (fz:List Nat) (p q:Nat):Bool:=Nat.blt p 1000&&Nat.blt q 1000&&(fz.takeWhile fun e=>Nat.ble 1000000 e).any fun e=>e==1000000+1000*p+q
def nslIn (fz:List Nat) (y:Nat):Bool:=Nat.blt y 1000&&(fz.takeWhile fun e=>Nat.ble 1000000 e).any fun e=>e==2000000+y
def ap2In (fz:List Nat) (p q:Nat):Bool:=Nat.blt p 1000&&Nat.blt q 1000&&(fz.takeWhile fun e=>Nat.ble 1000000 e).any fun e=>e==3000000+1000*p+q
def locT (o:Oper):Option (Nat×List Nat):=match o.guard with
 | some _=>none
 | none=>match o.op with
  | .load _ (.tmp p)=>some (p,[])
  | .store _ (.tmp q) _=>some (q,[])
  | .lookup _ (.tmp x) _ _=>some (x,[])
  | .mapUpdate _ (.tmp x) _ _=>some (x,[])
  | .insert _ (.tmp x) _ _=>some (x,[])
  | .mapEntry _ (.tmp x) _=>some (x,[])
  | .entryStore _ (.tmp x) _ _=>some (x,[])
  | .call c=>match c.callee with
   | .builtin .append=>match c.args.toList with
    | [.tmp q,.tmp y]=>some (q,[y])
    | _=>none
   | _=>none
  | _=>none
def spL (o:Oper):Option Nat:=match o.guard with
 | none=>match o.op with
  | .load _ (.tmp p)=>some p
  | _=>none
 | some _=>none
def spW (o:Oper):Option Nat:=match o.guard with
 | none=>match o.op with
  | .store _ (.tmp q) _=>some q
  | .call c=>match c.callee with
   | .builtin .append=>match c.args.toList with
    | .tmp q::_=>some q
    | _=>none
   | _=>none
  | _=>none
 | some _=>none
def fastB (ops:List Oper) (anj i a c:Nat):Bool:=ops.zipIdx.all fun(o,k)=>(!(o.dst==some a)||Nat.blt k i)&&(!(o.dst==some c)||anj.testBit k)
def spOk (fz:List Nat) (md:Nat→Nat) (ops:List Oper) (anj i j:Nat) (oi oj:Oper):Bool :=
 (match spL oi with
  | some p=>match spW oj with
   | some q=>!(md i==1)&&(!(md j==3)&&(pairIn fz p q&&fastB ops anj i p q))
   | none=>false
  | none=>false) ||
 (match spW oi with
  | some q=>match spL oj with
   | some p=>!(md j==1)&&(!(md i==3)&&(pairIn fz p q&&fastB ops anj i q p))
   | none=>false
  | none=>false)
def fastL (ops:List Oper) (anj i:Nat) (A C:List Nat):Bool:=ops.zipIdx.all fun(o,k)=>A.all (fun a=>!(o.dst==some a)||Nat.blt k i)&&C.all (fun c=>!(o.dst==some c)||anj.testBit k)
def llOk (fz:List Nat) (md:Nat→Nat) (ops:List Oper) (anj i j:Nat) (oi oj:Oper):Bool :=
 md i==0&&(md j==0&&(match locT oi with
  | some (a,ys)=>match locT oj with
   | some (c,zs)=>ap2In fz a c&&(ys.all (nslIn fz)&&(zs.all (nslIn fz)&&fastL ops anj i (a::ys) (c::zs)))
   | none=>false
  | none=>false))
def lmOne (mi mj:Nat) (oi oj:Oper):Bool:=mi==0&&(mj==0&&(match oi.guard with
 | some _=>false
 | none=>match oj.guard with
  | some _=>false
  | none=>match oi.op with
   | .lookup t _ _ ok=>(match oj.op with
    | .mapEntry u _ _=>t==u&&!ok
    | _=>false)
   | _=>false))
def lmOk (md:Nat→Nat) (i j:Nat) (oi oj:Oper):Bool:=lmOne (md i) (md j) oi oj||lmOne (md j) (md i) oj oi
def freeA (pf:FuncId→Bool) (md:Nat→Nat) (fz:List Nat) (opsa:Array Oper) (ops:List Oper):Bool :=
 let an:=anc ops []
 ops.zipIdx.all fun(oj,j)=>oj.after.all (fun e=>!(Region.binds .any e)||Nat.blt e.on j)&&(ops.take j).zipIdx.all fun(oi,i) =>
  (an.getD j 0).testBit i||((pairOk (classD pf (md i) oi) (classD pf (md j) oj)||lmOk md i j oi oj||spOk fz md ops (an.getD j 0) i j oi oj||llOk fz md ops (an.getD j 0) i j oi oj)&&oi.apart opsa oj)
def bh (pf:FuncId→Bool) (md:Nat→Nat) (fz:List Nat) (ops:Array Oper):Bool :=
 freeA pf md fz ops ops.toList&&ops.toList.zipIdx.all fun(o,i)=>Nat.blt (classOf (md i) o.op) 4&&(!(classOf (md i) o.op==2)||!(md i==1))||classOf (md i) o.op==6
abbrev Res:=AV×Mem
def resOf (P:Program) (s:St):ResultVar→Option AV
 | .tmp t=>some (s.get t)
 | .cell a t=>(aggT P t).bind fun g=>(sizeT P t).bind fun n=>loadA g n s.m (s.get a)
def resL (P:Program) (s:St):List ResultVar→Option (List AV)
 | []=>some []
 | r::rs=>(resOf P s r).bind fun v=>(resL P s rs).bind fun vs=>some (v::vs)
def tupOf:List AV→AV
 | [v]=>v
 | vs=>.tup vs
def finA (P:Program) (pure:Bool) (fn:Func) (s:St):Option Res :=
 (resL P s fn.results.toList).bind fun vs=>bif pure then(deep s.m.h deepNo (tupOf vs)).bind fun v=>some (v,Mem.empty) else some (tupOf vs,s.m)
def keepAt (A:FnAnn) (id:Nat) (s:St):St :=
 match assoc A.keeps id with
 | some l=>s.keep l
 | none=>s
def preAt (A:FnAnn) (id:Nat) (s:St):Option St :=
 match assoc A.pre id with
 | some l=>frzL l s
 | none=>some s
def frzAt (A:FnAnn) (id:Nat) (s:St):Option St :=
 match assoc A.frz id with
 | some l=>frzL l s
 | none=>some s
def bN (A:FnAnn) (id:Nat):List Nat:=(assoc A.frz id).getD []
noncomputable def stepA (P:Program) (A:FnAnn) (pf:FuncId→Bool) (call:CallF) (fn:Func) (rec:List Item→St→Option Res):List Item→St→Option Res
 | [],s=>finA P A.pure fn s
 | .code .skip::K,s=>rec K s
 | .code (.label _)::K,s=>rec K s
 | .code (.seq a b)::K,s=>rec (.code a::.code b::K) s
 | .code (.cond (.tmp c) a b)::K,s=>match s.get c with
  | .bool b'=>match b' with
   | true=>bif Nat.blt c s.nt then rec (.code a::K) (s.lit c true) else none
   | false=>bif Nat.blt c s.nt then rec (.code b::K) (s.lit c false) else none
  | _=>none
 | .code (.cond (.const (.bool b')) a b)::K,s=>bif b' then rec (.code a::K) s else rec (.code b::K) s
 | .code (.block id c)::K,s=>rec (.code c::.inBlock id::K) s
 | .inBlock _::K,s=>rec K s
 | .code (.loop c)::K,s=>rec (.code c::.inLoop c::K) s
 | .inLoop c::K,s=>rec (.code c::.inLoop c::K) s
 | .code (.exit id)::K,s=>match exitTo id K with
  | some K'=>rec K' s
  | none=>none
 | .code .ret::_,s=>finA P A.pure fn s
 | .code (.region id ops draw)::K,s =>
  bif draw&&!(bh pf (bj A id) (bN A id) ops) then none else
   (preAt A id (keepAt A id s)).bind fun s=>opsA P pf call (bj A id) ops (bif draw then some s.m.nx else none) 0 ops.toList (bif draw then s.nx (s.m.nx+ops.size) else s) fun s=>(frzAt A id s).bind fun s=>rec K s
 | _,_=>none
def initA (fn:Func) (args:List AV) (m:Mem):St:=⟨args.zipIdx.map fun(v,i)=>(i,v),fn.ntmps,m⟩
def FnAnn.cmp (a:FnAnn):Bool:=(assoc a.frz 888888).isSome
def FnAnn.sts (a:FnAnn):Bool:=(assoc a.frz 666666).isSome
def FnAnn.ext (a:FnAnn):Bool:=(assoc a.frz 555555).isSome
def FnAnn.srt (a:FnAnn):Bool:=!a.pure&&((assoc a.frz 777777).isSome||(a.cmp||(a.sts||a.ext)))
def libA (a:FnAnn) (g:FuncId) (args:List AV) (m:Mem):Option (AV×Mem):=bif a.ext then extF g args m else bif a.cmp then cmpA args m else bif a.sts then sortT args m else sortA args m
mutual
noncomputable def runA (P:Program) (A:Ann):Nat→FuncId→List Item→St→Option Res
 | 0,_,_,_=>none
 | n+1,f,K,s=>(P.funcs[f]?).bind fun fn=>stepA P (A f) (fun g=>(A g).pure) (fun g args m=>dH P A n g args m) fn (fun K s=>runA P A n f K s) K s
noncomputable def dH (P:Program) (A:Ann):Nat→FuncId→List AV→Mem→Option Res
 | 0,_,_,_=>none
 | n+1,g,args,m=>(P.funcs[g]?).bind fun fn=>fn.body.bind fun b =>
   bif (A g).srt then libA (A g) g args m else bif Nat.ble args.length fn.ntmps then
    (bif (A g).pure then(bif closedL args then(runA P A n g [.code b] (initA fn args Mem.empty)).bind fun r=>some (r.1,m) else none)
     else runA P A n g [.code b] (initA fn args m))
   else none
end
end Go.AM
