/-
  THE ABSTRACT MACHINE: its steps. One operation, a region, one step of a frame, and runs with fuel. Conditions: none; nothing is proved here.
-/
import Derived.Test.YtdkmepjedjclkaaAmDef
import Derived.Still
namespace Go.AM

/-- What is told of a function: is it evaluated apart (its arguments made values)? which slots are kept at the head of a region; which objects become values behind one; the modes of single operations. -/
structure FnAnn where
  pure : Bool
  keeps : List (Nat × List Nat)
  pre : List (Nat × List Nat)
  frz : List (Nat × List Nat)
  modes : List (Nat × List (Nat × Nat))

abbrev Ann := FuncId → FnAnn

def assoc {α : Type} : List (Nat × α) → Nat → Option α
  | [], _ => none
  | (j, v) :: r, i => bif i == j then some v else assoc r i

def modeOf (A : FnAnn) (id i : Nat) : Nat := ((assoc A.modes id).bind fun l => assoc l i).getD 0

def St.ev (s : St) : Operand → AV
  | .tmp i => s.get i
  | .const v => (ofConst v).getD .undef
  | .global _ => .undef
  | .func f => .fn f [] []

def St.evO (s : St) : Option Operand → Option AV
  | none => none
  | some x => some (s.ev x)

/-- Values that name no object may be laid into memory that is not written any more. -/
def frozenPtr (v : AV) : Option AV := bif oneL v.cells then some (bif closedL v.cells then .fptr v.cells else .sptr v.cells) else none

/-- The calls of builtins that look at no memory. -/
def pureCall (P : Program) (s : St) (c : Call) : Option AV :=
  match c.callee with
  | .builtin .len => match c.args.toList, c.argTypes.toList with
    | [x], [t] => (match P.underlying t with
      | some (.slice _) => (match s.ev x with
        | .str _ => none
        | v => (lenA v).map fun n => .int .i64 (n : Nat))
      | some .string => (match s.ev x with
        | .str b => some (.int .i64 (b.length : Nat))
        | _ => none)
      | some (.array n _) => some (.int .i64 (n : Nat))
      | _ => none)
    | _, _ => none
  | .builtin .max => (match c.args.toList with
    | x :: r => foldA max2A (s.ev x) (r.map s.ev)
    | [] => none)
  | .builtin .min => (match c.args.toList with
    | x :: r => foldA min2A (s.ev x) (r.map s.ev)
    | [] => none)
  | _ => none

/-- The calls of builtins that make or write memory. -/
def memCall (P : Program) (s : St) (c : Call) : Option (AV × Mem) :=
  match c.callee with
  | .builtin .append => (match c.args.toList, c.argTypes.toList with
    | [a, b], [t, u] => (match P.underlying t with
      | some (.slice e) => (sizeT P e).bind fun n => (bytesT P e).bind fun by' => (zeroT P e).bind fun z => bif z.cells.length == n then (match P.underlying u with
        | some (.slice _) => appendA n by' s.m (s.ev a) (s.ev b)
        | some .string => appendA n by' s.m (s.ev a) (s.ev b)
        | _ => none) else none
      | _ => none)
    | _, _ => none)
  | .builtin .copy => (match c.args.toList, c.argTypes.toList with
    | [a, b], [t, u] => (match P.underlying t, P.underlying u with
      | some (.slice e), some (.slice _) => (sizeT P e).bind fun n => copyA n s.m (s.ev a) (s.ev b)
      | _, _ => none)
    | _, _ => none)
  | _ => none

/-- An object becomes a value. -/
def frzV (v : AV) (m : Mem) : Option (AV × Mem) :=
  match v with
  | .ptr id off top => match m.h id with
    | some (.cells xs) => bif xs.length == top then some (bif closedL xs then .fptr (xs.drop off) else .sptr (xs.drop off), m.set id none) else none
    | _ => none
  | .sl id es off n top => match m.h id with
    | some (.cells xs) => bif xs.length == top && (closedL xs && Nat.ble (off + n * es) top) then some (.fsl false n ((xs.drop off).take (n * es)), m.set id none) else none
    | _ => none
  | v => some (v, m)

/-- What is appended to a value, handed back as a value. -/
def appF (size bytes : Nat) (x y : AV) : Option AV := (appendA size bytes Mem.empty x y).bind fun r => (frzV r.1 r.2).bind fun q => bif q.1.closed then some q.1 else none

def appP (P : Program) (c : Call) (vs : List AV) : Option AV := match c.callee with
  | .builtin .append => (match vs, c.argTypes.toList with
    | [x, y], [t, u] => bif x.closed && y.closed then (match P.underlying t with
      | some (.slice e) => (sizeT P e).bind fun n => (bytesT P e).bind fun by' => (zeroT P e).bind fun z => bif z.cells.length == n then (match P.underlying u with
        | some (.slice _) => appF n by' x y
        | some .string => appF n by' x y
        | _ => none) else none
      | _ => none) else none
    | _, _ => none)
  | _ => none

/-- The operations that look at no memory and change none. -/
def pureA (P : Program) (md : Nat) (s : St) : Op → Option AV
  | .move x => some (s.ev x)
  | .assign x => some (s.ev x)
  | .pick c a b => match s.ev c with
    | .bool b' => some (bif b' then s.ev a else s.ev b)
    | _ => none
  | .box _ x => bif md == 1 then frozenPtr (s.ev x) else none
  | .load t a => bif md == 1 then (aggT P t).bind fun g => (sizeT P t).bind fun n => loadF g n (s.ev a) else none
  | .build t parts => buildA P t (parts.toList.map fun p => (p.1, s.ev p.2))
  | .buildSlice t n parts => bif md == 1 then (buildSlA P t n (parts.toList.map fun p => (p.1, s.ev p.2))).bind fun (_, cs) => bif closedL cs then some (.fsl true n cs) else none else none
  | .nilCheck x => match s.ev x with
    | .ptr id off top => some (.ptr id off top)
    | .fptr cs => some (.fptr cs)
    | .sptr cs => some (.sptr cs)
    | .fn f a b => some (.fn f a b)
    | _ => none
  | .binOp op t x y _ => binA P op t (s.ev x) (s.ev y)
  | .unOp op _ x => unA op (s.ev x)
  | .makeInterface t x => match P.underlying t with
    | some (.interface _) => none
    | some _ => some (.iface t (s.ev x))
    | none => none
  | .makeFunc (.func f) first caps => some (.fn f (first.toList.map s.ev) (caps.toList.map s.ev))
  | .slice t x lo hi none => match P.underlying t with
    | some (.slice e) => (sizeT P e).bind fun n => sliceSl n (s.ev x) (s.evO lo) (s.evO hi)
    | some (.array l e) => (sizeT P e).bind fun n => sliceArr l n (s.ev x) (s.evO lo) (s.evO hi)
    | some .string => sliceStr (s.ev x) (s.evO lo) (s.evO hi)
    | _ => none
  | .fieldAddr t x f => (fieldT P t f).bind fun fd => (sizeT P fd.type).bind fun n => bif n == 0 then none else fieldA fd.offset (s.ev x)
  | .field t x f => (fieldT P t f).bind fun fd => (aggT P fd.type).bind fun g => (sizeT P fd.type).bind fun n => match s.ev x with
    | .agg cs => partA g n fd.offset cs
    | _ => none
  | .indexAddr t x i => match P.underlying t with
    | some (.slice e) => (sizeT P e).bind fun n => idxSl n (s.ev x) (s.ev i)
    | some (.array l e) => (sizeT P e).bind fun n => idxArr l n (s.ev x) (s.ev i)
    | _ => none
  | .index t x i => match P.underlying t, s.ev x, s.ev i with
    | some .string, .str b, .int _ j => bif inR j b.length then (b[j.toNat]?).map fun c => .int .u8 c.toNat else none
    | some (.array l e), .agg cs, .int _ j => bif inR j l then (sizeT P e).bind fun n => (aggT P e).bind fun g => partA g n (j.toNat * n) cs else none
    | _, _, _ => none
  | .extract x i => match s.ev x with
    | .tup vs => vs[i]?
    | _ => none
  | .call c => bif md == 3 then appP P c (c.args.toList.map s.ev) else pureCall P s c
  | _ => none

/-- The operations that only read memory. -/
def readA (P : Program) (s : St) : Op → Option AV
  | .load t a => (aggT P t).bind fun g => (sizeT P t).bind fun n => loadA g n s.m (s.ev a)
  | .lookup t x k ok => lookupA P s.m t (s.ev x) (s.ev k) ok
  | .convert src dst x => convA P s.m src dst (s.ev x)
  | .entry x => curA s.m (s.ev x)
  | _ => none

/-- The operations that make or write memory. -/
def memA (P : Program) (s : St) : Op → Option (AV × Mem)
  | .alloc t => (zeroT P t).bind fun z => newPtr s.m z.cells
  | .box _ x => newPtr s.m (s.ev x).cells
  | .buildSlice t n parts => (buildSlA P t n (parts.toList.map fun p => (p.1, s.ev p.2))).bind fun (es, cs) => some (.sl s.m.nx es 0 n cs.length, s.m.new (.cells cs))
  | .store t a v => (aggT P t).bind fun g => (sizeT P t).bind fun n => (storeA g n s.m (s.ev a) (s.ev v)).map fun m => (.tup [], m)
  | .makeSlice t l c => match P.underlying t with
    | some (.slice e) => (sizeT P e).bind fun n => (bytesT P e).bind fun b => (zeroT P e).bind fun z => makeA n b z s.m (s.ev l) (s.ev c)
    | _ => none
  | .makeMap _ none => some (.map s.m.nx, s.m.new (.map 0 [] []))
  | .mapUpdate t x k v => (updA P s.m t (s.ev x) (s.ev k) (s.ev v)).map fun m => (.tup [], m)
  | .insert t x k v => (updA P s.m t (s.ev x) (s.ev k) (s.ev v)).map fun m => (.tup [], m)
  | .mapEntry t x k => entryA P s.m t (s.ev x) (s.ev k)
  | .entryStore _ x st v => (entryStA s.m (s.ev x) (s.ev st) (s.ev v)).map fun m => (.tup [], m)
  | .call c => memCall P s c
  | _ => none

def callClass (c : Call) : Nat := match c.callee with
  | .builtin .len | .builtin .max | .builtin .min => 0
  | .builtin .append | .builtin .copy => 2
  | .value _ => 3
  | _ => 5

/-- 0: looks at no memory · 1: only reads · 2: writes (and may make an object) · 3: a call · 4: a step of a range over a map · 5: none of these · 6: makes an object. -/
def classOf (md : Nat) : Op → Nat
  | .move _ | .assign _ | .pick .. | .build .. | .nilCheck _ | .binOp .. | .unOp .. | .makeInterface .. | .makeFunc .. | .slice .. | .fieldAddr .. | .field .. | .indexAddr .. | .index .. | .extract .. => 0
  | .box .. | .buildSlice .. => bif md == 1 then 0 else 6
  | .load .. => bif md == 1 then 0 else 1
  | .lookup .. | .convert .. | .entry _ => 1
  | .alloc _ | .makeSlice .. | .makeMap .. => 6
  | .store .. | .mapUpdate .. | .insert .. | .mapEntry .. | .entryStore .. | .range .. => 2
  | .call c => bif md == 3 then 0 else callClass c
  | .next _ false => 4
  | _ => 5

abbrev CallF := FuncId → List AV → Mem → Option (AV × Mem)

def frzArgs : List AV → Mem → Option (List AV × Mem)
  | [], m => some ([], m)
  | a :: r, m => (frzV a m).bind fun q => (frzArgs r q.2).bind fun p => some (q.1 :: p.1, p.2)

/-- A function's value is called. -/
def callA (pf : FuncId → Bool) (call : CallF) (md : Nat) (m : Mem) (f : AV) (args : List AV) : Option (AV × Mem) :=
  match f with
  | .fn g first caps =>
    bif pf g then
      bif md == 2 then (frzArgs (first ++ args ++ caps) m).bind fun p => bif closedL p.1 then (call g p.1 Mem.empty).bind fun r => some (r.1, p.2) else none
      else bif closedL (first ++ args ++ caps) then (call g (first ++ args ++ caps) Mem.empty).bind fun r => some (r.1, m)
      else (mapO (deep m.h deepNo) (first ++ args ++ caps)).bind fun as => (call g as Mem.empty).bind fun r => bif r.1.flat then some (r.1, m) else none
    else call g (first ++ args ++ caps) m
  | _ => none

/-- The object in a slot; or (i = slot + 1000 * (cell + 1)) the one in a cell of the object in a slot. -/
def frz1 (s : St) (i : Nat) : Option St :=
  bif Nat.blt i 1000 then
    (frzV (s.get i) s.m).bind fun r => (s.mem r.2).put (some i) r.1
  else match s.get (i % 1000) with
    | .ptr id off top => match s.m.h id with
      | some (.cells xs) => bif xs.length == top then ((xs[off + (i / 1000 - 1)]?).bind fun v => (frzV v s.m).bind fun r => match r.2.h id with
          | some (.cells ys) => bif ys.length == top && (Nat.blt (off + (i / 1000 - 1)) top && r.1.one) then some (s.mem (r.2.set id (some (.cells (ys.set (off + (i / 1000 - 1)) r.1))))) else none
          | _ => none) else none
      | _ => none
    | _ => some s

def frzL : List Nat → St → Option St
  | [], s => some s
  | i :: r, s => (frz1 s i).bind (frzL r)

/-- One operation. -/
def opA (P : Program) (pf : FuncId → Bool) (call : CallF) (md : Nat) (o : Oper) (s : St) : Option St :=
  match classOf md o.op with
  | 0 => (pureA P md s o.op).bind fun v => s.put o.dst v
  | 1 => (readA P s o.op).bind fun v => s.put o.dst v
  | 2 | 6 => (memA P s o.op).bind fun r => (bif md == 1 then frzV r.1 r.2 else some r).bind fun r => (s.mem r.2).put o.dst r.1
  | 3 => match o.op with
    | .call c => match c.callee with
      | .value f => (callA pf call md s.m (s.ev f) (c.args.toList.map s.ev)).bind fun r => (s.mem r.2).put o.dst r.1
      | _ => none
    | _ => none
  | _ => none

/-- A test that is met is known from there on. -/
def St.lit (s : St) (d : Nat) (b : Bool) : St := { s with t := (d, .bool b) :: s.t }

def guardA {R : Type} (ops : Array Oper) (o : Oper) (s : St) (kt kf : St → Option R) : Option R :=
  match o.guard with
  | none => kt s
  | some (j, want) => match (ops[j]?).bind (·.dst) with
    | none => none
    | some d => match s.get d with
      | .bool b => match b with
        | true => bif Nat.blt d s.nt then (bif want then kt (s.lit d true) else kf (s.lit d true)) else none
        | false => bif Nat.blt d s.nt then (bif want then kf (s.lit d false) else kt (s.lit d false)) else none
      | .tup [] => kf s
      | _ => none

/-- All choices must come to one end. -/
noncomputable def allOf {R : Type} (n : Nat) (F : Nat → Option R) : Option R :=
  open Classical in if h : ∃ r, 0 < n ∧ ∀ i, i < n → F i = some r then some h.choose else none

noncomputable def nextA {R : Type} (s : St) (o : Oper) (k : St → Option R) : Option R :=
  match o.op with
  | .next x false => match s.ev x with
    | .iter id => match s.m.h id with
      | some (.iter mp g _ ks vs) => match s.m.h mp with
        | some (.map g' _ _) => bif g == g' then (match ks with
          | [] => (s.put o.dst (.tup [.bool false])).bind k
          | _ :: _ => allOf ks.length fun i => (ks[i]?).bind fun kv => (vs[i]?).bind fun v =>
              ((s.mem (s.m.set id (some (.iter mp g [kv, v] (ks.eraseIdx i) (vs.eraseIdx i))))).put o.dst (.tup [.bool true, kv, v])).bind k) else none
        | _ => none
      | _ => none
    | _ => none
  | _ => none

def St.nx (s : St) (n : Nat) : St := { s with m := { s.m with nx := n } }

/-- One operation of a region; where the region draws its order (b: the first number of its own), what operation i makes has the number b + i. -/
def opI (P : Program) (pf : FuncId → Bool) (call : CallF) (md : Nat) (b : Option Nat) (i : Nat) (o : Oper) (s : St) : Option St :=
  match b with
  | none => opA P pf call md o s
  | some b => match classOf md o.op with
    | 2 | 6 => (opA P pf call md o (s.nx (b + i))).map fun s' => s'.nx s.m.nx
    | _ => opA P pf call md o s

/-- A region, in the order of the text. -/
noncomputable def opsA {R : Type} (P : Program) (pf : FuncId → Bool) (call : CallF) (md : Nat → Nat) (ops : Array Oper) (b : Option Nat) : Nat → List Oper → St → (St → Option R) → Option R
  | _, [], s, k => k s
  | i, o :: r, s, k => guardA ops o s
      (fun s => match classOf (md i) o.op with
        | 4 => nextA s o fun s => opsA P pf call md ops b (i + 1) r s k
        | _ => (opI P pf call (md i) b i o s).bind fun s => opsA P pf call md ops b (i + 1) r s k)
      (fun s => (s.put o.dst (.tup [])).bind fun s => opsA P pf call md ops b (i + 1) r s k)

/-- Of each operation: the ones that come before it, by edges, as bits. -/
def anc : List Oper → List Nat → List Nat
  | [], acc => acc
  | o :: r, acc => anc r (acc ++ [o.after.toList.foldl (fun s e => bif Region.binds .any e then s ||| 2 ^ e.on ||| acc.getD e.on 0 else s) 0])

/-- The class, a call of a function that is evaluated apart counting as one that only reads. -/
def classD (pf : FuncId → Bool) (md : Nat) (o : Oper) : Nat := match classOf md o.op with
  | 3 => match o.op with
    | .call c => match c.callee with
      | .value (.func g) => bif pf g && !(md == 2) then 1 else 3
      | _ => 3
    | _ => 3
  | c => c

/-- May two operations that no edge orders stand in either order? -/
def pairOk (ca cb : Nat) : Bool :=
  ca == 0 || cb == 0 || (ca == 1 && cb == 1) || (ca == 6 && !(cb == 3)) || (cb == 6 && !(ca == 3))

def freeA (pf : FuncId → Bool) (md : Nat → Nat) (opsa : Array Oper) (ops : List Oper) : Bool :=
  let an := anc ops []
  ops.zipIdx.all fun (oj, j) => oj.after.all (fun e => !(Region.binds .any e) || Nat.blt e.on j) && (ops.take j).zipIdx.all fun (oi, i) =>
    (an.getD j 0).testBit i || (pairOk (classD pf (md i) oi) (classD pf (md j) oj) && oi.apart opsa oj)

def drawOk (pf : FuncId → Bool) (md : Nat → Nat) (ops : Array Oper) : Bool :=
  freeA pf md ops ops.toList && ops.toList.zipIdx.all fun (o, i) => Nat.blt (classOf (md i) o.op) 4 && (!(classOf (md i) o.op == 2) || !(md i == 1)) || classOf (md i) o.op == 6

abbrev Res := AV × Mem

/-- What a frame hands back. -/
def resOf (P : Program) (s : St) : ResultVar → Option AV
  | .tmp t => some (s.get t)
  | .cell a t => (aggT P t).bind fun g => (sizeT P t).bind fun n => loadA g n s.m (s.get a)

def resL (P : Program) (s : St) : List ResultVar → Option (List AV)
  | [] => some []
  | r :: rs => (resOf P s r).bind fun v => (resL P s rs).bind fun vs => some (v :: vs)

def tupOf : List AV → AV
  | [v] => v
  | vs => .tup vs

def finA (P : Program) (pure : Bool) (fn : Func) (s : St) : Option Res :=
  (resL P s fn.results.toList).bind fun vs => bif pure then (deep s.m.h deepNo (tupOf vs)).bind fun v => some (v, Mem.empty) else some (tupOf vs, s.m)

def keepAt (A : FnAnn) (id : Nat) (s : St) : St :=
  match assoc A.keeps id with
  | some l => s.keep l
  | none => s

def preAt (A : FnAnn) (id : Nat) (s : St) : Option St :=
  match assoc A.pre id with
  | some l => frzL l s
  | none => some s

def frzAt (A : FnAnn) (id : Nat) (s : St) : Option St :=
  match assoc A.frz id with
  | some l => frzL l s
  | none => some s

/-- One step of a frame. -/
noncomputable def stepA (P : Program) (A : FnAnn) (pf : FuncId → Bool) (call : CallF) (fn : Func) (rec : List Item → St → Option Res) : List Item → St → Option Res
  | [], s => finA P A.pure fn s
  | .code .skip :: K, s => rec K s
  | .code (.label _) :: K, s => rec K s
  | .code (.seq a b) :: K, s => rec (.code a :: .code b :: K) s
  | .code (.cond (.tmp c) a b) :: K, s => match s.get c with
    | .bool b' => match b' with
      | true => bif Nat.blt c s.nt then rec (.code a :: K) (s.lit c true) else none
      | false => bif Nat.blt c s.nt then rec (.code b :: K) (s.lit c false) else none
    | _ => none
  | .code (.cond (.const (.bool b')) a b) :: K, s => bif b' then rec (.code a :: K) s else rec (.code b :: K) s
  | .code (.block id c) :: K, s => rec (.code c :: .inBlock id :: K) s
  | .inBlock _ :: K, s => rec K s
  | .code (.loop c) :: K, s => rec (.code c :: .inLoop c :: K) s
  | .inLoop c :: K, s => rec (.code c :: .inLoop c :: K) s
  | .code (.exit id) :: K, s => match exitTo id K with
    | some K' => rec K' s
    | none => none
  | .code .ret :: _, s => finA P A.pure fn s
  | .code (.region id ops draw) :: K, s =>
    bif draw && !(drawOk pf (modeOf A id) ops) then none else
      (preAt A id (keepAt A id s)).bind fun s => opsA P pf call (modeOf A id) ops (bif draw then some s.m.nx else none) 0 ops.toList (bif draw then s.nx (s.m.nx + ops.size) else s) fun s => (frzAt A id s).bind fun s => rec K s
  | _, _ => none

def initA (fn : Func) (args : List AV) (m : Mem) : St := ⟨args.zipIdx.map fun (v, i) => (i, v), fn.ntmps, m⟩

mutual
noncomputable def runA (P : Program) (A : Ann) : Nat → FuncId → List Item → St → Option Res
  | 0, _, _, _ => none
  | n + 1, f, K, s => (P.funcs[f]?).bind fun fn => stepA P (A f) (fun g => (A g).pure) (fun g args m => callN P A n g args m) fn (fun K s => runA P A n f K s) K s
noncomputable def callN (P : Program) (A : Ann) : Nat → FuncId → List AV → Mem → Option Res
  | 0, _, _, _ => none
  | n + 1, g, args, m => (P.funcs[g]?).bind fun fn => fn.body.bind fun b =>
      bif Nat.ble args.length fn.ntmps then
        (bif (A g).pure then (bif closedL args then (runA P A n g [.code b] (initA fn args Mem.empty)).bind fun r => some (r.1, m) else none)
         else runA P A n g [.code b] (initA fn args m))
      else none
end
end Go.AM
