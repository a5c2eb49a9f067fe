/-
  THE ABSTRACT MACHINE, STEP BY STEP AS EQUATIONS (2): a region as a list of small operations whose types are already looked up, and the equations by which 'simp' runs them. Conditions: none.
-/
import Derived.Test.YtdkmepjedjclkaaAmSym
namespace Go.AM

/-! ### The operations, their types looked up -/
def pickA (c a b : AV) : Option AV := match c with
  | .bool b' => some (bif b' then a else b)
  | _ => none
def nilA (x : AV) : Option AV := match x with
  | .ptr id off top => some (.ptr id off top)
  | .fptr cs => some (.fptr cs)
  | .sptr cs => some (.sptr cs)
  | .fn f a b => some (.fn f a b)
  | _ => none
def fieldV (g : Bool) (n off : Nat) (x : AV) : Option AV := match x with
  | .agg cs => partA g n off cs
  | _ => none
def idxStr (x i : AV) : Option AV := match x, i with
  | .str b, .int _ j => bif inR j b.length then (b[j.toNat]?).map fun c => .int .u8 c.toNat else none
  | _, _ => none
def idxAgg (l n : Nat) (g : Bool) (x i : AV) : Option AV := match x, i with
  | .agg cs, .int _ j => bif inR j l then partA g n (j.toNat * n) cs else none
  | _, _ => none
def extA (x : AV) (i : Nat) : Option AV := match x with
  | .tup vs => vs[i]?
  | _ => none
def lenSl (x : AV) : Option AV := match x with
  | .str _ => none
  | v => (lenA v).map fun n => .int .i64 (n : Nat)
def lenStr (x : AV) : Option AV := match x with
  | .str b => some (.int .i64 (b.length : Nat))
  | _ => none
def convInt (k : IntKind) (x : AV) : Option AV := match x with
  | .int _ n => some (.int k (k.wrap n))
  | _ => none
def convStr (m : Mem) (x : AV) : Option AV := match x with
  | .nils => some (.str [])
  | .str _ => none
  | x => (srcA m 1 x).bind fun (_, cs) => (bytesOf cs).map .str
def bslA (sz len : Nat) (z : List AV) (parts : List (Nat × AV)) : Option (Nat × List AV) :=
  bif Nat.ble (len * sz) 16777216 && z.length == sz then (fillA (fun i => some (i * sz, sz)) (repl len z) parts).bind fun cs => bif oneL cs then some (sz, cs) else none else none
def bslF (len : Nat) (x : Option (Nat × List AV)) : Option AV := x.bind fun (_, cs) => bif closedL cs then some (.fsl true len cs) else none
def bslM (m : Mem) (len : Nat) (x : Option (Nat × List AV)) : Option (AV × Mem) := x.bind fun (es, cs) => some (.sl m.nx es 0 len cs.length, m.new (.cells cs))
def plc (l : List (Nat × Nat)) (i : Nat) : Option (Nat × Nat) := l[i]?
def plcA (n : Nat) (i : Nat) : Option (Nat × Nat) := some (i * n, n)
def bldA (place : Nat → Option (Nat × Nat)) (z : List AV) (parts : List (Nat × AV)) : Option AV := (fillA place z parts).map .agg
def stA (g : Bool) (n : Nat) (m : Mem) (a v : AV) : Option (AV × Mem) := (storeA g n m a v).map fun m => (.tup [], m)
def lookP (P : Program) (m : Mem) (kt : TypeId) (z : AV) (x k : AV) (ok : Bool) : Option AV :=
  bif keyT P kt k then (lookA P m kt x k).bind fun r => match r with
    | some v => some (bif ok then .tup [v, .bool true] else v)
    | none => some (bif ok then .tup [z, .bool false] else z) else none
def updP (P : Program) (m : Mem) (kt : TypeId) (x k v : AV) : Option Mem :=
  bif keyT P kt k then (match x with
    | .map id => match m.h id with
      | some (.map g ks vs) => (setK P kt k v ks vs).bind fun (a, b) => some (m.set id (some (.map (g + 1) a b)))
      | _ => none
    | _ => none) else none
def updM (P : Program) (m : Mem) (kt : TypeId) (x k v : AV) : Option (AV × Mem) := (updP P m kt x k v).map fun m => (.tup [], m)
def entP (P : Program) (m : Mem) (kt : TypeId) (z : AV) (x k : AV) : Option (AV × Mem) :=
  bif keyT P kt k then (match x with
    | .map id => match m.h id with
      | some (.map g ks vs) => (findI P kt k ks 0).bind fun r => match r with
        | some i => (vs[i]?).bind fun v => some (.tup [v, .int .i64 (i : Nat)], m.set id (some (.map (g + 1) (ks.set i k) vs)))
        | none => some (.tup [z, .int .i64 (ks.length : Nat)], m.set id (some (.map (g + 1) (ks ++ [k]) (vs ++ [z]))))
      | _ => none
    | _ => none) else none
def entS (m : Mem) (x st v : AV) : Option (AV × Mem) := (entryStA m x st v).map fun m => (.tup [], m)

def appV (size bytes : Nat) (x y : AV) : Option AV := bif x.closed && y.closed then appF size bytes x y else none

/-! ### A region -/
inductive MB where
  | v (e : St → Option AV)
  | w (fz : Bool) (off : Option Nat) (e : St → Option (AV × Mem))
  | c (md : Nat) (f : St → AV) (args : St → List AV)

structure Mop where
  d : Option Nat
  g : Option (Nat × Bool)
  b : MB

section
variable (P : Program) (A : Ann) (f : FuncId)

/-- One small operation. -/
noncomputable def mb (b : Option Nat) (d : Option Nat) : MB → St → Option St
  | .v e, s => (e s).bind fun v => s.put d v
  | .w fz off e, s => match b, off with
    | none, _ => (e s).bind fun r => (bif fz then frzV r.1 r.2 else some r).bind fun r => (s.mem r.2).put d r.1
    | some b, none => (e s).bind fun r => (bif fz then frzV r.1 r.2 else some r).bind fun r => (s.mem r.2).put d r.1
    | some b, some i => ((e (s.nx (b + i))).bind fun r => (bif fz then frzV r.1 r.2 else some r).bind fun r => ((s.nx (b + i)).mem r.2).put d r.1).map fun s' => s'.nx s.m.nx
  | .c md g args, s => (callA (fun g => (A g).pure) (denC P A) md s.m (g s) (args s)).bind fun r => (s.mem r.2).put d r.1

/-- A test ahead of an operation. -/
def mg {R : Type} (d : Nat) (want : Bool) (s : St) (kt kf : St → Option R) : Option R :=
  match s.get d with
  | .bool b => match b with
    | true => bif Nat.blt d s.nt then (bif want then kt (s.lit d true) else kf (s.lit d true)) else none
    | false => bif Nat.blt d s.nt then (bif want then kf (s.lit d false) else kt (s.lit d false)) else none
  | .tup [] => kf s
  | _ => none

/-- The operations of a region; then what is laid down, and on. -/
noncomputable def mrun (b : Option Nat) (fz : List Nat) (K : List Item) : List Mop → St → Option Res
  | [], s => (frzL fz s).bind fun s => den P A f K s
  | o :: r, s => match o.g with
    | none => (mb P A b o.d o.b s).bind fun s => mrun b fz K r s
    | some (d, want) => mg d want s (fun s => (mb P A b o.d o.b s).bind fun s => mrun b fz K r s) (fun s => (s.put o.d (.tup [])).bind fun s => mrun b fz K r s)

/-- The head of a region: what is kept, what is laid down ahead of it. -/
noncomputable def mreg (keep : Option (List Nat)) (pre : List Nat) (draw : Option Nat) (fz : List Nat) (l : List Mop) (K : List Item) (s : St) : Option Res :=
  (frzL pre (match keep with | some l => s.keep l | none => s)).bind fun s => match draw with
    | none => mrun P A f none fz K l s
    | some n => mrun P A f (some s.m.nx) fz K l (s.nx (s.m.nx + n))
end

section
variable {P : Program} {A : Ann} {f : FuncId} {fn : Func}

/-- What a region is, to be held against its small operations by the kernel. -/
noncomputable def regA (P : Program) (A : Ann) (f : FuncId) (c : Code) (K : List Item) (s : St) : Option Res :=
  match c with
  | .region id ops draw => bif draw && !(drawOk (fun g => (A g).pure) (modeOf (A f) id) ops) then none else
      (preAt (A f) id (keepAt (A f) id s)).bind fun s => opsA P (fun g => (A g).pure) (denC P A) (modeOf (A f) id) ops (bif draw then some s.m.nx else none) 0 ops.toList (bif draw then s.nx (s.m.nx + ops.size) else s) fun s => (frzAt (A f) id s).bind fun s => den P A f K s
  | _ => den P A f (.code c :: K) s

theorem den_reg (hf : P.funcs[f]? = some fn) (c : Code) (K : List Item) (s : St) : den P A f (.code c :: K) s = regA P A f c K s := by
  cases c <;> try rfl
  rw [den_eq, hf]; rfl

/-- The same, where the region draws its order and this was asked before. -/
noncomputable def regD (P : Program) (A : Ann) (f : FuncId) (c : Code) (K : List Item) (s : St) : Option Res :=
  match c with
  | .region id ops draw =>
      (preAt (A f) id (keepAt (A f) id s)).bind fun s => opsA P (fun g => (A g).pure) (denC P A) (modeOf (A f) id) ops (bif draw then some s.m.nx else none) 0 ops.toList (bif draw then s.nx (s.m.nx + ops.size) else s) fun s => (frzAt (A f) id s).bind fun s => den P A f K s
  | _ => den P A f (.code c :: K) s

def opsOf : Code → Array Oper
  | .region _ ops _ => ops
  | _ => #[]
def idOf : Code → Nat
  | .region id _ _ => id
  | _ => 0

theorem den_regD (hf : P.funcs[f]? = some fn) {c : Code} (h : drawOk (fun g => (A g).pure) (modeOf (A f) (idOf c)) (opsOf c) = true) (K : List Item) (s : St) : den P A f (.code c :: K) s = regD P A f c K s := by
  rw [den_reg hf]
  cases c <;> try rfl
  rename_i id ops draw
  simp only [idOf, opsOf] at h
  simp only [regA, regD, h, Bool.not_true, Bool.and_false, cond_false]

/-- 'drawOk', where the list of what comes before each is told. -/
def drawB (pf : FuncId → Bool) (md : Nat → Nat) (opsa : Array Oper) (ops : List Oper) (an : List Nat) : Bool :=
  (ops.zipIdx.all fun (oj, j) => oj.after.all (fun e => !(Region.binds .any e) || Nat.blt e.on j) && (ops.take j).zipIdx.all fun (oi, i) =>
    (an.getD j 0).testBit i || (pairOk (classD pf (md i) oi) (classD pf (md j) oj) && oi.apart opsa oj)) &&
  ops.zipIdx.all fun (o, i) => Nat.blt (classOf (md i) o.op) 4 && (!(classOf (md i) o.op == 2) || !(md i == 1)) || classOf (md i) o.op == 6

theorem drawOk_of {pf : FuncId → Bool} {md : Nat → Nat} {ops : Array Oper} {an : List Nat} (h : anc ops.toList [] = an) (h2 : drawB pf md ops ops.toList an = true) : drawOk pf md ops = true := by
  subst h; exact h2

/-- A test of a statement. -/
noncomputable def ifV (P : Program) (A : Ann) (f : FuncId) (c : Nat) (a b : Code) (K : List Item) (s : St) (v : AV) : Option Res :=
  match v with
  | .bool b' => match b' with
    | true => bif Nat.blt c s.nt then den P A f (.code a :: K) (s.lit c true) else none
    | false => bif Nat.blt c s.nt then den P A f (.code b :: K) (s.lit c false) else none
  | _ => none

def condOf : Code → Nat
  | .cond (.tmp c) _ _ => c
  | _ => 0

theorem den_if (hf : P.funcs[f]? = some fn) {c : Code} {n : Nat} {a b : Code} (h : c = .cond (.tmp n) a b) (K : List Item) (s : St) : den P A f (.code c :: K) s = ifV P A f n a b K s (s.get n) := by
  subst h; rw [den_eq, hf]; rfl

theorem den_blk (hf : P.funcs[f]? = some fn) {c b : Code} {id : Nat} {l : List Code} (h : c = .block id b) (hl : flat b = l) (K : List Item) (s : St) : den P A f (.code c :: K) s = den P A f (codes l (.inBlock id :: K)) s := by
  subst h; rw [den_eq, hf]; exact den_flat hf hl _ _

theorem den_inBlock (hf : P.funcs[f]? = some fn) (id : Nat) (K : List Item) (s : St) : den P A f (.inBlock id :: K) s = den P A f K s := by
  rw [den_eq, hf]; rfl
theorem den_exit (hf : P.funcs[f]? = some fn) {id : Nat} {K K' : List Item} (h : exitTo id K = some K') (s : St) : den P A f (.code (.exit id) :: K) s = den P A f K' s := by
  rw [den_eq, hf]; simp [stepA, h]
theorem den_ret (hf : P.funcs[f]? = some fn) (K : List Item) (s : St) : den P A f (.code .ret :: K) s = finA P (A f).pure fn s := by
  rw [den_eq, hf]; rfl
theorem den_nil (hf : P.funcs[f]? = some fn) (s : St) : den P A f [] s = finA P (A f).pure fn s := by
  rw [den_eq, hf]; rfl

/-- Where an exit leads. -/
noncomputable def exitV (P : Program) (A : Ann) (f : FuncId) (x : Option (List Item)) (s : St) : Option Res := match x with
  | some K => den P A f K s
  | none => none

theorem den_exitV (hf : P.funcs[f]? = some fn) (id : Nat) (K : List Item) (s : St) : den P A f (.code (.exit id) :: K) s = exitV P A f (exitTo id K) s := by
  rw [den_eq, hf]; rfl

/-- What is handed back. -/
def resM : List (St → Option AV) → St → Option (List AV)
  | [], _ => some []
  | r :: rs, s => (r s).bind fun v => (resM rs s).bind fun vs => some (v :: vs)
def finM (pure : Bool) (l : List (St → Option AV)) (s : St) : Option Res :=
  (resM l s).bind fun vs => bif pure then (deep s.m.h deepNo (tupOf vs)).bind fun v => some (v, Mem.empty) else some (tupOf vs, s.m)

/-! ### A loop is a function of what is kept at its head -/
/-- The first region of a code. -/
def headReg : Code → Option Nat
  | .region id _ _ => some id
  | .seq a _ => headReg a
  | .block _ b => headReg b
  | .loop b => headReg b
  | _ => none

theorem keep_keep (s : St) (l : List Nat) : (s.keep l).keep l = s.keep l := by
  have hg : ∀ (l : List Nat) i, i ∈ l → AM.get (l.map fun i => (i, s.get i)) i = s.get i := by
    intro l
    induction l with
    | nil => intro i hi; simp at hi
    | cons j l ih =>
      intro i hi
      simp only [List.map, AM.get]
      by_cases h : i = j
      · subst h; simp
      · have : (i == j) = false := by simpa using h
        rw [this, cond_false]
        exact ih i (by simpa [h] using hi)
  simp only [St.keep, St.mk.injEq, and_true]
  refine List.map_congr_left fun i hi => ?_
  simp only [Prod.mk.injEq, true_and]
  exact hg l i hi

theorem den_keep (hf : P.funcs[f]? = some fn) {id : Nat} {l : List Nat} (hk : assoc (A f).keeps id = some l) : ∀ (c : Code), headReg c = some id → ∀ (K : List Item) (s : St), den P A f (.code c :: K) s = den P A f (.code c :: K) (s.keep l) := by
  intro c
  induction c with
  | region i ops draw =>
    intro h K s
    simp only [headReg, Option.some.injEq] at h
    subst h
    rw [den_reg hf, den_reg hf]
    have : keepAt (A f) i s = keepAt (A f) i (s.keep l) := by simp only [keepAt, hk, keep_keep]
    simp only [regA, this]
  | seq a b iha _ => intro h K s; rw [den_seq hf, den_seq hf]; exact iha h _ s
  | block i b ih => intro h K s; rw [den_eq, den_eq, hf]; exact ih h _ s
  | loop b ih => intro h K s; rw [den_eq, den_eq, hf]; exact ih h _ s
  | _ => intro h; simp [headReg] at h

theorem den_loop_enter (hf : P.funcs[f]? = some fn) {c b : Code} {i id : Nat} {l : List Nat} (hc : c = .block i (.loop b)) (hh : headReg b = some id) (hk : assoc (A f).keeps id = some l) (K : List Item) (s : St) :
    den P A f (.code c :: K) s = den P A f (.code b :: .inLoop b :: .inBlock i :: K) (s.keep l) := by
  subst hc
  rw [den_keep hf hk _ (by exact hh) K s, den_eq, hf]
  show den P A f (.code (.loop b) :: _) _ = _
  rw [den_eq, hf]; rfl

theorem den_loop_again (hf : P.funcs[f]? = some fn) {b : Code} {id : Nat} {l : List Nat} (hh : headReg b = some id) (hk : assoc (A f).keeps id = some l) (K : List Item) (s : St) :
    den P A f (.inLoop b :: K) s = den P A f (.code b :: .inLoop b :: K) (s.keep l) := by
  rw [← den_keep hf hk _ hh, den_eq, hf]; rfl

theorem denC_pure (hf : P.funcs[f]? = some fn) {b : Code} (hb : fn.body = some b) {args : List AV} (hn : Nat.ble args.length fn.ntmps = true) (hp : (A f).pure = true) (hc : closedL args = true) (m : Mem) :
    denC P A f args m = (den P A f [.code b] (initA fn args Mem.empty)).bind fun r => some (r.1, m) := by
  rw [denC_eq, hf]; simp [hb, hn, hp, hc]

theorem denC_impure (hf : P.funcs[f]? = some fn) {b : Code} (hb : fn.body = some b) {args : List AV} (hn : Nat.ble args.length fn.ntmps = true) (hp : (A f).pure = false) (m : Mem) :
    denC P A f args m = den P A f [.code b] (initA fn args m) := by
  rw [denC_eq, hf]; simp [hb, hn, hp]
end
end Go.AM
