/-
  THE ABSTRACT MACHINE: the equations by which 'simp' runs small operations at states whose slots are known. Conditions: none.
-/
import Derived.Test.YthnpflkpjimkfaaKAmE
set_option linter.all false
namespace Go.AM
@[simp] theorem St.get_mk (t : List (Nat × AV)) (n : Nat) (m : Mem) (i : Nat) : St.get ⟨t, n, m⟩ i = AM.get t i := rfl
@[simp] theorem get_hit (v : AV) (r : List (Nat × AV)) (i : Nat) : AM.get ((i, v) :: r) i = v := by simp [AM.get]
@[simp] theorem get_miss (j : Nat) (v : AV) (r : List (Nat × AV)) (i : Nat) (h : (i == j) = false) : AM.get ((j, v) :: r) i = AM.get r i := by simp only [AM.get, h, cond_false]
@[simp] theorem St.put_mk (t : List (Nat × AV)) (n : Nat) (m : Mem) (d : Nat) (v : AV) : St.put ⟨t, n, m⟩ (some d) v = bif Nat.blt d n then some ⟨(d, v) :: t, n, m⟩ else none := rfl
@[simp] theorem St.put_none (s : St) (v : AV) : St.put s none v = some s := rfl
@[simp] theorem St.keep_mk (t : List (Nat × AV)) (n : Nat) (m : Mem) (l : List Nat) : St.keep ⟨t, n, m⟩ l = ⟨l.map fun i => (i, AM.get t i), n, m⟩ := rfl
@[simp] theorem St.mem_mk (t : List (Nat × AV)) (n : Nat) (m m' : Mem) : St.mem ⟨t, n, m⟩ m' = ⟨t, n, m'⟩ := rfl
@[simp] theorem St.nx_mk (t : List (Nat × AV)) (n : Nat) (m : Mem) (k : Nat) : St.nx ⟨t, n, m⟩ k = ⟨t, n, ⟨m.h, k⟩⟩ := rfl
@[simp] theorem St.lit_mk (t : List (Nat × AV)) (n : Nat) (m : Mem) (d : Nat) (b : Bool) : St.lit ⟨t, n, m⟩ d b = ⟨(d, .bool b) :: t, n, m⟩ := rfl
@[simp] theorem ble_dec (a b : Nat) : Nat.ble a b = decide (a ≤ b) := by
  cases h : Nat.ble a b
  · rw [eq_comm, decide_eq_false_iff_not]; intro k; rw [← Nat.ble_eq] at k; rw [h] at k; cases k
  · rw [eq_comm, decide_eq_true_eq]; rwa [Nat.ble_eq] at h
@[simp] theorem blt_dec (a b : Nat) : Nat.blt a b = decide (a < b) := ble_dec (a + 1) b
@[simp] theorem Mem.new_mk (m : Mem) (o : AObj) : m.new o = ⟨upd m.h m.nx (some o), m.nx + 1⟩ := rfl
@[simp] theorem Mem.set_mk (m : Mem) (i : Nat) (o : Option AObj) : m.set i o = ⟨upd m.h i o, m.nx⟩ := rfl
@[simp] theorem Mem.empty_nx : Mem.empty.nx = 0 := rfl
@[simp] theorem Mem.empty_h (i : Nat) : Mem.empty.h i = none := rfl
@[simp] theorem upd_apply (h : Nat → Option AObj) (i : Nat) (o : Option AObj) (j : Nat) : upd h i o j = bif j == i then o else h j := rfl
@[simp] theorem upd_upd (h : Nat → Option AObj) (i : Nat) (o o' : Option AObj) : upd (upd h i o) i o' = upd h i o' := by
  funext j; simp only [upd_apply]; cases (j == i) <;> rfl
theorem upd_comm (h : Nat → Option AObj) {i j : Nat} (hij : i ≠ j) (o o' : Option AObj) : upd (upd h i o) j o' = upd (upd h j o') i o := by
  funext k; simp only [upd_apply]
  by_cases h1 : k = i
  · subst h1; have : (k == j) = false := by simpa using hij
    simp [this]
  · have : (k == i) = false := by simpa using h1
    simp [this]
@[simp] theorem upd_sort (h : Nat → Option AObj) {i j : Nat} (hij : j < i) (o o' : Option AObj) : upd (upd h i o) j o' = upd (upd h j o') i o :=
  upd_comm h (by omega) o o'
section
variable {P : Program} {A : Ann} {f : FuncId}
noncomputable def contZ (P : Program) (A : Ann) (f : FuncId) (K : List Item) : Option St → Option Res
  | some s => den P A f K s
  | none => none
noncomputable def contV (P : Program) (A : Ann) (f : FuncId) (b : Option Nat) (fz : List Nat) (K : List Item) (d : Option Nat) (r : List Mop) (s : St) : Option AV → Option Res
  | some v => (s.put d v).bind fun s => mrun P A f b fz K r s
  | none => none
noncomputable def contW (P : Program) (A : Ann) (f : FuncId) (b : Option Nat) (fz : List Nat) (K : List Item) (d : Option Nat) (r : List Mop) (s : St) : Option (AV × Mem) → Option Res
  | some x => ((s.mem x.2).put d x.1).bind fun s => mrun P A f b fz K r s
  | none => none
noncomputable def contX (P : Program) (A : Ann) (f : FuncId) (b : Option Nat) (fz : List Nat) (K : List Item) (d : Option Nat) (r : List Mop) (s : St) : Option (AV × Mem) → Option Res
  | some x => ((s.mem ⟨x.2.h, s.m.nx⟩).put d x.1).bind fun s => mrun P A f b fz K r s
  | none => none
def frzW (z : Bool) : Option (AV × Mem) → Option (AV × Mem)
  | some x => bif z then frzV x.1 x.2 else some x
  | none => none
@[simp] theorem frzW_none (z : Bool) : frzW z none = none := rfl
@[simp] theorem frzW_false (x : Option (AV × Mem)) : frzW false x = x := by cases x <;> rfl
@[simp] theorem frzW_true (x : AV × Mem) : frzW true (some x) = frzV x.1 x.2 := rfl
@[simp] theorem contZ_some (K : List Item) (s : St) : contZ P A f K (some s) = den P A f K s := rfl
@[simp] theorem contV_none (b : Option Nat) (fz : List Nat) (K : List Item) (d : Option Nat) (r : List Mop) (s : St) : contV P A f b fz K d r s none = none := rfl
@[simp] theorem contW_none (b : Option Nat) (fz : List Nat) (K : List Item) (d : Option Nat) (r : List Mop) (s : St) : contW P A f b fz K d r s none = none := rfl
@[simp] theorem contX_none (b : Option Nat) (fz : List Nat) (K : List Item) (d : Option Nat) (r : List Mop) (s : St) : contX P A f b fz K d r s none = none := rfl
@[simp] theorem contV_put (b : Option Nat) (fz : List Nat) (K : List Item) (d : Nat) (r : List Mop) (t : List (Nat × AV)) (n : Nat) (m : Mem) (v : AV) (h : Nat.blt d n = true) :
    contV P A f b fz K (some d) r ⟨t, n, m⟩ (some v) = mrun P A f b fz K r ⟨(d, v) :: t, n, m⟩ := by simp only [contV, St.put_mk, h, cond_true, Option.bind_some]
@[simp] theorem contV_non (b : Option Nat) (fz : List Nat) (K : List Item) (r : List Mop) (s : St) (v : AV) : contV P A f b fz K none r s (some v) = mrun P A f b fz K r s := rfl
@[simp] theorem contW_put (b : Option Nat) (fz : List Nat) (K : List Item) (d : Nat) (r : List Mop) (t : List (Nat × AV)) (n : Nat) (m m' : Mem) (v : AV) (h : Nat.blt d n = true) :
    contW P A f b fz K (some d) r ⟨t, n, m⟩ (some (v, m')) = mrun P A f b fz K r ⟨(d, v) :: t, n, m'⟩ := by simp only [contW, St.mem_mk, St.put_mk, h, cond_true, Option.bind_some]
@[simp] theorem contW_non (b : Option Nat) (fz : List Nat) (K : List Item) (r : List Mop) (t : List (Nat × AV)) (n : Nat) (m m' : Mem) (v : AV) :
    contW P A f b fz K none r ⟨t, n, m⟩ (some (v, m')) = mrun P A f b fz K r ⟨t, n, m'⟩ := rfl
@[simp] theorem contX_put (b : Option Nat) (fz : List Nat) (K : List Item) (d : Nat) (r : List Mop) (t : List (Nat × AV)) (n : Nat) (m m' : Mem) (v : AV) (h : Nat.blt d n = true) :
    contX P A f b fz K (some d) r ⟨t, n, m⟩ (some (v, m')) = mrun P A f b fz K r ⟨(d, v) :: t, n, ⟨m'.h, m.nx⟩⟩ := by simp only [contX, St.mem_mk, St.put_mk, h, cond_true, Option.bind_some]
@[simp] theorem contX_non (b : Option Nat) (fz : List Nat) (K : List Item) (r : List Mop) (t : List (Nat × AV)) (n : Nat) (m m' : Mem) (v : AV) :
    contX P A f b fz K none r ⟨t, n, m⟩ (some (v, m')) = mrun P A f b fz K r ⟨t, n, ⟨m'.h, m.nx⟩⟩ := rfl
@[simp] theorem frzL_nil (s : St) : frzL [] s = some s := rfl
@[simp] theorem frzL_cons (i : Nat) (r : List Nat) (s : St) : frzL (i :: r) s = (frz1 s i).bind (frzL r) := rfl
@[simp] theorem mrun_nil (b : Option Nat) (fz : List Nat) (K : List Item) (s : St) : mrun P A f b fz K [] s = contZ P A f K (frzL fz s) := by
  simp only [mrun]; cases frzL fz s <;> rfl
@[simp] theorem mrun_v (b : Option Nat) (fz : List Nat) (K : List Item) (d : Option Nat) (e : St → Option AV) (r : List Mop) (s : St) :
    mrun P A f b fz K (⟨d, none, .v e⟩ :: r) s = contV P A f b fz K d r s (e s) := by
  simp only [mrun, mOne, mb]; cases e s <;> rfl
@[simp] theorem mrun_w0 (fz : List Nat) (K : List Item) (d : Option Nat) (z : Bool) (o : Option Nat) (e : St → Option (AV × Mem)) (r : List Mop) (s : St) :
    mrun P A f none fz K (⟨d, none, .w z o e⟩ :: r) s = contW P A f none fz K d r s (frzW z (e s)) := by
  simp only [mrun, mOne, mb]
  cases e s with
  | none => rfl
  | some x => cases h : (bif z then frzV x.1 x.2 else some x) <;> simp only [Option.bind_some, frzW, h] <;> rfl
@[simp] theorem mrun_w1 (b i : Nat) (fz : List Nat) (K : List Item) (d : Option Nat) (z : Bool) (e : St → Option (AV × Mem)) (r : List Mop) (t : List (Nat × AV)) (n : Nat) (m : Mem) :
    mrun P A f (some b) fz K (⟨d, none, .w z (some i) e⟩ :: r) ⟨t, n, m⟩ = contX P A f (some b) fz K d r ⟨t, n, m⟩ (frzW z (e ⟨t, n, ⟨m.h, b + i⟩⟩)) := by
  simp only [mrun, mOne, mb, St.nx_mk, St.mem_mk]
  cases e ⟨t, n, ⟨m.h, b + i⟩⟩ with
  | none => rfl
  | some x =>
    simp only [Option.bind_some, frzW]
    cases (bif z then frzV x.1 x.2 else some x) with
    | none => rfl
    | some x =>
      simp only [Option.bind_some, contX]
      cases d with
      | none => rfl
      | some d => simp only [St.put_mk, St.mem_mk]; cases Nat.blt d n <;> rfl
@[simp] theorem mrun_c (b : Option Nat) (fz : List Nat) (K : List Item) (d : Option Nat) (md : Nat) (g : St → AV) (a : St → List AV) (r : List Mop) (s : St) :
    mrun P A f b fz K (⟨d, none, .c md g a⟩ :: r) s = contW P A f b fz K d r s (callA (fun g => (A g).pure) (denC P A) md s.m (g s) (a s)) := by
  simp only [mrun, mOne, mb]; cases (callA (fun g => (A g).pure) (denC P A) md s.m (g s) (a s)) <;> rfl
@[simp] theorem mrun_r (b : Option Nat) (fz : List Nat) (K : List Item) (d : Option Nat) (x : St → AV) (r : List Mop) (s : St) :
    mrun P A f b fz K (⟨d, none, .r x⟩ :: r) s = contW P A f b fz K d r s (rangeA s.m (x s)) := by
  simp only [mrun, mOne]; cases rangeA s.m (x s) <;> rfl
@[simp] theorem mrun_n (b : Option Nat) (fz : List Nat) (K : List Item) (d : Option Nat) (x : St → AV) (r : List Mop) (s : St) :
    mrun P A f b fz K (⟨d, none, .n x⟩ :: r) s = nextM s d (x s) fun s => mrun P A f b fz K r s := by
  simp only [mrun, mOne]
noncomputable def mgV (P : Program) (A : Ann) (f : FuncId) (b : Option Nat) (fz : List Nat) (K : List Item) (c : Nat) (want : Bool) (d : Option Nat) (o : MB) (r : List Mop) (s : St) (v : AV) : Option Res :=
  match v with
  | .bool x => bif Nat.blt c s.nt then (bif x == want then mrun P A f b fz K (⟨d, none, o⟩ :: r) (s.lit c x) else ((s.lit c x).put d (.tup [])).bind fun s => mrun P A f b fz K r s) else none
  | .tup [] => (s.put d (.tup [])).bind fun s => mrun P A f b fz K r s
  | _ => none
@[simp] theorem mrun_g (b : Option Nat) (fz : List Nat) (K : List Item) (d : Option Nat) (c : Nat) (want : Bool) (o : MB) (r : List Mop) (s : St) :
    mrun P A f b fz K (⟨d, some (c, want), o⟩ :: r) s = mgV P A f b fz K c want d o r s (s.get c) := by
  simp only [mrun, mgV, mg]
  generalize s.get c = v
  cases v <;> try rfl
  · rename_i x
    cases x <;> cases want <;> rfl
  · rename_i l
    cases l <;> rfl
section
variable (b : Option Nat) (fz : List Nat) (K : List Item) (c : Nat) (d : Option Nat) (o : MB) (r : List Mop) (t : List (Nat × AV)) (n : Nat) (m : Mem)
@[simp] theorem mgV_tt (h : Nat.blt c n = true) : mgV P A f b fz K c true d o r ⟨t, n, m⟩ (.bool true) = mrun P A f b fz K (⟨d, none, o⟩ :: r) ⟨(c, .bool true) :: t, n, m⟩ := by simp only [mgV, h]; rfl
@[simp] theorem mgV_ff (h : Nat.blt c n = true) : mgV P A f b fz K c false d o r ⟨t, n, m⟩ (.bool false) = mrun P A f b fz K (⟨d, none, o⟩ :: r) ⟨(c, .bool false) :: t, n, m⟩ := by simp only [mgV, h]; rfl
@[simp] theorem mgV_tf (h : Nat.blt c n = true) : mgV P A f b fz K c true d o r ⟨t, n, m⟩ (.bool false) = contV P A f b fz K d r ⟨(c, .bool false) :: t, n, m⟩ (some (.tup [])) := by simp only [mgV, h]; rfl
@[simp] theorem mgV_ft (h : Nat.blt c n = true) : mgV P A f b fz K c false d o r ⟨t, n, m⟩ (.bool true) = contV P A f b fz K d r ⟨(c, .bool true) :: t, n, m⟩ (some (.tup [])) := by simp only [mgV, h]; rfl
@[simp] theorem mgV_tup (want : Bool) (s : St) : mgV P A f b fz K c want d o r s (.tup []) = contV P A f b fz K d r s (some (.tup [])) := rfl
end
@[simp] theorem ifV_true (c : Nat) (a b : Code) (K : List Item) (t : List (Nat × AV)) (n : Nat) (m : Mem) (h : Nat.blt c n = true) :
    ifV P A f c a b K ⟨t, n, m⟩ (.bool true) = den P A f (.code a :: K) ⟨(c, .bool true) :: t, n, m⟩ := by simp only [ifV, h]; rfl
@[simp] theorem ifV_false (c : Nat) (a b : Code) (K : List Item) (t : List (Nat × AV)) (n : Nat) (m : Mem) (h : Nat.blt c n = true) :
    ifV P A f c a b K ⟨t, n, m⟩ (.bool false) = den P A f (.code b :: K) ⟨(c, .bool false) :: t, n, m⟩ := by simp only [ifV, h]; rfl
@[simp] theorem exitV_some (K : List Item) (s : St) : exitV P A f (some K) s = den P A f K s := rfl
noncomputable def contH (P : Program) (A : Ann) (f : FuncId) (draw : Option Nat) (fz : List Nat) (l : List Mop) (K : List Item) : Option St → Option Res
  | some s => match draw with
    | none => mrun P A f none fz K l s
    | some n => mrun P A f (some s.m.nx) fz K l (s.nx (s.m.nx + n))
  | none => none
@[simp] theorem mreg_none (p : List Nat) (dr : Option Nat) (fz : List Nat) (l : List Mop) (K : List Item) (s : St) : mreg P A f none p dr fz l K s = contH P A f dr fz l K (frzL p s) := by
  simp only [mreg]; cases frzL p s <;> rfl
@[simp] theorem mreg_some (k : List Nat) (p : List Nat) (dr : Option Nat) (fz : List Nat) (l : List Mop) (K : List Item) (s : St) : mreg P A f (some k) p dr fz l K s = contH P A f dr fz l K (frzL p (s.keep k)) := by
  simp only [mreg]; cases frzL p (s.keep k) <;> rfl
@[simp] theorem contH_none (fz : List Nat) (l : List Mop) (K : List Item) (s : St) : contH P A f none fz l K (some s) = mrun P A f none fz K l s := rfl
@[simp] theorem contH_some (n : Nat) (fz : List Nat) (l : List Mop) (K : List Item) (t : List (Nat × AV)) (nt : Nat) (m : Mem) : contH P A f (some n) fz l K (some ⟨t, nt, m⟩) = mrun P A f (some m.nx) fz K l ⟨t, nt, ⟨m.h, m.nx + n⟩⟩ := rfl
def callR (m : Mem) : Option Res → Option Res
  | some r => some (r.1, m)
  | none => none
@[simp] theorem callR_some (m m' : Mem) (v : AV) : callR m (some (v, m')) = some (v, m) := rfl
theorem callA_pure (md : Nat) (m : Mem) (g : FuncId) (a c as : List AV) (hp : (A g).pure = true) (hm : (md == 2) = false) (hc : closedL (a ++ as ++ c) = true) :
    callA (fun g => (A g).pure) (denC P A) md m (.fn g a c) as = callR m (denC P A g (a ++ as ++ c) Mem.empty) := by
  simp only [callA, hp, hm, hc, cond_true, cond_false]; cases denC P A g (a ++ as ++ c) Mem.empty <;> rfl
theorem callA_frz (m : Mem) (g : FuncId) (a c as : List AV) (hp : (A g).pure = true) :
    callA (fun g => (A g).pure) (denC P A) 2 m (.fn g a c) as = (frzArgs (a ++ as ++ c) m).bind fun p => bif closedL p.1 then callR p.2 (denC P A g p.1 Mem.empty) else none := by
  simp only [callA, hp, beq_self_eq_true, cond_true]
  cases frzArgs (a ++ as ++ c) m with
  | none => rfl
  | some p => simp only [Option.bind_some]; cases closedL p.1 <;> simp only [cond_true, cond_false] <;> cases denC P A g p.1 Mem.empty <;> rfl
theorem callA_deep (md : Nat) (m : Mem) (g : FuncId) (a c as : List AV) (hp : (A g).pure = true) (hm : (md == 2) = false) (hc : closedL (a ++ as ++ c) = false) :
    callA (fun g => (A g).pure) (denC P A) md m (.fn g a c) as = (mapO (deep m.h deepNo) (a ++ as ++ c)).bind fun as => (denC P A g as Mem.empty).bind fun r => bif r.1.flat then some (r.1, m) else none := by
  simp only [callA, hp, hm, hc, cond_true, cond_false]
theorem callA_impure (md : Nat) (m : Mem) (g : FuncId) (a c as : List AV) (hp : (A g).pure = false) (hm : (md == 7) = false) :
    callA (fun g => (A g).pure) (denC P A) md m (.fn g a c) as = denC P A g (a ++ as ++ c) m := by
  simp only [callA, hp, hm, cond_false]
end
attribute [simp] callA_pure callA_frz callA_deep callA_impure
@[simp] theorem exitTo_inBlock (id i : Nat) (K : List Item) : exitTo id (.inBlock i :: K) = bif i == id then some K else exitTo id K := by
  rw [exitTo]; cases (i == id) <;> rfl
@[simp] theorem exitTo_inLoop (id : Nat) (c : Code) (K : List Item) : exitTo id (.inLoop c :: K) = exitTo id K := rfl
@[simp] theorem exitTo_code (id : Nat) (c : Code) (K : List Item) : exitTo id (.code c :: K) = exitTo id K := rfl
attribute [simp] finM resM
@[simp] theorem tupOf_one (v : AV) : tupOf [v] = v := rfl
@[simp] theorem tupOf_nil : tupOf [] = .tup [] := rfl
@[simp] theorem tupOf_two (v u : AV) (r : List AV) : tupOf (v :: u :: r) = .tup (v :: u :: r) := rfl
attribute [simp] deepNo
section
variable (h : Nat → Option AObj) (d : Nat)
@[simp] theorem deep_bool (b : Bool) : deep h (d + 1) (.bool b) = some (.bool b) := rfl
@[simp] theorem deep_int (k : IntKind) (n : Int) : deep h (d + 1) (.int k n) = some (.int k n) := rfl
@[simp] theorem deep_str (b : List UInt8) : deep h (d + 1) (.str b) = some (.str b) := rfl
@[simp] theorem deep_nils : deep h (d + 1) .nils = some .nils := rfl
@[simp] theorem deep_nilp : deep h (d + 1) .nilp = some .nilp := rfl
@[simp] theorem deep_nilf : deep h (d + 1) .nilf = some .nilf := rfl
@[simp] theorem deep_nilm : deep h (d + 1) .nilm = some .nilm := rfl
@[simp] theorem deep_nili : deep h (d + 1) .nili = some .nili := rfl
@[simp] theorem deep_fsl (x : Bool) (n : Nat) (cs : List AV) : deep h (d + 1) (.fsl x n cs) = some (.fsl x n cs) := rfl
@[simp] theorem deep_fptr (cs : List AV) : deep h (d + 1) (.fptr cs) = some (.fptr cs) := rfl
@[simp] theorem deep_fmap (a b : List AV) : deep h (d + 1) (.fmap a b) = some (.fmap a b) := rfl
@[simp] theorem deep_sptr (cs : List AV) : deep h (d + 1) (.sptr cs) = (mapO (deep h d) cs).bind fun ys => some (.fptr ys) := rfl
@[simp] theorem deep_agg (cs : List AV) : deep h (d + 1) (.agg cs) = (mapO (deep h d) cs).bind fun ys => some (.agg ys) := rfl
@[simp] theorem deep_tup (cs : List AV) : deep h (d + 1) (.tup cs) = (mapO (deep h d) cs).bind fun ys => some (.tup ys) := rfl
def deepSl (h : Nat → Option AObj) (d es off n top : Nat) (o : Option AObj) : Option AV := match o with
  | some (.cells xs) => bif xs.length == top && Nat.ble (off + n * es) top then (mapO (deep h d) ((xs.drop off).take (n * es))).bind fun ys => some (.fsl false n ys) else none
  | _ => none
def deepPt (h : Nat → Option AObj) (d off top : Nat) (o : Option AObj) : Option AV := match o with
  | some (.cells xs) => bif xs.length == top && Nat.ble off top then (mapO (deep h d) xs).bind fun ys => some (.fptr (ys.drop off)) else none
  | _ => none
def deepMp (h : Nat → Option AObj) (d : Nat) (o : Option AObj) : Option AV := match o with
  | some (.map _ ks vs) => (mapO (deep h d) ks).bind fun ks' => (mapO (deep h d) vs).bind fun vs' => some (.fmap ks' vs')
  | _ => none
@[simp] theorem deep_sl (id es off n top : Nat) : deep h (d + 1) (.sl id es off n top) = deepSl h d es off n top (h id) := rfl
@[simp] theorem deep_ptr (id off top : Nat) : deep h (d + 1) (.ptr id off top) = deepPt h d off top (h id) := rfl
@[simp] theorem deep_map (id : Nat) : deep h (d + 1) (.map id) = deepMp h d (h id) := rfl
@[simp] theorem deepSl_eq (es off n top : Nat) (xs : List AV) : deepSl h d es off n top (some (.cells xs)) = bif xs.length == top && Nat.ble (off + n * es) top then (mapO (deep h d) ((xs.drop off).take (n * es))).bind fun ys => some (.fsl false n ys) else none := rfl
@[simp] theorem deepPt_eq (off top : Nat) (xs : List AV) : deepPt h d off top (some (.cells xs)) = bif xs.length == top && Nat.ble off top then (mapO (deep h d) xs).bind fun ys => some (.fptr (ys.drop off)) else none := rfl
@[simp] theorem deepMp_eq (g : Nat) (ks vs : List AV) : deepMp h d (some (.map g ks vs)) = (mapO (deep h d) ks).bind fun ks' => (mapO (deep h d) vs).bind fun vs' => some (.fmap ks' vs') := rfl
@[simp] theorem mapO_nil (f : AV → Option AV) : mapO f [] = some [] := rfl
@[simp] theorem mapO_cons (f : AV → Option AV) (a : AV) (r : List AV) : mapO f (a :: r) = (f a).bind fun b => (mapO f r).bind fun bs => some (b :: bs) := rfl
theorem mapO_fix {f : AV → Option AV} : ∀ {l : List AV}, (∀ a ∈ l, f a = some a) → mapO f l = some l
  | [], _ => rfl
  | a :: r, h => by simp [h a (by simp), mapO_fix (l := r) (fun b hb => h b (by simp [hb]))]
end
@[simp] theorem cells_agg (cs : List AV) : AV.cells (.agg cs) = cs := rfl
@[simp] theorem cells_int (k : IntKind) (n : Int) : AV.cells (.int k n) = [.int k n] := rfl
@[simp] theorem cells_bool (b : Bool) : AV.cells (.bool b) = [.bool b] := rfl
@[simp] theorem cells_str (b : List UInt8) : AV.cells (.str b) = [.str b] := rfl
@[simp] theorem cells_nils : AV.cells .nils = [.nils] := rfl
@[simp] theorem cells_nilp : AV.cells .nilp = [.nilp] := rfl
@[simp] theorem cells_nilf : AV.cells .nilf = [.nilf] := rfl
@[simp] theorem cells_nilm : AV.cells .nilm = [.nilm] := rfl
@[simp] theorem cells_nili : AV.cells .nili = [.nili] := rfl
@[simp] theorem cells_ptr (i o t : Nat) : AV.cells (.ptr i o t) = [.ptr i o t] := rfl
@[simp] theorem cells_fptr (cs : List AV) : AV.cells (.fptr cs) = [.fptr cs] := rfl
@[simp] theorem cells_sptr (cs : List AV) : AV.cells (.sptr cs) = [.sptr cs] := rfl
@[simp] theorem cells_sl (i e o n t : Nat) : AV.cells (.sl i e o n t) = [.sl i e o n t] := rfl
@[simp] theorem cells_fsl (x : Bool) (n : Nat) (cs : List AV) : AV.cells (.fsl x n cs) = [.fsl x n cs] := rfl
@[simp] theorem cells_map (i : Nat) : AV.cells (.map i) = [.map i] := rfl
@[simp] theorem cells_fmap (a b : List AV) : AV.cells (.fmap a b) = [.fmap a b] := rfl
@[simp] theorem cells_fn (f : FuncId) (a b : List AV) : AV.cells (.fn f a b) = [.fn f a b] := rfl
@[simp] theorem cells_iface (f : TypeId) (a : AV) : AV.cells (.iface f a) = [.iface f a] := rfl
attribute [simp] oneL closedL
@[simp] theorem one_undef  : AV.one (.undef) = false := rfl
@[simp] theorem closed_undef  : AV.closed (.undef) = true := rfl
@[simp] theorem one_bool (b : Bool) : AV.one (.bool b) = true := rfl
@[simp] theorem closed_bool (b : Bool) : AV.closed (.bool b) = true := rfl
@[simp] theorem one_int (k : IntKind) (n : Int) : AV.one (.int k n) = true := rfl
@[simp] theorem closed_int (k : IntKind) (n : Int) : AV.closed (.int k n) = true := rfl
@[simp] theorem one_str (b : List UInt8) : AV.one (.str b) = true := rfl
@[simp] theorem closed_str (b : List UInt8) : AV.closed (.str b) = true := rfl
@[simp] theorem one_nilp  : AV.one (.nilp) = true := rfl
@[simp] theorem closed_nilp  : AV.closed (.nilp) = true := rfl
@[simp] theorem one_ptr (i o t : Nat) : AV.one (.ptr i o t) = true := rfl
@[simp] theorem closed_ptr (i o t : Nat) : AV.closed (.ptr i o t) = false := rfl
@[simp] theorem one_fptr (c : List AV) : AV.one (.fptr c) = true := rfl
@[simp] theorem closed_fptr (c : List AV) : AV.closed (.fptr c) = true := rfl
@[simp] theorem one_sptr (c : List AV) : AV.one (.sptr c) = true := rfl
@[simp] theorem closed_sptr (c : List AV) : AV.closed (.sptr c) = false := rfl
@[simp] theorem one_nils  : AV.one (.nils) = true := rfl
@[simp] theorem closed_nils  : AV.closed (.nils) = true := rfl
@[simp] theorem one_sl (i e o n t : Nat) : AV.one (.sl i e o n t) = true := rfl
@[simp] theorem closed_sl (i e o n t : Nat) : AV.closed (.sl i e o n t) = false := rfl
@[simp] theorem one_fsl (x : Bool) (n : Nat) (c : List AV) : AV.one (.fsl x n c) = true := rfl
@[simp] theorem closed_fsl (x : Bool) (n : Nat) (c : List AV) : AV.closed (.fsl x n c) = true := rfl
@[simp] theorem one_nilm  : AV.one (.nilm) = true := rfl
@[simp] theorem closed_nilm  : AV.closed (.nilm) = true := rfl
@[simp] theorem one_map (i : Nat) : AV.one (.map i) = true := rfl
@[simp] theorem closed_map (i : Nat) : AV.closed (.map i) = false := rfl
@[simp] theorem one_fmap (a b : List AV) : AV.one (.fmap a b) = true := rfl
@[simp] theorem closed_fmap (a b : List AV) : AV.closed (.fmap a b) = true := rfl
@[simp] theorem one_fn (f : FuncId) (a b : List AV) : AV.one (.fn f a b) = true := rfl
@[simp] theorem one_nilf  : AV.one (.nilf) = true := rfl
@[simp] theorem closed_nilf  : AV.closed (.nilf) = true := rfl
@[simp] theorem one_iface (t : TypeId) (v : AV) : AV.one (.iface t v) = true := rfl
@[simp] theorem one_nili  : AV.one (.nili) = true := rfl
@[simp] theorem closed_nili  : AV.closed (.nili) = true := rfl
@[simp] theorem one_agg (c : List AV) : AV.one (.agg c) = false := rfl
@[simp] theorem one_tup (c : List AV) : AV.one (.tup c) = false := rfl
@[simp] theorem one_iter (i : Nat) : AV.one (.iter i) = true := rfl
@[simp] theorem closed_iter (i : Nat) : AV.closed (.iter i) = false := rfl
@[simp] theorem closed_agg (c : List AV) : AV.closed (.agg c) = closedL c := by simp [AV.closed]
@[simp] theorem closed_tup (c : List AV) : AV.closed (.tup c) = closedL c := by simp [AV.closed]
@[simp] theorem closed_fn (f : FuncId) (a b : List AV) : AV.closed (.fn f a b) = (closedL a && closedL b) := by simp [AV.closed]
@[simp] theorem closed_iface (t : TypeId) (v : AV) : AV.closed (.iface t v) = v.closed := by simp [AV.closed]
@[simp] theorem pickA_bool (b : Bool) (x y : AV) : pickA (.bool b) x y = some (bif b then x else y) := rfl
@[simp] theorem pickA_bools (b c d : Bool) : pickA (.bool b) (.bool c) (.bool d) = some (.bool (bif b then c else d)) := by cases b <;> rfl
@[simp] theorem nilA_ptr (i o t : Nat) : nilA (.ptr i o t) = some (.ptr i o t) := rfl
@[simp] theorem nilA_fptr (cs : List AV) : nilA (.fptr cs) = some (.fptr cs) := rfl
@[simp] theorem nilA_sptr (cs : List AV) : nilA (.sptr cs) = some (.sptr cs) := rfl
@[simp] theorem nilA_fn (f : FuncId) (a b : List AV) : nilA (.fn f a b) = some (.fn f a b) := rfl
@[simp] theorem fieldV_agg (g : Bool) (n off : Nat) (cs : List AV) : fieldV g n off (.agg cs) = partA g n off cs := rfl
attribute [simp] partA
@[simp] theorem extA_tup (vs : List AV) (i : Nat) : extA (.tup vs) i = vs[i]? := rfl
@[simp] theorem lenSl_nils : lenSl .nils = some (.int .i64 0) := rfl
@[simp] theorem lenSl_fsl (x : Bool) (n : Nat) (cs : List AV) : lenSl (.fsl x n cs) = some (.int .i64 n) := rfl
@[simp] theorem lenSl_sl (i e o n t : Nat) : lenSl (.sl i e o n t) = some (.int .i64 n) := rfl
@[simp] theorem lenStr_str (b : List UInt8) : lenStr (.str b) = some (.int .i64 b.length) := rfl
@[simp] theorem convInt_int (k k' : IntKind) (n : Int) : convInt k (.int k' n) = some (.int k (k.wrap n)) := rfl
@[simp] theorem frozenPtr_eq (v : AV) : frozenPtr v = bif oneL v.cells then some (bif closedL v.cells then .fptr v.cells else .sptr v.cells) else none := rfl
@[simp] theorem newPtr_eq (m : Mem) (cs : List AV) : newPtr m cs = bif oneL cs then some (.ptr m.nx 0 cs.length, m.new (.cells cs)) else none := rfl
@[simp] theorem loadF_fptr (g : Bool) (n : Nat) (cs : List AV) : loadF g n (.fptr cs) = bif g then (bif Nat.ble n cs.length then some (.agg (cs.take n)) else none) else cs.head? := rfl
@[simp] theorem loadF_sptr (g : Bool) (n : Nat) (cs : List AV) : loadF g n (.sptr cs) = bif g then (bif Nat.ble n cs.length then some (.agg (cs.take n)) else none) else cs.head? := rfl
@[simp] theorem loadA_fptr (g : Bool) (n : Nat) (m : Mem) (cs : List AV) : loadA g n m (.fptr cs) = bif g then (bif Nat.ble n cs.length then some (.agg (cs.take n)) else none) else cs.head? := by
  cases g <;> simp only [loadA, readN, read1, cond_true, cond_false]
  cases Nat.ble n cs.length <;> rfl
@[simp] theorem loadA_sptr (g : Bool) (n : Nat) (m : Mem) (cs : List AV) : loadA g n m (.sptr cs) = bif g then (bif Nat.ble n cs.length then some (.agg (cs.take n)) else none) else cs.head? := by
  cases g <;> simp only [loadA, readN, read1, cond_true, cond_false]
  cases Nat.ble n cs.length <;> rfl
def loadO (g : Bool) (n off top : Nat) (o : Option AObj) : Option AV := match o with
  | some (.cells xs) => bif xs.length == top then (bif g then (bif Nat.ble (off + n) top then some (.agg ((xs.drop off).take n)) else none) else xs[off]?) else none
  | _ => none
@[simp] theorem loadA_ptr (g : Bool) (n : Nat) (m : Mem) (id off top : Nat) : loadA g n m (.ptr id off top) = loadO g n off top (m.h id) := by
  cases g <;> simp only [loadA, readN, read1, loadO, cond_true, cond_false] <;> cases m.h id with
  | none => rfl
  | some o => cases o <;> simp only [] <;> first
    | rfl
    | (rename_i xs; cases (xs.length == top) <;> first | rfl | (cases Nat.ble (off + n) top <;> rfl))
@[simp] theorem loadO_cells (g : Bool) (n off top : Nat) (xs : List AV) : loadO g n off top (some (.cells xs)) = bif xs.length == top then (bif g then (bif Nat.ble (off + n) top then some (.agg ((xs.drop off).take n)) else none) else xs[off]?) else none := rfl
def stO (g : Bool) (n : Nat) (m : Mem) (id off top : Nat) (v : AV) (o : Option AObj) : Option (AV × Mem) := match o with
  | some (.cells xs) => bif xs.length == top then (bif g then (match v with
      | .agg cs => bif cs.length == n && (Nat.ble (off + n) top && oneL cs) then some (.tup [], m.set id (some (.cells (splice xs off cs)))) else none
      | _ => none) else (bif n == 1 && (Nat.blt off top && v.one) then some (.tup [], m.set id (some (.cells (xs.set off v)))) else none)) else none
  | _ => none
@[simp] theorem stA_ptr (g : Bool) (n : Nat) (m : Mem) (id off top : Nat) (v : AV) : stA g n m (.ptr id off top) v = stO g n m id off top v (m.h id) := by
  cases g
  · simp only [stA, storeA, write1, stO, cond_false]
    cases hn : (n == 1)
    · cases m.h id with
      | none => rfl
      | some o => cases o <;> simp <;> (try cases (_ == top) <;> rfl)
    · cases m.h id with
      | none => rfl
      | some o => cases o <;> simp only [cond_true, Option.map_none, Bool.true_and] <;> (try rfl) <;> (cases (_ == top) <;> simp <;> (try cases (_ && _ : Bool) <;> rfl))
  · simp only [stA, storeA, stO, cond_true]
    cases v <;> simp only [Option.map_none] <;> first
      | (cases m.h id with
         | none => rfl
         | some o => cases o <;> simp <;> (try cases (_ == top) <;> rfl))
      | skip
    rename_i cs
    cases hc : (cs.length == n)
    · cases m.h id with
      | none => rfl
      | some o => cases o <;> simp <;> (try cases (_ == top) <;> rfl)
    · have : cs.length = n := by simpa using hc
      subst this
      simp only [cond_true, writeN]
      cases m.h id with
      | none => rfl
      | some o => cases o <;> simp only [Option.map_none] <;> (try rfl) <;> (cases (_ == top) <;> simp <;> (try cases (_ && _ : Bool) <;> rfl))
@[simp] theorem stO_cells0 (n : Nat) (m : Mem) (id off top : Nat) (v : AV) (xs : List AV) : stO false n m id off top v (some (.cells xs)) = bif xs.length == top then (bif n == 1 && (Nat.blt off top && v.one) then some (.tup [], m.set id (some (.cells (xs.set off v)))) else none) else none := rfl
@[simp] theorem stO_cells1 (n : Nat) (m : Mem) (id off top : Nat) (cs : List AV) (xs : List AV) : stO true n m id off top (.agg cs) (some (.cells xs)) = bif xs.length == top then (bif cs.length == n && (Nat.ble (off + n) top && oneL cs) then some (.tup [], m.set id (some (.cells (splice xs off cs)))) else none) else none := rfl
@[simp] theorem fieldA_ptr (off id o top : Nat) : fieldA off (.ptr id o top) = some (.ptr id (o + off) top) := rfl
@[simp] theorem fieldA_fptr (off : Nat) (cs : List AV) : fieldA off (.fptr cs) = some (.fptr (cs.drop off)) := rfl
@[simp] theorem fieldA_sptr (off : Nat) (cs : List AV) : fieldA off (.sptr cs) = some (.sptr (cs.drop off)) := rfl
@[simp] theorem idxSl_fsl (size : Nat) (x : Bool) (n : Nat) (cs : List AV) (k : IntKind) (j : Int) : idxSl size (.fsl x n cs) (.int k j) = bif inR j n then some (.fptr (cs.drop (j.toNat * size))) else none := rfl
@[simp] theorem idxSl_sl (size id es off n top : Nat) (k : IntKind) (j : Int) : idxSl size (.sl id es off n top) (.int k j) = bif es == size && inR j n then some (.ptr id (off + j.toNat * size) top) else none := rfl
@[simp] theorem idxArr_fptr (len size : Nat) (cs : List AV) (k : IntKind) (j : Int) : idxArr len size (.fptr cs) (.int k j) = bif inR j len then some (.fptr (cs.drop (j.toNat * size))) else none := rfl
@[simp] theorem idxArr_sptr (len size : Nat) (cs : List AV) (k : IntKind) (j : Int) : idxArr len size (.sptr cs) (.int k j) = bif inR j len then some (.sptr (cs.drop (j.toNat * size))) else none := rfl
@[simp] theorem idxArr_ptr (len size id off top : Nat) (k : IntKind) (j : Int) : idxArr len size (.ptr id off top) (.int k j) = bif inR j len then some (.ptr id (off + j.toNat * size) top) else none := rfl
@[simp] theorem idxAgg_agg (l n : Nat) (g : Bool) (cs : List AV) (k : IntKind) (j : Int) : idxAgg l n g (.agg cs) (.int k j) = bif inR j l then partA g n (j.toNat * n) cs else none := rfl
@[simp] theorem idxStr_str (b : List UInt8) (k : IntKind) (j : Int) : idxStr (.str b) (.int k j) = bif inR j b.length then (b[j.toNat]?).map fun c => .int .u8 c.toNat else none := rfl
@[simp] theorem inR_nat (i n : Nat) : inR (i : Int) n = decide (i < n) := by simp [inR]
@[simp low] theorem inR_def (j : Int) (n : Nat) : inR j n = (decide (0 ≤ j) && decide (j < n)) := rfl
@[simp] theorem kk_same (k : IntKind) (v : Option AV) : kk k k v = v := by simp [kk]
section
variable (P : Program) (t : TypeId) (k k' : IntKind) (x y : Int)
@[simp] theorem binA_add : binA P .add t (.int k x) (.int k y) = some (.int k (k.wrap (x + y))) := by simp [binA, arithA]
@[simp] theorem binA_sub : binA P .sub t (.int k x) (.int k y) = some (.int k (k.wrap (x - y))) := by simp [binA, arithA]
@[simp] theorem binA_mul : binA P .mul t (.int k x) (.int k y) = some (.int k (k.wrap (x * y))) := by simp [binA, arithA]
@[simp] theorem binA_quo : binA P .quo t (.int k x) (.int k y) = bif decide (y = 0) then none else some (.int k (k.wrap (x.tdiv y))) := by simp [binA, arithA]
@[simp] theorem binA_rem : binA P .rem t (.int k x) (.int k y) = bif decide (y = 0) then none else some (.int k (x.tmod y)) := by simp [binA, arithA]
@[simp] theorem binA_eql : binA P .eql t (.int k x) (.int k y) = some (.bool (decide (x = y))) := by simp [binA, arithA]; rfl
@[simp] theorem binA_neq : binA P .neq t (.int k x) (.int k y) = some (.bool (!decide (x = y))) := by simp [binA, arithA]; rfl
@[simp] theorem binA_lss : binA P .lss t (.int k x) (.int k y) = some (.bool (decide (x < y))) := by simp [binA, arithA]
@[simp] theorem binA_leq : binA P .leq t (.int k x) (.int k y) = some (.bool (decide (x ≤ y))) := by simp [binA, arithA]
@[simp] theorem binA_gtr : binA P .gtr t (.int k x) (.int k y) = some (.bool (decide (y < x))) := by simp [binA, arithA]
@[simp] theorem binA_geq : binA P .geq t (.int k x) (.int k y) = some (.bool (decide (y ≤ x))) := by simp [binA, arithA]
@[simp] theorem binA_and : binA P .and t (.int k x) (.int k y) = some (.int k (k.wrap (BitVec.ofInt k.bits x &&& BitVec.ofInt k.bits y).toNat)) := by simp [binA, arithA, bitsA]
@[simp] theorem binA_or : binA P .or t (.int k x) (.int k y) = some (.int k (k.wrap (BitVec.ofInt k.bits x ||| BitVec.ofInt k.bits y).toNat)) := by simp [binA, arithA, bitsA]
@[simp] theorem binA_shr : binA P .shr t (.int k x) (.int k' y) = bif decide (y < 0) then none else some (.int k (x.fdiv (2 ^ min y.toNat k.bits))) := by simp [binA, shiftA]
@[simp] theorem binA_shl : binA P .shl t (.int k x) (.int k' y) = bif decide (y < 0) then none else some (.int k (k.wrap (x * 2 ^ min y.toNat k.bits))) := by simp [binA, shiftA]
end
theorem beq_dec {α : Type} [BEq α] [LawfulBEq α] [DecidableEq α] (x y : α) : (x == y) = decide (x = y) := by
  cases h : (x == y)
  · rw [eq_comm, decide_eq_false_iff_not]; intro k; subst k; simp at h
  · rw [eq_comm, decide_eq_true_eq]; exact eq_of_beq h
section
variable (P : Program) (t : TypeId) (x y : List UInt8)
@[simp] theorem binA_str_add : binA P .add t (.str x) (.str y) = bif Nat.ble (x.length + y.length) 4611686018427387904 then some (.str (x ++ y)) else none := rfl
@[simp] theorem binA_str_eql : binA P .eql t (.str x) (.str y) = some (.bool (decide (x = y))) := by simp [binA, strA, beq_dec]
@[simp] theorem binA_str_neq : binA P .neq t (.str x) (.str y) = some (.bool (!decide (x = y))) := by simp [binA, strA, beq_dec]
@[simp] theorem binA_str_lss : binA P .lss t (.str x) (.str y) = some (.bool (Op.bytesLess x y)) := rfl
end
@[simp] theorem unA_not (b : Bool) : unA .not (.bool b) = some (.bool (!b)) := rfl
@[simp] theorem unA_neg (k : IntKind) (n : Int) : unA .neg (.int k n) = some (.int k (k.wrap (0 - n))) := rfl
@[simp] theorem foldA_nil (f : AV → AV → Option AV) (a : AV) : foldA f a [] = some a := rfl
@[simp] theorem foldA_cons (f : AV → AV → Option AV) (a b : AV) (r : List AV) : foldA f a (b :: r) = (f a b).bind fun c => foldA f c r := rfl
@[simp] theorem max2A_int (k : IntKind) (x y : Int) : max2A (.int k x) (.int k y) = some (.int k (max x y)) := by
  simp [max2A]; omega
@[simp] theorem min2A_int (k : IntKind) (x y : Int) : min2A (.int k x) (.int k y) = some (.int k (min x y)) := by
  simp [min2A]; omega
@[simp] theorem srcA_nils (m : Mem) (n : Nat) : srcA m n .nils = some (0, []) := rfl
@[simp] theorem srcA_fsl (m : Mem) (size : Nat) (x : Bool) (n : Nat) (cs : List AV) : srcA m size (.fsl x n cs) = bif cs.length == n * size then some (n, cs) else none := rfl
@[simp] theorem bslF_eq (len sz : Nat) (cs : List AV) : bslF len (some (sz, cs)) = bif closedL cs then some (.fsl true len cs) else none := rfl
@[simp] theorem bslM_eq (m : Mem) (len es : Nat) (cs : List AV) : bslM m len (some (es, cs)) = some (.sl m.nx es 0 len cs.length, m.new (.cells cs)) := rfl
attribute [simp] bslA bldA
@[simp] theorem fillA_nil (pl : Nat → Option (Nat × Nat)) (cs : List AV) : fillA pl cs [] = some cs := rfl
@[simp] theorem fillA_cons (pl : Nat → Option (Nat × Nat)) (cs : List AV) (i : Nat) (v : AV) (r : List (Nat × AV)) :
    fillA pl cs ((i, v) :: r) = (pl i).bind fun x => bif v.cells.length == x.2 && (Nat.ble (x.1 + x.2) cs.length && oneL v.cells) then fillA pl (splice cs x.1 v.cells) r else none := rfl
@[simp] theorem plcA_eq (n i : Nat) : plcA n i = some (i * n, n) := rfl
attribute [simp] splice
@[simp] theorem plc_eq (l : List (Nat × Nat)) (i : Nat) : plc l i = l[i]? := rfl
@[simp] theorem repl_one (n : Nat) (z : AV) : repl n [z] = List.replicate n z := rfl
@[simp] theorem repl_two (n : Nat) (z y : AV) (r : List AV) : repl n (z :: y :: r) = (List.replicate n (z :: y :: r)).flatten := rfl
def frzPt (m : Mem) (id off top : Nat) (o : Option AObj) : Option (AV × Mem) := match o with
  | some (.cells xs) => bif xs.length == top then some (bif closedL xs then .fptr (xs.drop off) else .sptr (xs.drop off), m.set id none) else none
  | _ => none
def frzSl (m : Mem) (id es off n top : Nat) (o : Option AObj) : Option (AV × Mem) := match o with
  | some (.cells xs) => bif xs.length == top && (closedL xs && Nat.ble (off + n * es) top) then some (.fsl false n ((xs.drop off).take (n * es)), m.set id none) else none
  | _ => none
section
variable (m : Mem)
@[simp] theorem frzV_ptr (id off top : Nat) : frzV (.ptr id off top) m = frzPt m id off top (m.h id) := rfl
@[simp] theorem frzV_sl (id es off n top : Nat) : frzV (.sl id es off n top) m = frzSl m id es off n top (m.h id) := rfl
@[simp] theorem frzPt_eq (id off top : Nat) (xs : List AV) : frzPt m id off top (some (.cells xs)) = bif xs.length == top then some (bif closedL xs then .fptr (xs.drop off) else .sptr (xs.drop off), m.set id none) else none := rfl
@[simp] theorem frzSl_eq (id es off n top : Nat) (xs : List AV) : frzSl m id es off n top (some (.cells xs)) = bif xs.length == top && (closedL xs && Nat.ble (off + n * es) top) then some (.fsl false n ((xs.drop off).take (n * es)), m.set id none) else none := rfl
@[simp] theorem frzV_int (k : IntKind) (n : Int) : frzV (.int k n) m = some (.int k n, m) := rfl
@[simp] theorem frzV_bool (b : Bool) : frzV (.bool b) m = some (.bool b, m) := rfl
@[simp] theorem frzV_str (b : List UInt8) : frzV (.str b) m = some (.str b, m) := rfl
@[simp] theorem frzV_nils : frzV .nils m = some (.nils, m) := rfl
@[simp] theorem frzV_nilp : frzV .nilp m = some (.nilp, m) := rfl
@[simp] theorem frzV_fsl (x : Bool) (n : Nat) (cs : List AV) : frzV (.fsl x n cs) m = some (.fsl x n cs, m) := rfl
@[simp] theorem frzV_fptr (cs : List AV) : frzV (.fptr cs) m = some (.fptr cs, m) := rfl
@[simp] theorem frzV_sptr (cs : List AV) : frzV (.sptr cs) m = some (.sptr cs, m) := rfl
@[simp] theorem frzV_agg (cs : List AV) : frzV (.agg cs) m = some (.agg cs, m) := rfl
@[simp] theorem frzV_tup (cs : List AV) : frzV (.tup cs) m = some (.tup cs, m) := rfl
@[simp] theorem frzV_fn (f : FuncId) (a c : List AV) : frzV (.fn f a c) m = some (.fn f a c, m) := rfl
@[simp] theorem frzV_undef : frzV .undef m = some (.undef, m) := rfl
@[simp] theorem frzV_map (i : Nat) : frzV (.map i) m = some (.map i, m) := rfl
@[simp] theorem frzV_fmap (a b : List AV) : frzV (.fmap a b) m = some (.fmap a b, m) := rfl
end
@[simp] theorem frz1_mk (t : List (Nat × AV)) (n : Nat) (m : Mem) (i : Nat) (h : Nat.blt i 1000 = true) : frz1 ⟨t, n, m⟩ i = (frzV (AM.get t i) m).bind fun r => St.put ⟨t, n, r.2⟩ (some i) r.1 := by
  simp only [frz1, h, cond_true]; rfl
@[simp] theorem frzArgs_nil (m : Mem) : frzArgs [] m = some ([], m) := rfl
@[simp] theorem frzArgs_cons (a : AV) (r : List AV) (m : Mem) : frzArgs (a :: r) m = (frzV a m).bind fun q => (frzArgs r q.2).bind fun p => some (q.1 :: p.1, p.2) := rfl
def srcO (size es off n top : Nat) (o : Option AObj) : Option (Nat × List AV) := match o with
  | some (.cells xs) => bif xs.length == top && (es == size && Nat.ble (off + n * size) top) then some (n, (xs.drop off).take (n * size)) else none
  | _ => none
@[simp] theorem srcA_sl (m : Mem) (size id es off n top : Nat) : srcA m size (.sl id es off n top) = srcO size es off n top (m.h id) := rfl
@[simp] theorem srcO_eq (size es off n top : Nat) (xs : List AV) : srcO size es off n top (some (.cells xs)) = bif xs.length == top && (es == size && Nat.ble (off + n * size) top) then some (n, (xs.drop off).take (n * size)) else none := rfl
@[simp] theorem srcA_str (m : Mem) (size : Nat) (s : List UInt8) : srcA m size (.str s) = bif size == 1 then some (s.length, s.map fun b => .int .u8 b.toNat) else none := rfl
def appO (size bytes : Nat) (m : Mem) (id es off n0 top n : Nat) (news : List AV) (o : Option AObj) : Option (AV × Mem) := match o with
  | some (.cells xs) => bif xs.length == top && (es == size && off + n0 * size == top) then
        (bif n == 0 then some (.sl id es off n0 top, m) else
         bif room (n0 + n) bytes then
          (bif off == 0 then some (.sl id es 0 (n0 + n) (xs ++ news).length, m.set id (some (.cells (xs ++ news))))
           else some (.sl m.nx es 0 (n0 + n) (xs.drop off ++ news).length, (m.set id none).new (.cells (xs.drop off ++ news))))
         else none) else none
  | _ => none
def appT (size bytes : Nat) (m : Mem) (s : AV) (q : Option (Nat × List AV)) : Option (AV × Mem) := match q with
  | some (n, news) => (match s with
    | .nils => bif n == 0 then some (.nils, m) else bif room n bytes then some (.sl m.nx size 0 n news.length, m.new (.cells news)) else none
    | .fsl true n0 cells => bif n == 0 then some (.fsl true n0 cells, m) else
      bif room (n0 + n) bytes && cells.length == n0 * size then some (.sl m.nx size 0 (n0 + n) (cells ++ news).length, m.new (.cells (cells ++ news))) else none
    | .sl id es off n0 top => appO size bytes m id es off n0 top n news (m.h id)
    | _ => none)
  | none => none
@[simp] theorem appendA_eq (size bytes : Nat) (m : Mem) (s x : AV) (h : (size == 0) = false) : appendA size bytes m s x = appT size bytes m s (srcA m size x) := by
  unfold appendA
  rw [h]
  simp only [cond_false]
  cases srcA m size x with
  | none => rfl
  | some q => rfl
section
variable (size bytes : Nat) (m : Mem) (n : Nat) (news : List AV)
@[simp] theorem appT_nils : appT size bytes m .nils (some (n, news)) = bif n == 0 then some (.nils, m) else bif room n bytes then some (.sl m.nx size 0 n news.length, m.new (.cells news)) else none := rfl
@[simp] theorem appT_fsl (n0 : Nat) (cells : List AV) : appT size bytes m (.fsl true n0 cells) (some (n, news)) = bif n == 0 then some (.fsl true n0 cells, m) else
      bif room (n0 + n) bytes && cells.length == n0 * size then some (.sl m.nx size 0 (n0 + n) (cells ++ news).length, m.new (.cells (cells ++ news))) else none := rfl
@[simp] theorem appT_sl (id es off n0 top : Nat) : appT size bytes m (.sl id es off n0 top) (some (n, news)) = appO size bytes m id es off n0 top n news (m.h id) := rfl
@[simp] theorem appO_eq (id es off n0 top : Nat) (xs : List AV) : appO size bytes m id es off n0 top n news (some (.cells xs)) = bif xs.length == top && (es == size && off + n0 * size == top) then
        (bif n == 0 then some (.sl id es off n0 top, m) else
         bif room (n0 + n) bytes then
          (bif off == 0 then some (.sl id es 0 (n0 + n) (xs ++ news).length, m.set id (some (.cells (xs ++ news))))
           else some (.sl m.nx es 0 (n0 + n) (xs.drop off ++ news).length, (m.set id none).new (.cells (xs.drop off ++ news))))
         else none) else none := rfl
end
@[simp] theorem room_dec (n bytes : Nat) : room n bytes = (decide (n ≤ 4611686018427387904) && decide (n * bytes ≤ 70368744177664)) := by simp [room]
@[simp] theorem makeA_int (size bytes : Nat) (z : AV) (m : Mem) (l c : Int) : makeA size bytes z m (.int .i64 l) (.int .i64 c) =
      bif decide (0 ≤ l) && (decide (l = c) && (room l.toNat bytes && (z.cells.length == size && oneL z.cells))) then
        some (.sl m.nx size 0 l.toNat (repl l.toNat z.cells).length, m.new (.cells (repl l.toNat z.cells))) else none := rfl
end Go.AM

/-
  DATA IN THE ABSTRACT MACHINE: lists of numbers as cells. Conditions: none.
-/
namespace Go.AM
set_option linter.all false
def ints (l : List Int) : List AV := l.map (.int .i64)
@[simp] theorem ints_nil : ints [] = [] := rfl
@[simp] theorem ints_cons (a : Int) (l : List Int) : ints (a :: l) = .int .i64 a :: ints l := rfl
@[simp] theorem ints_len (l : List Int) : (ints l).length = l.length := by simp [ints]
@[simp] theorem ints_append (a b : List Int) : ints a ++ ints b = ints (a ++ b) := by simp [ints]
@[simp] theorem ints_drop (l : List Int) (n : Nat) : (ints l).drop n = ints (l.drop n) := by simp [ints, List.map_drop]
@[simp] theorem ints_take (l : List Int) (n : Nat) : (ints l).take n = ints (l.take n) := by simp [ints, List.map_take]
@[simp] theorem ints_set (l : List Int) (n : Nat) (a : Int) : (ints l).set n (.int .i64 a) = ints (l.set n a) := by simp [ints, List.map_set]
@[simp] theorem ints_oneL (l : List Int) : oneL (ints l) = true := by induction l <;> simp [ints, oneL, AV.one] at *; assumption
@[simp] theorem ints_closedL (l : List Int) : closedL (ints l) = true := by induction l <;> simp [ints, closedL, AV.closed] at *; assumption
@[simp] theorem ints_get? (l : List Int) (i : Nat) : (ints l)[i]? = l[i]?.map (.int .i64) := by simp [ints]
def nth (l : List Int) (i : Nat) : Int := l.getD i 0
theorem nth_eq {l : List Int} {i : Nat} (h : i < l.length) : l[i]? = some (nth l i) := by
  rw [List.getElem?_eq_getElem h]; simp [nth, List.getD, List.getElem?_eq_getElem h]
theorem nth_get {l : List Int} {i : Nat} (h : i < l.length) : l[i] = nth l i := by
  simp [nth, List.getD, List.getElem?_eq_getElem h]
theorem drop_nth {l : List Int} {i : Nat} (h : i < l.length) : l.drop i = nth l i :: l.drop (i + 1) := by
  rw [List.drop_eq_getElem_cons h, nth_get h]
theorem ints_nth {l : List Int} {i : Nat} (h : i < l.length) : (ints l)[i]? = some (.int .i64 (nth l i)) := by
  rw [ints_get?, nth_eq h]; rfl
@[simp] theorem ints_getElem {l : List Int} {i : Nat} (h : i < (ints l).length) : (ints l)[i] = .int .i64 (nth l i) := by
  have h' : i < l.length := by simpa using h
  have := ints_nth h'
  rw [List.getElem?_eq_getElem h] at this
  simpa using this
theorem ints_head {l : List Int} {i : Nat} (h : i < l.length) : (ints (l.drop i)).head? = some (.int .i64 (nth l i)) := by
  rw [drop_nth h]; rfl
theorem oneL_append' (a b : List AV) : oneL (a ++ b) = (oneL a && oneL b) := by
  induction a with
  | nil => simp
  | cons x a ih => simp [ih, Bool.and_assoc]
theorem closedL_append' (a b : List AV) : closedL (a ++ b) = (closedL a && closedL b) := by
  induction a with
  | nil => simp
  | cons x a ih => simp [ih, Bool.and_assoc]
attribute [simp] oneL_append' closedL_append'
@[simp] theorem mapO_ints (h : Nat → Option AObj) (d : Nat) (l : List Int) : mapO (deep h (d + 1)) (ints l) = some (ints l) :=
  mapO_fix fun a ha => by
    simp only [ints, List.mem_map] at ha
    obtain ⟨n, _, rfl⟩ := ha
    rfl
def IsInts (v : AV) (l : List Int) : Prop := (v = .nils ∧ l = []) ∨ ∃ ex, v = .fsl ex l.length (ints l)
theorem IsInts.fsl (ex : Bool) (l : List Int) : IsInts (.fsl ex l.length (ints l)) l := .inr ⟨ex, rfl⟩
theorem IsInts.nils : IsInts .nils [] := .inl ⟨rfl, rfl⟩
theorem IsInts.closed {v : AV} {l : List Int} (h : IsInts v l) : v.closed = true := by rcases h with ⟨rfl, _⟩ | ⟨_, rfl⟩ <;> rfl
theorem IsInts.one {v : AV} {l : List Int} (h : IsInts v l) : v.one = true := by rcases h with ⟨rfl, _⟩ | ⟨_, rfl⟩ <;> rfl
theorem IsInts.cells {v : AV} {l : List Int} (h : IsInts v l) : v.cells = [v] := by rcases h with ⟨rfl, _⟩ | ⟨_, rfl⟩ <;> rfl
theorem IsInts.len {v : AV} {l : List Int} (h : IsInts v l) : lenSl v = some (.int .i64 l.length) := by rcases h with ⟨rfl, rfl⟩ | ⟨_, rfl⟩ <;> simp
theorem IsInts.deep {v : AV} {l : List Int} (h : IsInts v l) (hp : Nat → Option AObj) (d : Nat) : deep hp (d + 1) v = some v := by rcases h with ⟨rfl, _⟩ | ⟨_, rfl⟩ <;> rfl
theorem IsInts.idx {v : AV} {l : List Int} (h : IsInts v l) {i : Nat} (hi : i < l.length) (k : IntKind) : idxSl 1 v (.int k (i : Int)) = some (.fptr (ints (l.drop i))) := by
  rcases h with ⟨rfl, rfl⟩ | ⟨_, rfl⟩
  · simp at hi
  · simp [hi]
theorem IsInts.src {v : AV} {l : List Int} (h : IsInts v l) (m : Mem) : srcA m 1 v = some (l.length, ints l) := by
  rcases h with ⟨rfl, rfl⟩ | ⟨_, rfl⟩ <;> simp
def flatC {α : Type} (f : α → List AV) (l : List α) : List AV := l.flatMap f
section
variable {α : Type} {f : α → List AV} {k : Nat}
@[simp] theorem flatC_nil : flatC f [] = [] := rfl
theorem flatC_cons (a : α) (l : List α) : flatC f (a :: l) = f a ++ flatC f l := rfl
theorem flatC_len : ∀ {l : List α}, (∀ a ∈ l, (f a).length = k) → (flatC f l).length = l.length * k
  | [], _ => by simp
  | a :: l, h => by
    rw [flatC_cons, List.length_append, h a (by simp), flatC_len (l := l) (fun b hb => h b (by simp [hb])), List.length_cons, Nat.succ_mul]; omega
theorem flatC_drop : ∀ {l : List α} (i : Nat), (∀ a ∈ l, (f a).length = k) → (flatC f l).drop (i * k) = flatC f (l.drop i)
  | l, 0, _ => by simp
  | [], i + 1, _ => by simp
  | a :: l, i + 1, h => by
    rw [flatC_cons, Nat.succ_mul, Nat.add_comm, ← List.drop_drop, List.drop_left' (h a (by simp)), flatC_drop i (fun b hb => h b (by simp [hb]))]; rfl
def IsSl (f : α → List AV) (v : AV) (l : List α) : Prop := (v = .nils ∧ l = []) ∨ ∃ ex, v = .fsl ex l.length (flatC f l)
theorem IsSl.fsl (ex : Bool) (l : List α) : IsSl f (.fsl ex l.length (flatC f l)) l := .inr ⟨ex, rfl⟩
theorem IsSl.nils : IsSl f .nils [] := .inl ⟨rfl, rfl⟩
theorem IsSl.closed {v : AV} {l : List α} (h : IsSl f v l) : v.closed = true := by rcases h with ⟨rfl, _⟩ | ⟨_, rfl⟩ <;> rfl
theorem IsSl.one {v : AV} {l : List α} (h : IsSl f v l) : v.one = true := by rcases h with ⟨rfl, _⟩ | ⟨_, rfl⟩ <;> rfl
theorem IsSl.cells {v : AV} {l : List α} (h : IsSl f v l) : v.cells = [v] := by rcases h with ⟨rfl, _⟩ | ⟨_, rfl⟩ <;> rfl
theorem IsSl.len {v : AV} {l : List α} (h : IsSl f v l) : lenSl v = some (.int .i64 l.length) := by rcases h with ⟨rfl, rfl⟩ | ⟨_, rfl⟩ <;> simp
theorem IsSl.deep {v : AV} {l : List α} (h : IsSl f v l) (hp : Nat → Option AObj) (d : Nat) : AM.deep hp (d + 1) v = some v := by rcases h with ⟨rfl, _⟩ | ⟨_, rfl⟩ <;> rfl
theorem IsSl.idx {v : AV} {l : List α} (h : IsSl f v l) (hk : ∀ a ∈ l, (f a).length = k) {i : Nat} (hi : i < l.length) (kd : IntKind) : idxSl k v (.int kd (i : Int)) = some (.fptr (flatC f (l.drop i))) := by
  rcases h with ⟨rfl, rfl⟩ | ⟨_, rfl⟩
  · simp at hi
  · simp [hi, flatC_drop i hk]
theorem IsSl.src {v : AV} {l : List α} (h : IsSl f v l) (hk : ∀ a ∈ l, (f a).length = k) (m : Mem) : srcA m k v = some (l.length, flatC f l) := by
  rcases h with ⟨rfl, rfl⟩ | ⟨_, rfl⟩
  · simp
  · simp [flatC_len hk]
end
def cth (l : List (List Int)) (i : Nat) : List Int := l.getD i []
theorem cth_eq {l : List (List Int)} {i : Nat} (h : i < l.length) : l[i]? = some (cth l i) := by
  rw [List.getElem?_eq_getElem h]; simp [cth, List.getD, List.getElem?_eq_getElem h]
theorem cth_mem {l : List (List Int)} {i : Nat} (h : i < l.length) : cth l i ∈ l := List.mem_of_getElem? (cth_eq h)
def Four (l : List (List Int)) : Prop := ∀ c ∈ l, c.length = 4
theorem Four.cells {l : List (List Int)} (h : Four l) : ∀ c ∈ l, (ints c).length = 4 := fun c hc => by simp [h c hc]
@[simp] theorem nat_neg (n : Nat) : ((n : Int) < 0) = False := by simp
@[simp] theorem wrap_id {x : Int} (h1 : -9223372036854775808 ≤ x) (h2 : x < 9223372036854775808) : IntKind.wrap .i64 x = x := by
  simp [IntKind.wrap, IntKind.min, IntKind.max, IntKind.signed, IntKind.bits]
  omega
end Go.AM
