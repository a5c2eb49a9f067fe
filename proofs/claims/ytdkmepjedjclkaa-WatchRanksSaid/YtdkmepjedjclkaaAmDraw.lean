/-
  THE ABSTRACT MACHINE: operations that no edge orders may stand in either order. Conditions: none.
-/
import Derived.Test.YtdkmepjedjclkaaAmEff
namespace Go.AM

/-! ### States alike -/
structure Eqv (s t : St) : Prop where
  get : ∀ j, s.get j = t.get j
  nt : s.nt = t.nt
  m : s.m = t.m

theorem Eqv.refl (s : St) : Eqv s s := ⟨fun _ => rfl, rfl, rfl⟩
theorem Eqv.symm {s t : St} (h : Eqv s t) : Eqv t s := ⟨fun j => (h.get j).symm, h.nt.symm, h.m.symm⟩
theorem Eqv.trans {s t u : St} (h : Eqv s t) (k : Eqv t u) : Eqv s u := ⟨fun j => (h.get j).trans (k.get j), h.nt.trans k.nt, h.m.trans k.m⟩

theorem Eqv.ev {s t : St} (h : Eqv s t) (x : Operand) : s.ev x = t.ev x := by cases x <;> first | exact h.get _ | rfl

theorem Eqv.mem {s t : St} (h : Eqv s t) (m : Mem) : Eqv (s.mem m) (t.mem m) := ⟨h.get, h.nt, rfl⟩

theorem put_some {s s' : St} {d : Option Nat} {v : AV} (h : s.put d v = some s') : (∀ j, s'.get j = if d = some j then v else s.get j) ∧ s'.nt = s.nt ∧ s'.m = s.m ∧ (∀ e, d = some e → Nat.blt e s.nt = true) := by
  cases d with
  | none => simp [St.put] at h; subst h; exact ⟨fun j => by simp, rfl, rfl, fun _ h => by cases h⟩
  | some d =>
    simp only [St.put] at h
    cases hlt : Nat.blt d s.nt with
    | false => simp [hlt] at h
    | true =>
      simp [hlt] at h
      subst h
      refine ⟨fun j => ?_, rfl, rfl, fun e he => by cases he; exact hlt⟩
      show AM.get ((d, v) :: s.t) j = _
      rw [get_cons]
      by_cases e : j = d
      · subst e; simp
      · have : ¬ d = j := fun h => e h.symm
        simp [e, this]; rfl

theorem put_can {s : St} {d : Option Nat} {v : AV} (h : ∀ e, d = some e → Nat.blt e s.nt = true) : ∃ s', s.put d v = some s' := by
  cases d with
  | none => exact ⟨s, rfl⟩
  | some d => exact ⟨{ s with t := (d, v) :: s.t }, by simp only [St.put, h d rfl, cond_true]⟩

def OEqv : Option St → Option St → Prop
  | none, none => True
  | some s, some t => Eqv s t
  | _, _ => False

theorem put_oeqv {s t : St} (h : Eqv s t) (d : Option Nat) (v : AV) : OEqv (s.put d v) (t.put d v) := by
  cases hs : s.put d v with
  | some s' =>
    obtain ⟨h1, h2, h3, h4⟩ := put_some hs
    obtain ⟨t', ht⟩ := put_can (s := t) (d := d) (v := v) (fun e he => by rw [← h.nt]; exact h4 e he)
    obtain ⟨k1, k2, k3, _⟩ := put_some ht
    rw [ht]
    exact ⟨fun j => by rw [h1, k1, h.get], by rw [h2, k2, h.nt], by rw [h3, k3, h.m]⟩
  | none =>
    cases ht : t.put d v with
    | none => trivial
    | some t' =>
      obtain ⟨_, _, _, k4⟩ := put_some ht
      obtain ⟨s', hs'⟩ := put_can (s := s) (d := d) (v := v) (fun e he => by rw [h.nt]; exact k4 e he)
      rw [hs'] at hs; cases hs

/-! ### Effects -/
def effB (P : Program) (pf : FuncId → Bool) (call : CallF) (md b i : Nat) (o : Oper) (s : St) : Option (AV × Mem) :=
  match classOf md o.op with
  | 0 => (pureA P md s o.op).map fun v => (v, s.m)
  | 1 => (readA P s o.op).map fun v => (v, s.m)
  | 2 | 6 => ((memA P (s.nx (b + i)) o.op).bind fun r => bif md == 1 then frzV r.1 r.2 else some r).map fun r => (r.1, ⟨r.2.h, s.m.nx⟩)
  | 3 => match o.op with
    | .call c => match c.callee with
      | .value f => callA pf call md s.m (s.ev f) (c.args.toList.map s.ev)
      | _ => none
    | _ => none
  | _ => none

def effI (P : Program) (pf : FuncId → Bool) (call : CallF) (md b : Nat) (ops : Array Oper) (i : Nat) (o : Oper) (s : St) : Option (AV × Mem) :=
  match o.guard with
  | none => effB P pf call md b i o s
  | some (j, want) => match (ops[j]?).bind (·.dst) with
    | none => none
    | some d => match s.get d with
      | .bool b' => bif Nat.blt d s.nt then (bif b' == want then effB P pf call md b i o s else some (.tup [], s.m)) else none
      | .tup [] => some (.tup [], s.m)
      | _ => none

def stepI (P : Program) (pf : FuncId → Bool) (call : CallF) (md b : Nat) (ops : Array Oper) (i : Nat) (o : Oper) (s : St) : Option St :=
  guardA ops o s (fun s => opI P pf call md (some b) i o s) (fun s => s.put o.dst (.tup []))

section
variable {P : Program} {pf : FuncId → Bool} {call : CallF} {md b : Nat} {ops : Array Oper} {i : Nat} {o : Oper}

theorem opI_eff (s : St) : opI P pf call md (some b) i o s = (effB P pf call md b i o s).bind fun r => (s.mem r.2).put o.dst r.1 := by
  have nxput : ∀ (m : Mem) (v : AV), (((s.nx (b + i)).mem m).put o.dst v).map (fun s' => s'.nx s.m.nx) = (s.mem ⟨m.h, s.m.nx⟩).put o.dst v := by
    intro m v
    cases o.dst with
    | none => rfl
    | some d =>
      simp only [St.put]
      show Option.map _ (bif Nat.blt d s.nt then _ else none) = bif Nat.blt d s.nt then _ else none
      cases Nat.blt d s.nt <;> rfl
  have memcase : Option.map (fun s' => s'.nx s.m.nx) ((memA P (s.nx (b + i)) o.op).bind fun r => (bif md == 1 then frzV r.1 r.2 else some r).bind fun r => ((s.nx (b + i)).mem r.2).put o.dst r.1) =
      (((memA P (s.nx (b + i)) o.op).bind fun r => bif md == 1 then frzV r.1 r.2 else some r).map fun r => (r.1, (⟨r.2.h, s.m.nx⟩ : Mem))).bind fun r => (s.mem r.2).put o.dst r.1 := by
    cases memA P (s.nx (b + i)) o.op with
    | none => rfl
    | some r =>
      simp only [Option.bind_some]
      cases (bif md == 1 then frzV r.1 r.2 else some r) with
      | none => rfl
      | some q => exact nxput _ _
  unfold opI effB
  simp only
  unfold opA
  generalize classOf md o.op = c
  match c with
  | 0 => simp only; cases pureA P md s o.op <;> rfl
  | 1 => simp only; cases readA P s o.op <;> rfl
  | 2 => exact memcase
  | 3 =>
    simp only
    cases hop : o.op <;> try rfl
    rename_i c
    simp only
    cases hc : c.callee <;> rfl
  | 4 => rfl
  | 5 => rfl
  | 6 => exact memcase
  | _ + 7 => rfl

theorem effB_congr {s t : St} (hm : s.m = t.m) (h : ∀ x ∈ o.op.operands, s.ev x = t.ev x) : effB P pf call md b i o s = effB P pf call md b i o t := by
  have hnx : (s.nx (b + i)).m = (t.nx (b + i)).m := by show (⟨s.m.h, b + i⟩ : Mem) = ⟨t.m.h, b + i⟩; rw [hm]
  have hev : ∀ x, (s.nx (b + i)).ev x = s.ev x := fun x => by cases x <;> rfl
  have hev' : ∀ x, (t.nx (b + i)).ev x = t.ev x := fun x => by cases x <;> rfl
  unfold effB
  split
  · rw [pureA_congr h, hm]
  · rw [readA_congr hm h, hm]
  · rw [memA_congr hnx (fun x hx => by rw [hev, hev', h x hx]), hm]
  · rw [memA_congr hnx (fun x hx => by rw [hev, hev', h x hx]), hm]
  · split
    · rename_i c hop
      split
      · rename_i f hc
        have hmem : ∀ x ∈ c.operands, s.ev x = t.ev x := fun x hx => h x (by rw [hop]; exact hx)
        rw [hm, hmem f (by simp [Call.operands, hc]), List.map_congr_left (l := c.args.toList) (f := s.ev) (g := t.ev) fun x hx => hmem x (by simp at hx; simp [Call.operands, hx])]
      · rfl
    · rfl
  · rfl

theorem effI_congr {s t : St} (hm : s.m = t.m) (hnt : s.nt = t.nt) (h : ∀ d ∈ o.looksAt ops, s.get d = t.get d) : effI P pf call md b ops i o s = effI P pf call md b ops i o t := by
  have hops : ∀ x ∈ o.op.operands, s.ev x = t.ev x := by
    intro x hx
    cases x with
    | tmp d => exact h d (by unfold Oper.looksAt; rw [List.mem_append]; left; rw [List.mem_filterMap]; exact ⟨.tmp d, by simpa using hx, rfl⟩)
    | _ => rfl
  unfold effI
  split
  · exact effB_congr hm hops
  · rename_i j want hg
    split
    · rfl
    · rename_i d hd
      have : s.get d = t.get d := h d (by unfold Oper.looksAt; rw [List.mem_append]; right; simp [hg, hd])
      rw [this, effB_congr hm hops, hm, hnt]

/-- A step is its effect. -/
theorem step_eff (s : St) : OEqv (stepI P pf call md b ops i o s) ((effI P pf call md b ops i o s).bind fun r => (s.mem r.2).put o.dst r.1) := by
  have hrefl : ∀ x : Option St, OEqv x x := fun x => by cases x with
    | none => trivial
    | some s => exact Eqv.refl s
  have hlit : ∀ d b', s.get d = .bool b' → OEqv (opI P pf call md (some b) i o (s.lit d b')) ((effB P pf call md b i o s).bind fun r => (s.mem r.2).put o.dst r.1) := by
    intro d b' hd
    have he : Eqv (s.lit d b') s := ⟨fun j => St.lit_get hd j, rfl, rfl⟩
    rw [opI_eff, effB_congr (s := s.lit d b') (t := s) rfl (fun x _ => he.ev x)]
    cases effB P pf call md b i o s with
    | none => trivial
    | some r => exact put_oeqv (he.mem _) _ _
  have hskip : ∀ d b', s.get d = .bool b' → OEqv ((s.lit d b').put o.dst (.tup [])) (s.put o.dst (.tup [])) := fun d b' hd => put_oeqv ⟨fun j => St.lit_get hd j, rfl, rfl⟩ _ _
  unfold stepI guardA effI
  cases hg : o.guard with
  | none =>
    simp only
    rw [opI_eff]
    exact hrefl _
  | some jw =>
    obtain ⟨j, want⟩ := jw
    simp only
    cases hd : (ops[j]?).bind (·.dst) with
    | none => trivial
    | some d =>
      simp only
      cases hv : s.get d with
      | bool b' =>
        simp only
        cases hlt : Nat.blt d s.nt with
        | false => cases b' <;> trivial
        | true =>
          cases b' <;> cases want
          · exact hlit d false hv
          · exact hskip d false hv
          · exact hskip d true hv
          · exact hlit d true hv
      | tup vs =>
        cases vs with
        | nil => exact hrefl _
        | cons => trivial
      | _ => trivial

theorem step_eff1 {s s' : St} (h : stepI P pf call md b ops i o s = some s') : ∃ r s'', effI P pf call md b ops i o s = some r ∧ (s.mem r.2).put o.dst r.1 = some s'' ∧ Eqv s' s'' := by
  have := step_eff (P := P) (pf := pf) (call := call) (md := md) (b := b) (ops := ops) (i := i) (o := o) s
  rw [h] at this
  cases he : effI P pf call md b ops i o s with
  | none => rw [he] at this; exact this.elim
  | some r =>
    rw [he, Option.bind_some] at this
    cases hp : (s.mem r.2).put o.dst r.1 with
    | none => rw [hp] at this; exact this.elim
    | some s'' => rw [hp] at this; exact ⟨r, s'', rfl, hp, this⟩

theorem step_eff2 {s s'' : St} {r : AV × Mem} (h : effI P pf call md b ops i o s = some r) (hp : (s.mem r.2).put o.dst r.1 = some s'') : ∃ s', stepI P pf call md b ops i o s = some s' ∧ Eqv s' s'' := by
  have := step_eff (P := P) (pf := pf) (call := call) (md := md) (b := b) (ops := ops) (i := i) (o := o) s
  rw [h, Option.bind_some, hp] at this
  cases hs : stepI P pf call md b ops i o s with
  | none => rw [hs] at this; exact this.elim
  | some s' => rw [hs] at this; exact ⟨s', rfl, this⟩

theorem step_eqv {s t s' : St} (he : Eqv s t) (h : stepI P pf call md b ops i o s = some s') : ∃ t', stepI P pf call md b ops i o t = some t' ∧ Eqv s' t' := by
  obtain ⟨r, s'', h1, h2, h3⟩ := step_eff1 h
  rw [effI_congr he.m he.nt (fun d _ => he.get d)] at h1
  have := put_oeqv (he.mem r.2) o.dst r.1
  rw [h2] at this
  cases hp : (t.mem r.2).put o.dst r.1 with
  | none => rw [hp] at this; exact this.elim
  | some t'' =>
    rw [hp] at this
    obtain ⟨t', k1, k2⟩ := step_eff2 h1 hp
    exact ⟨t', k1, (h3.trans this).trans k2.symm⟩
end

/-- Two steps in either order. -/
theorem comm {P : Program} {pf : FuncId → Bool} {call : CallF} {mdi mdj b : Nat} {ops : Array Oper} {i j : Nat} {oi oj : Oper} {s s1 s2 : St} (hj : stepI P pf call mdj b ops j oj s = some s1) (hi : stepI P pf call mdi b ops i oi s1 = some s2) (hap : oj.apart ops oi = true)
    (hind : ∀ vj mj vi m2, effI P pf call mdj b ops j oj s = some (vj, mj) → effI P pf call mdi b ops i oi (s.mem mj) = some (vi, m2) → ∃ mi, effI P pf call mdi b ops i oi s = some (vi, mi) ∧ effI P pf call mdj b ops j oj (s.mem mi) = some (vj, m2)) :
    ∃ t1 t2, stepI P pf call mdi b ops i oi s = some t1 ∧ stepI P pf call mdj b ops j oj t1 = some t2 ∧ Eqv t2 s2 := by
  obtain ⟨a1, a2, a3⟩ := Oper.apart_spec hap
  obtain ⟨⟨vj, mj⟩, s1', e1, p1, q1⟩ := step_eff1 hj
  obtain ⟨⟨vi, m2⟩, s2', e2, p2, q2⟩ := step_eff1 hi
  obtain ⟨g1, n1, m1, l1⟩ := put_some p1
  obtain ⟨g2, n2, m2', l2⟩ := put_some p2
  have hm1 : s1'.m = mj := m1
  have e2' : effI P pf call mdi b ops i oi (s.mem mj) = some (vi, m2) := by
    rw [← e2]
    refine effI_congr (by rw [q1.m, hm1]; rfl) (by rw [q1.nt, n1]) (fun d hd => ?_)
    rw [q1.get, g1]
    by_cases e : oj.dst = some d
    · exact (a1 d e hd).elim
    · rw [if_neg e]
  obtain ⟨mi, k1, k2⟩ := hind vj mj vi m2 e1 e2'
  have hnt : s1.nt = s.nt := by rw [q1.nt, n1]; rfl
  obtain ⟨t1', ht1⟩ := put_can (s := s.mem mi) (d := oi.dst) (v := vi) (fun e he => by have := l2 e he; show Nat.blt e s.nt = true; rw [← hnt]; exact this)
  obtain ⟨t1, hs1, r1⟩ := step_eff2 k1 ht1
  obtain ⟨g3, n3, m3, _⟩ := put_some ht1
  have k2' : effI P pf call mdj b ops j oj t1 = some (vj, m2) := by
    rw [← k2]
    refine effI_congr (by rw [r1.m, m3]) (by rw [r1.nt, n3]) (fun d hd => ?_)
    rw [r1.get, g3]
    by_cases e : oi.dst = some d
    · exact (a3 d e hd).elim
    · rw [if_neg e]
  obtain ⟨t2', ht2⟩ := put_can (s := t1.mem m2) (d := oj.dst) (v := vj) (fun e he => by
    have := l1 e he
    have h9 : (t1.mem m2).nt = (s.mem mj).nt := by show t1.nt = s.nt; rw [r1.nt, n3]; rfl
    rw [h9]; exact this)
  obtain ⟨t2, hs2, r2⟩ := step_eff2 k2' ht2
  obtain ⟨g4, n4, m4, _⟩ := put_some ht2
  refine ⟨t1, t2, hs1, hs2, ⟨fun d => ?_, ?_, ?_⟩⟩
  · rw [r2.get, g4, q2.get, g2]
    show (if oj.dst = some d then vj else t1.get d) = if oi.dst = some d then vi else s1.get d
    rw [r1.get, g3, q1.get, g1]
    show (if oj.dst = some d then vj else if oi.dst = some d then vi else s.get d) = if oi.dst = some d then vi else if oj.dst = some d then vj else s.get d
    by_cases c1 : oj.dst = some d
    · have c2 := a2 d c1
      rw [if_pos c1, if_neg c2, if_pos c1]
    · rw [if_neg c1, if_neg c1]
  · rw [r2.nt, n4, q2.nt, n2]; show t1.nt = s1.nt; rw [r1.nt, n3, hnt]; rfl
  · rw [r2.m, m4, q2.m, m2']; rfl
end Go.AM
