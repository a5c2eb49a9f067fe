/-
  THE ABSTRACT MACHINE: numbers, strings, equality, aggregates. Conditions: none.
-/
import Derived.Test.YtdkmepjedjclkaaAmOps
import Derived.Lib.Strings
namespace Go.AM

theorem bytes_ext {a b : ByteArray} (h : a.data.toList = b.data.toList) : a = b := by
  cases a; cases b; simp at h; simp [h]

theorem str_extract (s : List UInt8) (l h : Nat) : (⟨s.toArray⟩ : ByteArray).extract l h = ⟨((s.drop l).take (h - l)).toArray⟩ := by
  apply bytes_ext
  rw [Lib.extract_data]

theorem str_append (a b : List UInt8) : (⟨a.toArray⟩ : ByteArray) ++ ⟨b.toArray⟩ = ⟨(a ++ b).toArray⟩ := by
  apply bytes_ext
  simp

theorem str_size (a : List UInt8) : (⟨a.toArray⟩ : ByteArray).size = a.length := by
  show a.toArray.size = _
  simp

theorem str_toList (a : List UInt8) : (⟨a.toArray⟩ : ByteArray).toList = a := ByteArray.toList_mk a

theorem sliceStr_run {P : Program} {w : World} {N : Nat → Prop} {i : Pl} {t : TypeId} {x r : AV} {v : Value} {lo hi : Option AV} {vl vh : Option Value} (hu : P.underlying t = some .string)
    (hr : sliceStr x lo hi = some r) (hx : Rep w N i x v)
    (hl : ∀ a, lo = some a → ∃ u, vl = some u ∧ Rep w N i a u) (hl0 : lo = none → vl = none) (hh : ∀ a, hi = some a → ∃ u, vh = some u ∧ Rep w N i a u) (hh0 : hi = none → vh = none) :
    ∃ z, (Instr.sliceAt t v vl vh none).run P w = .ok z w ∧ Rep w N i r z := by
  cases x <;> simp only [sliceStr] at hr <;> try (cases hr; done)
  rename_i s
  cases hx
  simp only [Option.bind_eq_some_iff] at hr
  obtain ⟨⟨l, h⟩, hb, hr⟩ := hr
  cases hr
  obtain ⟨h1, h2, h3⟩ := sliceBounds_run (P := P) false hb (Nat.le_refl _) hl hl0 hh hh0
  refine ⟨.string ((⟨s.toArray⟩ : ByteArray).extract l h), ?_, by rw [str_extract]; rfl⟩
  simp [Instr.sliceAt, Instr.slice, run_underlying hu, str_size, h1]

theorem arithA_run {P : Program} {w : World} {op : BinOp} {k : IntKind} {x y : Int} {r : AV} (t : TypeId) (h1 : op ≠ .shl) (h2 : op ≠ .shr) (hr : arithA op k x y = some r) :
    ∃ z, (binOp op t (.int k x) (.int k y)).run P w = .ok z w ∧ ∀ N i, Rep w N i r z := by
  by_cases hd : op = .quo ∨ op = .rem
  · by_cases hy : y = 0
    · rcases hd with rfl | rfl <;> simp [arithA, hy] at hr
    · rcases hd with rfl | rfl <;> (simp [arithA, hy] at hr; subst hr; exact ⟨_, by simp [binOp, Op.intDiv, hy], fun _ _ => rfl⟩)
  · cases op <;> first | exact (h1 rfl).elim | exact (h2 rfl).elim | exact (hd (.inl rfl)).elim | exact (hd (.inr rfl)).elim | skip
    all_goals
      simp only [arithA, bitsA, Option.some.injEq] at hr
      subst hr
      first
        | (refine ⟨_, ?_, fun _ _ => rfl⟩; simp only [binOp, ne_eq, not_true_eq_false, if_false]; rfl)

theorem shiftA_run {P : Program} {w : World} {op : BinOp} {k k' : IntKind} {x y : Int} {r : AV} (t : TypeId) (h : op = .shl ∨ op = .shr) (hr : shiftA op k x y = some r) :
    ∃ z, (binOp op t (.int k x) (.int k' y)).run P w = .ok z w ∧ ∀ N i, Rep w N i r z := by
  by_cases hy : y < 0
  · simp [shiftA, hy] at hr
  · rcases h with rfl | rfl
    · simp [shiftA, hy] at hr
      subst hr
      exact ⟨_, by simp [binOp, Op.shift, hy], fun _ _ => rfl⟩
    · simp [shiftA, hy] at hr
      subst hr
      exact ⟨_, by simp [binOp, Op.shift, hy], fun _ _ => rfl⟩

theorem strA_run {P : Program} {w : World} {op : BinOp} {x y : List UInt8} {r : AV} (t : TypeId) (hr : strA op x y = some r) :
    ∃ z, (binOp op t (.string ⟨x.toArray⟩) (.string ⟨y.toArray⟩)).run P w = .ok z w ∧ ∀ N i, Rep w N i r z := by
  have hb : ∀ op, op ≠ .shl → op ≠ .shr → binOp op t (.string ⟨x.toArray⟩) (.string ⟨y.toArray⟩) = Op.stringOp op ⟨x.toArray⟩ ⟨y.toArray⟩ := by
    intro op h1 h2
    cases op <;> first | rfl | exact (h1 rfl).elim | exact (h2 rfl).elim
  cases op <;> simp [strA] at hr <;> try (subst hr)
  all_goals rw [hb _ (by decide) (by decide)]
  case add =>
    cases hc : Nat.ble (x.length + y.length) 4611686018427387904 with
    | false => simp [hc] at hr
    | true =>
      simp [hc] at hr
      subst hr
      rw [Nat.ble_eq] at hc
      refine ⟨.string ⟨(x ++ y).toArray⟩, ?_, fun _ _ => rfl⟩
      have h0 : ¬ (IntKind.i64.max < (((⟨x.toArray⟩ : ByteArray).size + (⟨y.toArray⟩ : ByteArray).size : Nat) : Int)) := by
        rw [str_size, str_size, show IntKind.i64.max = 9223372036854775807 by decide]; omega
      simp only [Op.stringOp]
      rw [if_neg h0, str_append]
      rfl
  all_goals
    refine ⟨_, by simp only [Op.stringOp, str_toList]; rfl, fun _ _ => ?_⟩
    simp [Rep]

theorem eqGuard_scalar {op : BinOp} {t : TypeId} {x y : Operand} {u v : Value} (h : (∀ vs, u ≠ .agg vs) ∧ u ≠ .nilIface) : eqGuard op t x y u v = pure () := by
  cases op <;> first | rfl | skip
  all_goals (cases u <;> first | rfl | exact (h.1 _ rfl).elim | exact (h.2 rfl).elim)

/-! ### Aggregates -/
theorem part_run {P : Program} {w : World} {N : Nat → Prop} {i : Pl} {t : TypeId} {g : Bool} {n off : Nat} {cs : List AV} {vs : Array Value} {r : AV} (hg : aggT P t = some g) (hn : sizeT P t = some n)
    (hr : partA g n off cs = some r) (h : RepL w N i cs vs.toList) : ∃ z, (part t vs off).run P w = .ok z w ∧ Rep w N i r z := by
  have h1 : (isAgg t).run P w = .ok g w := run_isAgg hg w
  have h2 : (sizeOf t).run P w = .ok n w := run_sizeOf hn w
  cases g with
  | true =>
    simp only [partA, cond_true] at hr
    cases hc : Nat.ble (off + n) cs.length with
    | false => simp [hc] at hr
    | true =>
      simp [hc] at hr
      subst hr
      refine ⟨.agg (vs.extract off (off + n)), by simp [part, h1, h2], _, rfl, ?_⟩
      have : (vs.extract off (off + n)).toList = (vs.toList.drop off).take n := by
        simp [Array.toList_extract]
      rw [this]
      exact (h.drop off).take n
  | false =>
    simp only [partA, cond_false] at hr
    obtain ⟨v, hv, hr⟩ := h.get hr
    have hv' : vs[off]? = some v := by simpa using hv
    exact ⟨v, by simp [part, h1, hv'], hr⟩

theorem splice_rep {w : World} {N : Nat → Prop} {i : Pl} {cs ds : List AV} {vs us : List Value} (off : Nat) (h : RepL w N i cs vs) (k : RepL w N i ds us) :
    RepL w N i (splice cs off ds) (vs.take off ++ us ++ vs.drop (off + us.length)) := by
  unfold splice
  rw [k.length]
  exact ((h.take off).append k).append (h.drop _)

theorem foldl_set (us : List Value) : ∀ (vs : Array Value) (off j : Nat), off + j + us.length ≤ vs.size →
    ((us.zipIdx j).foldl (fun cs x => cs.setIfInBounds (off + x.2) x.1) vs).toList = vs.toList.take (off + j) ++ us ++ vs.toList.drop (off + j + us.length) := by
  induction us with
  | nil => intro vs off j h; simp
  | cons u us ih =>
    intro vs off j h
    simp only [List.zipIdx_cons, List.foldl_cons]
    rw [ih (vs.setIfInBounds (off + j) u) off (j + 1) (by simp at h ⊢; omega)]
    simp only [List.length_cons] at h
    apply List.ext_getElem?
    intro k
    simp only [Array.toList_setIfInBounds, List.getElem?_append, List.length_append, List.length_take, List.length_set, Array.length_toList, List.length_cons, List.getElem?_take, List.getElem?_drop, List.getElem?_set]
    have e1 : min (off + (j + 1)) vs.size = off + j + 1 := by omega
    have e2 : min (off + j) vs.size = off + j := by omega
    rw [e1, e2]
    by_cases h1 : k < off + j
    · have : ¬ off + j = k := by omega
      simp [show k < off + j + 1 + us.length by omega, show k < off + j + 1 by omega, show k < off + (j + 1) by omega, h1, show k < off + j + (us.length + 1) by omega, this]
    · by_cases h2 : k = off + j
      · subst h2
        simp [show off + j < off + j + 1 + us.length by omega, show off + j < off + (j + 1) by omega, show off + j < vs.size by omega]
      · by_cases h3 : k < off + j + 1 + us.length
        · have h4 : ¬ k < off + j + 1 := by omega
          have h5 : k < off + j + (us.length + 1) := by omega
          simp [h3, h4, h1, h5]
          rw [show k - (off + j) = (k - (off + j + 1)) + 1 by omega]
          simp
        · have h4 : ¬ k < off + j + (us.length + 1) := by omega
          simp only [h3, h4, if_false]
          rw [if_neg (by omega)]
          congr 1
          omega

theorem fillA_run {w : World} {N : Nat → Prop} {i : Pl} {place : Nat → Option (Nat × Nat)} : ∀ {parts : List (Nat × AV)} {vparts : List (Nat × Value)} {cs r : List AV} {vs : Array Value},
    vparts.map (·.1) = parts.map (·.1) → RepL w N i (parts.map (·.2)) (vparts.map (·.2)) → fillA place cs parts = some r → RepL w N i cs vs.toList →
    ∃ us, Instr.fill place vs vparts = some us ∧ RepL w N i r us.toList
  | [], [], cs, r, vs, _, _, h, k => by simp [fillA] at h; subst h; exact ⟨vs, rfl, k⟩
  | [], _ :: _, _, _, _, h, _, _, _ => by simp at h
  | _ :: _, [], _, _, _, h, _, _, _ => by simp at h
  | (j, a) :: parts, (j', v) :: vparts, cs, r, vs, h1, h2, h, k => by
    simp at h1
    obtain ⟨rfl, h1⟩ := h1
    obtain ⟨v0, r0, e0, h3, h4⟩ := h2
    simp at e0
    obtain ⟨rfl, rfl⟩ := e0
    simp only [fillA, Option.bind_eq_some_iff] at h
    obtain ⟨⟨off, size⟩, hp, h⟩ := h
    cases hc : (a.cells.length == size && (Nat.ble (off + size) cs.length && oneL a.cells)) with
    | false => simp [hc] at h
    | true =>
      simp only [hc, cond_true] at h
      simp only [Bool.and_eq_true, beq_iff_eq, Nat.ble_eq] at hc
      obtain ⟨g1, g2, g3⟩ := hc
      obtain ⟨g4, g5⟩ := Rep.cells g3 h3
      have hl := g4.length
      have hk := k.length
      simp only [Array.length_toList] at hl hk
      have hset := foldl_set v.cells.toList vs off 0 (by simp; omega)
      have k' := splice_rep off k g4
      rw [Nat.add_zero] at hset
      rw [← hset] at k'
      obtain ⟨us, g6, g7⟩ := fillA_run h1 h4 h k'
      refine ⟨us, ?_, g7⟩
      have e1 : ¬ (v.cells.size ≠ size) := by omega
      have e2 : ¬ (off + v.cells.size > vs.size) := by omega
      have e3 : v.cells.size = size := by omega
      have e4 : ¬ (vs.size < off + size) := by omega
      have e5 : Array.foldl (fun (cs : Array Value) (x : Value × Nat) => cs.setIfInBounds (off + x.snd) x.fst) vs v.cells.zipIdx 0 size = List.foldl (fun cs x => cs.setIfInBounds (off + x.snd) x.fst) vs v.cells.toList.zipIdx := by
        have e6 : v.cells.zipIdx.size = size := by simp [e3]
        rw [← e6, ← Array.foldl_toList]
        simp
      rw [← g6]
      simp only [Instr.fill, hp]
      simp [e3, e4, e5]
end Go.AM
