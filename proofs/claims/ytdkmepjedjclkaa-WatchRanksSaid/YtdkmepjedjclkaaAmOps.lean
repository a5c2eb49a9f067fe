/-
  THE ABSTRACT MACHINE: the operations that look at no memory do what the machine says. Conditions: none.
-/
import Derived.Test.YtdkmepjedjclkaaAmSim
import Derived.Laws.Tables
import Derived.Great.BuildSlice
import Derived.Laws.StructEq
import Derived.Laws.IdiomCopy
import Derived.Calls
namespace Go.AM

theorem Rep_ofCell {w : World} {N : Nat → Prop} {i : Pl} {v : Value} {a : AV} (h : ofCell v = some a) : Rep w N i a v := by
  unfold ofCell at h
  split at h <;> first | (cases h; rfl) | (cases h)

theorem RepL_ofCells {w : World} {N : Nat → Prop} {i : Pl} : ∀ {vs : List Value} {as : List AV}, ofCells vs = some as → RepL w N i as vs
  | [], as, h => by simp [ofCells] at h; subst h; rfl
  | v :: vs, as, h => by
    simp only [ofCells, Option.bind_eq_some_iff] at h
    obtain ⟨a, ha, r, hr, h⟩ := h
    cases h
    exact ⟨v, vs, rfl, Rep_ofCell ha, RepL_ofCells hr⟩

theorem Rep_ofConst {w : World} {N : Nat → Prop} {i : Pl} {v : Value} {a : AV} (h : ofConst v = some a) : Rep w N i a v := by
  unfold ofConst at h
  split at h
  · rename_i cs
    simp only [Option.map_eq_some_iff] at h
    obtain ⟨as, h, rfl⟩ := h
    exact ⟨cs, rfl, RepL_ofCells h⟩
  · exact Rep_ofCell h

/-- A frame's slots stand for the abstract ones. -/
structure StSim (w : World) (N : Nat → Prop) (i : Pl) (s : St) (a : Act) : Prop where
  slot : ∀ j, Rep w N i (s.get j) (a.tmps.getD j undef)
  size : a.tmps.size = s.nt
  dfr : a.defers = []

theorem StSim.mono {w : World} {N : Nat → Prop} {i : Pl} {w' : World} {N' : Nat → Prop} {i' : Pl} {s : St} {a : Act} (l : Le w N i w' N' i') (h : StSim w N i s a) : StSim w' N' i' s a :=
  ⟨fun j => Rep.mono l _ (h.slot j), h.size, h.dfr⟩

theorem StSim.ev {w : World} {N : Nat → Prop} {i : Pl} {s : St} {a : Act} (h : StSim w N i s a) (x : Operand) : Rep w N i (s.ev x) (a.eval x) := by
  cases x with
  | tmp t => exact h.slot t
  | const v =>
    show Rep w N i ((ofConst v).getD .undef) v
    cases hc : ofConst v with
    | none => exact trivial
    | some b => exact Rep_ofConst hc
  | global g => exact trivial
  | func f => exact ⟨#[], #[], rfl, rfl, rfl⟩

theorem StSim.evL {w : World} {N : Nat → Prop} {i : Pl} {s : St} {a : Act} (h : StSim w N i s a) : ∀ (xs : List Operand), RepL w N i (xs.map s.ev) (xs.map a.eval)
  | [] => rfl
  | x :: xs => ⟨_, _, rfl, h.ev x, h.evL xs⟩

theorem get_cons (d : Nat) (v : AV) (t : List (Nat × AV)) (j : Nat) : get ((d, v) :: t) j = if j = d then v else get t j := by
  by_cases e : j = d
  · simp [get, e]
  · have : (j == d) = false := by simpa using e
    simp [get, e, this]

theorem getD_set (a : Array Value) (d j : Nat) (v : Value) (hd : d < a.size) : (a.setIfInBounds d v).getD j undef = if j = d then v else a.getD j undef := by
  simp only [Array.getD_eq_getD_getElem?, Array.getElem?_setIfInBounds]
  by_cases e : d = j
  · subst e; simp [hd]
  · have : ¬ j = d := fun h => e h.symm
    simp [e, this]

theorem StSim.put {w : World} {N : Nat → Prop} {i : Pl} {s s' : St} {a : Act} (h : StSim w N i s a) {d : Option Nat} {v : AV} {u : Value} (hp : s.put d v = some s') (hr : Rep w N i v u) : StSim w N i s' (a.put d u) := by
  cases d with
  | none => simp [St.put] at hp; subst hp; exact h
  | some d =>
    simp only [St.put] at hp
    cases hlt : Nat.blt d s.nt with
    | false => simp [hlt] at hp
    | true =>
      simp [hlt] at hp
      subst hp
      have hd : d < a.tmps.size := by rw [h.size]; simpa [Nat.blt_eq] using hlt
      refine ⟨fun j => ?_, by simp [Act.put, h.size], h.dfr⟩
      show Rep w N i (AM.get ((d, v) :: s.t) j) ((a.tmps.setIfInBounds d u).getD j undef)
      rw [get_cons, getD_set _ _ _ _ hd]
      split
      · exact hr
      · exact h.slot j

theorem St.put_m {s s' : St} {d : Option Nat} {v : AV} (hp : s.put d v = some s') : s'.m = s.m ∧ s'.nt = s.nt := by
  cases d with
  | none => simp [St.put] at hp; subst hp; exact ⟨rfl, rfl⟩
  | some d =>
    simp only [St.put] at hp
    cases hlt : Nat.blt d s.nt <;> simp [hlt] at hp
    subst hp
    exact ⟨rfl, rfl⟩

/-! ### Cells of a value -/
theorem cells_one {v : Value} (h : v.oneCell' = true) : v.cells = #[v] := by
  cases v <;> simp [Value.oneCell'] at h <;> rfl

theorem Rep.cells {w : World} {N : Nat → Prop} {i : Pl} {a : AV} {v : Value} (ho : oneL a.cells = true) (h : Rep w N i a v) : RepL w N i a.cells v.cells.toList ∧ One v.cells.toList := by
  by_cases e : ∃ cs, a = .agg cs
  · obtain ⟨cs, rfl⟩ := e
    obtain ⟨vs, rfl, h⟩ := h
    exact ⟨h, RepL.oneL ho h⟩
  · have hc : a.cells = [a] := by cases a <;> first | rfl | exact (e ⟨_, rfl⟩).elim
    rw [hc] at ho ⊢
    have h1 : a.one = true := by simpa [oneL] using ho
    have h2 := Rep.one h1 h
    rw [cells_one h2]
    exact ⟨⟨v, [], rfl, h, rfl⟩, fun u hu => by simp at hu; subst hu; exact h2⟩

/-! ### Types -/
theorem sizeT_some {P : Program} {t : TypeId} {n : Nat} (h : sizeT P t = some n) : ∃ j, P.info? t = some j ∧ j.size = n := by
  simpa [sizeT, Option.map_eq_some_iff] using h
theorem bytesT_some {P : Program} {t : TypeId} {n : Nat} (h : bytesT P t = some n) : ∃ j, P.info? t = some j ∧ j.bytes = n := by
  simpa [bytesT, Option.map_eq_some_iff] using h
theorem zeroT_some {P : Program} {t : TypeId} {z : AV} (h : zeroT P t = some z) : ∃ j v, P.info? t = some j ∧ j.zero = some v ∧ ofConst v = some z := by
  simp only [zeroT, Option.bind_eq_some_iff] at h
  obtain ⟨j, h1, v, h2, h3⟩ := h
  exact ⟨j, v, h1, h2, h3⟩
theorem run_sizeOf {P : Program} {t : TypeId} {n : Nat} (h : sizeT P t = some n) (w : World) : (sizeOf t).run P w = .ok n w := by
  obtain ⟨j, h1, h2⟩ := sizeT_some h
  simp [sizeOf, typeInfo, h1, h2]
theorem run_zero {P : Program} {t : TypeId} {z : AV} (h : zeroT P t = some z) : ∃ v, (∀ w, (zeroValue t).run P w = .ok v w) ∧ ofConst v = some z ∧ ∃ j, P.info? t = some j ∧ j.zero = some v := by
  obtain ⟨j, v, h1, h2, h3⟩ := zeroT_some h
  exact ⟨v, fun w => by simp [zeroValue, typeInfo, h1, h2], h3, j, h1, h2⟩
theorem run_isAgg {P : Program} {t : TypeId} {g : Bool} (h : aggT P t = some g) (w : World) : (isAgg t).run P w = .ok g w := by
  unfold aggT at h
  cases hu : P.underlying t with
  | none => simp [hu] at h
  | some d =>
    simp [hu] at h
    cases d <;> (simp at h; subst h; simp [isAgg, run_underlying hu])

/-! ### Addresses -/
theorem add_lit (b o n : Nat) : Addr.add ⟨b, o, none⟩ n = ⟨b, o + n, none⟩ := Addr.add_lit b o n

theorem fieldA_run {P : Program} {w : World} {N : Nat → Prop} {i : Pl} {t : TypeId} {f : Nat} {fd : Field} {n : Nat} {x r : AV} {v : Value} (hf : fieldT P t f = some fd) (hn : sizeT P fd.type = some n) (h0 : n ≠ 0)
    (hr : fieldA fd.offset x = some r) (h : Rep w N i x v) : ∃ u, (Instr.fieldAt t v f).run P w = .ok u w ∧ Rep w N i r u := by
  unfold fieldT at hf
  have run : ∀ b o, (Instr.fieldAt t (.pointer (some ⟨b, o, none⟩)) f).run P w = .ok (.pointer (some ⟨b, o + fd.offset, none⟩)) w := by
    intro b o
    split at hf
    · rename_i fs hu
      have hs : (sizeOf fd.type).run P w = .ok n w := run_sizeOf hn w
      simp [Instr.fieldAt, run_underlying hu, hf, Instr.sureAddr, fieldPlace, hs, h0, add_lit]
    · cases hf
  cases x <;> simp [fieldA] at hr
  · subst hr
    obtain ⟨b, o, c, h1, rfl⟩ := h
    exact ⟨_, run b _, b, o, c, h1, by rw [Nat.add_assoc]⟩
  · subst hr
    obtain ⟨b, o, vs, h1, rfl, h2, h3, h4⟩ := h
    exact ⟨_, run b _, b, _, _, h1, rfl, h2.drop _, h3.drop _, h4.drop _⟩
  · subst hr
    obtain ⟨b, o, vs, h1, rfl, h2, h3, h4⟩ := h
    exact ⟨_, run b _, b, _, _, h1, rfl, h2.drop _, h3.drop _, h4.drop _⟩

theorem inR_iff {j : Int} {n : Nat} : inR j n = true ↔ 0 ≤ j ∧ j < n := by simp [inR]

theorem idxSl_run {P : Program} {w : World} {N : Nat → Prop} {i : Pl} {t e : TypeId} {n : Nat} {x y r : AV} {v u : Value} (hu : P.underlying t = some (.slice e)) (hn : sizeT P e = some n)
    (hr : idxSl n x y = some r) (h : Rep w N i x v) (k : Rep w N i y u) : ∃ z, (Instr.indexAt t v u).run P w = .ok z w ∧ Rep w N i r z := by
  cases y <;> simp only [idxSl] at hr <;> try (cases hr; done)
  rename_i kd j
  cases k
  have run : ∀ b o len cap, 0 ≤ j → j < (len : Nat) → (Instr.indexAt t (.slice (some ⟨b, o, none⟩) len cap) (.int kd j)).run P w = .ok (.pointer (some ⟨b, o + j.toNat * n, none⟩)) w := by
    intro b o len cap h0 h1
    have hs : (sizeOf e).run P w = .ok n w := run_sizeOf hn w
    simp [Instr.indexAt, asIntOf, run_underlying hu, h0, h1, hs, add_lit]
  cases x <;> simp only at hr <;> try (cases hr; done)
  · rename_i id es off len top
    cases hb : (es == n && inR j len) with
    | false => simp [hb] at hr
    | true =>
      simp [hb] at hr
      subst hr
      simp [inR_iff] at hb
      obtain ⟨rfl, h0, h1⟩ := hb
      obtain ⟨b, o, c, off', cap, g1, rfl, g2, g3, g4⟩ := h
      have : cap ≠ 0 := by omega
      exact ⟨_, run b _ _ _ h0 h1, b, o, c, g1, by rw [g2 this, Nat.add_assoc]⟩
  · rename_i ex len cells
    cases hb : inR j len with
    | false => simp [hb] at hr
    | true =>
      simp [hb] at hr
      subst hr
      rw [inR_iff] at hb
      obtain ⟨a, cap, vs, rfl, g2, g3, g4, g5, g6⟩ := h
      rcases g4 with ⟨h0, _⟩ | ⟨b, o, rfl, g1, g4⟩
      · omega
      · exact ⟨_, run b _ _ _ hb.1 hb.2, b, _, _, g1, rfl, g4.drop _, g5.drop _, g6.drop _⟩

theorem idxArr_run {P : Program} {w : World} {N : Nat → Prop} {i : Pl} {t e : TypeId} {len n : Nat} {x y r : AV} {v u : Value} (hu : P.underlying t = some (.array len e)) (hn : sizeT P e = some n)
    (hr : idxArr len n x y = some r) (h : Rep w N i x v) (k : Rep w N i y u) : ∃ z, (Instr.indexAt t v u).run P w = .ok z w ∧ Rep w N i r z := by
  cases y <;> simp only [idxArr] at hr <;> try (cases hr; done)
  rename_i kd j
  cases k
  cases hb : inR j len with
  | false => simp [hb] at hr
  | true =>
    simp only [hb, cond_true] at hr
    rw [inR_iff] at hb
    have run : ∀ b o, (Instr.indexAt t (.pointer (some ⟨b, o, none⟩)) (.int kd j)).run P w = .ok (.pointer (some ⟨b, o + j.toNat * n, none⟩)) w := by
      intro b o
      have hs : (sizeOf e).run P w = .ok n w := run_sizeOf hn w
      simp [Instr.indexAt, asIntOf, run_underlying hu, Instr.sureAddr, hb.1, hb.2, hs, add_lit]
    cases x <;> simp only at hr <;> try (cases hr; done)
    · cases hr
      obtain ⟨b, o, c, h1, rfl⟩ := h
      exact ⟨_, run b _, b, o, c, h1, by rw [Nat.add_assoc]⟩
    · cases hr
      obtain ⟨b, o, vs, h1, rfl, h2, h3, h4⟩ := h
      exact ⟨_, run b _, b, _, _, h1, rfl, h2.drop _, h3.drop _, h4.drop _⟩
    · cases hr
      obtain ⟨b, o, vs, h1, rfl, h2, h3, h4⟩ := h
      exact ⟨_, run b _, b, _, _, h1, rfl, h2.drop _, h3.drop _, h4.drop _⟩

/-! ### Slices -/
/-- A bound's value. -/
theorem bnd_run {w : World} {N : Nat → Prop} {i : Pl} {d : Nat} {x : Option AV} {j : Int} {v : Option Value} (hb : bnd d x = some j) (h : ∀ a, x = some a → ∃ u, v = some u ∧ Rep w N i a u) (h0 : x = none → v = none) :
    (v = none ∧ j = d) ∨ ∃ k, v = some (.int k j) := by
  unfold bnd at hb
  split at hb
  · cases hb; exact .inl ⟨h0 rfl, rfl⟩
  · cases hb
    obtain ⟨u, rfl, hu⟩ := h _ rfl
    cases hu
    exact .inr ⟨_, rfl⟩
  · cases hb

theorem bnds_some {n : Nat} {lo hi : Option AV} {l h : Nat} (hb : bnds n lo hi = some (l, h)) : ∃ jl jh, bnd 0 lo = some jl ∧ bnd n hi = some jh ∧ 0 ≤ jl ∧ jl ≤ jh ∧ jh ≤ n ∧ l = jl.toNat ∧ h = jh.toNat := by
  simp only [bnds, Option.bind_eq_some_iff] at hb
  obtain ⟨jh, h1, jl, h2, h3⟩ := hb
  cases hc : (decide (0 ≤ jl) && (decide (jl ≤ jh) && decide (jh ≤ (n : Int)))) with
  | false => simp [hc] at h3
  | true =>
    simp [hc] at h3
    simp at hc
    exact ⟨jl, jh, h2, h1, hc.1, hc.2.1, hc.2.2, h3.1.symm, h3.2.symm⟩

/-- Both bounds, as the model computes them. -/
theorem sliceBounds_run {P : Program} {w : World} {N : Nat → Prop} {i : Pl} {n cap : Nat} {lo hi : Option AV} {l h : Nat} {vl vh : Option Value} (sl : Bool) (hb : bnds n lo hi = some (l, h)) (hn : n ≤ cap)
    (hl : ∀ a, lo = some a → ∃ u, vl = some u ∧ Rep w N i a u) (hl0 : lo = none → vl = none) (hh : ∀ a, hi = some a → ∃ u, vh = some u ∧ Rep w N i a u) (hh0 : hi = none → vh = none) :
    (Instr.sliceBounds sl n cap vl vh none).run P w = .ok (l, h, cap) w ∧ l ≤ h ∧ h ≤ n := by
  obtain ⟨jl, jh, h1, h2, h3, h4, h5, rfl, rfl⟩ := bnds_some hb
  refine ⟨?_, by omega, by omega⟩
  have bound : ∀ (k : IntKind) (j : Int) (y : Nat) (code : BoundsCode), 0 ≤ j → j ≤ y → (Instr.sliceBound (.int k j) y code).run P w = .ok j.toNat w := by
    intro k j y code a b
    simp [Instr.sliceBound, asIntOf, a, b]
  have hcap : jh ≤ (cap : Nat) := by omega
  have h6 : 0 ≤ jh := by omega
  have h7 : jl ≤ ((jh.toNat : Nat) : Int) := by omega
  rcases bnd_run h1 hl hl0 with ⟨rfl, rfl⟩ | ⟨kl, rfl⟩ <;> rcases bnd_run h2 hh hh0 with ⟨rfl, rfl⟩ | ⟨kh, rfl⟩
  · simp [Instr.sliceBounds]
  · cases sl <;> simp [Instr.sliceBounds, bound kh jh cap _ h6 hcap]
  · simp [Instr.sliceBounds, bound kl jl n _ h3 h4]
  · cases sl <;> simp [Instr.sliceBounds, bound kh jh cap _ h6 hcap, bound kl jl _ _ h3 h7]

theorem sliceSl_run {P : Program} {w : World} {N : Nat → Prop} {i : Pl} {t e : TypeId} {n : Nat} {x r : AV} {v : Value} {lo hi : Option AV} {vl vh : Option Value} (hu : P.underlying t = some (.slice e)) (hn : sizeT P e = some n)
    (hr : sliceSl n x lo hi = some r) (hx : Rep w N i x v)
    (hl : ∀ a, lo = some a → ∃ u, vl = some u ∧ Rep w N i a u) (hl0 : lo = none → vl = none) (hh : ∀ a, hi = some a → ∃ u, vh = some u ∧ Rep w N i a u) (hh0 : hi = none → vh = none) :
    ∃ z, (Instr.sliceAt t v vl vh none).run P w = .ok z w ∧ Rep w N i r z := by
  have hs : (sizeOf e).run P w = .ok n w := run_sizeOf hn w
  cases x <;> simp only [sliceSl] at hr <;> try (cases hr; done)
  · cases hx
    simp only [Option.bind_eq_some_iff] at hr
    obtain ⟨⟨l, h⟩, hb, hr⟩ := hr
    cases hr
    obtain ⟨h1, h2, h3⟩ := sliceBounds_run (P := P) true hb (Nat.le_refl 0) hl hl0 hh hh0
    obtain rfl : h = 0 := by omega
    obtain rfl : l = 0 := by omega
    exact ⟨_, by simp [Instr.sliceAt, Instr.slice, run_underlying hu, h1, hs], rfl⟩
  · rename_i id es off len top
    cases he : es == n with
    | false => simp [he] at hr
    | true =>
      simp [he, Option.bind_eq_some_iff] at hr
      simp at he
      subst he
      obtain ⟨l, h, hb, rfl⟩ := hr
      obtain ⟨b, o, c, off', cap, g1, rfl, g2, g3, g4⟩ := hx
      obtain ⟨h1, h2, h3⟩ := sliceBounds_run (P := P) true hb g3 hl hl0 hh hh0
      refine ⟨_, by simp [Instr.sliceAt, Instr.slice, run_underlying hu, h1, hs]; rfl, b, o, c, if cap = l then off' else off' + l * es, cap - l, g1, ?_, ?_, by omega, ?_⟩
      · split <;> simp [add_lit]
      · intro hc
        have h5 : ¬ cap = l := by omega
        rw [if_neg h5, g2 (by omega), Nat.add_assoc]
      · have : l * es + (cap - l) * es = cap * es := by rw [← Nat.add_mul]; congr 1; omega
        omega
  · rename_i ex len cells
    simp only [Option.bind_eq_some_iff] at hr
    obtain ⟨⟨l, h⟩, hb, hr⟩ := hr
    cases hr
    obtain ⟨a, cap, vs, rfl, g2, g3, g4, g5, g6⟩ := hx
    obtain ⟨h1, h2, h3⟩ := sliceBounds_run (P := P) true hb g2 hl hl0 hh hh0
    refine ⟨_, by simp [Instr.sliceAt, Instr.slice, run_underlying hu, h1, hs]; rfl, if cap = l then a else a.add (l * n), cap - l, (vs.drop (l * n)).take ((h - l) * n), ?_, by omega, ?_, ?_, (g5.drop _).take _, (g6.drop _).take _⟩
    · split <;> rfl
    · intro hx
      simp at hx
      have := g3 hx.1
      omega
    · rcases g4 with ⟨h0, hv0⟩ | ⟨b, o, rfl, g1, g4⟩
      · subst hv0
        exact .inl ⟨by omega, by simp⟩
      · right
        refine ⟨b, if cap = l then o else o + l * n, by split <;> simp [add_lit], g1, ?_⟩
        by_cases hc : cap = l
        · have : h - l = 0 := by omega
          simp only [this, Nat.zero_mul, List.take_zero]
          intro j v hj
          simp at hj
        · rw [if_neg hc]
          exact (g4.drop _).take _

theorem sliceArr_run {P : Program} {m : Mem} {w : World} {N : Nat → Prop} {i : Pl} (s : Sim m w N i) {t e : TypeId} {len n : Nat} {x r : AV} {v : Value} {lo hi : Option AV} {vl vh : Option Value} (hu : P.underlying t = some (.array len e)) (hn : sizeT P e = some n)
    (hr : sliceArr len n x lo hi = some r) (hx : Rep w N i x v)
    (hl : ∀ a, lo = some a → ∃ u, vl = some u ∧ Rep w N i a u) (hl0 : lo = none → vl = none) (hh : ∀ a, hi = some a → ∃ u, vh = some u ∧ Rep w N i a u) (hh0 : hi = none → vh = none) :
    ∃ z, (Instr.sliceAt t v vl vh none).run P w = .ok z w ∧ Rep w N i r z := by
  have hs : (sizeOf e).run P w = .ok n w := run_sizeOf hn w
  simp only [sliceArr, Option.bind_eq_some_iff] at hr
  obtain ⟨⟨l, h⟩, hb, hr⟩ := hr
  obtain ⟨h1, h2, h3⟩ := sliceBounds_run (P := P) false hb (Nat.le_refl len) hl hl0 hh hh0
  cases x <;> simp only at hr <;> try (cases hr; done)
  · rename_i id off top
    cases hc : Nat.ble (off + len * n) top with
    | false => simp [hc] at hr
    | true =>
      simp [hc] at hr
      rw [Nat.ble_eq] at hc
      subst hr
      obtain ⟨b, o, c, g1, rfl⟩ := hx
      have hbd := s.bnd _ _ _ _ _ g1
      refine ⟨_, by simp [Instr.sliceAt, run_underlying hu, Instr.sureAddr, h1, hs]; rfl, b, o, c, if len = l then o + off else o + off + l * n, len - l, g1, ?_, ?_, by omega, ?_⟩
      · split <;> simp [add_lit]
      · intro hc
        have h5 : ¬ len = l := by omega
        rw [if_neg h5, Nat.add_assoc]
      · have : l * n + (len - l) * n = len * n := by rw [← Nat.add_mul]; congr 1; omega
        omega
  · rename_i cells
    cases hc : Nat.ble (len * n) cells.length with
    | false => simp [hc] at hr
    | true =>
      simp [hc] at hr
      rw [Nat.ble_eq] at hc
      subst hr
      obtain ⟨b, o, vs, g1, rfl, g4, g5, g6⟩ := hx
      refine ⟨_, by simp [Instr.sliceAt, run_underlying hu, Instr.sureAddr, h1, hs]; rfl, ⟨b, if len = l then o else o + l * n, none⟩, len - l, (vs.drop (l * n)).take ((h - l) * n), ?_, by omega, ?_, .inr ⟨b, _, rfl, g1, ?_⟩, (g5.drop _).take _, (g6.drop _).take _⟩
      · split <;> simp [add_lit]
      · intro hx
        simp at hx
        omega
      · by_cases hc : len = l
        · have : h - l = 0 := by omega
          simp only [this, Nat.zero_mul, List.take_zero]
          intro j v hj
          simp at hj
        · rw [if_neg hc]
          exact (g4.drop _).take _
end Go.AM
