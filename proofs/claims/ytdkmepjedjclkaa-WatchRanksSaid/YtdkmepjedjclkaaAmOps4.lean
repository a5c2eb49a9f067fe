/-
  THE ABSTRACT MACHINE: every operation that looks at no memory does what the machine says. Conditions: none.
-/
import Derived.Test.YtdkmepjedjclkaaAmOps3
namespace Go.AM

theorem RepL_of_get {w : World} {N : Nat → Prop} {i : Pl} : ∀ {as : List AV} {vs : List Value}, vs.length = as.length → (∀ (j : Nat) a v, as[j]? = some a → vs[j]? = some v → Rep w N i a v) → RepL w N i as vs
  | [], vs, h, _ => by cases vs with | nil => rfl | cons _ _ => simp at h
  | a :: as, vs, h, k => by
    cases vs with
    | nil => simp at h
    | cons v vs => exact ⟨v, vs, rfl, k 0 a v rfl rfl, RepL_of_get (by simpa using h) (fun j a v h1 h2 => k (j + 1) a v (by simpa using h1) (by simpa using h2))⟩

theorem repl_length (n : Nat) (zs : List AV) : (repl n zs).length = n * zs.length := by
  unfold repl
  split <;> simp [List.length_flatten]

theorem flatten_get (n : Nat) (zs : List AV) (j : Nat) (h : j < n * zs.length) : ((List.replicate n zs).flatten)[j]? = zs[j % zs.length]? := by
  induction n generalizing j with
  | zero => simp at h
  | succ n ih =>
    rw [List.replicate_succ, List.flatten_cons]
    by_cases h1 : j < zs.length
    · rw [List.getElem?_append_left h1, Nat.mod_eq_of_lt h1]
    · rw [List.getElem?_append_right (by omega), ih (j - zs.length) (by rw [Nat.succ_mul] at h; omega)]
      have : j % zs.length = (j - zs.length) % zs.length := by
        rw [Nat.mod_eq_sub_mod (by omega)]
      rw [this]

theorem repl_get (n : Nat) (zs : List AV) (j : Nat) (h : j < n * zs.length) : (repl n zs)[j]? = zs[j % zs.length]? := by
  unfold repl
  split
  · rename_i z
    simp at h
    simp [h, Nat.mod_one]
  · exact flatten_get n _ j h

theorem repl_rep {w : World} {N : Nat → Prop} {i : Pl} {zs : List AV} {vs : Array Value} (h : RepL w N i zs vs.toList) (n k : Nat) (hk : k = n * zs.length) :
    RepL w N i (repl n zs) ((Array.range k).map (vs[· % vs.size]!)).toList := by
  have hl := h.length
  rw [Array.length_toList] at hl
  subst hk
  refine RepL_of_get (by simp [repl_length]) (fun j a v h1 h2 => ?_)
  have hj : j < n * zs.length := by
    have := (List.getElem?_eq_some_iff.1 h1).1
    rwa [repl_length] at this
  rw [repl_get n zs j hj] at h1
  obtain ⟨u, hu, hr⟩ := h.get h1
  simp [hj] at h2
  subst h2
  rw [hl]
  have : vs[j % zs.length]? = some u := by simpa using hu
  obtain ⟨hlt, e⟩ := Array.getElem?_eq_some_iff.1 this
  rw [getElem!_pos vs _ hlt, e]
  exact hr

theorem splice_len {cs ds : List AV} {off : Nat} (h : off + ds.length ≤ cs.length) : (splice cs off ds).length = cs.length := by
  simp [splice]
  omega

theorem fillA_len {place : Nat → Option (Nat × Nat)} : ∀ {parts : List (Nat × AV)} {cs r : List AV}, fillA place cs parts = some r → r.length = cs.length
  | [], cs, r, h => by simp [fillA] at h; rw [h]
  | (j, a) :: parts, cs, r, h => by
    simp only [fillA, Option.bind_eq_some_iff] at h
    obtain ⟨⟨off, size⟩, hp, h⟩ := h
    cases hc : (a.cells.length == size && (Nat.ble (off + size) cs.length && oneL a.cells)) with
    | false => simp [hc] at h
    | true =>
      simp only [hc, cond_true] at h
      simp only [Bool.and_eq_true, beq_iff_eq, Nat.ble_eq] at hc
      rw [fillA_len h, splice_len (by omega)]

theorem placesT_some {P : Program} : ∀ {fs : List Field} {pl : List (Nat × Nat)}, placesT P fs = some pl → fs.mapM (fun f => (P.info? f.type).map fun i => (f.offset, i.size)) = some pl
  | [], pl, h => by simp [placesT] at h; subst h; rfl
  | f :: fs, pl, h => by
    simp only [placesT, Option.bind_eq_some_iff] at h
    obtain ⟨n, hn, l, hl, h⟩ := h
    cases h
    obtain ⟨j, hj, hj2⟩ := sizeT_some hn
    simp [List.mapM_cons, hj, hj2, placesT_some hl]

theorem ofConst_agg {w : World} {N : Nat → Prop} {i : Pl} {v : Value} {z : AV} (h : ofConst v = some z) : RepL w N i z.cells v.cells.toList := by
  unfold ofConst at h
  split at h
  · rename_i cs
    simp only [Option.map_eq_some_iff] at h
    obtain ⟨as, h, rfl⟩ := h
    exact RepL_ofCells h
  · rename_i hn
    have hr : Rep w N i z v := Rep_ofCell h
    unfold ofCell at h
    split at h <;> first | (cases h; exact ⟨_, [], rfl, hr, rfl⟩) | (cases h)

theorem build_run {P : Program} {w : World} {N : Nat → Prop} {i : Pl} {t : TypeId} {parts : List (Nat × AV)} {vparts : Array (Nat × Value)} {r : AV} (hr : buildA P t parts = some r)
    (h1 : vparts.toList.map (·.1) = parts.map (·.1)) (h2 : RepL w N i (parts.map (·.2)) (vparts.toList.map (·.2))) : ∃ z, (Instr.build t vparts).run P w = .ok z w ∧ Rep w N i r z := by
  simp only [buildA, Option.bind_eq_some_iff] at hr
  obtain ⟨z, hz, hr⟩ := hr
  obtain ⟨j, zv, hj, hjz, hzv⟩ := zeroT_some hz
  have hcells := ofConst_agg (w := w) (N := N) (i := i) hzv
  split at hr
  · rename_i fs hu
    simp only [Option.bind_eq_some_iff, Option.map_eq_some_iff] at hr
    obtain ⟨pl, hpl, cs, hf, rfl⟩ := hr
    obtain ⟨us, h3, h4⟩ := fillA_run h1 h2 hf hcells
    refine ⟨.agg us, run_build w t vparts us ?_, us, rfl, h4⟩
    have := placesT_some hpl
    simp only [Program.built, hj, hu, hjz, this]
    simpa using h3
  · rename_i n e hu
    simp only [Option.bind_eq_some_iff, Option.map_eq_some_iff] at hr
    obtain ⟨k, hk, cs, hf, rfl⟩ := hr
    obtain ⟨us, h3, h4⟩ := fillA_run h1 h2 hf hcells
    obtain ⟨je, hje, hje2⟩ := sizeT_some hk
    refine ⟨.agg us, run_build w t vparts us ?_, us, rfl, h4⟩
    simp only [Program.built, hj, hu, hjz, hje]
    rw [hje2]
    exact h3
  · cases hr

theorem buildSl_run {P : Program} {w : World} {N : Nat → Prop} {i : Pl} {t : TypeId} {len : Nat} {parts : List (Nat × AV)} {vparts : Array (Nat × Value)} {r : Nat × List AV} (hr : buildSlA P t len parts = some r)
    (h1 : vparts.toList.map (·.1) = parts.map (·.1)) (h2 : RepL w N i (parts.map (·.2)) (vparts.toList.map (·.2))) :
    ∃ us e, (Instr.buildSlice t len vparts).run P w = .ok (.slice (some ⟨w.heap.size, 0, none⟩) len len) (w.alloc (.cells us e)) ∧ RepL w N i r.2 us.toList ∧ One us.toList ∧ us.size = len * r.1 := by
  unfold buildSlA at hr
  split at hr
  · rename_i e hu
    simp only [Option.bind_eq_some_iff] at hr
    obtain ⟨n, hn, z, hz, hr⟩ := hr
    cases hc : (Nat.ble (len * n) 16777216 && z.cells.length == n) with
    | false => simp [hc] at hr
    | true =>
      simp only [hc, cond_true, Option.bind_eq_some_iff] at hr
      obtain ⟨cs, hf, hr⟩ := hr
      cases ho : oneL cs with
      | false => simp [ho] at hr
      | true =>
        simp [ho] at hr
        subst hr
        simp only [Bool.and_eq_true, Nat.ble_eq, beq_iff_eq] at hc
        obtain ⟨j, zv, hj, hjz, hzv⟩ := zeroT_some hz
        obtain ⟨j', hj', hn'⟩ := sizeT_some hn
        rw [hj] at hj'
        cases hj'
        have hcells := ofConst_agg (w := w) (N := N) (i := i) hzv
        have hrep := repl_rep hcells len (len * n) (by rw [hc.2])
        obtain ⟨us, h3, h4⟩ := fillA_run h1 h2 hf hrep
        have hlen : us.size = len * n := by
          have e1 := h4.length
          have e2 := fillA_len hf
          simp only [repl_length, hc.2, Array.length_toList] at e1 e2
          omega
        refine ⟨us, e, ?_, h4, RepL.oneL ho h4, hlen⟩
        have hb : ¬ (len * j.size > 2 ^ 24) := by rw [hn']; omega
        by_cases h0 : len * n = 0
        · have h3' : Instr.fill (fun x => some (x * j.size, j.size)) #[] vparts.toList = some us := by
            rw [h0, Array.range_zero'] at h3
            rw [hn']
            simpa using h3
          have h0' : len * j.size = 0 := by rw [hn']; exact h0
          simp [Instr.buildSlice, run_underlying hu, sizeOf, typeInfo, hj, h0', Array.range_zero', h3', newRow]
        · exact run_buildSlice w t e len vparts us j zv hu hj hjz hb (by rw [hn']; exact h0) (by rw [hn']; exact h3)
  · cases hr

/-- One operation has yielded a value. -/
structure Got (P : Program) (o : Oper) (a : Act) (m : Mem) (w : World) (N : Nat → Prop) (i : Pl) (pv : AV) (m' : Mem) : Prop where
  got : ∃ n v w' N' i', (execOp a.eval o).run P w = .ok n w' ∧ (n = .value v ∨ (n = .skip ∧ v = undef)) ∧ Sim m' w' N' i' ∧ Ext m w N i m' w' N' i' ∧ Rep w' N' i' pv v

theorem Got.same {P : Program} {o : Oper} {a : Act} {m : Mem} {w : World} {N : Nat → Prop} {i : Pl} {pv : AV} (hs : Sim m w N i) {v : Value} (h : (execOp a.eval o).run P w = .ok (.value v) w) (hr : Rep w N i pv v) : Got P o a m w N i pv m :=
  ⟨⟨_, v, w, N, i, h, .inl rfl, hs, Ext.refl _ _ _ _, hr⟩⟩

theorem parts_rep {w : World} {N : Nat → Prop} {i : Pl} {s : St} {a : Act} (ha : StSim w N i s a) (parts : Array (Nat × Operand)) :
    ((parts.map fun (i, x) => (i, a.eval x)).toList.map (·.1) = (parts.toList.map fun p => (p.1, s.ev p.2)).map (·.1)) ∧
    RepL w N i ((parts.toList.map fun p => (p.1, s.ev p.2)).map (·.2)) ((parts.map fun (i, x) => (i, a.eval x)).toList.map (·.2)) := by
  constructor
  · simp
  · have := ha.evL (parts.toList.map (·.2))
    simpa [Function.comp_def] using this

theorem evO_some {w : World} {N : Nat → Prop} {i : Pl} {s : St} {a : Act} (ha : StSim w N i s a) (x : Option Operand) : (∀ b, s.evO x = some b → ∃ u, x.map a.eval = some u ∧ Rep w N i b u) ∧ (s.evO x = none → x.map a.eval = none) := by
  cases x with
  | none => exact ⟨fun b h => by simp [St.evO] at h, fun _ => rfl⟩
  | some x => exact ⟨fun b h => by simp [St.evO] at h; subst h; exact ⟨_, rfl, ha.ev x⟩, fun h => by simp [St.evO] at h⟩

theorem fold2_run {P : Program} {w : World} {N : Nat → Prop} {i : Pl} {f : AV → AV → Option AV} {g : Value → Value → Sem Value} (hf : ∀ a b c x y, f a b = some c → Rep w N i a x → Rep w N i b y → ∃ z, (g x y).run P w = .ok z w ∧ Rep w N i c z) :
    ∀ (r : List AV) (vs : List Value) (a c : AV) (x : Value), foldA f a r = some c → Rep w N i a x → RepL w N i r vs → ∃ z, (vs.foldlM g x).run P w = .ok z w ∧ Rep w N i c z
  | [], vs, a, c, x, h, hx, hv => by
    cases hv
    simp [foldA] at h
    subst h
    exact ⟨x, rfl, hx⟩
  | b :: r, vs, a, c, x, h, hx, hv => by
    obtain ⟨y, vs', rfl, hy, hv⟩ := hv
    simp only [foldA, Option.bind_eq_some_iff] at h
    obtain ⟨d, hd, h⟩ := h
    obtain ⟨z, hz, hz2⟩ := hf _ _ _ _ _ hd hx hy
    obtain ⟨z', hz', hz3⟩ := fold2_run hf r vs' d c z h hz2 hv
    exact ⟨z', by simp [List.foldlM, hz, hz'], hz3⟩

theorem max2_run {P : Program} {w : World} {N : Nat → Prop} {i : Pl} (a b c : AV) (x y : Value) (h : max2A a b = some c) (hx : Rep w N i a x) (hy : Rep w N i b y) : ∃ z, (Builtin.max2 x y).run P w = .ok z w ∧ Rep w N i c z := by
  cases a <;> cases b <;> simp [max2A, kk] at h
  rename_i k n k' n'
  cases hx; cases hy
  by_cases e : k = k'
  · subst e
    simp at h
    subst h
    exact ⟨_, rfl, rfl⟩
  · simp [e] at h

theorem min2_run {P : Program} {w : World} {N : Nat → Prop} {i : Pl} (a b c : AV) (x y : Value) (h : min2A a b = some c) (hx : Rep w N i a x) (hy : Rep w N i b y) : ∃ z, (Builtin.min2 x y).run P w = .ok z w ∧ Rep w N i c z := by
  cases a <;> cases b <;> simp [min2A, kk] at h
  rename_i k n k' n'
  cases hx; cases hy
  by_cases e : k = k'
  · subst e
    simp at h
    subst h
    exact ⟨_, rfl, rfl⟩
  · simp [e] at h

/-- A frozen object. -/
theorem frozenPtr_run {P : Program} {m : Mem} {w : World} {N : Nat → Prop} {i : Pl} (hs : Sim m w N i) {e : TypeId} {x r : AV} {v : Value} (hr : frozenPtr x = some r) (hx : Rep w N i x v) :
    ∃ w' N', (Instr.box e v).run P w = .ok (.pointer (some ⟨w.heap.size, 0, none⟩)) w' ∧ Sim m w' N' i ∧ Ext m w N i m w' N' i ∧ Rep w' N' i r (.pointer (some ⟨w.heap.size, 0, none⟩)) := by
  unfold frozenPtr at hr
  cases ho : oneL x.cells with
  | false => simp [ho] at hr
  | true =>
    simp only [ho, cond_true, Option.some.injEq] at hr
    obtain ⟨h1, h2⟩ := Rep.cells ho hx
    obtain ⟨h3, h4⟩ := hs.allocN (.cells v.cells e)
    refine ⟨_, _, by simp [Instr.box, newVar, newRow], h3, h4, ?_⟩
    have l := h4.le hs
    have hc : CellsAt (w.alloc (.cells v.cells e)) w.heap.size 0 v.cells.toList := by
      intro j u hj
      simp at hj
      simpa using hj
    cases hcl : closedL x.cells with
    | true =>
      rw [hcl] at hr
      simp at hr
      subst hr
      exact ⟨_, 0, _, .inr rfl, rfl, hc, h2, RepL.closed _ hcl (RepL.mono l _ h1)⟩
    | false =>
      rw [hcl] at hr
      simp at hr
      subst hr
      exact ⟨_, 0, _, .inr rfl, rfl, hc, h2, RepL.mono l _ h1⟩

theorem head_get (l : List AV) : l.head? = l[0]? := by cases l <;> rfl

/-- A load out of memory that is not written. -/
theorem loadF_run {P : Program} {w : World} {N : Nat → Prop} {i : Pl} {t : TypeId} {g : Bool} {n : Nat} {x r : AV} {v : Value} (hg : aggT P t = some g) (hn : sizeT P t = some n) (hr : loadF g n x = some r) (hx : Rep w N i x v) :
    ∃ z, (Instr.loadAt t v).run P w = .ok z w ∧ Rep w N i r z := by
  have h1 : (isAgg t).run P w = .ok g w := run_isAgg hg w
  have h2 : (sizeOf t).run P w = .ok n w := run_sizeOf hn w
  have key : ∀ (i' : Pl) (cells : List AV) b off vs, v = .pointer (some ⟨b, off, none⟩) → CellsAt w b off vs → RepL w N i' cells vs →
      (bif g then (bif Nat.ble n cells.length then some (.agg (cells.take n)) else none) else cells.head?) = some r → (∀ a u, Rep w N i' a u → Rep w N i a u) → (∀ as us, RepL w N i' as us → RepL w N i as us) →
      ∃ z, (Instr.loadAt t v).run P w = .ok z w ∧ Rep w N i r z := by
    intro i' cells b off vs hv hc hl hr k1 k2
    subst hv
    cases g with
    | true =>
      cases hb : Nat.ble n cells.length with
      | false => simp [hb] at hr
      | true =>
        simp [hb] at hr
        rw [Nat.ble_eq] at hb
        subst hr
        have hlen : (vs.take n).length = n := by rw [List.length_take, hl.length]; omega
        have hld := run_loadCells_list (P := P) w ⟨b, off, none⟩ (vs.take n) (fun j u hj => by rw [add_lit]; exact hc.take n j u hj)
        rw [hlen] at hld
        exact ⟨.agg (vs.take n).toArray, by simp [Instr.loadAt, Instr.sureAddr, loadVar, h1, h2, hld], _, rfl, by simpa using k2 _ _ (hl.take n)⟩
    | false =>
      simp only [cond_false] at hr
      rw [head_get] at hr
      obtain ⟨u, hu, hru⟩ := hl.get hr
      have hcell : w.cell? ⟨b, off, none⟩ = some u := by simpa using hc 0 u hu
      exact ⟨u, by simp [Instr.loadAt, Instr.sureAddr, loadVar, h1, hcell], k1 _ _ hru⟩
  cases x <;> simp only [loadF] at hr <;> try (cases hr; done)
  · obtain ⟨b, off, vs, _, hv, hc, _, hl⟩ := hx
    have l : Le w N P0 w N i := ⟨fun _ h => h, fun _ _ => rfl, fun _ _ _ h => by simp [P0] at h⟩
    exact key P0 _ b off vs hv hc hl hr (fun a u h => Rep.mono l a h) (fun a u h => RepL.mono l a h)
  · obtain ⟨b, off, vs, _, hv, hc, _, hl⟩ := hx
    exact key i _ b off vs hv hc hl hr (fun _ _ h => h) (fun _ _ h => h)

theorem lenA_run {P : Program} {w : World} {N : Nat → Prop} {i : Pl} {t e ty : TypeId} {x : AV} {v : Value} {n : Nat} (hu : P.underlying t = some (.slice e)) (hn : ∀ b, x ≠ .str b) (hr : lenA x = some n) (hx : Rep w N i x v) :
    (Builtin.len_ #[t] ty #[v]).run P w = .ok (.int .i64 n) w := by
  cases x <;> simp [lenA] at hr
  · exact (hn _ rfl).elim
  · subst hr; cases hx; simp [Builtin.len_, run_underlying hu, goInt]
  · subst hr; obtain ⟨_, _, _, _, _, _, rfl, _⟩ := hx; simp [Builtin.len_, run_underlying hu, goInt]
  · subst hr; obtain ⟨_, _, _, rfl, _⟩ := hx; simp [Builtin.len_, run_underlying hu, goInt]

theorem str_get {b : List UInt8} {j : Nat} {c : UInt8} (h : b[j]? = some c) : (⟨b.toArray⟩ : ByteArray)[j]? = some c := by
  obtain ⟨h3, h4⟩ := List.getElem?_eq_some_iff.1 h
  have h5 : j < (⟨b.toArray⟩ : ByteArray).size := by rw [str_size]; omega
  have h6 : (⟨b.toArray⟩ : ByteArray)[j]? = some ((⟨b.toArray⟩ : ByteArray)[j]'h5) := dif_pos h5
  rw [h6, ← h4]
  rfl

/-- EVERY OPERATION THAT LOOKS AT NO MEMORY. -/
theorem pureA_run {P : Program} {w : World} {N : Nat → Prop} {i : Pl} {s : St} {a : Act} (hs : Sim s.m w N i) (ha : StSim w N i s a) {o : Oper} {md : Nat} {pv : AV} (hno : ∀ c, o.op = .call c → (md == 3) = false) (hr : pureA P md s o.op = some pv) : Got P o a s.m w N i pv s.m := by
  obtain ⟨dst, op, type, pos, after, guard⟩ := o
  simp only at hr
  unfold pureA at hr
  split at hr
  · -- move
    cases hr
    exact Got.same hs (by simp [execOp]) (ha.ev _)
  · cases hr
    exact Got.same hs (by simp [execOp]) (ha.ev _)
  · -- pick
    rename_i c x y
    split at hr
    · rename_i b hb
      cases hr
      have hc := ha.ev c
      rw [hb] at hc
      cases b
      · exact Got.same hs (v := a.eval y) (by simp [execOp, show a.eval c = .bool false from hc, asBool]) (ha.ev _)
      · exact Got.same hs (v := a.eval x) (by simp [execOp, show a.eval c = .bool true from hc, asBool]) (ha.ev _)
    · cases hr
  · -- box
    rename_i e x
    cases hm : md == 1 with
    | false => simp [hm] at hr
    | true =>
      simp only [hm, cond_true] at hr
      obtain ⟨w', N', h1, h2, h3, h4⟩ := frozenPtr_run (P := P) hs (e := e) hr (ha.ev x)
      exact ⟨⟨_, _, w', N', i, by simp [execOp, h1], .inl rfl, h2, h3, h4⟩⟩
  · -- load
    rename_i t x
    cases hm : md == 1 with
    | false => simp [hm] at hr
    | true =>
      simp only [hm, cond_true, Option.bind_eq_some_iff] at hr
      obtain ⟨g, hg, n, hn, hr⟩ := hr
      obtain ⟨z, h1, h2⟩ := loadF_run (P := P) hg hn hr (ha.ev x)
      exact Got.same hs (by simp [execOp, h1]) h2
  · -- build
    rename_i t parts
    obtain ⟨p1, p2⟩ := parts_rep ha parts
    obtain ⟨z, h1, h2⟩ := build_run (P := P) hr p1 p2
    exact Got.same hs (by simp [execOp, h1]) h2
  · -- buildSlice
    rename_i t n parts
    cases hm : md == 1 with
    | false => simp [hm] at hr
    | true =>
      simp only [hm, cond_true, Option.bind_eq_some_iff] at hr
      obtain ⟨⟨k, cs⟩, hb, hr⟩ := hr
      cases hcl : closedL cs with
      | false => simp [hcl] at hr
      | true =>
        simp [hcl] at hr
        subst hr
        obtain ⟨p1, p2⟩ := parts_rep ha parts
        obtain ⟨us, e, h1, h2, h3, h4⟩ := buildSl_run (P := P) hb p1 p2
        obtain ⟨g1, g2⟩ := hs.allocN (.cells us e)
        refine ⟨⟨_, _, _, _, i, by simp [execOp, h1], .inl rfl, g1, g2, ⟨w.heap.size, 0, none⟩, n, us.toList, rfl, Nat.le_refl _, fun _ => rfl, .inr ⟨_, 0, rfl, .inr rfl, ?_⟩, h3, RepL.closed _ hcl (RepL.mono (g2.le hs) _ h2)⟩⟩
        intro j u hj
        simp at hj
        simpa using hj
  · -- nilCheck
    rename_i x
    have hx := ha.ev x
    split at hr
    · rename_i id off top he
      cases hr
      rw [he] at hx
      obtain ⟨b, o, c, h1, h2⟩ := hx
      exact Got.same hs (by simp [execOp, h2]) ⟨b, o, c, h1, rfl⟩
    · rename_i cs he
      cases hr
      rw [he] at hx
      obtain ⟨b, o, vs, h1, h2, h3⟩ := hx
      exact Got.same hs (by simp [execOp, h2]) ⟨b, o, vs, h1, rfl, h3⟩
    · rename_i cs he
      cases hr
      rw [he] at hx
      obtain ⟨b, o, vs, h1, h2, h3⟩ := hx
      exact Got.same hs (by simp [execOp, h2]) ⟨b, o, vs, h1, rfl, h3⟩
    · rename_i f x1 x2 he
      cases hr
      rw [he] at hx
      obtain ⟨fs, cs, h1, h2⟩ := hx
      exact Got.same hs (by simp [execOp, h1]) ⟨fs, cs, rfl, h2⟩
    · cases hr
  · -- binOp
    rename_i op t x y yt
    obtain ⟨z, h1, h2, h3⟩ := binA_run (P := P) x y hr (ha.ev x) (ha.ev y)
    exact Got.same hs (by simp [execOp, h1, h2]) h3
  · -- unOp
    rename_i op t x
    have hx := ha.ev x
    unfold unA at hr
    split at hr
    · rename_i b he
      cases hr
      rw [he] at hx
      exact Got.same hs (v := .bool (!b)) (by simp [execOp, show a.eval x = .bool b from hx, Op.unary]) rfl
    · rename_i k n he
      cases hr
      rw [he] at hx
      exact Got.same hs (v := .int k (k.wrap (0 - n))) (by simp [execOp, show a.eval x = .int k n from hx, Op.unary, Op.intArith]) rfl
    · cases hr
  · -- makeInterface
    rename_i t x
    split at hr
    · cases hr
    · rename_i d hd hu
      cases hr
      refine Got.same hs (v := .iface t (a.eval x)) ?_ ⟨_, rfl, ha.ev x⟩
      have : (Instr.makeInterface t (a.eval x)).run P w = .ok (.iface t (a.eval x)) w := by
        unfold Instr.makeInterface
        simp only [Sem.run_bind, run_underlying hu, Result.andThen_ok]
        cases d <;> first | rfl | exact (hd _ rfl).elim
      simp [execOp, this]
    · cases hr
  · -- makeFunc
    rename_i f first caps
    cases hr
    refine Got.same hs (v := .func (.func f) (first.map a.eval) (caps.map a.eval)) (by simp [execOp, Instr.makeFunc]) ⟨_, _, rfl, ?_, ?_⟩
    · simpa using ha.evL first.toList
    · simpa using ha.evL caps.toList
  · -- slice
    rename_i t x lo hi
    obtain ⟨l1, l2⟩ := evO_some ha lo
    obtain ⟨h1, h2⟩ := evO_some ha hi
    split at hr
    · rename_i e hu
      simp only [Option.bind_eq_some_iff] at hr
      obtain ⟨n, hn, hr⟩ := hr
      obtain ⟨z, g1, g2⟩ := sliceSl_run (P := P) hu hn hr (ha.ev x) l1 l2 h1 h2
      exact Got.same hs (by simp [execOp, g1]) g2
    · rename_i len e hu
      simp only [Option.bind_eq_some_iff] at hr
      obtain ⟨n, hn, hr⟩ := hr
      obtain ⟨z, g1, g2⟩ := sliceArr_run (P := P) hs hu hn hr (ha.ev x) l1 l2 h1 h2
      exact Got.same hs (by simp [execOp, g1]) g2
    · rename_i hu
      obtain ⟨z, g1, g2⟩ := sliceStr_run (P := P) hu hr (ha.ev x) l1 l2 h1 h2
      exact Got.same hs (by simp [execOp, g1]) g2
    · cases hr
  · -- fieldAddr
    rename_i t x f
    simp only [Option.bind_eq_some_iff] at hr
    obtain ⟨fd, hf, n, hn, hr⟩ := hr
    cases h0 : n == 0 with
    | true => simp [h0] at hr
    | false =>
      simp only [h0, cond_false] at hr
      obtain ⟨z, g1, g2⟩ := fieldA_run (P := P) hf hn (by simpa using h0) hr (ha.ev x)
      exact Got.same hs (by simp [execOp, g1]) g2
  · -- field
    rename_i t x f
    simp only [Option.bind_eq_some_iff] at hr
    obtain ⟨fd, hf, g, hg, n, hn, hr⟩ := hr
    have hx := ha.ev x
    split at hr
    · rename_i cs he
      rw [he] at hx
      obtain ⟨vs, hv, hl⟩ := hx
      obtain ⟨z, g1, g2⟩ := part_run (P := P) hg hn hr hl
      refine Got.same hs (v := z) ?_ g2
      unfold fieldT at hf
      split at hf
      · rename_i fs hu
        simp [execOp, Instr.field, run_underlying hu, hf, hv, asAgg, g1]
      · cases hf
    · cases hr
  · -- indexAddr
    rename_i t x j
    split at hr
    · rename_i e hu
      simp only [Option.bind_eq_some_iff] at hr
      obtain ⟨n, hn, hr⟩ := hr
      obtain ⟨z, g1, g2⟩ := idxSl_run (P := P) hu hn hr (ha.ev x) (ha.ev j)
      exact Got.same hs (by simp [execOp, g1]) g2
    · rename_i l e hu
      simp only [Option.bind_eq_some_iff] at hr
      obtain ⟨n, hn, hr⟩ := hr
      obtain ⟨z, g1, g2⟩ := idxArr_run (P := P) hu hn hr (ha.ev x) (ha.ev j)
      exact Got.same hs (by simp [execOp, g1]) g2
    · cases hr
  · -- index
    rename_i t x j
    have hx := ha.ev x
    have hj := ha.ev j
    split at hr
    · rename_i b k n hu he hk
      rw [he] at hx
      rw [hk] at hj
      cases hb : inR n b.length with
      | false => simp [hb] at hr
      | true =>
        simp only [hb, cond_true, Option.map_eq_some_iff] at hr
        obtain ⟨c, hc, rfl⟩ := hr
        rw [inR_iff] at hb
        refine Got.same hs (v := .int .u8 c.toNat) ?_ rfl
        have h1 := str_get hc
        simp [execOp, Instr.index, asIntOf, show a.eval x = _ from hx, show a.eval j = _ from hj, run_underlying hu, hb.1, h1]
    · rename_i l e cs k n hu he hk
      rw [he] at hx
      rw [hk] at hj
      obtain ⟨vs, hv, hl⟩ := hx
      cases hb : inR n l with
      | false => simp [hb] at hr
      | true =>
        simp only [hb, cond_true, Option.bind_eq_some_iff] at hr
        obtain ⟨q, hq, g, hg, hr⟩ := hr
        rw [inR_iff] at hb
        obtain ⟨z, g1, g2⟩ := part_run (P := P) hg hq hr hl
        have h2 : (sizeOf e).run P w = .ok q w := run_sizeOf hq w
        exact Got.same hs (v := z) (by simp [execOp, Instr.index, asIntOf, hv, show a.eval j = _ from hj, run_underlying hu, hb.1, hb.2, h2, g1]) g2
    · cases hr
  · -- extract
    rename_i x k
    have hx := ha.ev x
    split at hr
    · rename_i vs he
      rw [he] at hx
      obtain ⟨us, hv, hl⟩ := hx
      obtain ⟨u, hu, h2⟩ := hl.get hr
      have : us[k]? = some u := by simpa using hu
      exact Got.same hs (v := u) (by simp [execOp, Instr.extract, hv, this]) h2
    · cases hr
  · -- call
    rename_i c
    simp only [hno c rfl, cond_false] at hr
    obtain ⟨callee, args, argTypes⟩ := c
    unfold pureCall at hr
    simp only at hr
    split at hr
    · split at hr
      · rename_i x t hx' ht'
        obtain rfl : args = #[x] := by cases args; simpa using hx'
        obtain rfl : argTypes = #[t] := by cases argTypes; simpa using ht'
        have hx := ha.ev x
        split at hr
        · rename_i e hu
          split at hr
          · cases hr
          · rename_i hn
            simp only [Option.map_eq_some_iff] at hr
            obtain ⟨n, hn', rfl⟩ := hr
            have := lenA_run (P := P) (ty := type) hu (fun b hb => hn b hb) hn' hx
            exact Got.same hs (v := .int .i64 n) (by simp [execOp, resolve, invoke, builtin, this]) rfl
        · rename_i hu
          split at hr
          · rename_i b he
            cases hr
            rw [he] at hx
            exact Got.same hs (v := .int .i64 b.length) (by simp [execOp, resolve, invoke, builtin, show a.eval x = _ from hx, Builtin.len_, run_underlying hu, goInt, str_size]) rfl
          · cases hr
        · rename_i n e hu
          cases hr
          exact Got.same hs (v := .int .i64 n) (by simp [execOp, resolve, invoke, builtin, Builtin.len_, run_underlying hu, goInt]) rfl
        · cases hr
      · cases hr
    · split at hr
      · rename_i x r he
        obtain ⟨z, g1, g2⟩ := fold2_run (P := P) max2_run _ _ _ _ _ hr (ha.ev x) (ha.evL r)
        refine Got.same hs (v := z) ?_ g2
        simp [execOp, resolve, invoke, builtin, Builtin.max_, he, g1]
      · cases hr
    · split at hr
      · rename_i x r he
        obtain ⟨z, g1, g2⟩ := fold2_run (P := P) min2_run _ _ _ _ _ hr (ha.ev x) (ha.evL r)
        refine Got.same hs (v := z) ?_ g2
        simp [execOp, resolve, invoke, builtin, Builtin.min_, he, g1]
      · cases hr
    · cases hr
  · cases hr
end Go.AM
