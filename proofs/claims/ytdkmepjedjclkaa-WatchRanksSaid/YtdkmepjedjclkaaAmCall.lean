/-
  THE ABSTRACT MACHINE: objects become values; functions that are evaluated apart. Conditions: none.
-/
import Derived.Test.YtdkmepjedjclkaaAmOps9
namespace Go.AM

/-- The rest of the world goes on, the heap of objects as it was. -/
theorem Sim.below {m : Mem} {w : World} {N : Nat → Prop} {i : Pl} (s : Sim m w N i) {w' : World} {N' : Nat → Prop} (hs : w.heap.size ≤ w'.heap.size) (hk : ∀ b, b < w.heap.size → w'.heap[b]? = w.heap[b]?)
    (h1 : ∀ b, N b → N' b) (h2 : ∀ b, N' b → N b ∨ w.heap.size ≤ b) (h3 : ∀ b, N' b → b < w'.heap.size) (ho : w'.os = w.os) (ht : w'.tape = w.tape) (hu : w'.output = w.output) :
    Sim m w' N' i ∧ Ext m w N i m w' N' i := by
  have l : Le w N i w' N' i := ⟨h1, fun b hb => hk b (s.nlt b hb), fun _ _ _ h => h⟩
  refine ⟨⟨fun id o h => ?_, s.inj, s.top, h3, s.bnd⟩, ⟨ho, ht, hu, hs, h1, fun _ _ _ h => h, fun b hb _ => hk b hb, fun _ h => .inl h, fun b hb => (h2 b hb).imp_right .inr, Nat.le_refl _, fun _ t x h => .inl ⟨t, x, h⟩⟩⟩
  obtain ⟨b, p, c, g1, g2, g3⟩ := s.live id o h
  have hlt := g3.lt
  exact ⟨b, p, c, g1, fun hb => (h2 b hb).elim g2 (fun h => by omega), g3.mono l (hk b hlt)⟩

/-- An object becomes a value. -/
theorem frzV_run {m m' : Mem} {w : World} {N : Nat → Prop} {i : Pl} (s : Sim m w N i) {v r : AV} {u : Value} (hr : frzV v m = some (r, m')) (hv : Rep w N i v u) :
    ∃ N', Sim m' w N' i ∧ Ext m w N i m' w N' i ∧ Rep w N' i r u ∧ m'.nx = m.nx := by
  unfold frzV at hr
  split at hr
  · rename_i id off top
    split at hr
    · rename_i xs ho
      cases hc : xs.length == top with
      | false => simp [hc] at hr
      | true =>
        simp only [hc, cond_true, Option.some.injEq, Prod.mk.injEq] at hr
        obtain ⟨rfl, rfl⟩ := hr
        simp at hc
        obtain ⟨b, o, c, h1, rfl⟩ := hv
        obtain ⟨g0, arr, elem, fr, vs, g1, g2, g3, g4, g5, g6, g7⟩ := s.cells ho hc h1
        obtain ⟨k1, k2, k3⟩ := s.freeze ho (by rw [show AObj.top (.cells xs) = top from hc]; exact h1)
        refine ⟨_, k1, k2, ?_, rfl⟩
        cases hcl : closedL xs with
        | true => exact ⟨b, o + off, vs.drop off, .inr rfl, rfl, g5.drop off, g6.drop off, (RepL.closed _ hcl (RepL.mono k3 _ g7)).drop off⟩
        | false => exact ⟨b, o + off, vs.drop off, .inr rfl, rfl, g5.drop off, g6.drop off, (RepL.mono k3 _ g7).drop off⟩
    · cases hr
  · rename_i id es off n top
    split at hr
    · rename_i xs ho
      cases hc : (xs.length == top && (closedL xs && Nat.ble (off + n * es) top)) with
      | false => simp [hc] at hr
      | true =>
        simp only [hc, cond_true, Option.some.injEq, Prod.mk.injEq] at hr
        obtain ⟨rfl, rfl⟩ := hr
        simp only [Bool.and_eq_true, beq_iff_eq, Nat.ble_eq] at hc
        obtain ⟨c1, c2, c3⟩ := hc
        obtain ⟨b, o, c, off', cap, h1, rfl, q1, q2, q3⟩ := hv
        obtain ⟨g0, arr, elem, fr, vs, g1, g2, g3, g4, g5, g6, g7⟩ := s.cells ho c1 h1
        obtain ⟨k1, k2, k3⟩ := s.freeze ho (by rw [show AObj.top (.cells xs) = top from c1]; exact h1)
        refine ⟨_, k1, k2, ⟨⟨b, off', none⟩, cap, (vs.drop off).take (n * es), rfl, q2, (fun h => by cases h), .inr ⟨b, off', rfl, .inr rfl, ?_⟩, (g6.drop off).take _, ((RepL.closed _ c2 (RepL.mono k3 _ g7)).drop off).take _⟩, rfl⟩
        by_cases hcap : cap = 0
        · have : n = 0 := by omega
          subst this
          intro j x hj
          simp at hj
        · rw [q1 hcap]; exact (g5.drop off).take _
    · cases hr
  · simp only [Option.some.injEq, Prod.mk.injEq] at hr
    obtain ⟨rfl, rfl⟩ := hr
    exact ⟨N, s, Ext.refl _ _ _ _, hv, rfl⟩

theorem frzArgs_run {w : World} {i : Pl} : ∀ {as : List AV} {m m' : Mem} {N : Nat → Prop} {bs : List AV} {us : List Value}, Sim m w N i → frzArgs as m = some (bs, m') → RepL w N i as us →
    ∃ N', Sim m' w N' i ∧ Ext m w N i m' w N' i ∧ RepL w N' i bs us ∧ m'.nx = m.nx
  | [], m, m', N, bs, us, s, hr, hv => by
    simp only [frzArgs, Option.some.injEq, Prod.mk.injEq] at hr
    obtain ⟨rfl, rfl⟩ := hr
    exact ⟨N, s, Ext.refl _ _ _ _, hv, rfl⟩
  | a :: as, m, m', N, bs, us, s, hr, ⟨v, r, h1, h2, h3⟩ => by
    simp only [frzArgs, Option.bind_eq_some_iff] at hr
    obtain ⟨⟨b, m1⟩, hb, ⟨cs, m2⟩, hc, hr⟩ := hr
    cases hr
    subst h1
    obtain ⟨N1, s1, e1, r1, n1⟩ := frzV_run s hb h2
    obtain ⟨N2, s2, e2, r2, n2⟩ := frzArgs_run s1 hc (RepL.mono (e1.le s) _ h3)
    exact ⟨N2, s2, e1.trans e2, ⟨v, r, rfl, Rep.mono (e2.le s1) _ r1, r2⟩, n2.trans n1⟩

/-- An object's cells, told otherwise. -/
theorem Sim.retell {m : Mem} {w : World} {N : Nat → Prop} {i : Pl} (s : Sim m w N i) {id : Nat} {xs ys : List AV} (ho : m.h id = some (.cells xs)) (hl : ys.length = xs.length) (hr : ∀ b p c vs, i id xs.length = some (b, p, c) → CellsAt w b p vs → RepL w N i xs vs → RepL w N i ys vs) :
    Sim (m.set id (some (.cells ys))) w N i ∧ Ext m w N i (m.set id (some (.cells ys))) w N i := by
  have key : ∀ id1 o1, (m.set id (some (.cells ys))).h id1 = some o1 → ∃ o2, m.h id1 = some o2 ∧ o2.top = o1.top ∧ (∀ b p c, i id1 o2.top = some (b, p, c) → ObjRep w N i b p c o2 → ObjRep w N i b p c o1) := by
    intro id1 o1 h
    by_cases e : id1 = id
    · subst e
      simp [Mem.set, upd_same] at h
      subst h
      refine ⟨_, ho, hl.symm, ?_⟩
      rintro b p c hp ⟨arr, elem, fr, vs, g1, g2, g3, g4, g5, g6, g7⟩
      exact ⟨arr, elem, fr, vs, g1, g2, g3, by rw [hl]; exact g4, g5, g6, hr b p c vs hp g5 g7⟩
    · simp only [Mem.set, upd_ne _ _ e] at h
      exact ⟨o1, h, rfl, fun _ _ _ _ h => h⟩
  refine ⟨⟨fun id1 o1 h => ?_, fun id1 id2 o1 o2 b p c p' c' h1 h2 h3 h4 => ?_, fun id1 o1 t x h h2 => ?_, s.nlt, s.bnd⟩, ⟨rfl, rfl, rfl, Nat.le_refl _, fun _ h => h, fun _ _ _ h => h, fun _ _ _ => rfl, ?_, fun _ h => .inl h, Nat.le_refl _, fun _ t x h => .inl ⟨t, x, h⟩⟩⟩
  · obtain ⟨o2, h1, h2, h3⟩ := key _ _ h
    obtain ⟨b, p, c, g1, g2, g3⟩ := s.live _ _ h1
    exact ⟨b, p, c, by rw [← h2]; exact g1, g2, h3 _ _ _ g1 g3⟩
  · obtain ⟨o3, a1, a2, _⟩ := key _ _ h1
    obtain ⟨o4, b1, b2, _⟩ := key _ _ h2
    exact s.inj _ _ _ _ b p c p' c' a1 b1 (by rw [a2]; exact h3) (by rw [b2]; exact h4)
  · obtain ⟨o2, h1, h3, _⟩ := key _ _ h
    rw [← h3]; exact s.top _ _ _ _ h1 h2
  · rintro b ⟨id1, o1, p, c, h1, h2⟩
    obtain ⟨o2, h3, h4, _⟩ := key _ _ h1
    exact .inl ⟨id1, o2, p, c, h3, by rw [h4]; exact h2⟩

theorem frz1_run {s s' : St} {w : World} {N : Nat → Prop} {i : Pl} {a : Act} (hs : Sim s.m w N i) (ha : StSim w N i s a) {k : Nat} (hr : frz1 s k = some s') :
    ∃ N', Sim s'.m w N' i ∧ Ext s.m w N i s'.m w N' i ∧ StSim w N' i s' a ∧ s'.m.nx = s.m.nx := by
  unfold frz1 at hr
  cases hk : Nat.blt k 1000 with
  | true =>
    simp only [hk, cond_true, Option.bind_eq_some_iff] at hr
    obtain ⟨⟨r, m'⟩, h1, h2⟩ := hr
    obtain ⟨N', s1, e1, r1, n1⟩ := frzV_run hs h1 (ha.slot k)
    obtain ⟨hm, hnt⟩ := St.put_m h2
    have hm' : s'.m = m' := hm
    refine ⟨N', by rw [hm']; exact s1, by rw [hm']; exact e1, ⟨fun j => ?_, ?_, ha.dfr⟩, by rw [hm']; exact n1⟩
    · simp only [St.put] at h2
      cases hlt : Nat.blt k (s.mem m').nt with
      | false => simp [hlt] at h2
      | true =>
        simp [hlt] at h2
        subst h2
        show Rep w N' i (AM.get ((k, r) :: s.t) j) _
        rw [get_cons]
        split
        · rename_i e; subst e; exact r1
        · exact Rep.mono (e1.le hs) _ (ha.slot j)
    · rw [hnt]; exact ha.size
  | false =>
    simp only [hk, cond_false] at hr
    split at hr
    · rename_i id off top hg
      split at hr
      · rename_i xs ho
        cases hc : xs.length == top with
        | false => simp [hc] at hr
        | true =>
          simp only [hc, cond_true, Option.bind_eq_some_iff] at hr
          obtain ⟨v, hv, ⟨r, m'⟩, hf, hr⟩ := hr
          simp at hc
          have hsl := ha.slot (k % 1000)
          rw [hg] at hsl
          obtain ⟨b, o, c, h1, _⟩ := hsl
          obtain ⟨g0, arr, elem, fr, vs, g1, g2, g3, g4, g5, g6, g7⟩ := hs.cells ho hc h1
          obtain ⟨u, hu, hru⟩ := g7.get hv
          obtain ⟨N', s1, e1, r1, n1⟩ := frzV_run hs hf hru
          simp only at hr
          split at hr
          · rename_i ys hy
            cases hd : (ys.length == top && (Nat.blt (off + (k / 1000 - 1)) top && r.one)) with
            | false => simp [hd] at hr
            | true =>
              simp only [hd, cond_true, Option.some.injEq] at hr
              simp only [Bool.and_eq_true, beq_iff_eq] at hd
              subst hr
              have hb := s1.cells hy hd.1 h1
              obtain ⟨_, arr', elem', fr', vs', k1, k2, k3, k4, k5, k6, k7⟩ := hb
              have hsame : ∀ vs2, RepL w N' i ys vs2 → CellsAt w b o vs2 → RepL w N' i (ys.set (off + (k / 1000 - 1)) r) vs2 := by
                intro vs2 hl2 hc2
                have hlen := hl2.length
                have hlt : off + (k / 1000 - 1) < vs2.length := by
                  have := hd.2.1
                  simp only [Nat.blt_eq] at this
                  omega
                have e2 : vs2[off + (k / 1000 - 1)]? = some u := by
                  have h9 := hc2 _ _ (List.getElem?_eq_getElem hlt)
                  rw [g5 _ _ hu] at h9
                  rw [List.getElem?_eq_getElem hlt]
                  exact h9.symm
                have := RepL.set (off + (k / 1000 - 1)) hl2 r1
                rwa [show vs2.set (off + (k / 1000 - 1)) u = vs2 from by
                  apply List.ext_getElem?
                  intro q
                  rw [List.getElem?_set]
                  by_cases e : off + (k / 1000 - 1) = q
                  · subst e; rw [if_pos rfl, if_pos hlt, e2]
                  · rw [if_neg e]] at this
              obtain ⟨z1, z2⟩ := s1.retell (ys := ys.set (off + (k / 1000 - 1)) r) hy (by simp) (fun b2 p2 c2 vs2 hp hc2 hl2 => by
                rw [hd.1, h1] at hp
                cases hp
                exact hsame vs2 hl2 hc2)
              refine ⟨N', z1, e1.trans z2, ⟨fun j => Rep.mono (e1.le hs) _ (ha.slot j), ha.size, ha.dfr⟩, n1⟩
          · cases hr
      · cases hr
    · cases hr
      exact ⟨N, hs, Ext.refl _ _ _ _, ha, rfl⟩

theorem frzL_run {w : World} {i : Pl} {a : Act} : ∀ {l : List Nat} {s s' : St} {N : Nat → Prop}, Sim s.m w N i → StSim w N i s a → frzL l s = some s' →
    ∃ N', Sim s'.m w N' i ∧ Ext s.m w N i s'.m w N' i ∧ StSim w N' i s' a ∧ s'.m.nx = s.m.nx
  | [], s, s', N, hs, ha, hr => by
    simp only [frzL, Option.some.injEq] at hr
    subst hr
    exact ⟨N, hs, Ext.refl _ _ _ _, ha, rfl⟩
  | k :: l, s, s', N, hs, ha, hr => by
    simp only [frzL, Option.bind_eq_some_iff] at hr
    obtain ⟨s1, h1, h2⟩ := hr
    obtain ⟨N1, a1, a2, a3, a4⟩ := frz1_run hs ha h1
    obtain ⟨N2, b1, b2, b3, b4⟩ := frzL_run a1 a3 h2
    exact ⟨N2, b1, a2.trans b2, b3, b4.trans a4⟩

/-! ### Snapshots -/
theorem mapO_rep {w w' : World} {N N' : Nat → Prop} {i i' : Pl} {f : AV → Option AV} (hf : ∀ a b u, f a = some b → Rep w N i a u → Rep w' N' i' b u) : ∀ {as bs : List AV} {us : List Value}, mapO f as = some bs → RepL w N i as us → RepL w' N' i' bs us
  | [], bs, us, h, hl => by simp [mapO] at h; subst h; exact hl
  | a :: as, bs, us, h, ⟨v, r, h1, h2, h3⟩ => by
    simp only [mapO, Option.bind_eq_some_iff] at h
    obtain ⟨b, hb, cs, hc, h⟩ := h
    cases h
    exact ⟨v, r, h1, hf _ _ _ hb h2, mapO_rep hf hc h3⟩

theorem mapO_closed {f : AV → Option AV} (hf : ∀ a b, f a = some b → b.closed = true) : ∀ {as bs : List AV}, mapO f as = some bs → closedL bs = true
  | [], bs, h => by simp [mapO] at h; subst h; rfl
  | a :: as, bs, h => by
    simp only [mapO, Option.bind_eq_some_iff] at h
    obtain ⟨b, hb, cs, hc, h⟩ := h
    cases h
    simp [closedL, hf _ _ hb, mapO_closed hf hc]

theorem deep_closed {h : Nat → Option AObj} : ∀ (d : Nat) {v r : AV}, deep h d v = some r → r.closed = true
  | 0, v, r, hr => by simp [deep] at hr
  | d + 1, v, r, hr => by
    have cl : (bif v.closed then some v else none) = some r → r.closed = true := by
      intro hr
      cases hc : v.closed with
      | false => simp [hc] at hr
      | true => simp [hc] at hr; subst hr; exact hc
    cases v <;> simp only [deep] at hr <;> try exact cl hr
    · split at hr
      · rename_i xs ho
        rename_i off top _
        cases hc : (xs.length == top && Nat.ble off top) with
        | false => simp [hc] at hr
        | true =>
          simp only [hc, cond_true, Option.bind_eq_some_iff] at hr
          obtain ⟨ys, h1, hr⟩ := hr
          cases hr; rfl
      · cases hr
    · simp only [Option.bind_eq_some_iff] at hr
      obtain ⟨ys, h1, hr⟩ := hr
      cases hr; rfl
    · split at hr
      · rename_i es off n top _ xs ho
        cases hc : (xs.length == top && Nat.ble (off + n * es) top) with
        | false => simp [hc] at hr
        | true =>
          simp only [hc, cond_true, Option.bind_eq_some_iff] at hr
          obtain ⟨ys, h1, hr⟩ := hr
          cases hr; rfl
      · cases hr
    · split at hr
      · simp only [Option.bind_eq_some_iff] at hr
        obtain ⟨ys, h1, zs, h2, hr⟩ := hr
        cases hr; rfl
      · cases hr
    · simp only [Option.bind_eq_some_iff] at hr
      obtain ⟨ys, h1, hr⟩ := hr
      cases hr
      exact mapO_closed (fun a b => deep_closed d) h1
    · simp only [Option.bind_eq_some_iff] at hr
      obtain ⟨ys, h1, hr⟩ := hr
      cases hr
      exact mapO_closed (fun a b => deep_closed d) h1

/-- All that the heap of objects holds, taken as no longer written. -/
def NL (m : Mem) (N : Nat → Prop) (i : Pl) : Nat → Prop := fun b => N b ∨ Live m i b

theorem deep_rep {m : Mem} {w : World} {N : Nat → Prop} {i : Pl} (s : Sim m w N i) : ∀ (d : Nat) {v r : AV} {u : Value}, deep m.h d v = some r → Rep w N i v u → Rep w (NL m N i) P0 r u
  | 0, v, r, u, hr, _ => by simp [deep] at hr
  | d + 1, v, r, u, hr, hv => by
    have l : Le w N i w (NL m N i) i := ⟨fun _ h => .inl h, fun _ _ => rfl, fun _ _ _ h => h⟩
    have cl : (bif v.closed then some v else none) = some r → Rep w (NL m N i) P0 r u := by
      intro hr
      cases hc : v.closed with
      | false => simp [hc] at hr
      | true => simp [hc] at hr; subst hr; exact Rep.closed _ hc (Rep.mono l _ hv)
    have ih : ∀ {as bs : List AV} {us : List Value}, mapO (deep m.h d) as = some bs → RepL w N i as us → RepL w (NL m N i) P0 bs us := fun h1 h2 => mapO_rep (fun a b u => deep_rep s d) h1 h2
    cases v <;> simp only [deep] at hr <;> try exact cl hr
    · split at hr
      · rename_i id off top _ xs ho
        cases hc : (xs.length == top && Nat.ble off top) with
        | false => simp [hc] at hr
        | true =>
          simp only [hc, cond_true, Option.bind_eq_some_iff] at hr
          obtain ⟨ys, h1, hr⟩ := hr
          cases hr
          simp only [Bool.and_eq_true, beq_iff_eq] at hc
          obtain ⟨b, o, c, k1, rfl⟩ := hv
          obtain ⟨g0, arr, elem, fr, vs, g1, g2, g3, g4, g5, g6, g7⟩ := s.cells ho hc.1 k1
          exact ⟨b, o + off, vs.drop off, .inr ⟨id, _, o, c, ho, by rw [show AObj.top (.cells xs) = top from hc.1]; exact k1⟩, rfl, g5.drop off, g6.drop off, (ih h1 g7).drop off⟩
      · cases hr
    · simp only [Option.bind_eq_some_iff] at hr
      obtain ⟨ys, h1, hr⟩ := hr
      cases hr
      obtain ⟨b, off, vs, k1, rfl, k2, k3, k4⟩ := hv
      exact ⟨b, off, vs, .inl k1, rfl, k2, k3, ih h1 k4⟩
    · split at hr
      · rename_i id es off n top _ xs ho
        cases hc : (xs.length == top && Nat.ble (off + n * es) top) with
        | false => simp [hc] at hr
        | true =>
          simp only [hc, cond_true, Option.bind_eq_some_iff] at hr
          obtain ⟨ys, h1, hr⟩ := hr
          cases hr
          simp only [Bool.and_eq_true, beq_iff_eq, Nat.ble_eq] at hc
          obtain ⟨b, o, c, off', cap, k1, rfl, q1, q2, q3⟩ := hv
          obtain ⟨g0, arr, elem, fr, vs, g1, g2, g3, g4, g5, g6, g7⟩ := s.cells ho hc.1 k1
          refine ⟨⟨b, off', none⟩, cap, (vs.drop off).take (n * es), rfl, q2, (fun h => by cases h), .inr ⟨b, off', rfl, .inr ⟨id, _, o, c, ho, by rw [show AObj.top (.cells xs) = top from hc.1]; exact k1⟩, ?_⟩, (g6.drop off).take _, ih h1 ((g7.drop off).take _)⟩
          by_cases hcap : cap = 0
          · have : n = 0 := by omega
            subst this
            intro j x hj
            simp at hj
          · rw [q1 hcap]; exact (g5.drop off).take _
      · cases hr
    · split at hr
      · rename_i id _ g ks vs ho
        simp only [Option.bind_eq_some_iff] at hr
        obtain ⟨ys, h1, zs, h2, hr⟩ := hr
        cases hr
        obtain ⟨b, o, c, es, k1, rfl, k2, k3, k4, k5⟩ := s.mapAt ho hv
        exact ⟨b, es, es.size, .inr ⟨id, _, o, c, ho, k1⟩, rfl, k2, ih h1 k4, ih h2 k5⟩
      · cases hr
    · simp only [Option.bind_eq_some_iff] at hr
      obtain ⟨ys, h1, hr⟩ := hr
      cases hr
      obtain ⟨vs, rfl, k⟩ := hv
      exact ⟨vs, rfl, ih h1 k⟩
    · simp only [Option.bind_eq_some_iff] at hr
      obtain ⟨ys, h1, hr⟩ := hr
      cases hr
      obtain ⟨vs, rfl, k⟩ := hv
      exact ⟨vs, rfl, ih h1 k⟩

/-! ### Calls -/
def Fresh (m : Mem) (i : Pl) : Prop := ∀ k, m.nx ≤ k → ∀ t, i k t = none

theorem Fresh.ext {m : Mem} {w : World} {N : Nat → Prop} {i : Pl} {m' : Mem} {w' : World} {N' : Nat → Prop} {i' : Pl} (e : Ext m w N i m' w' N' i') (h : Fresh m i) : Fresh m' i' := by
  intro k hk t
  cases hx : i' k t with
  | none => rfl
  | some x =>
    rcases e.pl k t x hx with ⟨t', y, h1⟩ | ⟨h1, h2⟩
    · rw [h k (Nat.le_trans e.nx hk) t'] at h1; cases h1
    · omega

/-- What a call must do. -/
def CallOk (P : Program) (pf : FuncId → Bool) (call : CallF) : Prop :=
  ∀ g args m r, call g args m = some r → (∃ fn, P.funcs[g]? = some fn ∧ fn.body.isSome = true) ∧
    ∀ w N i (us : List Value), Sim m w N i → Fresh m i → RepL w N i args us →
      Calls P g us.toArray w fun e w' => ∃ v N' i', e = .returned v ∧ Sim r.2 w' N' i' ∧ Ext m w N i r.2 w' N' i' ∧ Rep w' N' i' r.1 v ∧ (pf g = true → r.1.closed = true)

theorem sim_empty {w : World} {N : Nat → Prop} (h : ∀ b, N b → b < w.heap.size) : Sim Mem.empty w N P0 :=
  ⟨fun _ _ h => (nomatch h), fun _ _ _ _ _ _ _ _ _ _ h => (nomatch h), fun _ _ _ _ h => (nomatch h), h, fun _ _ _ _ _ h => (nomatch h)⟩

theorem not_live_empty {i : Pl} {b : Nat} : ¬ Live Mem.empty i b := by rintro ⟨id, o, p, c, h, _⟩; cases h

theorem flat_rep {w w' : World} {N N' : Nat → Prop} {i i' : Pl} {a : AV} {v : Value} (hf : a.flat = true) (h : Rep w N i a v) : Rep w' N' i' a v := by
  have one : ∀ (a : AV) (v : Value), a.flat1 = true → Rep w N i a v → Rep w' N' i' a v := by
    intro a v hf h
    cases a <;> first | exact h | (simp [AV.flat1] at hf)
  have many : ∀ (as : List AV) (vs : List Value), flatL as = true → RepL w N i as vs → RepL w' N' i' as vs := by
    intro as
    induction as with
    | nil => exact fun vs _ h => h
    | cons a as ih =>
      rintro vs hf ⟨v, r, h1, h2, h3⟩
      simp [flatL] at hf
      exact ⟨v, r, h1, one a v hf.1 h2, ih r hf.2 h3⟩
  cases a <;> first
    | exact one _ _ hf h
    | (obtain ⟨vs, h1, h2⟩ := h; exact ⟨vs, h1, many _ _ hf h2⟩)

/-- A function that is evaluated apart is called. -/
theorem pure_call {P : Program} {pf : FuncId → Bool} {call : CallF} (hc : CallOk P pf call) {g : FuncId} (hg : pf g = true) {m : Mem} {w : World} {N : Nat → Prop} {i : Pl} (s : Sim m w N i) {as : List AV} {us : List Value} {r : Res}
    (hr : call g as Mem.empty = some r) (hcl : closedL as = true) (ha : RepL w N i as us) :
    Calls P g us.toArray w fun e w' => ∃ v N', e = .returned v ∧ Sim m w' N' i ∧ Ext m w N i m w' N' i ∧ Rep w' N' i r.1 v := by
  obtain ⟨_, h2⟩ := hc g as Mem.empty r hr
  refine Calls.mono (h2 w N P0 us (sim_empty s.nlt) (fun _ _ _ => rfl) (RepL.closed _ hcl ha)) ?_
  rintro e w' ⟨v, N', i', rfl, s', e', hv, hcl'⟩
  have hcl' := hcl' hg
  obtain ⟨k1, k2⟩ := s.below (w' := w') (N' := N') e'.size (fun b hb => e'.keep b hb not_live_empty) e'.hN (fun b hb => (e'.newN b hb).imp id (fun h => h.elim (fun h => (not_live_empty h).elim) id)) s'.nlt e'.os e'.tape e'.output
  exact ⟨v, N', rfl, k1, k2, Rep.closed _ hcl' hv⟩

theorem callA_run {P : Program} {pf : FuncId → Bool} {call : CallF} (hc : CallOk P pf call) {md : Nat} {m m' : Mem} {w : World} {N : Nat → Prop} {i : Pl} (s : Sim m w N i) (hf : Fresh m i) {f r : AV} {args : List AV} {vf : Value} {us : List Value}
    (hr : callA pf call md m f args = some (r, m')) (hv : Rep w N i f vf) (ha : RepL w N i args us) :
    ∃ g fs cs fn, vf = .func (.func g) fs cs ∧ P.funcs[g]? = some fn ∧ fn.body.isSome = true ∧ Calls P g (fs.toList ++ us ++ cs.toList).toArray w fun e w' => ∃ v N' i', e = .returned v ∧ Sim m' w' N' i' ∧ Ext m w N i m' w' N' i' ∧ Rep w' N' i' r v := by
  unfold callA at hr
  split at hr
  · rename_i g first caps
    obtain ⟨fs, cs, rfl, h1, h2⟩ := hv
    have hall : RepL w N i (first ++ args ++ caps) (fs.toList ++ us ++ cs.toList) := (h1.append ha).append h2
    cases hp : pf g with
    | false =>
      simp only [hp, cond_false] at hr
      obtain ⟨⟨fn, k1, k2⟩, k3⟩ := hc g _ _ _ hr
      refine ⟨g, fs, cs, fn, rfl, k1, k2, Calls.mono (k3 w N i _ s hf hall) ?_⟩
      rintro e w' ⟨v, N', i', h1, h2, h3, h4, _⟩
      exact ⟨v, N', i', h1, h2, h3, h4⟩
    | true =>
      simp only [hp, cond_true] at hr
      cases hm : md == 2 with
      | true =>
        simp only [hm, cond_true, Option.bind_eq_some_iff] at hr
        obtain ⟨⟨as, m1⟩, hz, hr⟩ := hr
        cases hcl : closedL as with
        | false => simp [hcl] at hr
        | true =>
          simp only [hcl, cond_true, Option.bind_eq_some_iff] at hr
          obtain ⟨q, hq, hr⟩ := hr
          cases hr
          obtain ⟨⟨fn, k1, k2⟩, _⟩ := hc g _ _ _ hq
          obtain ⟨N1, s1, e1, r1, n1⟩ := frzArgs_run s hz hall
          refine ⟨g, fs, cs, fn, rfl, k1, k2, Calls.mono (pure_call hc hp s1 hq hcl r1) ?_⟩
          rintro e w' ⟨v, N', rfl, s', e', hv'⟩
          exact ⟨v, N', i, rfl, s', e1.trans e', hv'⟩
      | false =>
        simp only [hm, cond_false] at hr
        cases hcl : closedL (first ++ args ++ caps) with
        | true =>
          simp only [hcl, cond_true, Option.bind_eq_some_iff] at hr
          obtain ⟨q, hq, hr⟩ := hr
          cases hr
          obtain ⟨⟨fn, k1, k2⟩, _⟩ := hc g _ _ _ hq
          refine ⟨g, fs, cs, fn, rfl, k1, k2, Calls.mono (pure_call hc hp s hq hcl hall) ?_⟩
          rintro e w' ⟨v, N', rfl, s', e', hv'⟩
          exact ⟨v, N', i, rfl, s', e', hv'⟩
        | false =>
          simp only [hcl, cond_false, Option.bind_eq_some_iff] at hr
          obtain ⟨as, hd, q, hq, hr⟩ := hr
          cases hfl : q.1.flat with
          | false => simp [hfl] at hr
          | true =>
            simp only [hfl, cond_true, Option.some.injEq, Prod.mk.injEq] at hr
            obtain ⟨rfl, rfl⟩ := hr
            obtain ⟨⟨fn, k1, k2⟩, k3⟩ := hc g _ _ _ hq
            have hd2 : RepL w (NL m N i) P0 as (fs.toList ++ us ++ cs.toList) := mapO_rep (fun a b u => deep_rep s deepNo) hd hall
            have hN : ∀ b, NL m N i b → b < w.heap.size := by
              rintro b (h | h)
              · exact s.nlt b h
              · exact (s.liveN h).2
            refine ⟨g, fs, cs, fn, rfl, k1, k2, Calls.mono (k3 w (NL m N i) P0 _ (sim_empty hN) (fun _ _ _ => rfl) hd2) ?_⟩
            rintro e w' ⟨v, N', i', rfl, s', e', hv', _⟩
            obtain ⟨z1, z2⟩ := s.below (w' := w') (N' := N) e'.size (fun b hb => e'.keep b hb not_live_empty) (fun _ h => h) (fun _ h => .inl h) (fun b hb => Nat.lt_of_lt_of_le (s.nlt b hb) e'.size) e'.os e'.tape e'.output
            exact ⟨v, N, i, rfl, z1, z2, flat_rep hfl hv'⟩
  · cases hr
end Go.AM
