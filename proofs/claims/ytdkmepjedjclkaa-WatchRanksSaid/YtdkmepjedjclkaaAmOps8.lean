/-
  THE ABSTRACT MACHINE: make, append, copy. Conditions: none.
-/
import Derived.Test.YtdkmepjedjclkaaAmOps7
namespace Go.AM

theorem ObjRep.drop {w : World} {N : Nat → Prop} {i : Pl} {b p c off : Nat} {xs : List AV} (h : ObjRep w N i b p c (.cells xs)) (ho : off ≤ xs.length) : ObjRep w N i b (p + off) c (.cells (xs.drop off)) := by
  obtain ⟨arr, elem, fr, us, g1, g2, g3, g4, g5, g6, g7⟩ := h
  exact ⟨arr, elem, fr, us.drop off, g1, g2, g3, by simp; omega, g5.drop off, g6.drop off, g7.drop off⟩

theorem splice_end (xs cs : List AV) : splice xs xs.length cs = xs ++ cs := by simp [splice]

theorem makeA_run {P : Program} {m m' : Mem} {w : World} {N : Nat → Prop} {i : Pl} (hs : Sim m w N i) (hf : ∀ t, i m.nx t = none) {t e : TypeId} {n by' : Nat} {z x y r : AV} {v u : Value} (hu : P.underlying t = some (.slice e)) (hn : sizeT P e = some n) (hb : bytesT P e = some by') (hz : zeroT P e = some z)
    (hr : makeA n by' z m x y = some (r, m')) (hx : Rep w N i x v) (hy : Rep w N i y u) : ∃ q w' i', (Instr.makeSlice t v u).run P w = .ok q w' ∧ Sim m' w' N i' ∧ Ext m w N i m' w' N i' ∧ Rep w' N i' r q := by
  unfold makeA at hr
  split at hr
  · rename_i l c
    cases hx; cases hy
    cases hc : (decide (0 ≤ l) && (decide (l = c) && (room l.toNat by' && (z.cells.length == n && oneL z.cells)))) with
    | false => simp [hc] at hr
    | true =>
      simp only [hc, cond_true, Option.some.injEq, Prod.mk.injEq] at hr
      simp only [Bool.and_eq_true, decide_eq_true_eq, beq_iff_eq, room, Nat.ble_eq] at hc
      obtain ⟨h0, rfl, ⟨hr1, hr2⟩, hzl, hzo⟩ := hc
      obtain ⟨rfl, rfl⟩ := hr
      obtain ⟨jn, hj, rfl⟩ := sizeT_some hn
      obtain ⟨jb, hj', rfl⟩ := bytesT_some hb
      rw [hj] at hj'
      cases hj'
      obtain ⟨jz, zv, hj', hjz, hzc⟩ := zeroT_some hz
      rw [hj] at hj'
      cases hj'
      have hcells := ofConst_agg (w := w) (N := N) (i := i) hzc
      have hrep := repl_rep hcells l.toNat (l.toNat * jn.size) (by rw [hzl])
      have hone : oneL (repl l.toNat z.cells) = true := by
        unfold repl
        have hall : ∀ (xs : List AV), oneL xs = true ↔ ∀ a ∈ xs, a.one = true := by
          intro xs
          induction xs with
          | nil => simp [oneL]
          | cons a xs ih => simp [oneL, ih]
        rw [hall] at hzo ⊢
        split
        · rename_i q hq
          intro a ha
          rw [List.mem_replicate] at ha
          rw [ha.2]; exact hzo q (by simp [hq])
        · intro a ha
          rw [List.mem_flatten] at ha
          obtain ⟨l', h1, h2⟩ := ha
          rw [List.mem_replicate] at h1
          rw [h1.2] at h2
          exact hzo a h2
      obtain ⟨i', k1, k2, k3⟩ := hs.make' hf (elem := e) hrep (RepL.oneL hone hrep)
      have hlen : (repl l.toNat z.cells).length = l.toNat * jn.size := by rw [repl_length, hzl]
      refine ⟨_, _, i', run_make (P := P) w t e jn zv hu hj hjz .i64 .i64 l l h0 (Int.le_refl _) ?_ (by omega), k1, k2, w.heap.size, 0, _, 0, l.toNat, k3, rfl, fun _ => rfl, Nat.le_refl _, by omega⟩
      have : ((l.toNat * jn.bytes : Nat) : Int) ≤ 70368744177664 := by omega
      rw [Int.natCast_mul, Int.toNat_of_nonneg h0, Int.mul_comm] at this
      omega
  · cases hr

/-- The source, behind a draw. -/
theorem appendA_run {P : Program} {m m' : Mem} {w : World} {N : Nat → Prop} {i : Pl} (hs : Sim m w N i) (hf : ∀ t, i m.nx t = none) {t tx e ty : TypeId} {size by' : Nat} {z x y r : AV} {v u : Value} (hu : P.underlying t = some (.slice e)) (hk : (∃ e', P.underlying tx = some (.slice e')) ∨ P.underlying tx = some .string)
    (hn : sizeT P e = some size) (hb : bytesT P e = some by') (hz : zeroT P e = some z) (hzl : z.cells.length = size)
    (hr : appendA size by' m x y = some (r, m')) (hx : Rep w N i x v) (hy : Rep w N i y u) :
    ∃ q w' i', (Builtin.append_ #[t, tx] ty #[v, u]).run P w = .ok q w' ∧ Sim m' w' N i' ∧ Ext m w N i m' w' N i' ∧ Rep w' N i' r q := by
  unfold appendA at hr
  cases h0 : size == 0 with
  | true => simp [h0] at hr
  | false =>
  have hpos : 0 < size := by simp at h0; omega
  simp only [h0, cond_false, Option.bind_eq_some_iff] at hr
  obtain ⟨⟨n, news⟩, hsrc, hr⟩ := hr
  obtain ⟨nv, src, hnv⟩ := srcA_src (P := P) hs hk hsrc hy
  obtain ⟨jn, hj, hjs⟩ := sizeT_some hn
  obtain ⟨jb, hj', hjb⟩ := bytesT_some hb
  rw [hj] at hj'
  cases hj'
  obtain ⟨jz, zv, hj', hjz, hzc⟩ := zeroT_some hz
  rw [hj] at hj'
  cases hj'
  subst hjs
  subst hjb
  have hzs : zv.cells.size = jn.size := by
    have := (ofConst_agg (w := w) (N := N) (i := i) hzc).length
    rw [Array.length_toList] at this
    omega
  have hnl := src.newsLen
  have hnl' := hnv.length
  have none0 : n = 0 → ∀ base sLen sCap, sLen ≤ sCap → (Builtin.append_ #[t, tx] ty #[.slice base sLen sCap, u]).run P w = .ok (.slice base sLen sCap) w := by
    rintro rfl base sLen sCap hle
    have : nv = [] := by simpa using hnl
    subst this
    exact run_append_nothing w t tx ty e jn hu hj base sLen sCap hle u src
  -- a new row
  have grow : ∀ base sLen sCap olds ao, (Builtin.firstCells jn.size sLen (.slice base sLen sCap)).run P w.drew = .ok (List.toArray olds) w.drew → sCap < sLen + n → room (sLen + n) jn.bytes = true → RepL w N i ao olds → One olds → olds.length = sLen * jn.size →
      ∃ w' gc, (Builtin.append_ #[t, tx] ty #[.slice base sLen sCap, u]).run P w = .ok (.slice (some ⟨w.heap.size, 0, none⟩) (sLen + n) gc) w' ∧ sLen + n ≤ gc ∧ ∃ arr : Array Value, arr.size = gc * jn.size ∧ arr.toList.take (ao ++ news).length = olds ++ nv ∧ w' = w.drew.alloc (.cells arr e) ∧ RepL w N i (ao ++ news) (olds ++ nv) ∧ One (olds ++ nv) := by
    intro base sLen sCap olds ao hold hg hrm hao ho1 hol
    simp only [room, Bool.and_eq_true, Nat.ble_eq] at hrm
    have hrun := run_append_grow_src (P := P) w t tx ty e jn zv hu hj hjz base sLen sCap olds hold u n nv src hg (by omega) (growslice_fits hg (by omega))
    have hge := grownCap_ge w (sLen + n) sCap e
    have hal := hao.length
    refine ⟨_, _, hrun, hge, _, ?_, ?_, rfl, hao.append hnv, ho1.append src.one⟩
    · have hzz : (Builtin.zeroCells zv.cells (grownCap w (sLen + n) sCap e - (sLen + n))).size = (grownCap w (sLen + n) sCap e - (sLen + n)) * jn.size := by simp [Builtin.zeroCells, hzs]
      rw [Array.size_append, hzz]
      simp only [List.size_toArray, List.length_append, hol, hnl]
      rw [← Nat.add_mul, ← Nat.add_mul]
      congr 1
      omega
    · simp only [Array.toList_append]
      have : (ao ++ news).length = (olds ++ nv).length := by simp; omega
      rw [this]
      exact List.take_left
  have drewLe : Le w N i w.drew N i := ⟨fun _ h => h, fun _ _ => rfl, fun _ _ _ h => h⟩
  split at hr
  · -- nil
    cases hx
    cases hn0 : n == 0 with
    | true =>
      simp only [hn0, cond_true, Option.some.injEq, Prod.mk.injEq] at hr
      obtain ⟨rfl, rfl⟩ := hr
      exact ⟨_, w, i, none0 (by simpa using hn0) none 0 0 (Nat.le_refl _), hs, Ext.refl _ _ _ _, rfl⟩
    | false =>
      simp only [hn0, cond_false] at hr
      cases hrm : room n jn.bytes with
      | false => simp [hrm] at hr
      | true =>
        simp only [hrm, cond_true, Option.some.injEq, Prod.mk.injEq] at hr
        obtain ⟨rfl, rfl⟩ := hr
        obtain ⟨w', gc, h1, h2, arr, h3, h4, rfl, h5, h6⟩ := grow none 0 0 [] [] (run_firstCells_none _ _ _ _ _) (by simp at hn0; omega) (by simpa using hrm) rfl (fun _ h => by cases h) (by simp)
        simp only [List.nil_append, Nat.zero_add] at h1 h2 h4 h5 h6
        obtain ⟨i', k1, k2, k3⟩ := hs.drew.make hf (cs := news) (arr := arr) (elem := e) (by rw [h4]; exact RepL.mono drewLe _ h5) (by rw [h4]; exact h6)
        exact ⟨_, _, i', h1, k1, (Ext.drew m w N i).trans k2, w.heap.size, 0, arr.size, 0, gc, k3, rfl, fun _ => rfl, h2, by omega⟩
  · -- exact
    rename_i n0 cells
    obtain ⟨a, cap, vs, rfl, g2, g3, g4, g5, g6⟩ := hx
    obtain rfl : cap = n0 := g3 rfl
    have g4' : ∀ (j : Nat) q, vs[j]? = some q → w.cell? (a.add j) = some q := fun j q hj => by
      rcases g4 with ⟨_, rfl⟩ | ⟨b, off, rfl, _, g4⟩
      · simp at hj
      · rw [add_lit]; exact g4 j q hj
    cases hn0 : n == 0 with
    | true =>
      simp only [hn0, cond_true, Option.some.injEq, Prod.mk.injEq] at hr
      obtain ⟨rfl, rfl⟩ := hr
      exact ⟨_, w, i, none0 (by simpa using hn0) _ _ _ g2, hs, Ext.refl _ _ _ _, a, cap, vs, rfl, g2, g3, g4, g5, g6⟩
    | false =>
      simp only [hn0, cond_false] at hr
      cases hrm : (room (cap + n) jn.bytes && cells.length == cap * jn.size) with
      | false => simp [hrm] at hr
      | true =>
        simp only [hrm, cond_true, Option.some.injEq, Prod.mk.injEq] at hr
        simp only [Bool.and_eq_true, beq_iff_eq] at hrm
        obtain ⟨rfl, rfl⟩ := hr
        have hvl := g6.length
        have l0 : Le w N P0 w N i := ⟨fun _ h => h, fun _ _ => rfl, fun _ _ _ h => by simp [P0] at h⟩
        obtain ⟨w', gc, h1, h2, arr, h3, h4, rfl, h5, h6⟩ := grow (some a) cap cap vs cells (run_firstCells_some w.drew jn.size cap _ cap cap vs (by omega) (fun j q hj => g4' j q hj)) (by simp at hn0; omega) hrm.1 (RepL.mono l0 _ g6) g5 (by omega)
        obtain ⟨i', k1, k2, k3⟩ := hs.drew.make hf (cs := cells ++ news) (arr := arr) (elem := e) (by rw [h4]; exact RepL.mono drewLe _ h5) (by rw [h4]; exact h6)
        exact ⟨_, _, i', h1, k1, (Ext.drew m w N i).trans k2, w.heap.size, 0, arr.size, 0, gc, k3, rfl, fun _ => rfl, h2, by omega⟩
  · -- an object
    rename_i id es off n0 top
    split at hr
    · rename_i xs ho
      cases hc : (xs.length == top && (es == jn.size && off + n0 * jn.size == top)) with
      | false => simp [hc] at hr
      | true =>
        simp only [hc, cond_true] at hr
        simp only [Bool.and_eq_true, beq_iff_eq] at hc
        obtain ⟨c1, rfl, c3⟩ := hc
        obtain ⟨b, o, c, off', cap, h1, rfl, q1, q2, q3⟩ := hx
        cases hn0 : n == 0 with
        | true =>
          simp only [hn0, cond_true, Option.some.injEq, Prod.mk.injEq] at hr
          obtain ⟨rfl, rfl⟩ := hr
          exact ⟨_, w, i, none0 (by simpa using hn0) _ _ _ q2, hs, Ext.refl _ _ _ _, b, o, c, off', cap, h1, rfl, q1, q2, q3⟩
        | false =>
          simp only [hn0, cond_false] at hr
          cases hrm : room (n0 + n) jn.bytes with
          | false => simp [hrm] at hr
          | true =>
            simp only [hrm, cond_true] at hr
            have hn1 : 0 < n := by simp at hn0; omega
            obtain ⟨g0, arr0, elem0, fr0, vs, g1, g2, g3, g4, g5, g6, g7⟩ := hs.cells ho c1 h1
            have hvl := g7.length
            have hnpos : 0 < n * jn.size := Nat.mul_pos hn1 hpos
            rcases Nat.lt_or_ge cap (n0 + n) with hg | hg
            · -- no room
              have hsub : CellsAt w b off' (vs.drop off) := by
                by_cases hc0 : cap = 0
                · have : n0 = 0 := by omega
                  subst this
                  intro j q hj
                  rw [List.getElem?_eq_none (by simp; omega)] at hj
                  cases hj
                · rw [q1 hc0]; exact g5.drop off
              obtain ⟨w', gc, e1, e2, arr, e3, e4, rfl, e5, e6⟩ := grow (some ⟨b, off', none⟩) n0 cap (vs.drop off) (xs.drop off) (run_firstCells_some w.drew jn.size n0 _ n0 cap _ (by simp; omega) (fun j q hj => by rw [add_lit]; exact hsub j q hj)) hg hrm (g7.drop off) (g6.drop off) (by simp; omega)
              cases hof : off == 0 with
              | true =>
                simp only [hof, cond_true, Option.some.injEq, Prod.mk.injEq] at hr
                simp at hof
                subst hof
                obtain ⟨rfl, rfl⟩ := hr
                simp only [List.drop_zero] at e4 e5 e6
                have d := hs.drew
                have hnew : ¬ N w.heap.size := fun h => by have := hs.nlt _ h; omega
                have hi : ∀ id1 t x, i id1 t = some x → updPl i id (xs ++ news).length (w.heap.size, 0, arr.size) id1 t = some x := fun id1 t x h => by
                  by_cases e : id1 = id ∧ t = (xs ++ news).length
                  · have h1 := e.1; have h2 := e.2; subst h1; subst h2
                    have := hs.top _ _ _ _ ho h
                    simp [AObj.top] at this
                    omega
                  · rw [updPl_ne _ _ e]; exact h
                have l : Le w N i (w.drew.alloc (.cells arr e)) N (updPl i id (xs ++ news).length (w.heap.size, 0, arr.size)) := ⟨fun _ h => h, fun k hk => alloc_get w.drew _ k (hs.nlt k hk), hi⟩
                obtain ⟨r1, r2, r3⟩ := d.replace (w' := w.drew.alloc (.cells arr e)) (o' := .cells (xs ++ news)) (b' := w.heap.size) (p' := 0) (c' := arr.size) (by simp) ho (by rw [show AObj.top (.cells xs) = top from c1]; exact h1) (.inl (by simp [AObj.top]; omega)) (.inr (Nat.le_refl _)) (fun k hk _ => alloc_get w.drew _ k hk)
                  ⟨arr, e, (0, 0), _, alloc_new w.drew _, rfl, fun k _ h => by simp at h, by
                    have := congrArg List.length e4; simp at this ⊢; omega, (by
                    intro j q hj
                    rw [← e4, List.getElem?_take] at hj
                    split at hj
                    · have hnew := alloc_new w.drew (.cells arr e)
                      unfold World.cell?
                      have e9 : w.drew.heap.size = w.heap.size := rfl
                      rw [e9] at hnew
                      simp only [hnew]
                      simpa using hj
                    · cases hj), e6, RepL.mono l _ e5⟩
                refine ⟨_, _, _, e1, r1, ⟨rfl, rfl, rfl, by simp, fun _ h => h, hi, fun k hk _ => alloc_get w.drew _ k hk, r2, fun _ h => .inl h, Nat.le_refl _, pl_old h1⟩, w.heap.size, 0, arr.size, 0, gc, updPl_same .., rfl, fun _ => rfl, e2, by omega⟩
              | false =>
                simp only [hof, cond_false, Option.some.injEq, Prod.mk.injEq] at hr
                obtain ⟨rfl, rfl⟩ := hr
                obtain ⟨d1, d2⟩ := hs.drop id
                obtain ⟨i', k1, k2, k3⟩ := d1.drew.make hf (cs := xs.drop off ++ news) (arr := arr) (elem := e) (by rw [e4]; exact RepL.mono drewLe _ e5) (by rw [e4]; exact e6)
                exact ⟨_, _, i', e1, k1, d2.trans ((Ext.drew _ w N i).trans k2), w.heap.size, 0, arr.size, 0, gc, k3, rfl, fun _ => rfl, e2, by omega⟩
            · -- room
              have hc0 : cap ≠ 0 := by omega
              have hoff := q1 hc0
              have hthere := hs.there ho c1 h1
              have hmul : (n0 + n) * jn.size ≤ cap * jn.size := Nat.mul_le_mul_right _ hg
              rw [Nat.add_mul] at hmul
              have hrun := run_append_room_src (P := P) w t tx ty e jn hu hj b off' n0 cap u n nv src hg (fun j hj => (hthere _ (by omega)).1) (fun j hj => (hthere _ (by omega)).2)
              have hplace : off' + n0 * jn.size = o + xs.length := by omega
              rw [hplace] at hrun
              obtain ⟨i', k1, k2, k3⟩ := hs.put (off := xs.length) (cs := news) (vs := nv) ho c1 h1 (Nat.le_refl _) (by omega) hnv src.one
              rw [splice_end] at k1 k2 k3
              cases hof : off == 0 with
              | true =>
                simp only [hof, cond_true, Option.some.injEq, Prod.mk.injEq] at hr
                simp at hof
                subst hof
                obtain ⟨rfl, rfl⟩ := hr
                exact ⟨_, _, i', hrun, k1, k2, b, o, c, off', cap, k3, rfl, q1, hg, q3⟩
              | false =>
                simp only [hof, cond_false, Option.some.injEq, Prod.mk.injEq] at hr
                obtain ⟨rfl, rfl⟩ := hr
                obtain ⟨d1, d2⟩ := hs.drop id
                have hlive : Live m i b := ⟨id, _, o, c, ho, by rw [show AObj.top (.cells xs) = top from c1]; exact h1⟩
                have hnl2 : ¬ Live (m.set id none) i b := by
                  rintro ⟨id1, o1, p1, c1', f1, f2⟩
                  by_cases e : id1 = id
                  · subst e; simp [Mem.set, upd_same] at f1
                  · simp only [Mem.set, upd_ne _ _ e] at f1
                    exact e (hs.inj _ _ _ _ b _ _ o c f1 ho f2 (by rw [show AObj.top (.cells xs) = top from c1]; exact h1))
                obtain ⟨z1, z2, z3⟩ := obj_put (cs := news) (vs := nv) (off := xs.length) (w := w) (N := N) (i := i) (b := b) (p := o) (c := c) (xs := xs) ⟨arr0, elem0, fr0, vs, g1, g2, g3, g4, g5, g6, g7⟩ g0 (Nat.le_refl _) (by omega) hnv src.one
                rw [splice_end] at z1
                have z4 := ObjRep.drop (off := off) z1 (by simp; omega)
                have z5 : (xs ++ news).drop off = xs.drop off ++ news := by rw [List.drop_append_of_le_length (by omega)]
                rw [z5] at z4
                obtain ⟨y1, y2, y3, y4⟩ := setCells_same b nv (o + xs.length) w
                have hi : ∀ id1 t x, i id1 t = some x → updPl i m.nx (xs.drop off ++ news).length (b, o + off, c) id1 t = some x := fun id1 t x h => by
                  rw [updPl_ne _ _ (fun hh => by rw [hh.1, hf] at h; cases h)]; exact h
                have l : Le (w.setCells b (o + xs.length) nv) N i (w.setCells b (o + xs.length) nv) N (updPl i m.nx (xs.drop off ++ news).length (b, o + off, c)) := ⟨fun _ h => h, fun _ _ => rfl, hi⟩
                have s2 := d1.new hf (w' := w.setCells b (o + xs.length) nv) (o := .cells (xs.drop off ++ news)) (b := b) (p := o + off) (c := c) (by rw [y1]; exact Nat.le_refl _) (fun k hk => z2 k (by
                    rintro rfl
                    rcases hk with hk | hk
                    · exact g0 hk
                    · exact hnl2 hk)) g0 hnl2 (z4.mono l rfl)
                refine ⟨_, _, _, hrun, s2, ⟨y2, y3, y4, by rw [y1]; exact Nat.le_refl _, fun _ h => h, hi, fun k hk hl => z2 k (fun e => hl (e ▸ hlive)), fun k hk => ?_, fun _ h => .inl h, Nat.le_succ _, pl_new⟩, b, o + off, c, off', cap, updPl_same .., rfl, fun _ => by omega, hg, by omega⟩
                rcases livenew hk with h | h
                · exact d2.grow k h
                · rw [h]; exact .inl hlive
    · cases hr
  · cases hr

theorem copyA_run {P : Program} {m m' : Mem} {w : World} {N : Nat → Prop} {i : Pl} (hs : Sim m w N i) {t tx e ty : TypeId} {size : Nat} {x y r : AV} {v u : Value} (hu : P.underlying t = some (.slice e))
    (hn : sizeT P e = some size) (hr : copyA size m x y = some (r, m')) (hx : Rep w N i x v) (hy : Rep w N i y u) :
    ∃ q w' i', (Builtin.copy_ #[t, tx] ty #[v, u]).run P w = .ok q w' ∧ Sim m' w' N i' ∧ Ext m w N i m' w' N i' ∧ Rep w' N i' r q := by
  unfold copyA at hr
  cases h0 : size == 1 && !y.isStr with
  | false => simp [h0] at hr
  | true =>
    simp only [h0, cond_true, Option.bind_eq_some_iff] at hr
    simp at h0
    obtain ⟨h0, hstr'⟩ := h0
    have hstr : ∀ s, y ≠ .str s := by rintro s rfl; cases hstr'
    subst h0
    have hi1 : (P.info? e).map (·.size) = some 1 := hn
    obtain ⟨⟨n, news⟩, hsrc, hr⟩ := hr
    have hcells := srcA_cells hs hstr hsrc hy
    split at hr
    · cases hx
      simp only [Option.some.injEq, Prod.mk.injEq] at hr
      obtain ⟨rfl, rfl⟩ := hr
      rcases hcells with ⟨rfl, rfl, rfl⟩ | ⟨a, cap, vs, rfl, h1, h2, h3, h4, h5⟩
      · exact ⟨_, w, i, run_copy_none w t tx ty e none none 0 0 0 0 hu hi1 (by simp), hs, Ext.refl _ _ _ _, rfl⟩
      · exact ⟨_, w, i, run_copy_none w t tx ty e none _ 0 0 n cap hu hi1 (by simp), hs, Ext.refl _ _ _ _, rfl⟩
    · rename_i id es off n0 top
      split at hr
      · rename_i xs ho
        cases hc : (xs.length == top && (es == 1 && Nat.ble (off + n0 * 1) top)) with
        | false => rw [hc] at hr; cases hr
        | true =>
          rw [hc] at hr
          simp only [cond_true, Option.some.injEq, Prod.mk.injEq] at hr
          simp only [Bool.and_eq_true, beq_iff_eq, Nat.ble_eq] at hc
          obtain ⟨c1, rfl, c3⟩ := hc
          obtain ⟨rfl, rfl⟩ := hr
          obtain ⟨b, o, c, off', cap, h1, rfl, q1, q2, q3⟩ := hx
          rcases hcells with ⟨rfl, rfl, rfl⟩ | ⟨a2, cap2, vs, rfl, g1, g2, g3, g4, g5⟩
          · have e1 : m.set id (some (.cells (splice xs off (List.take (Nat.min 0 n0 * 1) [])))) = m.set id (some (.cells (splice xs off []))) := by simp
            obtain ⟨i', k1, k2, k3⟩ := hs.put (off := off) (cs := []) (vs := []) ho c1 h1 (by omega) (by have := hs.bnd _ _ _ _ _ h1; simp; omega) rfl (fun _ h => by cases h)
            refine ⟨_, _, i', run_copy_none w t tx ty e _ none n0 cap 0 0 hu hi1 (by simp), ?_, ?_, ?_⟩
            · rw [e1]; exact k1
            · rw [e1]; exact k2
            · simp [Rep, goInt]
          · have hmin : Nat.min n n0 ≤ n := Nat.min_le_left _ _
            have hmin2 : Nat.min n n0 ≤ n0 := Nat.min_le_right _ _
            have hnl := g4.length
            have hbnd := hs.bnd _ _ _ _ _ h1
            have hthere := hs.there ho c1 h1
            have hrep : RepL w N i (news.take (Nat.min n n0 * 1)) (vs.take (Nat.min n n0 * 1)) := g4.take _
            have hvl : (vs.take (Nat.min n n0 * 1)).length = Nat.min n n0 := by rw [List.length_take]; omega
            have hnl2 : (news.take (Nat.min n n0 * 1)).length = Nat.min n n0 := by rw [List.length_take]; omega
            obtain ⟨i', k1, k2, k3⟩ := hs.put (off := off) (cs := news.take (Nat.min n n0 * 1)) (vs := vs.take (Nat.min n n0 * 1)) ho c1 h1 (by omega) (by omega) hrep (g3.take _)
            by_cases hcap : cap = 0
            · have hz : Nat.min n n0 = 0 := by omega
              have ev : vs.take (Nat.min n n0 * 1) = [] := by rw [hz]; simp
              rw [ev] at k1 k2
              refine ⟨_, _, i', run_copy_none w t tx ty e _ _ n0 cap n cap2 hu hi1 hz, k1, k2, ?_⟩
              rw [hz]; rfl
            · have hoff := q1 hcap
              have hrun := run_copy_cells (P := P) w t tx ty e b off' n0 cap a2 n cap2 (vs.take (Nat.min n n0 * 1)) hu hi1 hvl (fun j q hj => g2 j q (by
                rw [List.getElem?_take] at hj
                split at hj
                · exact hj
                · cases hj)) (fun j hj => (hthere _ (by omega)).1) (fun j hj => (hthere _ (by omega)).2) (g3.take _)
              rw [hoff] at hrun
              rw [hvl] at hrun
              rw [← hoff] at hrun
              rw [← hoff] at k1 k2
              exact ⟨_, _, i', hrun, k1, k2, rfl⟩
      · cases hr
    · cases hr
end Go.AM
