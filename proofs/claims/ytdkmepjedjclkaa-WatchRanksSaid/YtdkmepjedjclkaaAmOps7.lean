/-
  THE ABSTRACT MACHINE: objects are made and written: cells. Conditions: none.
-/
import Derived.Test.YtdkmepjedjclkaaAmOps6
import Derived.Laws.MakeOwn
import Derived.Laws.OwnMore
namespace Go.AM

/-! ### Cells are written one by one -/
theorem setCell_heap {w : World} {b o : Nat} {v : Value} {arr : Array Value} {elem : TypeId} {fr : Nat × Nat} (h : w.heap[b]? = some (.cells arr elem fr)) : (w.setCell ⟨b, o, none⟩ v).heap[b]? = some (.cells (arr.setIfInBounds o v) elem fr) := by
  have hb : b < w.heap.size := (Array.getElem?_eq_some_iff.1 h).1
  have h2 := (Array.getElem?_eq_some_iff.1 h).2
  simp [World.setCell, Array.getElem?_modify, h]

theorem setCell_other {w : World} {b o k : Nat} {v : Value} (h : k ≠ b) : (w.setCell ⟨b, o, none⟩ v).heap[k]? = w.heap[k]? := by
  have h' : ¬ b = k := fun e => h e.symm
  simp [World.setCell, Array.getElem?_modify, h']

theorem setCells_other {b k : Nat} (h : k ≠ b) : ∀ (vs : List Value) (o : Nat) (w : World), (w.setCells b o vs).heap[k]? = w.heap[k]?
  | [], _, _ => rfl
  | v :: vs, o, w => by rw [World.setCells, setCells_other h vs, setCell_other h]

theorem setCells_same (b : Nat) : ∀ (vs : List Value) (o : Nat) (w : World), (w.setCells b o vs).heap.size = w.heap.size ∧ (w.setCells b o vs).os = w.os ∧ (w.setCells b o vs).tape = w.tape ∧ (w.setCells b o vs).output = w.output
  | [], _, _ => ⟨rfl, rfl, rfl, rfl⟩
  | v :: vs, o, w => by
    obtain ⟨h1, h2, h3, h4⟩ := setCells_same b vs (o + 1) (w.setCell ⟨b, o, none⟩ v)
    exact ⟨h1.trans (by simp), h2, h3, h4⟩

theorem setCells_heap (b : Nat) : ∀ (vs : List Value) (o : Nat) (w : World) (arr : Array Value) (elem : TypeId) (fr : Nat × Nat), w.heap[b]? = some (.cells arr elem fr) → o + vs.length ≤ arr.size →
    ∃ arr', (w.setCells b o vs).heap[b]? = some (.cells arr' elem fr) ∧ arr'.toList = arr.toList.take o ++ vs ++ arr.toList.drop (o + vs.length)
  | [], o, w, arr, elem, fr, h, _ => ⟨arr, h, by simp⟩
  | v :: vs, o, w, arr, elem, fr, h, hle => by
    simp only [List.length_cons] at hle
    obtain ⟨arr', h1, h2⟩ := setCells_heap b vs (o + 1) (w.setCell ⟨b, o, none⟩ v) _ elem fr (setCell_heap h) (by simp; omega)
    refine ⟨arr', h1, ?_⟩
    rw [h2]
    have ho : o < arr.toList.length := by simp; omega
    have e1 : (arr.setIfInBounds o v).toList = arr.toList.take o ++ v :: arr.toList.drop (o + 1) := by
      rw [Array.toList_setIfInBounds]
      rw [List.set_eq_take_append_cons_drop, if_pos ho]
    have l1 : (arr.toList.take o).length = o := by simp; omega
    rw [e1]
    have t1 : (arr.toList.take o ++ v :: arr.toList.drop (o + 1)).take (o + 1) = arr.toList.take o ++ [v] := by
      rw [List.take_append, l1, List.take_of_length_le (by rw [l1]; omega)]
      simp
    have t2 : (arr.toList.take o ++ v :: arr.toList.drop (o + 1)).drop (o + 1 + vs.length) = arr.toList.drop (o + (vs.length + 1)) := by
      rw [List.drop_append, l1, List.drop_eq_nil_of_le (by rw [l1]; omega), List.nil_append, show o + 1 + vs.length - o = vs.length + 1 by omega, List.drop_succ_cons, List.drop_drop]
      congr 1; omega
    rw [t1, t2]
    simp

/-- A list with a part overwritten (and maybe longer). -/
def vsplice (xs : List Value) (off : Nat) (cs : List Value) : List Value := xs.take off ++ cs ++ xs.drop (off + cs.length)

theorem splice_rep' {w : World} {N : Nat → Prop} {i : Pl} {cs ds : List AV} {vs us : List Value} (off : Nat) (h : RepL w N i cs vs) (k : RepL w N i ds us) : RepL w N i (splice cs off ds) (vsplice vs off us) := by
  unfold splice vsplice
  rw [← k.length]
  exact ((h.take off).append k).append (h.drop _)

theorem vsplice_get {xs cs : List Value} {off : Nat} (h : off ≤ xs.length) (j : Nat) : (vsplice xs off cs)[j]? = if j < off then xs[j]? else if j < off + cs.length then cs[j - off]? else xs[j]? := by
  unfold vsplice
  have l1 : (xs.take off).length = off := by simp; omega
  by_cases h1 : j < off
  · rw [if_pos h1, List.append_assoc, List.getElem?_append_left (by rw [l1]; exact h1), List.getElem?_take, if_pos h1]
  · rw [if_neg h1, List.append_assoc, List.getElem?_append_right (by rw [l1]; omega), l1]
    by_cases h2 : j < off + cs.length
    · rw [if_pos h2, List.getElem?_append_left (by omega)]
    · rw [if_neg h2, List.getElem?_append_right (by omega), List.getElem?_drop]
      congr 1; omega

/-- An object with a part overwritten, or made longer. -/
theorem obj_put {w : World} {N : Nat → Prop} {i : Pl} {b p c off : Nat} {xs cs : List AV} {vs : List Value} (ho : ObjRep w N i b p c (.cells xs)) (hN : ¬ N b) (h1 : off ≤ xs.length) (h2 : p + off + cs.length ≤ c) (hv : RepL w N i cs vs) (hone : One vs) :
    ObjRep (w.setCells b (p + off) vs) N i b p c (.cells (splice xs off cs)) ∧ (∀ k, k ≠ b → (w.setCells b (p + off) vs).heap[k]? = w.heap[k]?) ∧ Le w N i (w.setCells b (p + off) vs) N i := by
  obtain ⟨arr, elem, fr, us, g1, g2, g3, g4, g5, g6, g7⟩ := ho
  have l : Le w N i (w.setCells b (p + off) vs) N i := ⟨fun _ h => h, fun k hk => setCells_other (k := k) (fun e => hN (by rw [← e]; exact hk)) _ _ _, fun _ _ _ h => h⟩
  have hvl := hv.length
  have hul := g7.length
  obtain ⟨arr', k1, k2⟩ := setCells_heap b vs (p + off) w arr elem fr g1 (by omega)
  have hsz : arr'.size = c := by
    have := congrArg List.length k2
    simp at this
    omega
  refine ⟨⟨arr', elem, fr, vsplice us off vs, k1, hsz, g3, ?_, ?_, ?_, RepL.mono l _ (splice_rep' off g7 hv)⟩, fun k hk => setCells_other hk _ _ _, l⟩
  · unfold splice; simp; omega
  · intro j v hj
    have hcell : ∀ (a : Array Value) (w' : World) (o : Nat), w'.heap[b]? = some (.cells a elem fr) → w'.cell? ⟨b, o, none⟩ = a[o]? := fun a w' o h => by simp [World.cell?, h]
    rw [hcell arr' _ _ k1]
    have old : ∀ j v, us[j]? = some v → arr[p + j]? = some v := fun j v hj => by rw [← hcell arr w _ g1]; exact g5 j v hj
    rw [vsplice_get (by omega)] at hj
    rw [← Array.getElem?_toList, k2]
    have e := vsplice_get (xs := arr.toList) (cs := vs) (off := p + off) (by simp; omega) (p + j)
    unfold vsplice at e
    rw [e]
    by_cases a1 : j < off
    · rw [if_pos a1] at hj; rw [if_pos (by omega)]; simpa using old j v hj
    · rw [if_neg a1] at hj
      rw [if_neg (by omega)]
      by_cases a2 : j < off + vs.length
      · rw [if_pos a2] at hj
        rw [if_pos (by omega), show p + j - (p + off) = j - off by omega]; exact hj
      · rw [if_neg a2] at hj
        rw [if_neg (by omega)]; simpa using old j v hj
  · unfold vsplice
    exact ((g6.take off).append hone).append (g6.drop _)

/-- An object is written, or made longer, where it stands. -/
theorem Sim.put {m : Mem} {w : World} {N : Nat → Prop} {i : Pl} (s : Sim m w N i) {id top : Nat} {b p c off : Nat} {xs cs : List AV} {vs : List Value} (ho : m.h id = some (.cells xs)) (ht : xs.length = top) (hp : i id top = some (b, p, c))
    (h1 : off ≤ xs.length) (h2 : p + off + cs.length ≤ c) (hv : RepL w N i cs vs) (hone : One vs) :
    ∃ i', Sim (m.set id (some (.cells (splice xs off cs)))) (w.setCells b (p + off) vs) N i' ∧ Ext m w N i (m.set id (some (.cells (splice xs off cs)))) (w.setCells b (p + off) vs) N i' ∧ i' id (splice xs off cs).length = some (b, p, c) := by
  subst ht
  obtain ⟨b', p', c', g1, g2, g3⟩ := s.live id _ ho
  have e0 : AObj.top (.cells xs) = xs.length := rfl
  rw [e0, hp] at g1
  cases g1
  obtain ⟨k1, k2, k3⟩ := obj_put g3 g2 h1 h2 hv hone
  obtain ⟨q1, q2, q3, q4⟩ := setCells_same b vs (p + off) w
  have hlen : (splice xs off cs).length = max xs.length (off + cs.length) := by unfold splice; simp; omega
  have hi : ∀ id1 t x, i id1 t = some x → updPl i id (splice xs off cs).length (b, p, c) id1 t = some x := fun id1 t x h => by
    by_cases e : id1 = id ∧ t = (splice xs off cs).length
    · obtain ⟨rfl, rfl⟩ := e
      have := s.top _ _ _ _ ho h
      rw [e0, hlen] at this
      have e1 : (splice xs off cs).length = xs.length := by rw [hlen]; omega
      rw [updPl_same]
      rw [e1, hp] at h
      exact h
    · rw [updPl_ne _ _ e]; exact h
  have l : Le (w.setCells b (p + off) vs) N i (w.setCells b (p + off) vs) N (updPl i id (splice xs off cs).length (b, p, c)) := ⟨fun _ h => h, fun _ _ => rfl, hi⟩
  have := s.replace (w' := w.setCells b (p + off) vs) (o' := .cells (splice xs off cs)) (b' := b) (p' := p) (c' := c) (by rw [q1]; exact Nat.le_refl _) ho hp
    (by
      show xs.length < (splice xs off cs).length ∨ ((splice xs off cs).length = xs.length ∧ _)
      rw [hlen]
      rcases Nat.lt_or_ge xs.length (off + cs.length) with h | h
      · exact .inl (by omega)
      · exact .inr ⟨by omega, rfl⟩) (.inl rfl) (fun k _ hk => k2 k hk) (k1.mono l rfl)
  obtain ⟨r1, r2, r3⟩ := this
  exact ⟨_, r1, ⟨q2, q3, q4, by rw [q1]; exact Nat.le_refl _, fun _ h => h, hi, fun k _ hk => k2 k (fun e => hk (e ▸ ⟨id, _, p, c, ho, hp⟩)), r2, fun _ h => .inl h, Nat.le_refl _, pl_old hp⟩, updPl_same ..⟩

/-- The cells that are written are there and not frozen. -/
theorem Sim.there {m : Mem} {w : World} {N : Nat → Prop} {i : Pl} (s : Sim m w N i) {id top : Nat} {b p c : Nat} {xs : List AV} (ho : m.h id = some (.cells xs)) (ht : xs.length = top) (hp : i id top = some (b, p, c)) :
    ∀ k, k < c → (w.cell? ⟨b, k, none⟩).isSome = true ∧ w.frozen? ⟨b, k, none⟩ = false := by
  obtain ⟨_, arr, elem, fr, us, g1, g2, g3, _⟩ := s.cells ho ht hp
  intro k hk
  refine ⟨by simp [World.cell?, g1]; omega, ?_⟩
  have := g3 k hk
  simp [World.frozen?, g1]
  omega

/-- A new block with a new object. -/
theorem Sim.make {m : Mem} {w : World} {N : Nat → Prop} {i : Pl} (s : Sim m w N i) (hf : ∀ t, i m.nx t = none) {cs : List AV} {arr : Array Value} {elem : TypeId} (hv : RepL w N i cs (arr.toList.take cs.length)) (hone : One (arr.toList.take cs.length)) :
    ∃ i', Sim (m.new (.cells cs)) (w.alloc (.cells arr elem)) N i' ∧ Ext m w N i (m.new (.cells cs)) (w.alloc (.cells arr elem)) N i' ∧ i' m.nx cs.length = some (w.heap.size, 0, arr.size) := by
  have hi : ∀ id t x, i id t = some x → updPl i m.nx cs.length (w.heap.size, 0, arr.size) id t = some x := fun id t x h => by
    rw [updPl_ne _ _ (fun hh => by rw [hh.1, hf] at h; cases h)]; exact h
  have hNn : ¬ N w.heap.size := fun h => by have := s.nlt _ h; omega
  have l : Le w N i (w.alloc (.cells arr elem)) N (updPl i m.nx cs.length (w.heap.size, 0, arr.size)) := ⟨fun _ h => h, fun k hk => alloc_get w _ k (s.nlt k hk), hi⟩
  have hlen := hv.length
  have hnl : ¬ Live m i w.heap.size := fun h => by have := (s.liveN h).2; omega
  refine ⟨_, s.new hf (w' := w.alloc (.cells arr elem)) (o := .cells cs) (b := w.heap.size) (p := 0) (c := arr.size) (by simp) (fun k hk => alloc_get w _ k ?_) hNn hnl ?_, ⟨rfl, rfl, rfl, by simp, fun _ h => h, hi, fun k hk _ => alloc_get w _ k hk, fun k hk => ?_, fun _ h => .inl h, Nat.le_succ _, pl_new⟩, updPl_same ..⟩
  · rcases hk with h | h
    · exact s.nlt k h
    · exact (s.liveN h).2
  · refine ⟨arr, elem, (0, 0), _, alloc_new w _, rfl, fun k _ h => by simp at h, by simp at hlen ⊢; omega, ?_, hone, RepL.mono l _ hv⟩
    intro j v hj
    rw [List.getElem?_take] at hj
    split at hj
    · have hnew := alloc_new w (.cells arr elem)
      unfold World.cell?
      simp only [hnew]
      simpa using hj
    · cases hj
  · rcases livenew hk with h | h
    · exact .inl h
    · exact .inr (by omega)

theorem Sim.make' {m : Mem} {w : World} {N : Nat → Prop} {i : Pl} (s : Sim m w N i) (hf : ∀ t, i m.nx t = none) {cs : List AV} {arr : Array Value} {elem : TypeId} (hv : RepL w N i cs arr.toList) (hone : One arr.toList) :
    ∃ i', Sim (m.new (.cells cs)) (w.alloc (.cells arr elem)) N i' ∧ Ext m w N i (m.new (.cells cs)) (w.alloc (.cells arr elem)) N i' ∧ i' m.nx cs.length = some (w.heap.size, 0, cs.length) := by
  have hlen := hv.length
  have e : arr.toList.take cs.length = arr.toList := List.take_of_length_le (by omega)
  have e2 : arr.size = cs.length := by simpa using hlen
  have := s.make hf (cs := cs) (arr := arr) (elem := elem) (by rw [e]; exact hv) (by rw [e]; exact hone)
  rwa [e2] at this

/-- A new object behind a pointer. -/
theorem newPtr_run {m m' : Mem} {w : World} {N : Nat → Prop} {i : Pl} (hs : Sim m w N i) (hf : ∀ t, i m.nx t = none) {e : TypeId} {cs : List AV} {r : AV} {arr : Array Value} (hr : newPtr m cs = some (r, m')) (hv : RepL w N i cs arr.toList) :
    ∃ i', Sim m' (w.alloc (.cells arr e)) N i' ∧ Ext m w N i m' (w.alloc (.cells arr e)) N i' ∧ Rep (w.alloc (.cells arr e)) N i' r (.pointer (some ⟨w.heap.size, 0, none⟩)) := by
  unfold newPtr at hr
  cases ho : oneL cs with
  | false => simp [ho] at hr
  | true =>
    simp only [ho, cond_true, Option.some.injEq, Prod.mk.injEq] at hr
    obtain ⟨rfl, rfl⟩ := hr
    obtain ⟨i', h1, h2, h3⟩ := hs.make' hf (elem := e) hv (RepL.oneL ho hv)
    exact ⟨i', h1, h2, _, _, _, h3, rfl⟩

/-- A store. -/
theorem storeA_run {P : Program} {m m' : Mem} {w : World} {N : Nat → Prop} {i : Pl} (hs : Sim m w N i) {t : TypeId} {g : Bool} {n : Nat} {x y : AV} {v u : Value} (hn : sizeT P t = some n) (hr : storeA g n m x y = some m') (hx : Rep w N i x v) (hy : Rep w N i y u) :
    ∃ b off w' i', v = .pointer (some ⟨b, off, none⟩) ∧ w' = w.setCells b off u.cells.toList ∧ (storeVar t ⟨b, off, none⟩ u).run P w = .ok () w' ∧ Sim m' w' N i' ∧ Ext m w N i m' w' N i' := by
  have h2 : (sizeOf t).run P w = .ok n w := run_sizeOf hn w
  have main : ∀ id off top xs cs, x = .ptr id off top → m.h id = some (.cells xs) → xs.length = top → off + cs.length ≤ top → cs.length = n → RepL w N i cs u.cells.toList → One u.cells.toList → m' = m.set id (some (.cells (splice xs off cs))) →
      ∃ b off w' i', v = .pointer (some ⟨b, off, none⟩) ∧ w' = w.setCells b off u.cells.toList ∧ (storeVar t ⟨b, off, none⟩ u).run P w = .ok () w' ∧ Sim m' w' N i' ∧ Ext m w N i m' w' N i' := by
    rintro id off top xs cs rfl ho ht hle hlen hl hone rfl
    obtain ⟨b, p, c, h1, rfl⟩ := hx
    have hroom := hs.bnd _ _ _ _ _ h1
    obtain ⟨i', k1, k2, _⟩ := hs.put (off := off) ho ht h1 (by omega) (by omega) hl hone
    have hthere := hs.there ho ht h1
    have hcl := hl.length
    have hst := run_storeCells_cells (P := P) b (p + off) u.cells.toList 0 w (fun j hj => (hthere _ (by omega)).1) (fun j hj => (hthere _ (by omega)).2) hone
    have hsz : u.cells.size = n := by rw [← hlen, ← hcl]; simp
    exact ⟨b, p + off, _, i', rfl, rfl, by simp [storeVar, h2, hsz, hst], k1, k2⟩
  cases g with
  | true =>
    simp only [storeA, cond_true] at hr
    split at hr
    · rename_i cs
      obtain ⟨vs, rfl, hl⟩ := hy
      cases hb : cs.length == n with
      | false => simp [hb] at hr
      | true =>
        simp only [hb, cond_true] at hr
        cases x <;> simp only [writeN] at hr <;> try (cases hr; done)
        rename_i id off top
        split at hr
        · rename_i xs ho
          cases hc : (xs.length == top && (Nat.ble (off + cs.length) top && oneL cs)) with
          | false => simp [hc] at hr
          | true =>
            simp only [hc, cond_true, Option.some.injEq] at hr
            simp only [Bool.and_eq_true, beq_iff_eq, Nat.ble_eq] at hc
            exact main id off top xs cs rfl ho hc.1 hc.2.1 (by simpa using hb) hl (RepL.oneL hc.2.2 hl) hr.symm
        · cases hr
    · cases hr
  | false =>
    simp only [storeA, cond_false] at hr
    cases hb : n == 1 with
    | false => simp [hb] at hr
    | true =>
      simp only [hb, cond_true] at hr
      cases x <;> simp only [write1] at hr <;> try (cases hr; done)
      rename_i id off top
      split at hr
      · rename_i xs ho
        cases hc : (xs.length == top && (Nat.blt off top && y.one)) with
        | false => simp [hc] at hr
        | true =>
          simp only [hc, cond_true, Option.some.injEq] at hr
          simp only [Bool.and_eq_true, beq_iff_eq, Nat.blt_eq] at hc
          obtain ⟨c1, c2, c3⟩ := hc
          have ho1 := Rep.one c3 hy
          have hcells : u.cells = #[u] := cells_one ho1
          refine main id off top xs [y] rfl ho c1 (by simp; omega) (by simp at hb ⊢; omega) (by rw [hcells]; exact ⟨u, [], rfl, hy, rfl⟩) (by rw [hcells]; intro z hz; simp at hz; subst hz; exact ho1) ?_
          rw [← hr, List.set_eq_take_append_cons_drop, if_pos (by omega)]
          simp [splice]
      · cases hr
end Go.AM
