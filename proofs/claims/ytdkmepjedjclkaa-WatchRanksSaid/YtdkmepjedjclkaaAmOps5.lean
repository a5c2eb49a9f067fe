/-
  THE ABSTRACT MACHINE: every operation that only reads memory does what the machine says. Conditions: none.
-/
import Derived.Test.YtdkmepjedjclkaaAmOps4
import Derived.Laws.BytesString
import Derived.WideKeyRuns
import Derived.Deep.Upon
import Derived.DeepKeys3
namespace Go.AM

/-- The cells of an object. -/
theorem Sim.cells {m : Mem} {w : World} {N : Nat → Prop} {i : Pl} (hs : Sim m w N i) {id top : Nat} {xs : List AV} {b o c : Nat} (ho : m.h id = some (.cells xs)) (ht : xs.length = top) (hi : i id top = some (b, o, c)) :
    ¬ N b ∧ ∃ arr elem fr vs, w.heap[b]? = some (.cells arr elem fr) ∧ arr.size = c ∧ (∀ k, k < c → ¬ (fr.1 ≤ k ∧ k < fr.2)) ∧ o + xs.length ≤ c ∧ CellsAt w b o vs ∧ One vs ∧ RepL w N i xs vs := by
  obtain ⟨b', p', c', h1, h2, h3⟩ := hs.live id _ ho
  have : AObj.top (.cells xs) = top := ht
  rw [this, hi] at h1
  cases h1
  exact ⟨h2, h3⟩

/-- Cells behind a pointer. -/
theorem readN_cells {m : Mem} {w : World} {N : Nat → Prop} {i : Pl} (hs : Sim m w N i) {n : Nat} {x : AV} {cs : List AV} {v : Value} (hr : readN m n x = some cs) (hx : Rep w N i x v) :
    ∃ b off vs, v = .pointer (some ⟨b, off, none⟩) ∧ CellsAt w b off vs ∧ One vs ∧ RepL w N i cs vs ∧ vs.length = n := by
  cases x <;> simp only [readN] at hr <;> try (cases hr; done)
  · rename_i id off top
    split at hr
    · rename_i xs ho
      cases hb : (xs.length == top && Nat.ble (off + n) top) with
      | false => simp [hb] at hr
      | true =>
        simp only [hb, cond_true, Option.some.injEq] at hr
        simp only [Bool.and_eq_true, beq_iff_eq, Nat.ble_eq] at hb
        subst hr
        obtain ⟨b, o, c, h1, rfl⟩ := hx
        obtain ⟨_, arr, elem, fr, vs, h2, h3, h4, h5, h6, h7, h8⟩ := hs.cells ho hb.1 h1
        refine ⟨b, o + off, _, rfl, (h6.drop off).take n, (h7.drop off).take n, (h8.drop off).take n, ?_⟩
        have := h8.length
        simp
        omega
    · cases hr
  all_goals
    rename_i cells
    cases hb : Nat.ble n cells.length with
    | false => simp [hb] at hr
    | true =>
      simp only [hb, cond_true, Option.some.injEq] at hr
      rw [Nat.ble_eq] at hb
      subst hr
      obtain ⟨b, off, vs, _, rfl, hc, ho, hl⟩ := hx
      have l : Le w N P0 w N i := ⟨fun _ h => h, fun _ _ => rfl, fun _ _ _ h => by simp [P0] at h⟩
      have hlen := hl.length
      first
      | exact ⟨b, off, _, rfl, hc.take n, ho.take n, RepL.mono l _ (hl.take n), by simp; omega⟩
      | exact ⟨b, off, _, rfl, hc.take n, ho.take n, hl.take n, by simp; omega⟩

theorem read1_cell {m : Mem} {w : World} {N : Nat → Prop} {i : Pl} (hs : Sim m w N i) {x r : AV} {v : Value} (hr : read1 m x = some r) (hx : Rep w N i x v) :
    ∃ b off u, v = .pointer (some ⟨b, off, none⟩) ∧ w.cell? ⟨b, off, none⟩ = some u ∧ u.oneCell' = true ∧ Rep w N i r u := by
  cases x <;> simp only [read1] at hr <;> try (cases hr; done)
  · rename_i id off top
    split at hr
    · rename_i xs ho
      cases hb : xs.length == top with
      | false => simp [hb] at hr
      | true =>
        simp only [hb, cond_true] at hr
        obtain ⟨b, o, c, h1, rfl⟩ := hx
        obtain ⟨_, arr, elem, fr, vs, h2, h3, h4, h5, h6, h7, h8⟩ := hs.cells ho (by simpa using hb) h1
        obtain ⟨u, hu, hru⟩ := h8.get hr
        exact ⟨b, o + off, u, rfl, h6 off u hu, h7 u (List.mem_of_getElem? hu), hru⟩
    · cases hr
  all_goals
    rw [head_get] at hr
    obtain ⟨b, off, vs, _, rfl, hc, ho, hl⟩ := hx
    have l : Le w N P0 w N i := ⟨fun _ h => h, fun _ _ => rfl, fun _ _ _ h => by simp [P0] at h⟩
    obtain ⟨u, hu, hru⟩ := hl.get hr
    first
    | exact ⟨b, off, u, rfl, by simpa using hc 0 u hu, ho u (List.mem_of_getElem? hu), Rep.mono l _ hru⟩
    | exact ⟨b, off, u, rfl, by simpa using hc 0 u hu, ho u (List.mem_of_getElem? hu), hru⟩

theorem loadA_run {P : Program} {m : Mem} {w : World} {N : Nat → Prop} {i : Pl} (hs : Sim m w N i) {t : TypeId} {g : Bool} {n : Nat} {x r : AV} {v : Value} (hg : aggT P t = some g) (hn : sizeT P t = some n) (hr : loadA g n m x = some r) (hx : Rep w N i x v) :
    ∃ b off z, v = .pointer (some ⟨b, off, none⟩) ∧ (loadVar t ⟨b, off, none⟩).run P w = .ok z w ∧ Rep w N i r z := by
  have h1 : (isAgg t).run P w = .ok g w := run_isAgg hg w
  have h2 : (sizeOf t).run P w = .ok n w := run_sizeOf hn w
  cases g with
  | true =>
    simp only [loadA, cond_true, Option.map_eq_some_iff] at hr
    obtain ⟨cs, hr, rfl⟩ := hr
    obtain ⟨b, off, vs, rfl, hc, _, hl, hlen⟩ := readN_cells hs hr hx
    have hld := run_loadCells_list (P := P) w ⟨b, off, none⟩ vs (fun j u hj => by rw [add_lit]; exact hc j u hj)
    rw [hlen] at hld
    exact ⟨b, off, .agg vs.toArray, rfl, by simp [loadVar, h1, h2, hld], _, rfl, by simpa using hl⟩
  | false =>
    simp only [loadA, cond_false] at hr
    obtain ⟨b, off, u, rfl, hc, _, hru⟩ := read1_cell hs hr hx
    exact ⟨b, off, u, rfl, by simp [loadVar, h1, hc], hru⟩

/-- The cells behind a slice. -/
theorem srcA_cells {m : Mem} {w : World} {N : Nat → Prop} {i : Pl} (hs : Sim m w N i) {size n : Nat} {x : AV} {cs : List AV} {v : Value} (hstr : ∀ s, x ≠ .str s) (hr : srcA m size x = some (n, cs)) (hx : Rep w N i x v) :
    (v = .slice none 0 0 ∧ n = 0 ∧ cs = []) ∨ ∃ a cap vs, v = .slice (some a) n cap ∧ n ≤ cap ∧ (∀ (j : Nat) u, vs[j]? = some u → w.cell? (a.add j) = some u) ∧ One vs ∧ RepL w N i cs vs ∧ vs.length = n * size := by
  cases x <;> simp only [srcA] at hr <;> try (cases hr; done)
  · exact (hstr _ rfl).elim
  · cases hr; cases hx; exact .inl ⟨rfl, rfl, rfl⟩
  · rename_i id es off n' top
    split at hr
    · rename_i xs ho
      cases hb : (xs.length == top && (es == size && Nat.ble (off + n' * size) top)) with
      | false => simp [hb] at hr
      | true =>
        simp only [hb, cond_true, Option.some.injEq, Prod.mk.injEq] at hr
        simp only [Bool.and_eq_true, beq_iff_eq, Nat.ble_eq] at hb
        obtain ⟨rfl, rfl⟩ := hr
        obtain ⟨b, o, c, off', cap, h1, rfl, g2, g3, g4⟩ := hx
        obtain ⟨_, arr, elem, fr, vs, h2, h3, h4, h5, h6, h7, h8⟩ := hs.cells ho hb.1 h1
        have hlen := h8.length
        refine .inr ⟨⟨b, off', none⟩, cap, (vs.drop off).take (n' * size), rfl, g3, ?_, (h7.drop _).take _, (h8.drop _).take _, by simp; omega⟩
        by_cases hc : cap = 0
        · have : n' = 0 := by omega
          subst this
          intro j u hj
          simp at hj
        · intro j u hj
          rw [g2 hc, add_lit]
          exact (h6.drop off).take _ j u hj
    · cases hr
  · rename_i ex n' cells
    cases hb : cells.length == n' * size with
    | false => simp [hb] at hr
    | true =>
      simp only [hb, cond_true, Option.some.injEq, Prod.mk.injEq] at hr
      obtain ⟨rfl, rfl⟩ := hr
      obtain ⟨a, cap, vs, rfl, g2, g3, g4, g5, g6⟩ := hx
      have l : Le w N P0 w N i := ⟨fun _ h => h, fun _ _ => rfl, fun _ _ _ h => by simp [P0] at h⟩
      exact .inr ⟨a, cap, vs, rfl, g2, fun j u hj => by
        rcases g4 with ⟨_, rfl⟩ | ⟨b, off, rfl, _, g4⟩
        · simp at hj
        · rw [add_lit]; exact g4 j u hj, g5, RepL.mono l _ g6, by rw [g6.length]; simpa using hb⟩

theorem srcA_src {P : Program} {m : Mem} {w : World} {N : Nat → Prop} {i : Pl} (hs : Sim m w N i) {size n : Nat} {tx : TypeId} {x : AV} {cs : List AV} {v : Value} (hk : (∃ e', P.underlying tx = some (.slice e')) ∨ P.underlying tx = some .string)
    (hr : srcA m size x = some (n, cs)) (hx : Rep w N i x v) : ∃ vs, Src P size tx v n vs w ∧ RepL w N i cs vs := by
  by_cases hstr : ∃ s, x = .str s
  · obtain ⟨s, rfl⟩ := hstr
    simp only [srcA] at hr
    cases hb : size == 1 with
    | false => simp [hb] at hr
    | true =>
      simp only [hb, cond_true, Option.some.injEq, Prod.mk.injEq] at hr
      simp at hb
      subst hb
      obtain ⟨rfl, rfl⟩ := hr
      cases hx
      refine ⟨byteCells ⟨s.toArray⟩, ⟨hk, fun _ => by simp [Builtin.lenOf, str_size], ?_, ?_, by rw [byteCells_length, str_size, Nat.mul_one], fun u hu => ?_⟩, ?_⟩
      · rw [← str_size s]; exact firstCells_string _ _
      · rw [← str_size s]; exact firstCells_string _ _
      · obtain ⟨_, _, rfl⟩ := List.mem_map.1 hu; rfl
      · refine RepL_of_get (by simp [byteCells]) (fun j a u h1 h2 => ?_)
        simp only [byteCells, List.getElem?_map, Option.map_eq_some_iff] at h1 h2
        obtain ⟨c, h3, rfl⟩ := h1
        obtain ⟨c', h4, rfl⟩ := h2
        have h4' : s[j]? = some c' := h4
        rw [h3] at h4'
        cases h4'
        rfl
  · rcases srcA_cells hs (fun s e => hstr ⟨s, e⟩) hr hx with ⟨rfl, rfl, rfl⟩ | ⟨a, cap, vs, rfl, h1, h2, h3, h4, h5⟩
    · exact ⟨[], ⟨hk, fun _ => rfl, run_firstCells_none w size 0 0 0, run_firstCells_none w.drew size 0 0 0, by simp, fun _ h => by cases h⟩, rfl⟩
    · have hn : ∀ j u, vs[j]? = some u → w.cell? (a.add j) = some u := h2
      exact ⟨vs, ⟨hk, fun _ => rfl, run_firstCells_some w size n _ n cap vs h5 hn, run_firstCells_some w.drew size n _ n cap vs h5 (by simpa using hn), h5, h3⟩, h4⟩

/-! ### Bytes to string -/
theorem bytesOf_run {w : World} {N : Nat → Prop} {i : Pl} : ∀ {cs : List AV} {bs : List UInt8} {vs : List Value}, bytesOf cs = some bs → RepL w N i cs vs → ∃ ns : List Int, vs = ns.map (Value.int .u8) ∧ bs = ns.map fun n => UInt8.ofNat n.toNat
  | [], bs, vs, h, hl => by
    simp [bytesOf] at h
    subst h
    cases hl
    exact ⟨[], rfl, rfl⟩
  | a :: cs, bs, vs, h, ⟨v, r, h1, h2, h3⟩ => by
    unfold bytesOf at h
    split at h
    · rename_i he; cases he
    · rename_i n r' he
      cases he
      simp only [Option.bind_eq_some_iff] at h
      obtain ⟨bs', h, h'⟩ := h
      cases h'
      obtain ⟨ns, g1, g2⟩ := bytesOf_run h h3
      subst h1
      cases h2
      exact ⟨n :: ns, by simp [g1], by simp [g2]⟩
    · cases h

theorem foldl_push : ∀ (ns : List Int) (s : ByteArray), (ns.foldl (fun r n => r.push (UInt8.ofNat n.toNat)) s) = ⟨(s.data.toList ++ ns.map fun n => UInt8.ofNat n.toNat).toArray⟩
  | [], s => by simp
  | n :: ns, s => by
    rw [List.foldl_cons, foldl_push ns]
    apply bytes_ext
    simp [ByteArray.push]

theorem convA_run {P : Program} {m : Mem} {w : World} {N : Nat → Prop} {i : Pl} (hs : Sim m w N i) {src dst : TypeId} {x r : AV} {v : Value} (hr : convA P m src dst x = some r) (hx : Rep w N i x v) :
    ∃ z, (convert src dst v).run P w = .ok z w ∧ Rep w N i r z := by
  unfold convA at hr
  split at hr
  · rename_i d k k' n hu hd
    cases hr; cases hx
    exact ⟨.int k (k.wrap n), by simp [convert, run_underlying hu, run_underlying hd, Conv.intToInt], rfl⟩
  · rename_i s hu hd
    cases hr; cases hx
    exact ⟨_, by simp [convert, run_underlying hu, run_underlying hd], rfl⟩
  · rename_i e hu hd
    split at hr
    · rename_i he
      cases hr; cases hx
      refine ⟨.string .empty, by rw [run_convert_bytes_string w src dst e none 0 0 hu he hd]; simp [Conv.bytesToString], rfl⟩
    · cases hr
  · cases hr
  · rename_i x' e hu hd hn hstr
    split at hr
    · rename_i he
      simp only [Option.bind_eq_some_iff, Option.map_eq_some_iff] at hr
      obtain ⟨⟨n, cs⟩, h1, bs, h2, rfl⟩ := hr
      rcases srcA_cells hs (fun s e => hstr s e) h1 hx with ⟨rfl, rfl, rfl⟩ | ⟨a, cap, vs, rfl, g1, g2, g3, g4, g5⟩
      · simp [bytesOf] at h2
        subst h2
        exact ⟨.string .empty, by rw [run_convert_bytes_string w src dst e none 0 0 hu he hd]; simp [Conv.bytesToString], rfl⟩
      · obtain ⟨ns, e1, e2⟩ := bytesOf_run h2 g4
        have hld := run_loadCells_list (P := P) w a vs g2
        rw [g5, Nat.mul_one, e1] at hld
        refine ⟨_, by rw [run_convert_bytes_string w src dst e _ n cap hu he hd, run_bytesToString w _ n cap ns hld], ?_⟩
        rw [foldl_push, e2]
        rfl
    · cases hr
  · cases hr
end Go.AM
