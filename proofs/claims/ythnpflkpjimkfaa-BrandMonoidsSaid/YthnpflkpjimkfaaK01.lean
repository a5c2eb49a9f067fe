/-
  VALID BRANDS: the code's test and the specification's are one. Conditions: none.
-/
import Derived.Test.YthnpflkpjimkfaaK00
import Derived.Test.YthnpflkpjimkfaaKAmF
import Derived.Test.YthnpflkpjimkfaaKAmE
import Derived.Test.YthnpflkpjimkfaaKAmH
set_option linter.all false
namespace Go.Proofs.Ythnpflkpjimkfaa
open Go.AM
open Go.Proofs.Try (prog)
set_option linter.all false
set_option maxRecDepth 100000
set_option maxHeartbeats 4000000

theorem IsRows.one {v : AV} {ps : List AV} {rows : List (List Int)} (h : IsRows v ps rows) : v.one = true := by rcases h.val with ⟨rfl, _⟩ | ⟨_, rfl⟩ <;> rfl
theorem IsB.one {v : AV} {l : List Bool} (h : IsB v l) : v.one = true := by rcases h with ⟨rfl, _⟩ | ⟨_, rfl⟩ <;> rfl
theorem le_fmin : ∀ (L : List Int) (x a : Int), a ≤ L.foldl min x ↔ a ≤ x ∧ ∀ y ∈ L, a ≤ y
  | [], x, a => by simp
  | b :: L, x, a => by
    rw [List.foldl_cons, le_fmin L]
    constructor
    · rintro ⟨h1, h2⟩
      refine ⟨by omega, fun y hy => ?_⟩
      rcases List.mem_cons.1 hy with rfl | hy
      · omega
      · exact h2 y hy
    · rintro ⟨h1, h2⟩
      have := h2 b (by simp)
      exact ⟨by omega, fun y hy => h2 y (by simp [hy])⟩
theorem fmax_lt : ∀ (L : List Int) (x a : Int), L.foldl max x < a ↔ x < a ∧ ∀ y ∈ L, y < a
  | [], x, a => by simp
  | b :: L, x, a => by
    rw [List.foldl_cons, fmax_lt L]
    constructor
    · rintro ⟨h1, h2⟩
      refine ⟨by omega, fun y hy => ?_⟩
      rcases List.mem_cons.1 hy with rfl | hy
      · omega
      · exact h2 y hy
    · rintro ⟨h1, h2⟩
      have := h2 b (by simp)
      exact ⟨by omega, fun y hy => h2 y (by simp [hy])⟩
theorem cons_nth {c : List Int} (h : 0 < c.length) : c = nth c 0 :: c.drop 1 := by
  have := drop_nth (l := c) (i := 0) h
  simpa using this
theorem rowOk_iff {r : List Int} {n k : Nat} (hk : r.length = k) (h0 : 0 < k) : rowOk n k r = true ↔ ¬ minL r < 0 ∧ ¬ (n : Int) ≤ maxL r := by
  have h1 := le_fmin (r.drop 1) (nth r 0) 0
  have h2 := fmax_lt (r.drop 1) (nth r 0) n
  have hc := cons_nth (c := r) (by omega)
  unfold rowOk minL maxL
  simp only [hk, decide_true, Bool.true_and, List.all_eq_true, Bool.and_eq_true, decide_eq_true_eq]
  have e : (∀ x ∈ r, 0 ≤ x ∧ x < (n : Int)) ↔ (0 ≤ nth r 0 ∧ ∀ y ∈ r.drop 1, 0 ≤ y) ∧ (nth r 0 < n ∧ ∀ y ∈ r.drop 1, y < (n : Int)) := by
    constructor
    · intro h
      rw [hc] at h
      exact ⟨⟨(h _ (by simp)).1, fun y hy => (h y (List.mem_cons_of_mem _ hy)).1⟩, (h _ (by simp)).2, fun y hy => (h y (List.mem_cons_of_mem _ hy)).2⟩
    · rintro ⟨⟨a, b⟩, c, d⟩ x hx
      rw [hc] at hx
      rcases List.mem_cons.1 hx with rfl | hx
      · exact ⟨a, c⟩
      · exact ⟨b x hx, d x hx⟩
  rw [e, ← h1, ← h2]
  omega
theorem drop_cth {rows : List (List Int)} {i : Nat} (h : i < rows.length) : rows.drop i = cth rows i :: rows.drop (i + 1) := by
  rw [List.drop_eq_getElem_cons h]
  congr 1
  simp [cth, h]
theorem val_loop {nv : AV} {ps : List AV} {rows : List (List Int)} {n k : Nat} (hn : IsRows nv ps rows) (hl : rows.length ≤ 1000) (hr : ∀ i, i < rows.length → (cth rows i).length ≤ 1000) (hk : 1 ≤ k) : ∀ (j i : Nat) (m : Mem), i + j = rows.length →
    brand_valid.L0 (.int .i64 n) (.int .i64 k) nv (.int .i64 rows.length) (.int .i64 i) m [.code brand_valid.r13, .code .ret] = some (.bool ((rows.drop i).all (rowOk n k)), Mem.empty) := by
  intro j
  induction j with
  | zero =>
    intro i m h1
    have e : i = rows.length := by omega
    subst e
    rw [brand_valid.L0_eq]
    simp
    done
  | succ j ih =>
    intro i m h1
    have hi : i < rows.length := by omega
    have hw : IntKind.wrap .i64 ((i : Int) + 1) = (i : Int) + 1 := wrap_id (by omega) (by omega)
    have iw := hn.row i hi
    have hrl := hr i hi
    have st := fun m => ih (i + 1) m (by omega)
    simp only [Int.natCast_add, Int.cast_ofNat_Int] at st
    rw [drop_cth hi, List.all_cons, brand_valid.L0_eq]
    by_cases c1 : (cth rows i).length = k
    · have c1' : ((cth rows i).length : Int) = k := by omega
      have hmn := fun m => min_spec iw (by omega) (by omega) m
      have hmx := fun m => max_spec iw (by omega) (by omega) m
      have hro := rowOk_iff (r := cth rows i) (n := n) c1 (by omega)
      by_cases c2 : minL (cth rows i) < 0
      · have : rowOk n k (cth rows i) = false := by
          cases h : rowOk n k (cth rows i) with
          | false => rfl
          | true => exact absurd c2 (hro.1 h).1
        simp [hi, hn.idx hi, hn.head hi, iw.len, c1, c1', iw.closed, hmn, c2, this]
        done
      · by_cases c3 : (n : Int) ≤ maxL (cth rows i)
        · have : rowOk n k (cth rows i) = false := by
            cases h : rowOk n k (cth rows i) with
            | false => rfl
            | true => exact absurd c3 (hro.1 h).2
          simp [hi, hn.idx hi, hn.head hi, iw.len, c1, c1', iw.closed, hmn, hmx, c2, c3, this]
          done
        · have : rowOk n k (cth rows i) = true := hro.2 ⟨c2, c3⟩
          simp [hi, hn.idx hi, hn.head hi, iw.len, c1, c1', iw.closed, hmn, hmx, c2, c3, this, hw, st]
          done
    · have c1' : ¬ ((cth rows i).length : Int) = k := by omega
      have : rowOk n k (cth rows i) = false := by simp [rowOk, c1]
      simp [hi, hn.idx hi, hn.head hi, iw.len, c1, c1', this]
      done
theorem valid_spec {nv gv : AV} {ps : List AV} {rows : List (List Int)} {good : List Bool} (hn : IsRows nv ps rows) (hg : IsB gv good) (hl : rows.length ≤ 1000) (hgl : good.length ≤ 1000) (hr : ∀ i, i < rows.length → (cth rows i).length ≤ 1000) (m : Mem) :
    denC prog ann 55 [.agg [nv, gv]] m = some (.bool (validB rows good), m) := by
  rw [brand_valid.call_eq _ _ (by simp [hn.closed, hg.closed])]
  unfold validB
  by_cases c1 : rows.length < 1
  · have : ¬ 1 ≤ rows.length := by omega
    simp [hn.one, hg.one, hn.closed, hg.closed, hn.len, c1, show (rows.length : Int) < 1 by omega, show ¬ 1 ≤ rows.length by omega]
    done
  · by_cases c2 : 6 < rows.length
    · simp [hn.one, hg.one, hn.closed, hg.closed, hn.len, show ¬ (rows.length : Int) < 1 by omega, show (6 : Int) < rows.length by omega, show ¬ rows.length ≤ 6 by omega]
      done
    · by_cases c3 : good.length = rows.length
      · have hi : 0 < rows.length := by omega
        have iw := hn.row 0 hi
        have i0 := hn.idx hi .i64
        have h0 := hn.head hi
        simp only [Int.ofNat_zero, Int.cast_ofNat_Int, List.drop_zero] at i0 h0
        have hr0 := hr 0 hi
        by_cases c4 : (cth rows 0).length < 1
        · simp [hn.one, hg.one, hn.closed, hg.closed, hn.len, hg.len, c3, show ¬ (rows.length : Int) < 1 by omega, show ¬ (6 : Int) < rows.length by omega, i0, h0, iw.len, show ((cth rows 0).length : Int) < 1 by omega, show ¬ 1 ≤ (cth rows 0).length by omega, show 1 ≤ rows.length by omega, show rows.length ≤ 6 by omega]
          done
        · by_cases c5 : 3 < (cth rows 0).length
          · simp [hn.one, hg.one, hn.closed, hg.closed, hn.len, hg.len, c3, show ¬ (rows.length : Int) < 1 by omega, show ¬ (6 : Int) < rows.length by omega, i0, h0, iw.len, show ¬ ((cth rows 0).length : Int) < 1 by omega, show (3 : Int) < (cth rows 0).length by omega, show ¬ (cth rows 0).length ≤ 3 by omega, show 1 ≤ rows.length by omega, show rows.length ≤ 6 by omega]
            done
          · have lp := fun m => val_loop (n := rows.length) (k := (cth rows 0).length) hn hl hr (by omega) rows.length 0 m (by omega)
            simp only [Int.ofNat_zero, Int.cast_ofNat_Int, List.drop_zero] at lp
            simp [hn.one, hg.one, hn.closed, hg.closed, hn.len, hg.len, c3, show ¬ (rows.length : Int) < 1 by omega, show ¬ (6 : Int) < rows.length by omega, i0, h0, iw.len, show ¬ ((cth rows 0).length : Int) < 1 by omega, show ¬ (3 : Int) < (cth rows 0).length by omega, show (cth rows 0).length ≤ 3 by omega, show 1 ≤ (cth rows 0).length by omega, show 1 ≤ rows.length by omega, show rows.length ≤ 6 by omega, lp]
            done
      · simp [hn.one, hg.one, hn.closed, hg.closed, hn.len, hg.len, c3, show ¬ (rows.length : Int) < 1 by omega, show ¬ (6 : Int) < rows.length by omega, show ¬ (good.length : Int) = rows.length by omega]
        done

/-! ### The specification's -/
theorem in_spec (a b c : Int) (m : Mem) : denC prog ann 62 [.int .i64 a, .int .i64 b, .int .i64 c] m = some (.bool (decide (b ≤ a) && decide (a ≤ c)), m) := by
  rw [r07_in.call_eq _ _ _ _ (by simp)]
  by_cases h : b ≤ a <;> simp [h]
theorem rv_in {nv gv : AV} {ps : List AV} {rows : List (List Int)} {n : Nat} (hn : IsRows nv ps rows) (hnn : n ≤ 1000) (hl : rows.length ≤ 1000) {i : Nat} (hi : i < rows.length) (hr : (cth rows i).length ≤ 1000) (K : List Item) : ∀ (j p : Nat) (m : Mem), p + j = (cth rows i).length →
    ∃ m', r07_Valid.L2 (.fptr [nv, gv]) (.int .i64 n) (.int .i64 i) (.int .i64 p) m (.inBlock 1 :: .code r07_Valid.r6 :: .inLoop r07_Valid.l0 :: .inBlock 0 :: K) =
      if ((cth rows i).drop p).all (fun x => decide (0 ≤ x) && decide (x < n)) = true then r07_Valid.L0 (.fptr [nv, gv]) (.int .i64 n) (.int .i64 ((i : Int) + 1)) m' K else some (.bool false, Mem.empty) := by
  intro j
  have iw := hn.row i hi
  have hw0 : IntKind.wrap .i64 ((n : Int) - 1) = (n : Int) - 1 := wrap_id (by omega) (by omega)
  have hwi : IntKind.wrap .i64 ((i : Int) + 1) = (i : Int) + 1 := wrap_id (by omega) (by omega)
  induction j with
  | zero =>
    intro p m h1
    have e : p = (cth rows i).length := by omega
    subst e
    refine ⟨m, ?_⟩
    rw [r07_Valid.L2_eq]
    simp [hn.idx hi, hn.head hi, iw.len, hwi]
    done
  | succ j ih =>
    intro p m h1
    have hp : p < (cth rows i).length := by omega
    have hwp : IntKind.wrap .i64 ((p : Int) + 1) = (p : Int) + 1 := wrap_id (by omega) (by omega)
    obtain ⟨m', g⟩ := ih (p + 1) m (by omega)
    simp only [Int.natCast_add, Int.cast_ofNat_Int] at g
    refine ⟨m', ?_⟩
    rw [drop_nth hp, List.all_cons, r07_Valid.L2_eq]
    by_cases c1 : 0 ≤ nth (cth rows i) p
    · by_cases c2 : nth (cth rows i) p < n
      · rw [decide_eq_true c1, decide_eq_true c2, Bool.true_and, Bool.true_and, ← g]
        simp [hp, hn.idx hi, hn.head hi, iw.len, iw.idx hp, ints_head hp, hw0, in_spec, c1, show nth (cth rows i) p ≤ (n : Int) - 1 by omega, hwp]
        done
      · rw [decide_eq_true c1, decide_eq_false c2]
        simp [hp, hn.idx hi, hn.head hi, iw.len, iw.idx hp, ints_head hp, hw0, in_spec, c1, show ¬ nth (cth rows i) p ≤ (n : Int) - 1 by omega]
        done
    · rw [decide_eq_false c1]
      simp [hp, hn.idx hi, hn.head hi, iw.len, iw.idx hp, ints_head hp, hw0, in_spec, c1]
      done
theorem rv_out {nv gv : AV} {ps : List AV} {rows : List (List Int)} (hn : IsRows nv ps rows) (hl : rows.length ≤ 1000) (h0 : 0 < rows.length) (hr : ∀ i, i < rows.length → (cth rows i).length ≤ 1000) : ∀ (j i : Nat) (m : Mem), i + j = rows.length →
    r07_Valid.L0 (.fptr [nv, gv]) (.int .i64 rows.length) (.int .i64 i) m [.code r07_Valid.r14, .code .ret] = some (.bool ((rows.drop i).all (rowOk rows.length (cth rows 0).length)), Mem.empty) := by
  intro j
  have iw0 := hn.row 0 h0
  have i0 := hn.idx h0 .i64
  have hh0 := hn.head h0
  simp only [Int.ofNat_zero, Int.cast_ofNat_Int, List.drop_zero] at i0 hh0
  induction j with
  | zero =>
    intro i m h1
    have e : i = rows.length := by omega
    subst e
    rw [r07_Valid.L0_eq]
    simp
    done
  | succ j ih =>
    intro i m h1
    have hi : i < rows.length := by omega
    have iw := hn.row i hi
    obtain ⟨m', g⟩ := rv_in (gv := gv) hn hl hl hi (hr i hi) [.code r07_Valid.r14, .code .ret] (cth rows i).length 0 { h := m.h, nx := m.nx + 12 } (by omega)
    simp only [Int.ofNat_zero, Int.cast_ofNat_Int, List.drop_zero] at g
    have st := ih (i + 1) m' (by omega)
    simp only [Int.natCast_add, Int.cast_ofNat_Int] at st
    rw [st] at g
    rw [drop_cth hi, List.all_cons, r07_Valid.L0_eq]
    unfold rowOk at g ⊢
    by_cases c1 : (cth rows i).length = (cth rows 0).length
    · have c1' : ((cth rows i).length : Int) = (cth rows 0).length := by omega
      rw [decide_eq_true c1, Bool.true_and]
      simp [hi, hn.idx hi, hn.head hi, iw.len, i0, hh0, iw0.len, c1']
      rw [g]
      cases q : ((cth rows i).all fun x => decide (0 ≤ x) && decide (x < (rows.length : Int))) with
      | true => rw [if_pos rfl, Bool.true_and]
      | false => rw [if_neg (by decide), Bool.false_and]
    · have c1' : ¬ ((cth rows i).length : Int) = (cth rows 0).length := by omega
      rw [decide_eq_false c1]
      simp [hi, hn.idx hi, hn.head hi, iw.len, i0, hh0, iw0.len, c1']
      done
theorem rvalid_spec {nv gv : AV} {ps : List AV} {rows : List (List Int)} {good : List Bool} (hn : IsRows nv ps rows) (hg : IsB gv good) (hl : rows.length ≤ 1000) (hgl : good.length ≤ 1000) (hr : ∀ i, i < rows.length → (cth rows i).length ≤ 1000) (m : Mem) :
    denC prog ann 19 [.agg [nv, gv]] m = some (.bool (validB rows good), m) := by
  rw [r07_Valid.call_eq _ _ (by simp [hn.closed, hg.closed])]
  unfold validB
  by_cases c1 : 1 ≤ rows.length
  · by_cases c2 : rows.length ≤ 6
    · by_cases c3 : good.length = rows.length
      · have hi : 0 < rows.length := by omega
        have iw := hn.row 0 hi
        have i0 := hn.idx hi .i64
        have h0 := hn.head hi
        simp only [Int.ofNat_zero, Int.cast_ofNat_Int, List.drop_zero] at i0 h0
        have lp := fun m => rv_out (gv := gv) hn hl hi hr rows.length 0 m (by omega)
        simp only [Int.ofNat_zero, Int.cast_ofNat_Int, List.drop_zero] at lp
        by_cases c4 : 1 ≤ (cth rows 0).length
        · by_cases c5 : (cth rows 0).length ≤ 3
          · simp [hn.one, hg.one, hn.closed, hg.closed, hn.len, hg.len, c3, in_spec, show (1 : Int) ≤ rows.length by omega, show (rows.length : Int) ≤ 6 by omega, i0, h0, iw.len, show (1 : Int) ≤ (cth rows 0).length by omega, show ((cth rows 0).length : Int) ≤ 3 by omega, c1, c2, c4, c5, lp]
            done
          · simp [hn.one, hg.one, hn.closed, hg.closed, hn.len, hg.len, c3, in_spec, show (1 : Int) ≤ rows.length by omega, show (rows.length : Int) ≤ 6 by omega, i0, h0, iw.len, show (1 : Int) ≤ (cth rows 0).length by omega, show ¬ ((cth rows 0).length : Int) ≤ 3 by omega, c1, c2, c4, c5]
            done
        · simp [hn.one, hg.one, hn.closed, hg.closed, hn.len, hg.len, c3, in_spec, show (1 : Int) ≤ rows.length by omega, show (rows.length : Int) ≤ 6 by omega, i0, h0, iw.len, show ¬ (1 : Int) ≤ (cth rows 0).length by omega, c1, c2, c4]
          done
      · simp [hn.one, hg.one, hn.closed, hg.closed, hn.len, hg.len, c3, in_spec, show (1 : Int) ≤ rows.length by omega, show (rows.length : Int) ≤ 6 by omega, c1, c2, show ¬ (good.length : Int) = rows.length by omega]
        done
    · simp [hn.one, hg.one, hn.closed, hg.closed, hn.len, in_spec, show (1 : Int) ≤ rows.length by omega, show ¬ (rows.length : Int) ≤ 6 by omega, c1, c2]
      done
  · simp [hn.one, hg.one, hn.closed, hg.closed, hn.len, in_spec, show ¬ (1 : Int) ≤ rows.length by omega, c1]
    done
end Go.Proofs.Ythnpflkpjimkfaa

/-
  WORDS: whether a string is one, and the state to which it leads: the code's and the specification's. Conditions: none.
-/
namespace Go.Proofs.Ythnpflkpjimkfaa
open Go.AM
open Go.Proofs.Try (prog)
set_option linter.all false
set_option maxRecDepth 100000
set_option maxHeartbeats 4000000

/-- A valid brand. -/
structure VB (rows : List (List Int)) (good : List Bool) (k : Nat) : Prop where
  n1 : 1 ≤ rows.length
  n6 : rows.length ≤ 6
  gl : good.length = rows.length
  k1 : 1 ≤ k
  k3 : k ≤ 3
  rl : ∀ i, i < rows.length → (cth rows i).length = k
  rg : ∀ i j, i < rows.length → j < k → 0 ≤ nth (cth rows i) j ∧ nth (cth rows i) j < rows.length
theorem VB.of {rows : List (List Int)} {good : List Bool} (h : validB rows good = true) : VB rows good (cth rows 0).length := by
  unfold validB at h
  simp only [Bool.and_eq_true, decide_eq_true_eq, List.all_eq_true] at h
  obtain ⟨⟨h1, h2⟩, h3, ⟨h4, h5⟩, h6⟩ := h
  have key : ∀ i, i < rows.length → rowOk rows.length (cth rows 0).length (cth rows i) = true := fun i hi => h6 _ (cth_mem hi)
  refine ⟨h1, h2, h3, h4, h5, fun i hi => ?_, fun i j hi hj => ?_⟩
  · have := key i hi
    unfold rowOk at this
    simp only [Bool.and_eq_true, decide_eq_true_eq] at this
    exact this.1
  · have := key i hi
    unfold rowOk at this
    simp only [Bool.and_eq_true, decide_eq_true_eq, List.all_eq_true] at this
    have hm : nth (cth rows i) j ∈ cth rows i := by rw [← nth_get (by omega : j < (cth rows i).length)]; exact List.getElem_mem _
    exact this.2 _ hm

def letB (k : Nat) (s : List UInt8) (i : Nat) : Bool := decide (97 ≤ byt s i) && decide (byt s i - 97 < k)
def letF (k : Nat) (s : List UInt8) (j i : Nat) : Bool := (List.range' i j).all (letB k s)
theorem letF_succ (k : Nat) (s : List UInt8) (j i : Nat) : letF k s (j + 1) i = (letB k s i && letF k s j (i + 1)) := by simp [letF, List.range'_succ]
/-- What the test of a word answers. -/
def wordE (k : Nat) (s : List UInt8) : Int := if 200 < s.length then 3 else if letF k s s.length 0 = true then 0 else 2
theorem sub97 {x : Nat} (h : 97 ≤ x) (h2 : x < 256) : IntKind.wrap .u8 ((x : Int) - 97) = ((x - 97 : Nat) : Int) := by
  rw [wrap8 (by omega)]; omega
theorem word_loop {nv gv : AV} {ps : List AV} {rows : List (List Int)} {k : Nat} (hn : IsRows nv ps rows) (h0 : 0 < rows.length) (hk : (cth rows 0).length = k) (hk3 : k ≤ 1000) {s : List UInt8} (hs : s.length ≤ 200) : ∀ (j i : Nat) (m : Mem), i + j = s.length →
    r07_Word.L0 (.str s) (.fptr [nv, gv]) (.int .i64 i) m [.code r07_Word.r8, .code .ret] = some (.int .i64 (if letF k s j i = true then 0 else 2), Mem.empty) := by
  intro j
  have iw := hn.row 0 h0
  have i0 := hn.idx h0 .i64
  have hh := hn.head h0
  simp only [Int.ofNat_zero, Int.cast_ofNat_Int, List.drop_zero] at i0 hh
  induction j with
  | zero =>
    intro i m h1
    have e : i = s.length := by omega
    subst e
    rw [r07_Word.L0_eq]
    simp [letF]
    done
  | succ j ih =>
    intro i m h1
    have hi : i < s.length := by omega
    have hwi : IntKind.wrap .i64 ((i : Int) + 1) = (i : Int) + 1 := wrap_id (by omega) (by omega)
    have hb := byt_lt s i
    have st := fun m => ih (i + 1) m (by omega)
    simp only [Int.natCast_add, Int.cast_ofNat_Int] at st
    rw [letF_succ, letB, r07_Word.L0_eq]
    by_cases c1 : byt s i < 97
    · simp [hi, str_idx hi, c1, show (byt s i : Int) < 97 by omega, show ¬ 97 ≤ byt s i by omega]
      done
    · have hsub := sub97 (x := byt s i) (by omega) hb
      have hws : IntKind.wrap .i64 ((byt s i - 97 : Nat) : Int) = ((byt s i - 97 : Nat) : Int) := wrap_id (by omega) (by omega)
      by_cases c2 : byt s i - 97 < k
      · simp [hi, str_idx hi, c1, show ¬ (byt s i : Int) < 97 by omega, show 97 ≤ byt s i by omega, hsub, hws, i0, hh, iw.len, hk, show ¬ (k : Int) ≤ ((byt s i - 97 : Nat) : Int) by omega, show ¬ k ≤ byt s i - 97 by omega, c2, hwi, st]
        done
      · simp [hi, str_idx hi, c1, show ¬ (byt s i : Int) < 97 by omega, show 97 ≤ byt s i by omega, hsub, hws, i0, hh, iw.len, hk, show (k : Int) ≤ ((byt s i - 97 : Nat) : Int) by omega, show k ≤ byt s i - 97 by omega, c2]
        done
theorem word_spec {nv gv : AV} {ps : List AV} {rows : List (List Int)} {good : List Bool} (hn : IsRows nv ps rows) (hg : IsB gv good) (h0 : 0 < rows.length) (hk3 : (cth rows 0).length ≤ 1000) {s : List UInt8} (hs : s.length ≤ 1000) (m : Mem) :
    denC prog ann 24 [.agg [nv, gv], .str s] m = some (.int .i64 (wordE (cth rows 0).length s), m) := by
  rw [r07_Word.call_eq _ _ _ (by simp [hn.closed, hg.closed])]
  unfold wordE
  by_cases c : 200 < s.length
  · simp [hn.one, hg.one, hn.closed, hg.closed, c, show (200 : Int) < s.length by omega]
    done
  · have lp := fun m => word_loop (gv := gv) hn h0 rfl hk3 (s := s) (by omega) s.length 0 m (by omega)
    simp only [Int.ofNat_zero, Int.cast_ofNat_Int] at lp
    simp [hn.one, hg.one, hn.closed, hg.closed, c, show ¬ (200 : Int) < s.length by omega, lp]
    done
theorem check_loop {nv gv : AV} {ps : List AV} {rows : List (List Int)} {k : Nat} (hn : IsRows nv ps rows) (h0 : 0 < rows.length) (hk : (cth rows 0).length = k) (hk3 : k ≤ 1000) {s : List UInt8} (hs : s.length ≤ 200) : ∀ (j i : Nat) (m : Mem), i + j = s.length →
    brand_check.L1 (.str s) (.fptr [nv, gv]) (.int .i64 s.length) (.int .i64 i) m [.code brand_check.r11, .code .ret] = some (.int .i64 (if letF k s j i = true then 0 else 2), Mem.empty) := by
  intro j
  have iw := hn.row 0 h0
  have i0 := hn.idx h0 .i64
  have hh := hn.head h0
  simp only [Int.ofNat_zero, Int.cast_ofNat_Int, List.drop_zero] at i0 hh
  induction j with
  | zero =>
    intro i m h1
    have e : i = s.length := by omega
    subst e
    rw [brand_check.L1_eq]
    simp [letF]
    done
  | succ j ih =>
    intro i m h1
    have hi : i < s.length := by omega
    have hwi : IntKind.wrap .i64 ((i : Int) + 1) = (i : Int) + 1 := wrap_id (by omega) (by omega)
    have hb := byt_lt s i
    have st := fun m => ih (i + 1) m (by omega)
    simp only [Int.natCast_add, Int.cast_ofNat_Int] at st
    rw [letF_succ, letB, brand_check.L1_eq]
    by_cases c1 : byt s i < 97
    · simp [hi, str_idx hi, c1, show (byt s i : Int) < 97 by omega, show ¬ 97 ≤ byt s i by omega]
      done
    · have hsub := sub97 (x := byt s i) (by omega) hb
      have hws : IntKind.wrap .i64 ((byt s i - 97 : Nat) : Int) = ((byt s i - 97 : Nat) : Int) := wrap_id (by omega) (by omega)
      by_cases c2 : byt s i - 97 < k
      · simp [hi, str_idx hi, c1, show ¬ (byt s i : Int) < 97 by omega, show 97 ≤ byt s i by omega, hsub, hws, i0, hh, iw.len, hk, show ¬ (k : Int) ≤ ((byt s i - 97 : Nat) : Int) by omega, show ¬ k ≤ byt s i - 97 by omega, c2, hwi, st]
        done
      · simp [hi, str_idx hi, c1, show ¬ (byt s i : Int) < 97 by omega, show 97 ≤ byt s i by omega, hsub, hws, i0, hh, iw.len, hk, show (k : Int) ≤ ((byt s i - 97 : Nat) : Int) by omega, show k ≤ byt s i - 97 by omega, c2]
        done
/-- The code's test: 1 for a brand that is not valid. -/
theorem check_spec {nv gv : AV} {ps : List AV} {rows : List (List Int)} {good : List Bool} (hn : IsRows nv ps rows) (hg : IsB gv good) (hl : rows.length ≤ 1000) (hgl : good.length ≤ 1000) (hr : ∀ i, i < rows.length → (cth rows i).length ≤ 1000) {s : List UInt8} (hs : s.length ≤ 1000) (m : Mem) :
    denC prog ann 68 [.agg [nv, gv], .str s] m = some (.int .i64 (if validB rows good = true then wordE (cth rows 0).length s else 1), m) := by
  have hv := fun m => valid_spec hn hg hl hgl hr m
  rw [brand_check.call_eq _ _ _ (by simp [hn.closed, hg.closed])]
  cases c0 : validB rows good with
  | false =>
    rw [c0] at hv
    simp [hn.one, hg.one, hn.closed, hg.closed, hv]
    done
  | true =>
    rw [c0] at hv
    have vb := VB.of c0
    have h0 := vb.n1
    rw [if_pos rfl]
    unfold wordE
    by_cases c : 200 < s.length
    · simp [hn.one, hg.one, hn.closed, hg.closed, hv, c, show (200 : Int) < s.length by omega]
      done
    · have lp := fun m => check_loop (gv := gv) hn h0 rfl (by have := vb.k3; omega) (s := s) (by omega) s.length 0 m (by omega)
      simp only [Int.ofNat_zero, Int.cast_ofNat_Int] at lp
      simp [hn.one, hg.one, hn.closed, hg.closed, hv, c, show ¬ (200 : Int) < s.length by omega, lp]
      done

/-! ### Where words lead -/
def nx (rows : List (List Int)) (st a : Nat) : Nat := (nth (cth rows st) a).toNat
def goF (rows : List (List Int)) (s : List UInt8) : Nat → Nat → Nat → Nat
  | 0, _, st => st
  | j + 1, i, st => goF rows s j (i + 1) (nx rows st (byt s i - 97))
def goL (rows : List (List Int)) : List UInt8 → Nat → Nat
  | [], st => st
  | c :: r, st => goL rows r (nx rows st (c.toNat - 97))
theorem goF_goL (rows : List (List Int)) (s : List UInt8) : ∀ (j i st : Nat), i + j = s.length → goF rows s j i st = goL rows (s.drop i) st
  | 0, i, st, h => by rw [List.drop_of_length_le (by omega)]; rfl
  | j + 1, i, st, h => by
    have hi : i < s.length := by omega
    rw [List.drop_eq_getElem_cons hi, goL, goF, goF_goL rows s j (i + 1) _ (by omega)]
    congr 2
    simp [byt, hi]
theorem nx_lt {rows : List (List Int)} {good : List Bool} {k : Nat} (v : VB rows good k) {st a : Nat} (h : st < rows.length) (ha : a < k) : nx rows st a < rows.length ∧ nth (cth rows st) a = (nx rows st a : Nat) := by
  have := v.rg st a h ha
  unfold nx
  omega
theorem go_loop {nv gv : AV} {ps : List AV} {rows : List (List Int)} {good : List Bool} {k : Nat} (hn : IsRows nv ps rows) (v : VB rows good k) {s : List UInt8} (hs : s.length ≤ 1000000) : ∀ (j i st : Nat) (m : Mem), i + j = s.length → st < rows.length → letF k s j i = true →
    r07_Go.L0 (.int .i64 st) (.str s) (.fptr [nv, gv]) (.int .i64 i) m [.code r07_Go.r5, .code .ret] = some (.int .i64 (goF rows s j i st : Nat), Mem.empty) := by
  intro j
  induction j with
  | zero =>
    intro i st m h1 hst hlt
    have e : i = s.length := by omega
    subst e
    rw [r07_Go.L0_eq]
    simp [goF]
    done
  | succ j ih =>
    intro i st m h1 hst hlt
    have hi : i < s.length := by omega
    rw [letF_succ, Bool.and_eq_true, letB, Bool.and_eq_true, decide_eq_true_eq, decide_eq_true_eq] at hlt
    obtain ⟨⟨a1, a2⟩, a3⟩ := hlt
    have hwi : IntKind.wrap .i64 ((i : Int) + 1) = (i : Int) + 1 := wrap_id (by omega) (by omega)
    have hsub := sub97 a1 (byt_lt s i)
    have iw := hn.row st hst
    have hrl := v.rl st hst
    obtain ⟨b1, b2⟩ := nx_lt v hst a2
    have st' := fun m => ih (i + 1) _ m (by omega) b1 a3
    simp only [Int.natCast_add, Int.cast_ofNat_Int] at st'
    have hx := iw.idx (i := byt s i - 97) (by omega) .u8
    have hy := ints_head (l := cth rows st) (i := byt s i - 97) (by omega)
    rw [b2] at hy
    rw [goF, r07_Go.L0_eq]
    simp [hi, str_idx hi, hn.idx hst, hn.head hst, hsub, hx, hy, hwi, st']
    done
theorem go_spec {nv gv : AV} {ps : List AV} {rows : List (List Int)} {good : List Bool} {k : Nat} (hn : IsRows nv ps rows) (hg : IsB gv good) (v : VB rows good k) {s : List UInt8} (hs : s.length ≤ 1000000) (hl : letF k s s.length 0 = true) {st : Nat} (hst : st < rows.length) (m : Mem) :
    denC prog ann 25 [.agg [nv, gv], .int .i64 st, .str s] m = some (.int .i64 (goL rows s st : Nat), m) := by
  rw [r07_Go.call_eq _ _ _ _ (by simp [hn.closed, hg.closed])]
  have lp := fun m => go_loop (gv := gv) hn v hs s.length 0 st m (by omega) hst hl
  simp only [Int.ofNat_zero, Int.cast_ofNat_Int, goF_goL rows s s.length 0 st (by omega), List.drop_zero] at lp
  simp [hn.one, hg.one, hn.closed, hg.closed, lp]
  done
theorem after_loop {nv gv : AV} {ps : List AV} {rows : List (List Int)} {good : List Bool} {k : Nat} (hn : IsRows nv ps rows) (v : VB rows good k) {s : List UInt8} (hs : s.length ≤ 1000000) : ∀ (j i st : Nat) (m : Mem), i + j = s.length → st < rows.length → letF k s j i = true →
    brand_after.L0 (.int .i64 st) (.str s) (.fptr [nv, gv]) (.int .i64 s.length) (.int .i64 i) m [.code brand_after.r6, .code .ret] = some (.int .i64 (goF rows s j i st : Nat), Mem.empty) := by
  intro j
  induction j with
  | zero =>
    intro i st m h1 hst hlt
    have e : i = s.length := by omega
    subst e
    rw [brand_after.L0_eq]
    simp [goF]
    done
  | succ j ih =>
    intro i st m h1 hst hlt
    have hi : i < s.length := by omega
    rw [letF_succ, Bool.and_eq_true, letB, Bool.and_eq_true, decide_eq_true_eq, decide_eq_true_eq] at hlt
    obtain ⟨⟨a1, a2⟩, a3⟩ := hlt
    have hwi : IntKind.wrap .i64 ((i : Int) + 1) = (i : Int) + 1 := wrap_id (by omega) (by omega)
    have hsub := sub97 a1 (byt_lt s i)
    have iw := hn.row st hst
    have hrl := v.rl st hst
    obtain ⟨b1, b2⟩ := nx_lt v hst a2
    have st' := fun m => ih (i + 1) _ m (by omega) b1 a3
    simp only [Int.natCast_add, Int.cast_ofNat_Int] at st'
    have hx := iw.idx (i := byt s i - 97) (by omega) .u8
    have hy := ints_head (l := cth rows st) (i := byt s i - 97) (by omega)
    rw [b2] at hy
    rw [goF, brand_after.L0_eq]
    simp [hi, str_idx hi, hn.idx hst, hn.head hst, hsub, hx, hy, hwi, st']
    done
theorem after_spec {nv gv : AV} {ps : List AV} {rows : List (List Int)} {good : List Bool} {k : Nat} (hn : IsRows nv ps rows) (hg : IsB gv good) (v : VB rows good k) {s : List UInt8} (hs : s.length ≤ 1000000) (hl : letF k s s.length 0 = true) {st : Nat} (hst : st < rows.length) (m : Mem) :
    denC prog ann 69 [.agg [nv, gv], .int .i64 st, .str s] m = some (.int .i64 (goL rows s st : Nat), m) := by
  rw [brand_after.call_eq _ _ _ _ (by simp [hn.closed, hg.closed])]
  have lp := fun m => after_loop (gv := gv) hn v hs s.length 0 st m (by omega) hst hl
  simp only [Int.ofNat_zero, Int.cast_ofNat_Int, goF_goL rows s s.length 0 st (by omega), List.drop_zero] at lp
  simp [hn.one, hg.one, hn.closed, hg.closed, lp]
  done
theorem goL_lt {rows : List (List Int)} {good : List Bool} {k : Nat} (v : VB rows good k) (s : List UInt8) : ∀ (j i st : Nat), i + j = s.length → st < rows.length → letF k s j i = true → goF rows s j i st < rows.length
  | 0, i, st, _, h, _ => h
  | j + 1, i, st, h1, h, hl => by
    rw [letF_succ, Bool.and_eq_true, letB, Bool.and_eq_true, decide_eq_true_eq, decide_eq_true_eq] at hl
    exact goL_lt v s j (i + 1) _ (by omega) (nx_lt v h hl.1.2).1 hl.2
end Go.Proofs.Ythnpflkpjimkfaa

/-
  ACCEPTS: the code's and the specification's; and what the laws cut off a brand and a string. Conditions: none.
-/
namespace Go.Proofs.Ythnpflkpjimkfaa
open Go.AM
open Go.Proofs.Try (prog)
set_option linter.all false
set_option maxRecDepth 100000
set_option maxHeartbeats 4000000

theorem u4 : prog.underlying 4 = some .bool := by kernel_rfl
@[simp] theorem eql_bool (a b : Bool) : binA prog .eql 4 (.bool a) (.bool b) = some (.bool (a == b)) := by simp [binA, eqT, eqA, u4]
end Go.Proofs.Ythnpflkpjimkfaa

/-
  WHAT THE LAWS CUT OFF A BRAND AND A STRING. Conditions: none.
-/
namespace Go.Proofs.Ythnpflkpjimkfaa
open Go.AM
open Go.Proofs.Try (prog)
set_option linter.all false
set_option maxRecDepth 100000
set_option maxHeartbeats 4000000

theorem appV_nothing (k b : Nat) (hk : k ≠ 0) : appV k b (.fsl true 0 []) .nils = some (.fsl true 0 []) := by
  have h' : (k == 0) = false := by simpa using hk
  simp [appV, appF, h']
theorem appV_full {size by' n : Nat} {ex : Bool} {cs : List AV} (h : size ≠ 0) (hl : cs.length = n * size) (hc : closedL cs = true) (hr : room n by' = true) (hn : n ≠ 0) :
    appV size by' (.fsl true 0 []) (.fsl ex n cs) = some (.fsl false n cs) := by
  have h' : (size == 0) = false := by simpa using h
  have hn' : (n == 0) = false := by simpa using hn
  have hr' := hr
  simp [room] at hr'
  have ht : cs.take (n * size) = cs := by rw [← hl]; exact List.take_length
  simp [appV, appF, h', hl, hn', hr', hc, ht]
theorem app_ints {v : AV} {l : List Int} (h : IsInts v l) (hl : l.length ≤ 1000000) : ∃ v', appV 1 8 (.fsl true 0 []) v = some v' ∧ IsInts v' l := by
  rcases h with ⟨rfl, rfl⟩ | ⟨ex, rfl⟩
  · exact ⟨_, appV_nothing 1 8 (by omega), .inr ⟨true, rfl⟩⟩
  · by_cases h0 : l.length = 0
    · have : l = [] := List.eq_nil_of_length_eq_zero h0
      subst this
      exact ⟨.fsl true 0 [], by simp [appV, appF], .inr ⟨true, rfl⟩⟩
    · exact ⟨_, appV_full (by omega) (by simp) (by simp) (by simp [room]; omega) h0, .inr ⟨false, rfl⟩⟩
theorem app_bls {v : AV} {l : List Bool} (h : IsB v l) (hl : l.length ≤ 1000000) : ∃ v', appV 1 1 (.fsl true 0 []) v = some v' ∧ IsB v' l := by
  rcases h with ⟨rfl, rfl⟩ | ⟨ex, rfl⟩
  · exact ⟨_, appV_nothing 1 1 (by omega), .inr ⟨true, rfl⟩⟩
  · by_cases h0 : l.length = 0
    · have : l = [] := List.eq_nil_of_length_eq_zero h0
      subst this
      exact ⟨.fsl true 0 [], by simp [appV, appF, bls], .inr ⟨true, rfl⟩⟩
    · exact ⟨_, appV_full (by omega) (by simp) (by simp) (by simp [room]; omega) h0, .inr ⟨false, rfl⟩⟩
theorem slice_ints {v : AV} {l : List Int} (h : IsInts v l) {j : Int} (h0 : 0 ≤ j) (h1 : j ≤ l.length) : ∃ v', sliceSl 1 v none (some (.int .i64 j)) = some v' ∧ IsInts v' (l.take j.toNat) := by
  rcases h with ⟨rfl, rfl⟩ | ⟨ex, rfl⟩
  · have : j = 0 := by simp at h1; omega
    subst this
    exact ⟨.nils, by simp [sliceSl, bnds, bnd], .inl ⟨rfl, by simp⟩⟩
  · refine ⟨.fsl (ex && j.toNat == l.length) j.toNat (ints (l.take j.toNat)), by simp [sliceSl, bnds, bnd, h0, h1], .inr ⟨ex && j.toNat == l.length, by simp [show min j.toNat l.length = j.toNat by omega]⟩⟩
theorem slice_bls {v : AV} {l : List Bool} (h : IsB v l) {j : Int} (h0 : 0 ≤ j) (h1 : j ≤ l.length) : ∃ v', sliceSl 1 v none (some (.int .i64 j)) = some v' ∧ IsB v' (l.take j.toNat) := by
  rcases h with ⟨rfl, rfl⟩ | ⟨ex, rfl⟩
  · have : j = 0 := by simp at h1; omega
    subst this
    exact ⟨.nils, by simp [sliceSl, bnds, bnd], .inl ⟨rfl, by simp⟩⟩
  · refine ⟨.fsl (ex && j.toNat == l.length) j.toNat (bls (l.take j.toNat)), by simp [sliceSl, bnds, bnd, h0, h1], .inr ⟨ex && j.toNat == l.length, by simp [show min j.toNat l.length = j.toNat by omega]⟩⟩
theorem take_min {α : Type} (l : List α) (n : Nat) : l.take (min (l.length : Int) n).toNat = l.take n := by
  rcases Nat.le_total l.length n with h | h
  · rw [List.take_of_length_le h, List.take_of_length_le (by omega)]
  · rw [show (min (l.length : Int) n).toNat = n by omega]
theorem short_spec (s : List UInt8) (m : Mem) : denC prog ann 30 [.str s] m = some (.str (s.take 201), m) := by
  have e := take_min s 201
  simp only [Int.cast_ofNat_Int] at e
  rw [l07_short.call_eq _ _ (by simp)]
  have hsl : sliceStr (.str s) none (some (.int .i64 (min (s.length : Int) 201))) = some (.str (s.take 201)) := by
    simp [sliceStr, bnds, bnd, show 0 ≤ min (s.length : Int) 201 by omega, show min (s.length : Int) 201 ≤ s.length by omega, e]
  simp [hsl]
  done

theorem pth_app {acc : List AV} {w : AV} {p : Nat} : pth (acc ++ [w]) p = if p < acc.length then pth acc p else if p = acc.length then w else .undef := by
  unfold pth
  rw [List.getD_eq_getElem?_getD, List.getD_eq_getElem?_getD, List.getElem?_append]
  by_cases h : p < acc.length
  · rw [if_pos h, if_pos h]
  · rw [if_neg h, if_neg h]
    by_cases h2 : p = acc.length
    · rw [if_pos h2, h2, Nat.sub_self]; rfl
    · rw [if_neg h2, List.getElem?_eq_none (by simp; omega)]; rfl
theorem cut_rows {rows : List (List Int)} {p : Nat} (h : p < min rows.length 7) : cth (List.take 7 (List.map (fun r => List.take 4 r) rows)) p = (cth rows p).take 4 := by
  unfold cth
  have h1 : p < rows.length := by omega
  have h2 : p < 7 := by omega
  simp [List.getD_eq_getElem?_getD, List.getElem?_take, h1, h2]
theorem cut_loop {nv gv gw : AV} {ps : List AV} {rows : List (List Int)} (hn : IsRows nv ps rows) (hrl : ∀ i, i < rows.length → ((cth rows i).length : Int) ≤ 9223372036854775807) (hgw : gw.one = true) (hgc : gw.closed = true) (hgd : ∀ (h : Nat → Option AObj) d, deep h (d + 1) gw = some gw) : ∀ (j i oid : Nat) (acc : List AV) (m : Mem), i + j = min rows.length 7 → acc.length = i → (∀ p, p < i → IsInts (pth acc p) ((cth rows p).take 4)) →
    m.h 1 = some (.cells [if acc = [] then .nils else .sl oid 1 0 i i, gw]) → (acc ≠ [] → m.h oid = some (.cells acc) ∧ oid ≠ 1 ∧ oid ≠ 0) → 2 ≤ m.nx → (∃ x y, m.h 0 = some (.cells [x, y])) →
    ∃ nv' ps', IsRows nv' ps' (List.take 7 (List.map (fun r => List.take 4 r) rows)) ∧ l07_cut.L0 (.fptr [nv, gv]) (.ptr 0 0 2) (.ptr 1 0 2) (.int .i64 i) m [.code l07_cut.r6, .code .ret] = some (.agg [nv', gw], Mem.empty) := by
  intro j
  induction j with
  | zero =>
    intro i oid acc m h1 ha hacc hm1 hmo hnx hm0
    obtain ⟨x0, y0, hm0⟩ := hm0
    have hend : ¬ (i < rows.length ∧ i ≤ 6) := by omega
    have hlen : (List.take 7 (List.map (fun r => List.take 4 r) rows)).length = i := by simp; omega
    by_cases hz : acc = []
    · subst hz
      have : i = 0 := by simpa using ha.symm
      subst this
      have hr0 : rows.length = 0 := by omega
      have hr0' : rows = [] := List.eq_nil_of_length_eq_zero hr0
      subst hr0'
      rw [if_pos rfl] at hm1
      refine ⟨.nils, [], ⟨rfl, fun i h => by simp at h, .inl ⟨rfl, by simp⟩⟩, ?_⟩
      rw [l07_cut.L0_eq]
      simp [hn.len, hm1, hm0, hgw, hgd]
      done
    · rw [if_neg hz] at hm1
      obtain ⟨g1, g2, g3⟩ := hmo hz
      have hdp : ∀ (h : Nat → Option AObj) d, mapO (deep h (d + 1)) acc = some acc := fun h d => mapO_fix fun a hax => by
        obtain ⟨p, hp, e⟩ := List.getElem_of_mem hax
        have := hacc p (by omega)
        have e2 : pth acc p = a := by simp [pth, hp, e]
        rw [e2] at this
        exact this.deep h d
      refine ⟨.fsl false i acc, acc, ⟨by rw [hlen, ha], fun p hp => ?_, .inr ⟨false, by rw [hlen]⟩⟩, ?_⟩
      · rw [hlen] at hp
        rw [cut_rows (by omega)]
        exact hacc p hp
      · rw [l07_cut.L0_eq]
        by_cases q : i < rows.length
        · simp [hn.len, q, show ¬ i ≤ 6 by omega, show ¬ (i : Int) ≤ 6 by omega, hm1, hm0, hgw, hgd, g1, updNe g3, show (oid == 0) = false by simpa using g3, ha, hdp, List.take_of_length_le (Nat.le_of_eq ha)]
          done
        · simp [hn.len, q, hm1, hm0, hgw, hgd, g1, updNe g3, show (oid == 0) = false by simpa using g3, ha, hdp, List.take_of_length_le (Nat.le_of_eq ha)]
          done
  | succ j ih =>
    intro i oid acc m h1 ha hacc hm1 hmo hnx hm0
    have hi : i < rows.length := by omega
    have hi6 : i ≤ 6 := by omega
    have hwi : IntKind.wrap .i64 ((i : Int) + 1) = (i : Int) + 1 := wrap_id (by omega) (by omega)
    have iw := hn.row i hi
    obtain ⟨w1, a1, a2⟩ := slice_ints iw (j := min ((cth rows i).length : Int) 4) (by omega) (by omega)
    have e1 := take_min (cth rows i) 4
    simp only [Int.cast_ofNat_Int] at e1
    rw [e1] at a2
    obtain ⟨w2, c1, c2⟩ := app_ints a2 (by simp; omega)
    have hx := hn.idx hi .i64
    have hy := hn.head hi
    by_cases hz : acc = []
    · subst hz
      have : i = 0 := by simpa using ha.symm
      subst this
      rw [if_pos rfl] at hm1
      simp only [Int.ofNat_zero, Int.cast_ofNat_Int, List.drop_zero] at hx hy ⊢
      rw [l07_cut.L0_eq]
      simp [hn.len, hi, hx, hy, iw.len, a1, c1, c2.closed, c2.one, hm1, c2.cells, hgw]
      have st := ih 1 (m.nx + 18) [w2] ⟨upd (upd m.h (m.nx + 18) (some (AObj.cells [w2]))) 1 (some (AObj.cells [AV.sl (m.nx + 18) 1 0 1 1, gw])), m.nx + 21⟩ (by omega) rfl (fun p hp => by
        have : p = 0 := by omega
        subst this
        exact c2) (by simp) (fun _ => ⟨(by simp [updNe (show m.nx + 18 ≠ 1 by omega)]), by omega, by omega⟩) (by show 2 ≤ m.nx + 21; omega) (by
        obtain ⟨x0, y0, hm0⟩ := hm0
        exact ⟨x0, y0, (by simp [updNe (show 0 ≠ 1 by omega), updNe (show 0 ≠ m.nx + 18 by omega), hm0])⟩)
      obtain ⟨nv', ps', st1, st2⟩ := st
      exact ⟨nv', ⟨ps', st1⟩, st2⟩
    · rw [if_neg hz] at hm1
      obtain ⟨g1, g2, g3⟩ := hmo hz
      rw [l07_cut.L0_eq]
      simp [hn.len, hi, hi6, show (i : Int) ≤ 6 by omega, hx, hy, iw.len, a1, c1, c2.closed, c2.one, hm1, c2.cells, hgw, g1, ha, hwi, show i ≤ 4611686018427387903 by omega, show (i + 1) * 24 ≤ 70368744177664 by omega, show (1 == oid) = false from beq_eq_false_iff_ne.2 (fun h => g2 h.symm)]
      have st := ih (i + 1) oid (acc ++ [w2]) ⟨upd (upd m.h oid (some (AObj.cells (acc ++ [w2])))) 1 (some (AObj.cells [AV.sl oid 1 0 (i + 1) (i + 1), gw])), m.nx + 21⟩ (by omega) (by simp [ha]) (fun p hp => by
        rw [pth_app, ha]
        by_cases q : p < i
        · rw [if_pos q]; exact hacc p q
        · have : p = i := by omega
          subst this
          rw [if_neg q, if_pos rfl]; exact c2) (by simp) (fun _ => ⟨(by show upd (upd m.h oid (some (AObj.cells (acc ++ [w2])))) 1 _ oid = _; rw [updNe g2]; simp), g2, g3⟩) (by show 2 ≤ m.nx + 21; omega) (by
        obtain ⟨x0, y0, hm0⟩ := hm0
        exact ⟨x0, y0, (by rw [show (⟨upd (upd m.h oid (some (AObj.cells (acc ++ [w2])))) 1 (some (AObj.cells [AV.sl oid 1 0 (i + 1) (i + 1), gw])), m.nx + 21⟩ : Mem).h 0 = m.h 0 from by show upd (upd m.h oid (some (AObj.cells (acc ++ [w2])))) 1 (some (AObj.cells [AV.sl oid 1 0 (i + 1) (i + 1), gw])) 0 = m.h 0; rw [updNe (by omega), updNe (fun h => g3 h.symm)]]; exact hm0)⟩)
      obtain ⟨nv', ps', st1, st2⟩ := st
      simp only [Int.natCast_add, Int.cast_ofNat_Int] at st2
      exact ⟨nv', ⟨ps', st1⟩, st2⟩
end Go.Proofs.Ythnpflkpjimkfaa

/-
  THE LAWS' EXAMPLES HOLD. Conditions: none.
-/
namespace Go.Proofs.Ythnpflkpjimkfaa
open Go.AM
open Go.Proofs.Try (prog)
set_option linter.all false
set_option maxRecDepth 1000000

def isT (r : Option Res) : Bool := match r with
  | some (.bool b, _) => b
  | _ => false
theorem lives_run : isT (callN prog ann 3000 21 [] Mem.empty) = true := by kernel_rfl
@[simp] theorem lives_pure : (ann 21).pure = true := by kernel_rfl
theorem f21_at : prog.funcs[21]? = some Try.f21 := by kernel_rfl
theorem f21_some : Try.f21.body.isSome = true := by kernel_rfl
theorem lives_spec (m : Mem) : denC prog ann 21 [] m = some (.bool true, m) := by
  have hb : Try.f21.body = some (Try.f21.body.getD .skip) := by
    cases h : Try.f21.body with
    | none => have := f21_some; rw [h] at this; cases this
    | some b => rfl
  have e := fun m => denC_pure (P := prog) (A := ann) (f := 21) f21_at hb (by kernel_rfl) (by kernel_rfl) (show closedL [] = true from rfl) m
  have h := lives_run
  cases hr : callN prog ann 3000 21 [] Mem.empty with
  | none => rw [hr] at h; cases h
  | some r =>
    rw [hr] at h
    have h2 := denC_of_callN hr
    rw [e] at h2 ⊢
    obtain ⟨q, h3, h4⟩ := Option.bind_eq_some_iff.1 h2
    rw [h3]
    simp at h4
    subst h4
    match q, h with
    | (.bool true, _), _ => rfl
end Go.Proofs.Ythnpflkpjimkfaa

/-
  WHAT THE LAWS' ARGUMENTS ARE: brands, strings, numbers. Conditions: none.
-/
namespace Go.Proofs.Ythnpflkpjimkfaa
open Go.AM
open Go.Proofs.Try (prog)
set_option linter.all false
set_option maxRecDepth 100000
set_option maxHeartbeats 4000000

theorem u3 : prog.underlying 3 = some (.int .i64) := by kernel_rfl
theorem u9 : prog.underlying 9 = some .string := by kernel_rfl
theorem u54 : prog.underlying 54 = some (.slice 3) := by kernel_rfl
theorem u22 : prog.underlying 22 = some (.slice 54) := by kernel_rfl
theorem u23 : prog.underlying 23 = some (.slice 4) := by kernel_rfl
theorem u25 : prog.underlying 25 = some (.struct #[⟨ "Next", 22, 0, false, "", "", 0⟩, ⟨ "Good", 23, 1, false, "", "", 24⟩]) := by kernel_rfl

theorem parts_list {α : Type} (f : α → List AV) (R : List AV → Prop) (hR : ∀ p, R p → ∃ a, p = f a) : ∀ (parts : List (List AV)), (∀ p ∈ parts, R p) → ∃ l : List α, l.length = parts.length ∧ parts.flatten = flatC f l
  | [], _ => ⟨[], rfl, rfl⟩
  | p :: ps, h => by
    obtain ⟨a, e⟩ := hR p (h p (by simp))
    obtain ⟨l, h1, h2⟩ := parts_list f R hR ps (fun q hq => h q (by simp [hq]))
    exact ⟨a :: l, by simp [h1], by rw [List.flatten_cons, flatC_cons, e, h2]⟩
theorem flatC_ints : ∀ l : List Int, flatC (fun n => [AV.int .i64 n]) l = ints l
  | [] => rfl
  | a :: l => by rw [flatC_cons, flatC_ints l]; rfl
theorem flatC_bls : ∀ l : List Bool, flatC (fun n => [AV.bool n]) l = bls l
  | [] => rfl
  | a :: l => by rw [flatC_cons, flatC_bls l]; rfl
theorem mlen : maxLen = 9223372036854775807 := by decide
theorem dat54 {d : Nat} {cs : List AV} (h : Dat prog (d + 2) 54 cs) : ∃ v l, cs = [v] ∧ IsInts v l ∧ (l.length : Int) ≤ 9223372036854775807 := by
  rw [Dat] at h
  simp only [u54] at h
  rcases h with rfl | ⟨parts, rfl, hl, hp⟩
  · exact ⟨.nils, [], rfl, .inl ⟨rfl, rfl⟩, by simp⟩
  · obtain ⟨l, h1, h2⟩ := parts_list (fun n : Int => [AV.int .i64 n]) (fun p => ∃ n, p = [.int .i64 n]) (fun p h => h) parts (fun p hq => by
      have := (hp p hq).2
      simp only [Dat, u3] at this
      obtain ⟨n, e, _⟩ := this
      exact ⟨n, e⟩)
    rw [flatC_ints] at h2
    refine ⟨_, l, rfl, .inr ⟨false, by rw [h1, h2]⟩, ?_⟩
    have := mlen
    omega
theorem u4' : prog.underlying 4 = some .bool := by kernel_rfl
theorem dat23 {d : Nat} {cs : List AV} (h : Dat prog (d + 2) 23 cs) : ∃ v l, cs = [v] ∧ IsB v l ∧ (l.length : Int) ≤ 9223372036854775807 := by
  rw [Dat] at h
  simp only [u23] at h
  rcases h with rfl | ⟨parts, rfl, hl, hp⟩
  · exact ⟨.nils, [], rfl, .inl ⟨rfl, rfl⟩, by simp⟩
  · obtain ⟨l, h1, h2⟩ := parts_list (fun n : Bool => [AV.bool n]) (fun p => ∃ n, p = [.bool n]) (fun p h => h) parts (fun p hq => by
      have := (hp p hq).2
      simp only [Dat, u4'] at this
      exact this)
    rw [flatC_bls] at h2
    refine ⟨_, l, rfl, .inr ⟨false, by rw [h1, h2]⟩, ?_⟩
    have := mlen
    omega
theorem rows_of {d : Nat} : ∀ (parts : List (List AV)), (∀ p ∈ parts, Dat prog (d + 2) 54 p) → ∃ rows : List (List Int), parts.flatten.length = rows.length ∧ (∀ i, i < rows.length → IsInts (pth parts.flatten i) (cth rows i) ∧ ((cth rows i).length : Int) ≤ 9223372036854775807) ∧ rows.length = parts.length
  | [], _ => ⟨[], rfl, fun i h => by simp at h, rfl⟩
  | p :: ps, h => by
    obtain ⟨v, l, rfl, h1, h2⟩ := dat54 (h p (by simp))
    obtain ⟨rows, g1, g2, g3⟩ := rows_of ps (fun q hq => h q (by simp [hq]))
    refine ⟨l :: rows, by simpa using g1, fun i hi => ?_, by simpa using g3⟩
    cases i with
    | zero => exact ⟨h1, h2⟩
    | succ i => exact g2 i (by simpa using hi)
/-- A brand as a law's argument. -/
theorem datV25 {d : Nat} {a : AV} (h : DatV prog (d + 4) 25 a) : ∃ nv gv ps rows good, a = .agg [nv, gv] ∧ IsRows nv ps rows ∧ IsB gv good ∧ (good.length : Int) ≤ 9223372036854775807 ∧ ∀ i, i < rows.length → ((cth rows i).length : Int) ≤ 9223372036854775807 := by
  simp only [DatV, u25] at h
  obtain ⟨cs, rfl, h⟩ := h
  rw [Dat] at h
  simp only [u25] at h
  obtain ⟨parts, rfl, hl, hp⟩ := h
  match parts, hl with
  | [a, b], _ =>
    have h1 := (hp 0 _ _ rfl rfl).2
    obtain ⟨v1, good, rfl, h3, h4⟩ := dat23 (d := d + 1) (hp 1 _ _ rfl rfl).2
    have h1' : Dat prog (d + 3) 22 a := h1
    rw [Dat] at h1'
    simp only [u22] at h1'
    rcases h1' with rfl | ⟨parts, rfl, hl, hq⟩
    · exact ⟨.nils, v1, [], [], good, rfl, ⟨rfl, fun i h => by simp at h, .inl ⟨rfl, rfl⟩⟩, h3, h4, fun i h => by simp at h⟩
    · obtain ⟨rows, g1, g2, g3⟩ := rows_of parts (fun p hp => (hq p hp).2)
      exact ⟨_, v1, parts.flatten, rows, good, rfl, ⟨g1, fun i hi => (g2 i hi).1, .inr ⟨false, by rw [g3]⟩⟩, h3, h4, fun i hi => (g2 i hi).2⟩
theorem datV9 {d : Nat} {a : AV} (h : DatV prog (d + 1) 9 a) : ∃ s, a = .str s := by
  simp only [DatV, u9, Dat] at h
  obtain ⟨s, e, _⟩ := h
  exact ⟨s, by simpa using e⟩
theorem IsB.deep {v : AV} {l : List Bool} (h : IsB v l) (hp : Nat → Option AObj) (d : Nat) : AM.deep hp (d + 1) v = some v := by rcases h with ⟨rfl, _⟩ | ⟨_, rfl⟩ <;> rfl
theorem IsB.cells {v : AV} {l : List Bool} (h : IsB v l) : v.cells = [v] := by rcases h with ⟨rfl, _⟩ | ⟨_, rfl⟩ <;> rfl
def cutR (rows : List (List Int)) : List (List Int) := List.take 7 (List.map (fun r => List.take 4 r) rows)
theorem cutR_len (rows : List (List Int)) : (cutR rows).length ≤ 7 := by simp [cutR]; omega
theorem cutR_row (rows : List (List Int)) (i : Nat) (h : i < (cutR rows).length) : (cth (cutR rows) i).length ≤ 4 := by
  have h' : i < min rows.length 7 := by simp [cutR] at h; omega
  rw [cutR, cut_rows h']
  simp; omega
/-- What the law's 'cut' leaves. -/
theorem cut_spec {nv gv : AV} {ps : List AV} {rows : List (List Int)} {good : List Bool} (hn : IsRows nv ps rows) (hg : IsB gv good) (hgl : (good.length : Int) ≤ 9223372036854775807) (hrl : ∀ i, i < rows.length → ((cth rows i).length : Int) ≤ 9223372036854775807) :
    ∃ nv' gv' ps', IsRows nv' ps' (cutR rows) ∧ IsB gv' (good.take 7) ∧ ∀ m, denC prog ann 17 [.agg [nv, gv]] m = some (.agg [nv', gv'], m) := by
  obtain ⟨w1, a1, a2⟩ := slice_bls hg (j := min (good.length : Int) 7) (by omega) (by omega)
  have e1 := take_min good 7
  simp only [Int.cast_ofNat_Int] at e1
  rw [e1] at a2
  obtain ⟨gw, c1, c2⟩ := app_bls a2 (by simp; omega)
  obtain ⟨nv', ps', h1, h2⟩ := cut_loop (gv := gv) (gw := gw) hn hrl c2.one c2.closed c2.deep (min rows.length 7) 0 0 [] ⟨upd (upd Mem.empty.h 0 (some (.cells [.nils, .nils]))) 1 (some (.cells [.nils, gw])), 2⟩ (by omega) rfl (fun p h => by omega) (by simp) (fun h => absurd rfl h) (by simp) ⟨.nils, .nils, by simp⟩
  simp only [Int.ofNat_zero, Int.cast_ofNat_Int] at h2
  refine ⟨nv', gw, ps', h1, c2, fun m => ?_⟩
  rw [l07_cut.call_eq _ _ (by simp [hn.closed, hg.closed])]
  simp [hn.one, hg.one, hn.closed, hg.closed, hg.len, a1, c1, c2.one, c2.cells, h2]
  done
end Go.Proofs.Ythnpflkpjimkfaa

/-
  LISTS AND MAPS THAT GROW IN MEMORY, AND THE SEARCH LEVEL BY LEVEL. Conditions: none.
-/
namespace Go.Proofs.Ythnpflkpjimkfaa
open Go.AM
open Go.Proofs.Try (prog)
set_option linter.all false
set_option maxRecDepth 100000
set_option maxHeartbeats 4000000

/-! ### A list of cells in memory, of which some at the front may be gone -/
def elP (v : AV) (sz i : Nat) : AV := match v with
  | .sl id es off n top => .ptr id (off + i * sz) top
  | _ => .undef
def tlV (v : AV) (sz : Nat) : AV := match v with
  | .sl id es off n top => .sl id es (off + sz) (n - 1) top
  | _ => .undef
structure Gl (m : Mem) (v : AV) (id sz n : Nat) (xs : List AV) : Prop where
  ex : ∃ pre : List AV, v = .sl id sz pre.length n (pre.length + xs.length) ∧ m.h id = some (.cells (pre ++ xs))
  n : xs.length = n * sz
  lt : id < m.nx
theorem Gl.frame {m m' : Mem} {v : AV} {id sz n : Nat} {xs : List AV} (h : Gl m v id sz n xs) (e : m'.h id = m.h id) (l : m.nx ≤ m'.nx) : Gl m' v id sz n xs := by
  obtain ⟨⟨pre, hv, hm⟩, hn, hl⟩ := h
  exact ⟨⟨pre, hv, by rw [e, hm]⟩, hn, by omega⟩
theorem Gl.fr {m m' : Mem} {v : AV} {id sz n : Nat} {xs : List AV} (h : Gl m v id sz n xs) (e : m'.h id = m.h id) (l : id < m'.nx) : Gl m' v id sz n xs := by
  obtain ⟨⟨pre, hv, hm⟩, hn, hl⟩ := h
  exact ⟨⟨pre, hv, by rw [e, hm]⟩, hn, l⟩
theorem Gl.one {m : Mem} {v : AV} {id sz n : Nat} {xs : List AV} (h : Gl m v id sz n xs) : v.one = true := by
  obtain ⟨⟨pre, rfl, hm⟩, hn, hl⟩ := h; rfl
theorem Gl.cells {m : Mem} {v : AV} {id sz n : Nat} {xs : List AV} (h : Gl m v id sz n xs) : v.cells = [v] := by
  obtain ⟨⟨pre, rfl, hm⟩, hn, hl⟩ := h; rfl
theorem Gl.len {m : Mem} {v : AV} {id sz n : Nat} {xs : List AV} (h : Gl m v id sz n xs) : lenSl v = some (.int .i64 n) := by
  obtain ⟨⟨pre, rfl, hm⟩, hn, hl⟩ := h; rfl
theorem Gl.idx {m : Mem} {v : AV} {id sz n : Nat} {xs : List AV} (h : Gl m v id sz n xs) {i : Nat} (hi : i < n) (k : IntKind) : idxSl sz v (.int k (i : Int)) = some (elP v sz i) := by
  obtain ⟨⟨pre, rfl, hm⟩, hn, hl⟩ := h
  simp [hi, elP]
theorem Gl.load {m : Mem} {v : AV} {id sz n : Nat} {xs : List AV} (h : Gl m v id sz n xs) {i : Nat} (hi : i < n) : loadA true sz m (elP v sz i) = some (.agg ((xs.drop (i * sz)).take sz)) := by
  obtain ⟨⟨pre, rfl, hm⟩, hn, hl⟩ := h
  have : pre.length + i * sz + sz ≤ pre.length + xs.length := by
    rw [hn]
    have := Nat.mul_le_mul_right sz (show i + 1 ≤ n from hi)
    rw [Nat.succ_mul] at this
    omega
  have e : (pre ++ xs).drop (pre.length + i * sz) = xs.drop (i * sz) := by rw [List.drop_append, List.drop_of_length_le (by omega)]; simp
  simp only [elP, loadA_ptr, hm, loadO_cells, e, cond_true]
  simp [this]
theorem Gl.load1 {m : Mem} {v : AV} {id n : Nat} {xs : List AV} (h : Gl m v id 1 n xs) {i : Nat} (hi : i < n) : loadA false 1 m (elP v 1 i) = xs[i]? := by
  obtain ⟨⟨pre, rfl, hm⟩, hn, hl⟩ := h
  simp [elP, hm, List.getElem?_append_right]
theorem Gl.app {m : Mem} {v : AV} {id sz n by' : Nat} {xs ys : List AV} (h : Gl m v id sz n xs) (hy : ys.length = sz) (hr : room (n + 1) by' = true) :
    ∃ v' m' id', appT sz by' m v (some (1, ys)) = some (v', m') ∧ Gl m' v' id' sz (n + 1) (xs ++ ys) ∧ m.nx ≤ m'.nx ∧ (id' = id ∨ id' = m.nx) ∧ ∀ j, j < m.nx → j ≠ id → m'.h j = m.h j := by
  obtain ⟨⟨pre, rfl, hm⟩, hn, hl⟩ := h
  rw [appT_sl, hm, appO_eq]
  by_cases e : pre.length = 0
  · have : pre = [] := List.length_eq_zero_iff.1 e
    subst this
    refine ⟨.sl id sz 0 (n + 1) (xs ++ ys).length, m.set id (some (.cells (xs ++ ys))), id, ?_, ⟨⟨[], by simp, by simp [Mem.set]⟩, by simp [hn, hy, Nat.succ_mul], hl⟩, Nat.le_refl _, .inl rfl, fun j hj hne => updNe hne⟩
    simp at hr
    simp [hn, hr.1, hr.2]
  · refine ⟨.sl m.nx sz 0 (n + 1) (xs ++ ys).length, (m.set id none).new (.cells (xs ++ ys)), m.nx, ?_, ⟨⟨[], by simp, by simp [Mem.new, Mem.set]⟩, by simp [hn, hy, Nat.succ_mul], by simp [Mem.new, Mem.set]⟩, by simp [Mem.new, Mem.set], .inr rfl, fun j hj hne => ?_⟩
    · simp at hr
      have : (pre.length == 0) = false := by simpa using e
      simp [hn, hr.1, hr.2, this]
    · simp only [Mem.new, Mem.set]
      rw [updNe (by omega), updNe hne]

/-! ### Maps -/
def Mp (m : Mem) (id : Nat) (ks vs : List AV) : Prop := (∃ g, m.h id = some (.map g ks vs)) ∧ id < m.nx
theorem Mp.frame {m m' : Mem} {id : Nat} {ks vs : List AV} (h : Mp m id ks vs) (e : m'.h id = m.h id) (l : m.nx ≤ m'.nx) : Mp m' id ks vs := by
  obtain ⟨⟨g, hg⟩, hl⟩ := h
  exact ⟨⟨g, by rw [e, hg]⟩, by omega⟩
theorem Mp.fr {m m' : Mem} {id : Nat} {ks vs : List AV} (h : Mp m id ks vs) (e : m'.h id = m.h id) (l : id < m'.nx) : Mp m' id ks vs := by
  obtain ⟨⟨g, hg⟩, hl⟩ := h
  exact ⟨⟨g, by rw [e, hg]⟩, l⟩
/-- Keys of a type, as values. -/
structure Keys (t : TypeId) {α : Type} [DecidableEq α] (enc : α → AV) (ok : α → Prop) : Prop where
  eq : ∀ a b, ok a → ok b → keyEq prog t (enc a) (enc b) = some (decide (a = b))
  key : ∀ a, ok a → keyT prog t (enc a) = true
section
variable {t : TypeId} {α β : Type} [DecidableEq α] {enc : α → AV} {ok : α → Prop} {ev : β → AV}
/-- What stands beside a key. -/
def lkP : List α → List β → α → Option β
  | k :: ks, v :: vs, c => if c = k then some v else lkP ks vs c
  | _, _, _ => none
theorem lkP_none : ∀ {ks : List α} {vs : List β} {c : α}, c ∉ ks → lkP ks vs c = none
  | [], _, _, _ => by simp [lkP]
  | k :: ks, [], _, _ => rfl
  | k :: ks, v :: vs, c, h => by
    simp only [List.mem_cons, not_or] at h
    rw [lkP, if_neg h.1, lkP_none h.2]
theorem lkP_at : ∀ {ks : List α} {vs : List β} {i : Nat} {c : α} {w : β}, ks.Nodup → ks[i]? = some c → vs[i]? = some w → lkP ks vs c = some w
  | [], _, _, _, _, _, h, _ => by simp at h
  | _ :: _, [], _, _, _, _, _, h => by simp at h
  | k :: ks, v :: vs, 0, c, w, _, h1, h2 => by
    simp at h1 h2
    rw [lkP, if_pos h1.symm, h2]
  | k :: ks, v :: vs, i + 1, c, w, hn, h1, h2 => by
    simp at h1 h2
    rw [List.nodup_cons] at hn
    have : c ≠ k := fun e => hn.1 (e ▸ List.mem_of_getElem? h1)
    rw [lkP, if_neg this]
    exact lkP_at hn.2 h1 h2
theorem findK_of (hk : Keys t enc ok) : ∀ {ks : List α} {vs : List β} {c : α}, (∀ a ∈ ks, ok a) → ok c → ks.length = vs.length → findK prog t (enc c) (ks.map enc) (vs.map ev) = some ((lkP ks vs c).map ev)
  | [], [], c, _, _, _ => rfl
  | [], _ :: _, _, _, _, h => by simp at h
  | _ :: _, [], _, _, _, h => by simp at h
  | k :: ks, v :: vs, c, h, hc, hl => by
    have ih := findK_of hk (ks := ks) (vs := vs) (c := c) (fun a ha => h a (by simp [ha])) hc (by simpa using hl)
    simp only [List.map_cons, findK, hk.eq c k hc (h k (by simp)), Option.bind_some]
    by_cases q : c = k
    · simp [q, lkP]
    · simp [q, lkP, ih]
theorem setK_of (hk : Keys t enc ok) {v : AV} : ∀ {ks : List α} {vs : List AV} {c : α}, (∀ a ∈ ks, ok a) → ok c → ks.length = vs.length → c ∉ ks → setK prog t (enc c) v (ks.map enc) vs = some ((ks ++ [c]).map enc, vs ++ [v])
  | [], [], c, _, _, _, _ => rfl
  | [], _ :: _, _, _, _, h, _ => by simp at h
  | _ :: _, [], _, _, _, h, _ => by simp at h
  | k :: ks, w :: vs, c, h, hc, hl, hm => by
    simp only [List.mem_cons, not_or] at hm
    have ih := setK_of hk (v := v) (ks := ks) (vs := vs) (c := c) (fun a ha => h a (by simp [ha])) hc (by simpa using hl) hm.2
    simp only [List.map_cons, setK, hk.eq c k hc (h k (by simp)), Option.bind_some]
    simp [hm.1, ih]
theorem Mp.look (hk : Keys t enc ok) {m : Mem} {id : Nat} {ks : List α} {vs : List β} (h : Mp m id (ks.map enc) (vs.map ev)) (ha : ∀ a ∈ ks, ok a) (hl : ks.length = vs.length) {c : α} (hc : ok c) (z : AV) (b : Bool) :
    lookP prog m t z (.map id) (enc c) b = some (match lkP ks vs c with | some v => bif b then .tup [ev v, .bool true] else ev v | none => bif b then .tup [z, .bool false] else z) := by
  obtain ⟨⟨g, hg⟩, _⟩ := h
  simp only [lookP, hk.key c hc, cond_true, lookA, hg, findK_of hk ha hc hl, Option.bind_some]
  cases lkP ks vs c <;> rfl
theorem Mp.put (hk : Keys t enc ok) {m : Mem} {id : Nat} {ks : List α} {vs : List β} (h : Mp m id (ks.map enc) (vs.map ev)) (ha : ∀ a ∈ ks, ok a) (hl : ks.length = vs.length) {c : α} (hc : ok c) (hm : c ∉ ks) (v : β) :
    ∃ m', updM prog m t (.map id) (enc c) (ev v) = some (.tup [], m') ∧ Mp m' id ((ks ++ [c]).map enc) ((vs ++ [v]).map ev) ∧ m'.nx = m.nx ∧ ∀ j, j ≠ id → m'.h j = m.h j := by
  obtain ⟨⟨g, hg⟩, hlt⟩ := h
  refine ⟨m.set id (some (.map (g + 1) ((ks ++ [c]).map enc) ((vs ++ [v]).map ev))), ?_, ⟨⟨g + 1, by simp [Mem.set]⟩, hlt⟩, rfl, fun j hj => updNe hj⟩
  simp only [updM, updP, hk.key c hc, cond_true, hg, setK_of hk ha hc (vs := vs.map ev) (by simpa using hl) hm, Option.bind_some, Option.map_some]
  simp
end

/-! ### The search -/
section
variable {α β : Type} [DecidableEq α] (nxt : α → Nat → α) (ext : β → Nat → β)
def bIn (x : α) (w : β) : Nat → Nat → List α × List β → List α × List β
  | 0, _, s => s
  | j + 1, a, s => if nxt x a ∈ s.1 then bIn x w j (a + 1) s else bIn x w j (a + 1) (s.1 ++ [nxt x a], s.2 ++ [ext w a])
def bfs (stop : α → Bool) (k : Nat) : Nat → Nat → List α × List β → Option β
  | 0, _, _ => none
  | f + 1, i, s => match s.1[i]?, s.2[i]? with
    | some x, some w => if stop x = true then some w else bfs stop k f (i + 1) (bIn nxt ext x w k 0 s)
    | _, _ => none
structure BOk (ok : α → Prop) (ln : β → Nat) (s : List α × List β) : Prop where
  nd : s.1.Nodup
  all : ∀ x ∈ s.1, ok x
  len : s.1.length = s.2.length
  wl : ∀ w ∈ s.2, ln w ≤ s.2.length
theorem bok_add {ok : α → Prop} {ln : β → Nat} {s : List α × List β} (h : BOk ok ln s) {x : α} {w : β} (hx : ok x) (hn : x ∉ s.1) (hw : ln w ≤ s.2.length + 1) : BOk ok ln (s.1 ++ [x], s.2 ++ [w]) := by
  refine ⟨?_, ?_, by simp [h.len], ?_⟩
  · rw [List.nodup_append]
    refine ⟨h.nd, by simp, ?_⟩
    intro a ha b hb
    simp at hb
    subst hb
    exact fun e => hn (e ▸ ha)
  · intro y hy
    rcases List.mem_append.1 hy with hy | hy
    · exact h.all y hy
    · simp at hy; rw [hy]; exact hx
  · intro y hy
    rcases List.mem_append.1 hy with hy | hy
    · have := h.wl y hy; simp; omega
    · simp at hy; rw [hy]; simpa using hw
theorem bIn_pre (x : α) (w : β) : ∀ (j a : Nat) (s : List α × List β), ∃ p q, (bIn nxt ext x w j a s).1 = s.1 ++ p ∧ (bIn nxt ext x w j a s).2 = s.2 ++ q
  | 0, _, s => ⟨[], [], by simp [bIn], by simp [bIn]⟩
  | j + 1, a, s => by
    rw [bIn]
    split
    · exact bIn_pre x w j (a + 1) s
    · obtain ⟨p, q, h1, h2⟩ := bIn_pre x w j (a + 1) (s.1 ++ [nxt x a], s.2 ++ [ext w a])
      exact ⟨nxt x a :: p, ext w a :: q, by rw [h1]; simp, by rw [h2]; simp⟩
theorem bIn_ok {ok : α → Prop} {ln : β → Nat} {k : Nat} (hnx : ∀ x a, ok x → a < k → ok (nxt x a)) (hex : ∀ w a, ln (ext w a) ≤ ln w + 1) (x : α) (w : β) (hx : ok x) : ∀ (j a : Nat) (s : List α × List β), a + j ≤ k → BOk ok ln s → ln w ≤ s.2.length → BOk ok ln (bIn nxt ext x w j a s)
  | 0, _, s, _, h, _ => h
  | j + 1, a, s, ha, h, hw => by
    rw [bIn]
    split
    · exact bIn_ok hnx hex x w hx j (a + 1) s (by omega) h hw
    · rename_i hn
      exact bIn_ok hnx hex x w hx j (a + 1) _ (by omega) (bok_add h (hnx x a hx (by omega)) hn (by have := hex w a; omega)) (by simp; omega)
end
theorem nodup_sub {α : Type} [DecidableEq α] : ∀ {l L : List α}, l.Nodup → (∀ x ∈ l, x ∈ L) → l.length ≤ L.length
  | [], _, _, _ => by simp
  | a :: l, L, hn, hs => by
    rw [List.nodup_cons] at hn
    have ha := hs a (by simp)
    have ih := nodup_sub (l := l) (L := L.erase a) hn.2 fun x hx => by
      have : x ≠ a := fun e => hn.1 (e ▸ hx)
      exact (List.mem_erase_of_ne this).2 (hs x (by simp [hx]))
    rw [List.length_erase_of_mem ha] at ih
    have : 0 < L.length := List.length_pos_of_mem ha
    simp; omega
end Go.Proofs.Ythnpflkpjimkfaa

/-
  BODIES OF FUNCTIONS OF THE PROGRAM AS SMALL OPERATIONS (written by gen.py; checked by the kernel against the program). Conditions: none.
-/
namespace Go.Proofs.Ythnpflkpjimkfaa
open Go.AM
open Go.Proofs.Try (prog)
set_option maxRecDepth 100000
set_option linter.all false


namespace brand_Differ
/-- pommel/brand.Differ -/
noncomputable def b : Code := (Try.f33.body).getD .skip
theorem hf : prog.funcs[33]? = some Try.f33 := by kernel_rfl
noncomputable def r0 : Code := findReg b 0
noncomputable def r1 : Code := findReg b 1
noncomputable def i0 : Code := findCond b 0
noncomputable def i0t : Code := thenOf i0
noncomputable def i0e : Code := elseOf i0
noncomputable def r2 : Code := findReg b 2
noncomputable def r3 : Code := findReg b 3
noncomputable def r4 : Code := findReg b 4
noncomputable def k0 : Code := findBlk b 0
noncomputable def l0 : Code := loopOf k0
noncomputable def L0 (x2 x3 x6 x7 : AV) (m : Mem) (K : List Item) : Option Res := den prog ann 33 (.code l0 :: .inLoop l0 :: .inBlock 0 :: K) ⟨[(2, x2), (3, x3), (6, x6), (7, x7)], 111, m⟩
noncomputable def r5 : Code := findReg b 5
noncomputable def i1 : Code := findCond b 1
noncomputable def i1t : Code := thenOf i1
noncomputable def i1e : Code := elseOf i1
noncomputable def k1 : Code := findBlk b 1
noncomputable def r7 : Code := findReg b 7
noncomputable def r8 : Code := findReg b 8
noncomputable def i2 : Code := findCond b 2
noncomputable def i2t : Code := thenOf i2
noncomputable def i2e : Code := elseOf i2
noncomputable def r9 : Code := findReg b 9
noncomputable def r10 : Code := findReg b 10
noncomputable def k2 : Code := findBlk b 2
noncomputable def l2 : Code := loopOf k2
noncomputable def L2 (x2 x3 x6 x7 x8 x67 x68 : AV) (m : Mem) (K : List Item) : Option Res := den prog ann 33 (.code l2 :: .inLoop l2 :: .inBlock 2 :: K) ⟨[(2, x2), (3, x3), (6, x6), (7, x7), (8, x8), (67, x67), (68, x68)], 111, m⟩
noncomputable def r11 : Code := findReg b 11
noncomputable def i3 : Code := findCond b 3
noncomputable def i3t : Code := thenOf i3
noncomputable def i3e : Code := elseOf i3
noncomputable def k3 : Code := findBlk b 3
noncomputable def r12 : Code := findReg b 12
noncomputable def r13 : Code := findReg b 13
noncomputable def r14 : Code := findReg b 14
noncomputable def r15 : Code := findReg b 15
noncomputable def i4 : Code := findCond b 4
noncomputable def i4t : Code := thenOf i4
noncomputable def i4e : Code := elseOf i4
noncomputable def r16 : Code := findReg b 16
noncomputable def r17 : Code := findReg b 17
noncomputable def r18 : Code := findReg b 18
noncomputable def r6 : Code := findReg b 6
noncomputable def r19 : Code := findReg b 19
theorem b_eq (K : List Item) (s : St) : den prog ann 33 (.code b :: K) s = den prog ann 33 (.code r0 :: .code r1 :: .code i0 :: .code r3 :: .code r4 :: .code k0 :: .code r19 :: .code .ret :: K) s := den_flat hf (l := [r0, r1, i0, r3, r4, k0, r19, .ret]) (by kernel_rfl) K s
theorem r0_eq (K : List Item) (s : St) : den prog ann 33 (.code r0 :: K) s = mreg prog ann 33 none [] none [] [
    ⟨some 2, none, .v fun s => frozenPtr (s.get 0)⟩,
    ⟨some 3, none, .v fun s => frozenPtr (s.get 1)⟩,
    ⟨some 4, none, .v fun s => some (.str [])⟩,
    ⟨some 5, none, .v fun s => some (.int .i64 0)⟩] K s := (den_reg hf _ K s).trans (by kernel_rfl)
theorem r1_draw : drawOk (fun g => (ann g).pure) (modeOf (ann 33) (idOf r1)) (frzOf (ann 33) (idOf r1)) (opsOf r1) = true := drawOk_of (an := [0, 1, 3, 7, 15, 31, 63, 127, 255, 511, 1023, 2047, 4095, 8191, 511, 16895, 49663, 115199, 246271, 524287, 1048575]) (by kernel_rfl) (by kernel_rfl)
theorem r1_eq (K : List Item) (s : St) : den prog ann 33 (.code r1 :: K) s = mreg prog ann 33 none [] (some 21) [] [
    ⟨some 13, none, .v fun s => loadF true 2 (s.get 2)⟩,
    ⟨some 14, none, .c 0 (fun s => (.fn 55 [] [])) fun s => [(s.get 13)]⟩,
    ⟨some 15, none, .v fun s => unA .not (s.get 14)⟩,
    ⟨some 16, none, .v fun s => some (s.get 15)⟩,
    ⟨some 17, some (16, false), .v fun s => loadF true 2 (s.get 3)⟩,
    ⟨some 18, some (16, false), .c 0 (fun s => (.fn 55 [] [])) fun s => [(s.get 17)]⟩,
    ⟨some 19, some (16, false), .v fun s => unA .not (s.get 18)⟩,
    ⟨some 20, none, .v fun s => pickA (s.get 16) (.bool true) (s.get 19)⟩,
    ⟨some 21, none, .v fun s => some (s.get 20)⟩,
    ⟨some 22, some (21, false), .v fun s => fieldA 0 (s.get 2)⟩,
    ⟨some 23, some (21, false), .v fun s => loadF false 1 (s.get 22)⟩,
    ⟨some 24, some (21, false), .v fun s => idxSl 1 (s.get 23) (.int .i64 0)⟩,
    ⟨some 25, some (21, false), .v fun s => loadF false 1 (s.get 24)⟩,
    ⟨some 26, some (21, false), .v fun s => lenSl (s.get 25)⟩,
    ⟨some 27, some (21, false), .v fun s => fieldA 0 (s.get 3)⟩,
    ⟨some 28, some (21, false), .v fun s => loadF false 1 (s.get 27)⟩,
    ⟨some 29, some (21, false), .v fun s => idxSl 1 (s.get 28) (.int .i64 0)⟩,
    ⟨some 30, some (21, false), .v fun s => loadF false 1 (s.get 29)⟩,
    ⟨some 31, some (21, false), .v fun s => lenSl (s.get 30)⟩,
    ⟨some 32, some (21, false), .v fun s => binA prog .neq 3 (s.get 26) (s.get 31)⟩,
    ⟨some 33, none, .v fun s => pickA (s.get 21) (.bool true) (s.get 32)⟩] K s := (den_regD hf r1_draw K s).trans (by kernel_rfl)
theorem i0_eq (K : List Item) (s : St) : den prog ann 33 (.code i0 :: K) s = ifV prog ann 33 33 i0t i0e K s (s.get 33) := den_if hf (by kernel_rfl) K s
theorem i0t_eq (K : List Item) (s : St) : den prog ann 33 (.code i0t :: K) s = den prog ann 33 (.code r2 :: .code .ret :: K) s := den_flat hf (l := [r2, .ret]) (by kernel_rfl) K s
theorem r2_eq (K : List Item) (s : St) : den prog ann 33 (.code r2 :: K) s = mreg prog ann 33 none [] none [] [
    ⟨some 4, none, .v fun s => some (.str [])⟩,
    ⟨some 5, none, .v fun s => some (.int .i64 1)⟩] K s := (den_reg hf _ K s).trans (by kernel_rfl)
theorem i0e_eq (K : List Item) (s : St) : den prog ann 33 (.code i0e :: K) s = den prog ann 33 (K) s := den_flat hf (l := []) (by kernel_rfl) K s
theorem r3_eq (K : List Item) (s : St) : den prog ann 33 (.code r3 :: K) s = mreg prog ann 33 none [] none [] [
    ⟨some 34, none, .w false none fun s => some (.map s.m.nx, s.m.new (.map 0 [] []))⟩,
    ⟨some 35, none, .v fun s => bldA (plc [(0, 1), (1, 1)]) [.int .i64 0, .int .i64 0] []⟩,
    ⟨none, none, .w false none fun s => updM prog s.m 114 (s.get 34) (s.get 35) (.str [])⟩,
    ⟨some 36, none, .v fun s => some (s.get 34)⟩,
    ⟨some 6, none, .v fun s => some (s.get 36)⟩] K s := (den_reg hf _ K s).trans (by kernel_rfl)
theorem r4_eq (K : List Item) (s : St) : den prog ann 33 (.code r4 :: K) s = mreg prog ann 33 none [] none [] [
    ⟨some 37, none, .v fun s => bldA (plc [(0, 1), (1, 1)]) [.int .i64 0, .int .i64 0] []⟩,
    ⟨some 38, none, .w false none fun s => bslM s.m 1 (bslA 2 1 [.int .i64 0, .int .i64 0] [(0, (s.get 37))])⟩,
    ⟨some 7, none, .v fun s => some (s.get 38)⟩] K s := (den_reg hf _ K s).trans (by kernel_rfl)
theorem k0_eq (K : List Item) (t : List (Nat × AV)) (m : Mem) : den prog ann 33 (.code k0 :: K) ⟨t, 111, m⟩ = L0 (get t 2) (get t 3) (get t 6) (get t 7) m K := den_loop_enter hf (b := l0) (id := 5) (l := [2, 3, 6, 7]) (by kernel_rfl) (by kernel_rfl) (by kernel_rfl) K _
theorem l0_eq (K : List Item) (t : List (Nat × AV)) (m : Mem) : den prog ann 33 (.inLoop l0 :: .inBlock 0 :: K) ⟨t, 111, m⟩ = L0 (get t 2) (get t 3) (get t 6) (get t 7) m K := den_loop_again hf (id := 5) (l := [2, 3, 6, 7]) (by kernel_rfl) (by kernel_rfl) (.inBlock 0 :: K) _
theorem L0_eq (x2 x3 x6 x7 : AV) (m : Mem) (K : List Item) : L0 x2 x3 x6 x7 m K = den prog ann 33 (.code r5 :: .code i1 :: .code k1 :: .code r6 :: .inLoop l0 :: .inBlock 0 :: K) ⟨[(2, x2), (3, x3), (6, x6), (7, x7)], 111, m⟩ := den_flat hf (l := [r5, i1, k1, r6]) (by kernel_rfl) _ _
theorem r5_eq (K : List Item) (s : St) : den prog ann 33 (.code r5 :: K) s = mreg prog ann 33 (some [2, 3, 6, 7]) [] none [] [
    ⟨some 39, none, .v fun s => some (s.get 7)⟩,
    ⟨some 40, none, .v fun s => lenSl (s.get 39)⟩,
    ⟨some 41, none, .v fun s => binA prog .gtr 3 (s.get 40) (.int .i64 0)⟩] K s := (den_reg hf _ K s).trans (by kernel_rfl)
theorem i1_eq (K : List Item) (s : St) : den prog ann 33 (.code i1 :: K) s = ifV prog ann 33 41 i1t i1e K s (s.get 41) := den_if hf (by kernel_rfl) K s
theorem i1t_eq (K : List Item) (s : St) : den prog ann 33 (.code i1t :: K) s = den prog ann 33 (K) s := den_flat hf (l := []) (by kernel_rfl) K s
theorem i1e_eq (K : List Item) (s : St) : den prog ann 33 (.code i1e :: K) s = den prog ann 33 (.code (.exit 0) :: K) s := den_flat hf (l := [(.exit 0)]) (by kernel_rfl) K s
theorem k1_eq (K : List Item) (s : St) : den prog ann 33 (.code k1 :: K) s = den prog ann 33 (.code r7 :: .code r8 :: .code i2 :: .code r10 :: .code k2 :: .inBlock 1 :: K) s := den_blk hf (b := blkOf k1) (l := [r7, r8, i2, r10, k2]) (by kernel_rfl) (by kernel_rfl) K s
theorem r7_eq (K : List Item) (s : St) : den prog ann 33 (.code r7 :: K) s = mreg prog ann 33 none [] none [8] [
    ⟨some 44, none, .v fun s => some (s.get 7)⟩,
    ⟨some 45, none, .v fun s => idxSl 2 (s.get 44) (.int .i64 0)⟩,
    ⟨some 46, none, .v fun s => loadA true 2 s.m (s.get 45)⟩,
    ⟨some 8, none, .w false none fun s => newPtr s.m [.int .i64 0, .int .i64 0]⟩,
    ⟨none, none, .w false none fun s => stA true 2 s.m (s.get 8) (s.get 46)⟩] K s := (den_reg hf _ K s).trans (by kernel_rfl)
theorem r8_draw : drawOk (fun g => (ann g).pure) (modeOf (ann 33) (idOf r8)) (frzOf (ann 33) (idOf r8)) (opsOf r8) = true := drawOk_of (an := [0, 1, 0, 4, 15, 31, 0, 64, 0, 256, 960, 1984, 4095]) (by kernel_rfl) (by kernel_rfl)
theorem r8_eq (K : List Item) (s : St) : den prog ann 33 (.code r8 :: K) s = mreg prog ann 33 none [] (some 13) [] [
    ⟨some 47, none, .v fun s => fieldA 1 (s.get 2)⟩,
    ⟨some 48, none, .v fun s => loadF false 1 (s.get 47)⟩,
    ⟨some 49, none, .v fun s => fieldA 0 (s.get 8)⟩,
    ⟨some 50, none, .v fun s => loadF false 1 (s.get 49)⟩,
    ⟨some 51, none, .v fun s => idxSl 1 (s.get 48) (s.get 50)⟩,
    ⟨some 52, none, .v fun s => loadF false 1 (s.get 51)⟩,
    ⟨some 53, none, .v fun s => fieldA 1 (s.get 3)⟩,
    ⟨some 54, none, .v fun s => loadF false 1 (s.get 53)⟩,
    ⟨some 55, none, .v fun s => fieldA 1 (s.get 8)⟩,
    ⟨some 56, none, .v fun s => loadF false 1 (s.get 55)⟩,
    ⟨some 57, none, .v fun s => idxSl 1 (s.get 54) (s.get 56)⟩,
    ⟨some 58, none, .v fun s => loadF false 1 (s.get 57)⟩,
    ⟨some 59, none, .v fun s => binA prog .neq 4 (s.get 52) (s.get 58)⟩] K s := (den_regD hf r8_draw K s).trans (by kernel_rfl)
theorem i2_eq (K : List Item) (s : St) : den prog ann 33 (.code i2 :: K) s = ifV prog ann 33 59 i2t i2e K s (s.get 59) := den_if hf (by kernel_rfl) K s
theorem i2t_eq (K : List Item) (s : St) : den prog ann 33 (.code i2t :: K) s = den prog ann 33 (.code r9 :: .code .ret :: K) s := den_flat hf (l := [r9, .ret]) (by kernel_rfl) K s
theorem r9_eq (K : List Item) (s : St) : den prog ann 33 (.code r9 :: K) s = mreg prog ann 33 none [] none [] [
    ⟨some 60, none, .v fun s => some (s.get 6)⟩,
    ⟨some 61, none, .v fun s => loadF true 2 (s.get 8)⟩,
    ⟨some 62, none, .v fun s => lookP prog s.m 114 (.str []) (s.get 60) (s.get 61) false⟩,
    ⟨some 4, none, .v fun s => some (s.get 62)⟩,
    ⟨some 5, none, .v fun s => some (.int .i64 0)⟩] K s := (den_reg hf _ K s).trans (by kernel_rfl)
theorem i2e_eq (K : List Item) (s : St) : den prog ann 33 (.code i2e :: K) s = den prog ann 33 (K) s := den_flat hf (l := []) (by kernel_rfl) K s
theorem r10_eq (K : List Item) (s : St) : den prog ann 33 (.code r10 :: K) s = mreg prog ann 33 none [] none [] [
    ⟨some 63, none, .v fun s => fieldA 0 (s.get 2)⟩,
    ⟨some 64, none, .v fun s => loadF false 1 (s.get 63)⟩,
    ⟨some 65, none, .v fun s => idxSl 1 (s.get 64) (.int .i64 0)⟩,
    ⟨some 66, none, .v fun s => loadF false 1 (s.get 65)⟩,
    ⟨some 67, none, .v fun s => lenSl (s.get 66)⟩,
    ⟨some 68, none, .v fun s => some (.int .i64 0)⟩] K s := (den_reg hf _ K s).trans (by kernel_rfl)
theorem k2_eq (K : List Item) (t : List (Nat × AV)) (m : Mem) : den prog ann 33 (.code k2 :: K) ⟨t, 111, m⟩ = L2 (get t 2) (get t 3) (get t 6) (get t 7) (get t 8) (get t 67) (get t 68) m K := den_loop_enter hf (b := l2) (id := 11) (l := [2, 3, 6, 7, 8, 67, 68]) (by kernel_rfl) (by kernel_rfl) (by kernel_rfl) K _
theorem l2_eq (K : List Item) (t : List (Nat × AV)) (m : Mem) : den prog ann 33 (.inLoop l2 :: .inBlock 2 :: K) ⟨t, 111, m⟩ = L2 (get t 2) (get t 3) (get t 6) (get t 7) (get t 8) (get t 67) (get t 68) m K := den_loop_again hf (id := 11) (l := [2, 3, 6, 7, 8, 67, 68]) (by kernel_rfl) (by kernel_rfl) (.inBlock 2 :: K) _
theorem L2_eq (x2 x3 x6 x7 x8 x67 x68 : AV) (m : Mem) (K : List Item) : L2 x2 x3 x6 x7 x8 x67 x68 m K = den prog ann 33 (.code r11 :: .code i3 :: .code k3 :: .code r18 :: .inLoop l2 :: .inBlock 2 :: K) ⟨[(2, x2), (3, x3), (6, x6), (7, x7), (8, x8), (67, x67), (68, x68)], 111, m⟩ := den_flat hf (l := [r11, i3, k3, r18]) (by kernel_rfl) _ _
theorem r11_eq (K : List Item) (s : St) : den prog ann 33 (.code r11 :: K) s = mreg prog ann 33 (some [2, 3, 6, 7, 8, 67, 68]) [] none [] [
    ⟨some 69, none, .v fun s => binA prog .lss 3 (s.get 68) (s.get 67)⟩] K s := (den_reg hf _ K s).trans (by kernel_rfl)
theorem i3_eq (K : List Item) (s : St) : den prog ann 33 (.code i3 :: K) s = ifV prog ann 33 69 i3t i3e K s (s.get 69) := den_if hf (by kernel_rfl) K s
theorem i3t_eq (K : List Item) (s : St) : den prog ann 33 (.code i3t :: K) s = den prog ann 33 (K) s := den_flat hf (l := []) (by kernel_rfl) K s
theorem i3e_eq (K : List Item) (s : St) : den prog ann 33 (.code i3e :: K) s = den prog ann 33 (.code (.exit 2) :: K) s := den_flat hf (l := [(.exit 2)]) (by kernel_rfl) K s
theorem k3_eq (K : List Item) (s : St) : den prog ann 33 (.code k3 :: K) s = den prog ann 33 (.code r12 :: .code r13 :: .code r14 :: .code r15 :: .code i4 :: .inBlock 3 :: K) s := den_blk hf (b := blkOf k3) (l := [r12, r13, r14, r15, i4]) (by kernel_rfl) (by kernel_rfl) K s
theorem r12_eq (K : List Item) (s : St) : den prog ann 33 (.code r12 :: K) s = mreg prog ann 33 none [] none [] [
    ⟨some 70, none, .v fun s => some (s.get 68)⟩,
    ⟨some 9, none, .v fun s => some (s.get 70)⟩] K s := (den_reg hf _ K s).trans (by kernel_rfl)
theorem r13_draw : drawOk (fun g => (ann g).pure) (modeOf (ann 33) (idOf r13)) (frzOf (ann 33) (idOf r13)) (opsOf r13) = true := drawOk_of (an := [0, 1, 0, 4, 15, 31, 0, 127, 255, 0, 512, 0, 2048, 7680, 15872, 0, 65024, 130560, 262143, 0, 1048575]) (by kernel_rfl) (by kernel_rfl)
theorem r13_eq (K : List Item) (s : St) : den prog ann 33 (.code r13 :: K) s = mreg prog ann 33 none [] (some 21) [10] [
    ⟨some 71, none, .v fun s => fieldA 0 (s.get 2)⟩,
    ⟨some 72, none, .v fun s => loadF false 1 (s.get 71)⟩,
    ⟨some 73, none, .v fun s => fieldA 0 (s.get 8)⟩,
    ⟨some 74, none, .v fun s => loadF false 1 (s.get 73)⟩,
    ⟨some 75, none, .v fun s => idxSl 1 (s.get 72) (s.get 74)⟩,
    ⟨some 76, none, .v fun s => loadF false 1 (s.get 75)⟩,
    ⟨some 77, none, .v fun s => some (s.get 9)⟩,
    ⟨some 78, none, .v fun s => idxSl 1 (s.get 76) (s.get 77)⟩,
    ⟨some 79, none, .v fun s => loadF false 1 (s.get 78)⟩,
    ⟨some 80, none, .v fun s => fieldA 0 (s.get 3)⟩,
    ⟨some 81, none, .v fun s => loadF false 1 (s.get 80)⟩,
    ⟨some 82, none, .v fun s => fieldA 1 (s.get 8)⟩,
    ⟨some 83, none, .v fun s => loadF false 1 (s.get 82)⟩,
    ⟨some 84, none, .v fun s => idxSl 1 (s.get 81) (s.get 83)⟩,
    ⟨some 85, none, .v fun s => loadF false 1 (s.get 84)⟩,
    ⟨some 86, none, .v fun s => some (s.get 9)⟩,
    ⟨some 87, none, .v fun s => idxSl 1 (s.get 85) (s.get 86)⟩,
    ⟨some 88, none, .v fun s => loadF false 1 (s.get 87)⟩,
    ⟨some 89, none, .v fun s => bldA (plc [(0, 1), (1, 1)]) [.int .i64 0, .int .i64 0] [(0, (s.get 79)), (1, (s.get 88))]⟩,
    ⟨some 10, none, .w false (some 19) fun s => newPtr s.m [.int .i64 0, .int .i64 0]⟩,
    ⟨none, none, .w false (some 20) fun s => stA true 2 s.m (s.get 10) (s.get 89)⟩] K s := (den_regD hf r13_draw K s).trans (by kernel_rfl)
theorem r14_eq (K : List Item) (s : St) : den prog ann 33 (.code r14 :: K) s = mreg prog ann 33 none [] none [] [
    ⟨some 91, none, .v fun s => some (s.get 6)⟩,
    ⟨some 92, none, .v fun s => loadF true 2 (s.get 10)⟩,
    ⟨some 93, none, .v fun s => lookP prog s.m 114 (.str []) (s.get 91) (s.get 92) true⟩,
    ⟨some 90, none, .v fun s => some (s.get 93)⟩,
    ⟨some 94, none, .v fun s => extA (s.get 90) 0⟩,
    ⟨some 95, none, .v fun s => extA (s.get 90) 1⟩,
    ⟨some 11, none, .v fun s => some (s.get 94)⟩,
    ⟨some 12, none, .v fun s => some (s.get 95)⟩] K s := (den_reg hf _ K s).trans (by kernel_rfl)
theorem r15_eq (K : List Item) (s : St) : den prog ann 33 (.code r15 :: K) s = mreg prog ann 33 none [] none [] [
    ⟨some 96, none, .v fun s => some (s.get 12)⟩,
    ⟨some 97, none, .v fun s => unA .not (s.get 96)⟩] K s := (den_reg hf _ K s).trans (by kernel_rfl)
theorem i4_eq (K : List Item) (s : St) : den prog ann 33 (.code i4 :: K) s = ifV prog ann 33 97 i4t i4e K s (s.get 97) := den_if hf (by kernel_rfl) K s
theorem i4t_eq (K : List Item) (s : St) : den prog ann 33 (.code i4t :: K) s = den prog ann 33 (.code r16 :: .code r17 :: K) s := den_flat hf (l := [r16, r17]) (by kernel_rfl) K s
theorem r16_draw : drawOk (fun g => (ann g).pure) (modeOf (ann 33) (idOf r16)) (frzOf (ann 33) (idOf r16)) (opsOf r16) = true := drawOk_of (an := [0, 0, 0, 0, 12, 0, 32, 124, 255]) (by kernel_rfl) (by kernel_rfl)
theorem r16_eq (K : List Item) (s : St) : den prog ann 33 (.code r16 :: K) s = mreg prog ann 33 none [] (some 9) [] [
    ⟨some 98, none, .v fun s => some (s.get 6)⟩,
    ⟨some 99, none, .v fun s => loadF true 2 (s.get 10)⟩,
    ⟨some 100, none, .v fun s => some (s.get 6)⟩,
    ⟨some 101, none, .v fun s => loadF true 2 (s.get 8)⟩,
    ⟨some 102, none, .v fun s => lookP prog s.m 114 (.str []) (s.get 100) (s.get 101) false⟩,
    ⟨some 103, none, .v fun s => some (s.get 9)⟩,
    ⟨some 104, none, .c 0 (fun s => (.fn 59 [] [])) fun s => [(s.get 103)]⟩,
    ⟨some 105, none, .v fun s => binA prog .add 9 (s.get 102) (s.get 104)⟩,
    ⟨none, none, .w false (some 8) fun s => updM prog s.m 114 (s.get 98) (s.get 99) (s.get 105)⟩] K s := (den_regD hf r16_draw K s).trans (by kernel_rfl)
theorem r17_eq (K : List Item) (s : St) : den prog ann 33 (.code r17 :: K) s = mreg prog ann 33 none [] none [] [
    ⟨some 106, none, .v fun s => some (s.get 7)⟩,
    ⟨some 107, none, .v fun s => loadF true 2 (s.get 10)⟩,
    ⟨some 108, none, .v fun s => bslF 1 (bslA 2 1 [.int .i64 0, .int .i64 0] [(0, (s.get 107))])⟩,
    ⟨some 109, none, .w false none fun s => appendA 2 16 s.m (s.get 106) (s.get 108)⟩,
    ⟨some 7, none, .v fun s => some (s.get 109)⟩] K s := (den_reg hf _ K s).trans (by kernel_rfl)
theorem i4e_eq (K : List Item) (s : St) : den prog ann 33 (.code i4e :: K) s = den prog ann 33 (K) s := den_flat hf (l := []) (by kernel_rfl) K s
theorem r18_eq (K : List Item) (s : St) : den prog ann 33 (.code r18 :: K) s = mreg prog ann 33 (some [2, 3, 6, 7, 8, 67, 68]) [] none [] [
    ⟨some 110, none, .v fun s => binA prog .add 3 (s.get 68) (.int .i64 1)⟩,
    ⟨some 68, none, .v fun s => some (s.get 110)⟩] K s := (den_reg hf _ K s).trans (by kernel_rfl)
theorem r6_eq (K : List Item) (s : St) : den prog ann 33 (.code r6 :: K) s = mreg prog ann 33 (some [2, 3, 6, 7]) [] none [] [
    ⟨some 42, none, .v fun s => some (s.get 7)⟩,
    ⟨some 43, none, .v fun s => sliceSl 2 (s.get 42) (some (.int .i64 1)) none⟩,
    ⟨some 7, none, .v fun s => some (s.get 43)⟩] K s := (den_reg hf _ K s).trans (by kernel_rfl)
theorem r19_eq (K : List Item) (s : St) : den prog ann 33 (.code r19 :: K) s = mreg prog ann 33 (some []) [] none [] [
    ⟨some 4, none, .v fun s => some (.str [])⟩,
    ⟨some 5, none, .v fun s => some (.int .i64 5)⟩] K s := (den_reg hf _ K s).trans (by kernel_rfl)
theorem ret_eq (K : List Item) (s : St) : den prog ann 33 (.code .ret :: K) s = finM true [fun s => some (s.get 4), fun s => some (s.get 5)] s := (den_ret hf K s).trans (by kernel_rfl)
theorem nil_eq (s : St) : den prog ann 33 [] s = finM true [fun s => some (s.get 4), fun s => some (s.get 5)] s := (den_nil hf s).trans (by kernel_rfl)
theorem inBlock_eq (id : Nat) (K : List Item) (s : St) : den prog ann 33 (.inBlock id :: K) s = den prog ann 33 K s := den_inBlock hf id K s
theorem exit_eq (id : Nat) (K : List Item) (s : St) : den prog ann 33 (.code (.exit id) :: K) s = exitV prog ann 33 (exitTo id K) s := den_exitV hf id K s
theorem call_eq (v0 v1 : AV) (m : Mem) (h : closedL [v0, v1] = true) : denC prog ann 33 [v0, v1] m = (den prog ann 33 [.code b] ⟨[(0, v0), (1, v1)], 111, Mem.empty⟩).bind fun r => some (r.1, m) := (denC_pure hf (b := b) (by kernel_rfl) (by kernel_rfl) (by kernel_rfl) h m).trans (by kernel_rfl)
theorem pure_eq : (ann 33).pure = true := by kernel_rfl
attribute [simp] b_eq r0_eq r1_eq i0_eq i0t_eq r2_eq i0e_eq r3_eq r4_eq k0_eq l0_eq r5_eq i1_eq i1t_eq i1e_eq k1_eq r7_eq r8_eq i2_eq i2t_eq r9_eq i2e_eq r10_eq k2_eq l2_eq r11_eq i3_eq i3t_eq i3e_eq k3_eq r12_eq r13_eq r14_eq r15_eq i4_eq i4t_eq r16_eq r17_eq i4e_eq r18_eq r6_eq r19_eq ret_eq nil_eq inBlock_eq exit_eq pure_eq
end brand_Differ


namespace brand_letter
/-- pommel/brand.letter -/
noncomputable def b : Code := (Try.f59.body).getD .skip
theorem hf : prog.funcs[59]? = some Try.f59 := by kernel_rfl
noncomputable def r0 : Code := findReg b 0
noncomputable def r1 : Code := findReg b 1
theorem b_eq (K : List Item) (s : St) : den prog ann 59 (.code b :: K) s = den prog ann 59 (.code r0 :: .code r1 :: .code .ret :: K) s := den_flat hf (l := [r0, r1, .ret]) (by kernel_rfl) K s
theorem r0_eq (K : List Item) (s : St) : den prog ann 59 (.code r0 :: K) s = mreg prog ann 59 none [] none [] [
    ⟨some 2, none, .v fun s => some (.str [])⟩] K s := (den_reg hf _ K s).trans (by kernel_rfl)
theorem r1_eq (K : List Item) (s : St) : den prog ann 59 (.code r1 :: K) s = mreg prog ann 59 none [] none [] [
    ⟨some 3, none, .v fun s => some (s.get 0)⟩,
    ⟨some 4, none, .v fun s => convInt .u8 (s.get 3)⟩,
    ⟨some 5, none, .v fun s => binA prog .add 5 (.int .u8 97) (s.get 4)⟩,
    ⟨some 6, none, .w false none fun s => bslM s.m 1 (bslA 1 1 [.int .u8 0] [(0, (s.get 5))])⟩,
    ⟨some 7, none, .v fun s => convStr s.m (s.get 6)⟩,
    ⟨some 2, none, .v fun s => some (s.get 7)⟩] K s := (den_reg hf _ K s).trans (by kernel_rfl)
theorem ret_eq (K : List Item) (s : St) : den prog ann 59 (.code .ret :: K) s = finM true [fun s => some (s.get 2)] s := (den_ret hf K s).trans (by kernel_rfl)
theorem nil_eq (s : St) : den prog ann 59 [] s = finM true [fun s => some (s.get 2)] s := (den_nil hf s).trans (by kernel_rfl)
theorem inBlock_eq (id : Nat) (K : List Item) (s : St) : den prog ann 59 (.inBlock id :: K) s = den prog ann 59 K s := den_inBlock hf id K s
theorem exit_eq (id : Nat) (K : List Item) (s : St) : den prog ann 59 (.code (.exit id) :: K) s = exitV prog ann 59 (exitTo id K) s := den_exitV hf id K s
theorem call_eq (v0 : AV) (m : Mem) (h : closedL [v0] = true) : denC prog ann 59 [v0] m = (den prog ann 59 [.code b] ⟨[(0, v0)], 8, Mem.empty⟩).bind fun r => some (r.1, m) := (denC_pure hf (b := b) (by kernel_rfl) (by kernel_rfl) (by kernel_rfl) h m).trans (by kernel_rfl)
theorem pure_eq : (ann 59).pure = true := by kernel_rfl
attribute [simp] b_eq r0_eq r1_eq ret_eq nil_eq inBlock_eq exit_eq pure_eq
end brand_letter

namespace r07_letter
/-- pommel/pommelref07.letter -/
noncomputable def b : Code := (Try.f64.body).getD .skip
theorem hf : prog.funcs[64]? = some Try.f64 := by kernel_rfl
noncomputable def r0 : Code := findReg b 0
noncomputable def r1 : Code := findReg b 1
theorem b_eq (K : List Item) (s : St) : den prog ann 64 (.code b :: K) s = den prog ann 64 (.code r0 :: .code r1 :: .code .ret :: K) s := den_flat hf (l := [r0, r1, .ret]) (by kernel_rfl) K s
theorem r0_eq (K : List Item) (s : St) : den prog ann 64 (.code r0 :: K) s = mreg prog ann 64 none [] none [] [
    ⟨some 2, none, .v fun s => some (.str [])⟩] K s := (den_reg hf _ K s).trans (by kernel_rfl)
theorem r1_eq (K : List Item) (s : St) : den prog ann 64 (.code r1 :: K) s = mreg prog ann 64 none [] none [] [
    ⟨some 3, none, .v fun s => some (s.get 0)⟩,
    ⟨some 4, none, .v fun s => some (s.get 0)⟩,
    ⟨some 5, none, .v fun s => binA prog .add 3 (s.get 4) (.int .i64 1)⟩,
    ⟨some 6, none, .v fun s => sliceStr (.str [97, 98, 99]) (some (s.get 3)) (some (s.get 5))⟩,
    ⟨some 2, none, .v fun s => some (s.get 6)⟩] K s := (den_reg hf _ K s).trans (by kernel_rfl)
theorem ret_eq (K : List Item) (s : St) : den prog ann 64 (.code .ret :: K) s = finM true [fun s => some (s.get 2)] s := (den_ret hf K s).trans (by kernel_rfl)
theorem nil_eq (s : St) : den prog ann 64 [] s = finM true [fun s => some (s.get 2)] s := (den_nil hf s).trans (by kernel_rfl)
theorem inBlock_eq (id : Nat) (K : List Item) (s : St) : den prog ann 64 (.inBlock id :: K) s = den prog ann 64 K s := den_inBlock hf id K s
theorem exit_eq (id : Nat) (K : List Item) (s : St) : den prog ann 64 (.code (.exit id) :: K) s = exitV prog ann 64 (exitTo id K) s := den_exitV hf id K s
theorem call_eq (v0 : AV) (m : Mem) (h : closedL [v0] = true) : denC prog ann 64 [v0] m = (den prog ann 64 [.code b] ⟨[(0, v0)], 7, Mem.empty⟩).bind fun r => some (r.1, m) := (denC_pure hf (b := b) (by kernel_rfl) (by kernel_rfl) (by kernel_rfl) h m).trans (by kernel_rfl)
theorem pure_eq : (ann 64).pure = true := by kernel_rfl
attribute [simp] b_eq r0_eq r1_eq ret_eq nil_eq inBlock_eq exit_eq pure_eq
end r07_letter
end Go.Proofs.Ythnpflkpjimkfaa

/-
  LETTERS AS STRINGS: the code's and the specification's. Conditions: none.
-/
namespace Go.Proofs.Ythnpflkpjimkfaa
open Go.AM
open Go.Proofs.Try (prog)
set_option linter.all false
set_option maxRecDepth 100000
set_option maxHeartbeats 4000000

def ltr (a : Nat) : List UInt8 := [UInt8.ofNat (97 + a)]
theorem letter_spec {a : Nat} (h : a < 3) (m : Mem) : denC prog ann 59 [.int .i64 a] m = some (.str (ltr a), m) := by
  rw [brand_letter.call_eq _ _ (by simp)]
  rcases (by omega : a = 0 ∨ a = 1 ∨ a = 2) with rfl | rfl | rfl
  · simp [ltr, convStr, bytesOf, sliceStr, bnds, bnd, IntKind.wrap, IntKind.min, IntKind.max, IntKind.signed, IntKind.bits]; done
  · simp [ltr, convStr, bytesOf, sliceStr, bnds, bnd, IntKind.wrap, IntKind.min, IntKind.max, IntKind.signed, IntKind.bits]; done
  · simp [ltr, convStr, bytesOf, sliceStr, bnds, bnd, IntKind.wrap, IntKind.min, IntKind.max, IntKind.signed, IntKind.bits]; done
theorem rletter_spec {a : Nat} (h : a < 3) (m : Mem) : denC prog ann 64 [.int .i64 a] m = some (.str (ltr a), m) := by
  rw [r07_letter.call_eq _ _ (by simp)]
  rcases (by omega : a = 0 ∨ a = 1 ∨ a = 2) with rfl | rfl | rfl
  · simp [ltr, convStr, bytesOf, sliceStr, bnds, bnd, IntKind.wrap, IntKind.min, IntKind.max, IntKind.signed, IntKind.bits]; done
  · simp [ltr, convStr, bytesOf, sliceStr, bnds, bnd, IntKind.wrap, IntKind.min, IntKind.max, IntKind.signed, IntKind.bits]; done
  · simp [ltr, convStr, bytesOf, sliceStr, bnds, bnd, IntKind.wrap, IntKind.min, IntKind.max, IntKind.signed, IntKind.bits]; done
end Go.Proofs.Ythnpflkpjimkfaa

/-
  PAIRS OF STATES AS CELLS AND AS KEYS. Conditions: none.
-/
namespace Go.Proofs.Ythnpflkpjimkfaa
open Go.AM
open Go.Proofs.Try (prog)
set_option linter.all false
set_option maxRecDepth 100000
set_option maxHeartbeats 4000000

@[simp] theorem neqB (a b : Bool) : binA prog .neq 4 (.bool a) (.bool b) = some (.bool (!(a == b))) := by simp [binA, eqT, eqA, u4']
abbrev PN := Nat × Nat
def cP (x : PN) : List AV := [.int .i64 ((x.1 : Nat) : Int), .int .i64 ((x.2 : Nat) : Int)]
def encP (x : PN) : AV := .agg (cP x)
def flP : List PN → List AV
  | [] => []
  | x :: l => cP x ++ flP l
@[simp] theorem cP_len (x : PN) : (cP x).length = 2 := rfl
@[simp] theorem flP_len : ∀ l : List PN, (flP l).length = l.length * 2
  | [] => rfl
  | x :: l => by rw [flP, List.length_append, flP_len l, cP_len, List.length_cons]; omega
theorem sc3 (n : Int) : scV prog 3 (.int .i64 n) = true := by simp [scV, u3]
def allP : List PN := (List.range 6).flatMap fun a => (List.range 6).map fun b => (a, b)
end Go.Proofs.Ythnpflkpjimkfaa

/-
  SETS OF STATES AS BITS OF A NUMBER. Conditions: none.
-/
namespace Go.Proofs.Ythnpflkpjimkfaa
open Go.AM
open Go.Proofs.Try (prog)
set_option linter.all false
set_option maxRecDepth 100000
set_option maxHeartbeats 4000000

def pwB (t : Nat) : Nat := 2 ^ t
def shB (x s : Nat) : Nat := x / 2 ^ s
def lowB (x : Nat) : Nat := x &&& (x - 1)
/-- Where a set of states goes by a letter: the states from s on are left. -/
def stepB (rows : List (List Int)) (x a : Nat) : Nat → Nat → Nat → Nat
  | 0, _, y => y
  | j + 1, s, y => stepB rows x a j (s + 1) (if shB x s % 2 = 1 then y ||| pwB (nx rows s a) else y)
def nxS (rows : List (List Int)) (x a : Nat) : Nat := stepB rows x a rows.length 0 0
def encS (x : Nat) : AV := .int .i64 (x : Int)
def stS (x : Nat) : Bool := decide (lowB x = 0)
def rstW (rows : List (List Int)) (k : Nat) : Option (List UInt8) := bfs (nxS rows) (fun w a => w ++ ltr a) stS k 65 0 ([pwB rows.length - 1], [[]])
end Go.Proofs.Ythnpflkpjimkfaa

/-
  ALIKE STATES: those from which the same words lead to good ones; what marking unlike ones again and again ends in. Conditions: none.
-/
namespace Go.Proofs.Ythnpflkpjimkfaa
open Go.AM
open Go.Proofs.Try (prog)
set_option linter.all false
set_option maxRecDepth 100000
set_option maxHeartbeats 4000000

def gow (rows : List (List Int)) (s : Nat) (w : List Nat) : Nat := w.foldl (nx rows) s
def alk (rows : List (List Int)) (good : List Bool) (k i j : Nat) : Prop := ∀ w : List Nat, (∀ a ∈ w, a < k) → bnth good (gow rows i w) = bnth good (gow rows j w)
open Classical in
noncomputable def alB (rows : List (List Int)) (good : List Bool) (k i j : Nat) : Bool := decide (alk rows good k i j)
section
variable {rows : List (List Int)} {good : List Bool} {k : Nat}
theorem alk_refl (i : Nat) : alk rows good k i i := fun _ _ => rfl
theorem alk_symm {i j : Nat} (h : alk rows good k i j) : alk rows good k j i := fun w hw => (h w hw).symm
theorem alk_trans {i j l : Nat} (h : alk rows good k i j) (g : alk rows good k j l) : alk rows good k i l := fun w hw => (h w hw).trans (g w hw)
theorem alk_step {i j a : Nat} (h : alk rows good k i j) (ha : a < k) : alk rows good k (nx rows i a) (nx rows j a) := fun w hw => h (a :: w) (by
  intro b hb
  rcases List.mem_cons.1 hb with rfl | hb
  · exact ha
  · exact hw b hb)
theorem alk_good {i j : Nat} (h : alk rows good k i j) : bnth good i = bnth good j := h [] (by simp)
theorem alB_iff {i j : Nat} : alB rows good k i j = true ↔ alk rows good k i j := by simp [alB]
theorem alB_refl (i : Nat) : alB rows good k i i = true := alB_iff.2 (alk_refl i)
end

/-! ### Matrices -/
abbrev MB := List (List Bool)
def brw (D : MB) (i : Nat) : List Bool := D.getD i []
def mth (D : MB) (i j : Nat) : Bool := bnth (brw D i) j
def setM (D : MB) (i j : Nat) (b : Bool) : MB := D.set i ((brw D i).set j b)
structure Wf (n : Nat) (D : MB) : Prop where
  l : D.length = n
  r : ∀ i, i < n → (brw D i).length = n
theorem brw_set {D : MB} {i i' : Nat} {r : List Bool} (h : i < D.length) : brw (D.set i r) i' = if i = i' then r else brw D i' := by
  simp only [brw, List.getD_eq_getElem?_getD, List.getElem?_set]
  by_cases e : i = i'
  · subst e; simp [h]
  · simp [e]
theorem bnth_set {l : List Bool} {j j' : Nat} {b : Bool} (h : j < l.length) : bnth (l.set j b) j' = if j = j' then b else bnth l j' := by
  simp only [bnth, List.getD_eq_getElem?_getD, List.getElem?_set]
  by_cases e : j = j'
  · subst e; simp [h]
  · simp [e]
theorem Wf.set {n : Nat} {D : MB} (h : Wf n D) {i j : Nat} (b : Bool) (hi : i < n) : Wf n (setM D i j b) := by
  refine ⟨by simp [setM, h.l], fun i' hi' => ?_⟩
  rw [setM, brw_set (by rw [h.l]; exact hi)]
  split
  · rw [List.length_set]; exact h.r i hi
  · exact h.r i' hi'
theorem Wf.get {n : Nat} {D : MB} (h : Wf n D) {i j i' j' : Nat} {b : Bool} (hi : i < n) (hj : j < n) : mth (setM D i j b) i' j' = if i = i' ∧ j = j' then b else mth D i' j' := by
  rw [mth, setM, brw_set (by rw [h.l]; exact hi)]
  by_cases e : i = i'
  · subst e
    rw [if_pos rfl, bnth_set (by rw [h.r i hi]; exact hj)]
    by_cases e' : j = j'
    · simp [e']
    · simp [e', mth]
  · simp [e, mth]
theorem setM_same {n : Nat} {D : MB} (h : Wf n D) {i j : Nat} (hi : i < n) (hj : j < n) {b : Bool} (hb : mth D i j = b) : setM D i j b = D := by
  have h1 : i < D.length := by rw [h.l]; exact hi
  have h2 : j < (brw D i).length := by rw [h.r i hi]; exact hj
  have e1 : (brw D i).set j b = brw D i := by
    rw [← hb, mth, bnth]
    simp [List.getD_eq_getElem?_getD, h2]
  rw [setM, e1, brw]
  simp [List.getD_eq_getElem?_getD, h1]

/-- How many are marked. -/
def cnt (n : Nat) (p : Nat → Nat → Bool) : Nat := ((List.range n).flatMap fun i => (List.range n).map fun j => (i, j)).countP fun x => p x.1 x.2
theorem pairs_len (n : Nat) : ((List.range n).flatMap fun i => (List.range n).map fun j => (i, j)).length = n * n := by
  have : ∀ m : Nat, ((List.range m).map fun _ => n).sum = m * n := by
    intro m
    induction m with
    | zero => simp
    | succ m ih => rw [List.range_succ, List.map_append, List.sum_append, ih]; simp [Nat.succ_mul]
  simp [List.length_flatMap, this]
theorem pairs_mem {n i j : Nat} : (i, j) ∈ ((List.range n).flatMap fun i => (List.range n).map fun j => (i, j)) ↔ i < n ∧ j < n := by
  simp
theorem countP_lt {α : Type} {p q : α → Bool} : ∀ {l : List α}, (∀ x ∈ l, p x = true → q x = true) → (∃ x ∈ l, q x = true ∧ p x = false) → l.countP p < l.countP q
  | [], _, ⟨_, h, _⟩ => by simp at h
  | a :: l, h, ⟨x, hx, h1, h2⟩ => by
    have mono : l.countP p ≤ l.countP q := List.countP_mono_left fun y hy => h y (by simp [hy])
    rcases List.mem_cons.1 hx with rfl | hx
    · simp [h1, h2]; omega
    · have ih := countP_lt (l := l) (fun y hy => h y (by simp [hy])) ⟨x, hx, h1, h2⟩
      rw [List.countP_cons, List.countP_cons]
      have := h a (by simp)
      by_cases e : p a = true
      · simp [e, this e]; omega
      · simp [e]; split <;> omega
theorem cnt_le (n : Nat) (p : Nat → Nat → Bool) : cnt n p ≤ n * n := by
  rw [← pairs_len n]; exact List.countP_le_length
theorem cnt_lt {n : Nat} {p q : Nat → Nat → Bool} (h : ∀ i j, i < n → j < n → p i j = true → q i j = true) {i j : Nat} (hi : i < n) (hj : j < n) (h1 : q i j = true) (h2 : p i j = false) : cnt n p < cnt n q :=
  countP_lt (fun x hx => by obtain ⟨i, j⟩ := x; obtain ⟨h1, h2⟩ := pairs_mem.1 hx; exact h i j h1 h2) ⟨(i, j), pairs_mem.2 ⟨hi, hj⟩, h1, h2⟩
theorem cnt_full {n : Nat} {p : Nat → Nat → Bool} (h : n * n ≤ cnt n p) {i j : Nat} (hi : i < n) (hj : j < n) : p i j = true := by
  rcases hp : p i j with _ | _
  · have := cnt_lt (n := n) (p := p) (q := fun _ _ => true) (fun _ _ _ _ _ => rfl) hi hj rfl hp
    have := cnt_le n (fun _ _ => true)
    omega
  · rfl

/-! ### Rounds of marks -/
section
variable {S α : Type} (I : S → Prop) (μ : S → Nat) (Q : α → S → Prop) (step : S → α → S)
/-- Steps that do nothing, or count up. -/
def Ups (x : α) : Prop := ∀ s, I s → I (step s x) ∧ μ s ≤ μ (step s x) ∧ (μ (step s x) = μ s → step s x = s ∧ Q x s)
theorem ups_fold : ∀ (l : List α) (s : S), (∀ x ∈ l, Ups I μ Q step x) → I s → I (l.foldl step s) ∧ μ s ≤ μ (l.foldl step s) ∧ (μ (l.foldl step s) = μ s → l.foldl step s = s ∧ ∀ x ∈ l, Q x s)
  | [], s, _, h => ⟨h, Nat.le_refl _, fun _ => ⟨rfl, by simp⟩⟩
  | x :: l, s, hs, h => by
    obtain ⟨h1, h2, h3⟩ := hs x (by simp) s h
    obtain ⟨g1, g2, g3⟩ := ups_fold l (step s x) (fun y hy => hs y (by simp [hy])) h1
    refine ⟨g1, by simp only [List.foldl_cons]; omega, fun e => ?_⟩
    simp only [List.foldl_cons] at e ⊢
    obtain ⟨e1, e2⟩ := g3 (by omega)
    obtain ⟨e3, e4⟩ := h3 (by omega)
    rw [e1, e3]
    rw [e3] at e2
    exact ⟨rfl, fun y hy => by
      rcases List.mem_cons.1 hy with rfl | hy
      · exact e4
      · exact e2 y hy⟩
end
end Go.Proofs.Ythnpflkpjimkfaa
