/-
  BRANDS AS VALUES: rows of numbers, truth values, bytes of a string. Conditions: none.
-/
import Derived.Test.YthnpflkpjimkfaaK01
import Derived.Test.YthnpflkpjimkfaaKAmF
import Derived.Test.YthnpflkpjimkfaaKAmE
import Derived.Test.YthnpflkpjimkfaaKAmH
set_option linter.all false
namespace Go.Proofs.Ythnpflkpjimkfaa
open Go.AM
open Go.Proofs.Try (prog)
set_option linter.all false
set_option maxRecDepth 100000
set_option maxHeartbeats 4000000

/-! ### Truth values -/
def bls (bs : List Bool) : List AV := bs.map fun b => AV.bool b
def bnth (bs : List Bool) (i : Nat) : Bool := bs.getD i false
@[simp] theorem bls_len (bs : List Bool) : (bls bs).length = bs.length := by simp [bls]
@[simp] theorem bls_closed (bs : List Bool) : closedL (bls bs) = true := by induction bs <;> simp [bls, closedL, AV.closed] at *; assumption
@[simp] theorem bls_take (bs : List Bool) (n : Nat) : (bls bs).take n = bls (bs.take n) := by simp [bls, List.map_take]
theorem bls_head {bs : List Bool} {i : Nat} (h : i < bs.length) : ((bls bs).drop i).head? = some (.bool (bnth bs i)) := by
  simp [bls, bnth, h]
def IsB (v : AV) (bs : List Bool) : Prop := (v = .nils ∧ bs = []) ∨ ∃ ex, v = .fsl ex bs.length (bls bs)
theorem IsB.closed {v : AV} {l : List Bool} (h : IsB v l) : v.closed = true := by rcases h with ⟨rfl, _⟩ | ⟨_, rfl⟩ <;> rfl
theorem IsB.len {v : AV} {l : List Bool} (h : IsB v l) : lenSl v = some (.int .i64 l.length) := by rcases h with ⟨rfl, rfl⟩ | ⟨_, rfl⟩ <;> simp
theorem IsB.idx {v : AV} {l : List Bool} (h : IsB v l) {i : Nat} (hi : i < l.length) (k : IntKind) : idxSl 1 v (.int k (i : Int)) = some (.fptr ((bls l).drop i)) := by
  rcases h with ⟨rfl, rfl⟩ | ⟨_, rfl⟩
  · simp at hi
  · simp [hi]

/-! ### Rows -/
def pth (ps : List AV) (i : Nat) : AV := ps.getD i .undef
structure IsRows (v : AV) (ps : List AV) (rows : List (List Int)) : Prop where
  len0 : ps.length = rows.length
  row : ∀ i, i < rows.length → IsInts (pth ps i) (cth rows i)
  val : (v = .nils ∧ rows = []) ∨ ∃ ex, v = .fsl ex rows.length ps
theorem IsRows.closed {v : AV} {ps : List AV} {rows : List (List Int)} (h : IsRows v ps rows) : v.closed = true := by rcases h.val with ⟨rfl, _⟩ | ⟨_, rfl⟩ <;> rfl
theorem IsRows.len {v : AV} {ps : List AV} {rows : List (List Int)} (h : IsRows v ps rows) : lenSl v = some (.int .i64 rows.length) := by rcases h.val with ⟨rfl, rfl⟩ | ⟨_, rfl⟩ <;> simp
theorem IsRows.idx {v : AV} {ps : List AV} {rows : List (List Int)} (h : IsRows v ps rows) {i : Nat} (hi : i < rows.length) (k : IntKind) : idxSl 1 v (.int k (i : Int)) = some (.fptr (ps.drop i)) := by
  rcases h.val with ⟨rfl, rfl⟩ | ⟨_, rfl⟩
  · simp at hi
  · simp [hi]
theorem IsRows.head {v : AV} {ps : List AV} {rows : List (List Int)} (h : IsRows v ps rows) {i : Nat} (hi : i < rows.length) : (ps.drop i).head? = some (pth ps i) := by
  have := h.len0
  have hp : i < ps.length := by omega
  simp [pth, hp]

/-! ### Bytes -/
def byt (s : List UInt8) (i : Nat) : Nat := (s.getD i 0).toNat
theorem byt_lt (s : List UInt8) (i : Nat) : byt s i < 256 := (s.getD i 0).toNat_lt
theorem str_idx {s : List UInt8} {i : Nat} (h : i < s.length) (k : IntKind) : idxStr (.str s) (.int k (i : Int)) = some (.int .u8 (byt s i : Nat)) := by
  simp [idxStr, inR, h, byt]
theorem wrap8 {x : Int} (h : 0 ≤ x ∧ x < 256) : IntKind.wrap .u8 x = x := by
  simp [IntKind.wrap, IntKind.min, IntKind.max, IntKind.signed, IntKind.bits]
  omega

/-! ### What a brand is -/
def rowOk (n k : Nat) (r : List Int) : Bool := decide (r.length = k) && r.all fun x => decide (0 ≤ x) && decide (x < n)
def validB (rows : List (List Int)) (good : List Bool) : Bool :=
  decide (1 ≤ rows.length ∧ rows.length ≤ 6) && (decide (good.length = rows.length) && (decide (1 ≤ (cth rows 0).length ∧ (cth rows 0).length ≤ 3) && rows.all (rowOk rows.length (cth rows 0).length)))
end Go.Proofs.Ythnpflkpjimkfaa

/-
  VALID BRANDS: the code's test and the specification's are one. Conditions: none.
-/
namespace Go.Proofs.Ythnpflkpjimkfaa
open Go.AM
open Go.Proofs.Try (prog)
set_option linter.all false
set_option maxRecDepth 100000
set_option maxHeartbeats 4000000

theorem IsRows.one {v : AV} {ps : List AV} {rows : List (List Int)} (h : IsRows v ps rows) : v.one = true := by rcases h.val with ⟨rfl, _⟩ | ⟨_, rfl⟩ <;> rfl
theorem IsB.one {v : AV} {l : List Bool} (h : IsB v l) : v.one = true := by rcases h with ⟨rfl, _⟩ | ⟨_, rfl⟩ <;> rfl
theorem le_fmin : ∀ (L : List Int) (x a : Int), a ≤ L.foldl min x ↔ a ≤ x ∧ ∀ y ∈ L, a ≤ y
  | [], x, a => by simp
  | b :: L, x, a => by
    rw [List.foldl_cons, le_fmin L]
    constructor
    · rintro ⟨h1, h2⟩
      refine ⟨by omega, fun y hy => ?_⟩
      rcases List.mem_cons.1 hy with rfl | hy
      · omega
      · exact h2 y hy
    · rintro ⟨h1, h2⟩
      have := h2 b (by simp)
      exact ⟨by omega, fun y hy => h2 y (by simp [hy])⟩
theorem fmax_lt : ∀ (L : List Int) (x a : Int), L.foldl max x < a ↔ x < a ∧ ∀ y ∈ L, y < a
  | [], x, a => by simp
  | b :: L, x, a => by
    rw [List.foldl_cons, fmax_lt L]
    constructor
    · rintro ⟨h1, h2⟩
      refine ⟨by omega, fun y hy => ?_⟩
      rcases List.mem_cons.1 hy with rfl | hy
      · omega
      · exact h2 y hy
    · rintro ⟨h1, h2⟩
      have := h2 b (by simp)
      exact ⟨by omega, fun y hy => h2 y (by simp [hy])⟩
theorem cons_nth {c : List Int} (h : 0 < c.length) : c = nth c 0 :: c.drop 1 := by
  have := drop_nth (l := c) (i := 0) h
  simpa using this
theorem rowOk_iff {r : List Int} {n k : Nat} (hk : r.length = k) (h0 : 0 < k) : rowOk n k r = true ↔ ¬ minL r < 0 ∧ ¬ (n : Int) ≤ maxL r := by
  have h1 := le_fmin (r.drop 1) (nth r 0) 0
  have h2 := fmax_lt (r.drop 1) (nth r 0) n
  have hc := cons_nth (c := r) (by omega)
  unfold rowOk minL maxL
  simp only [hk, decide_true, Bool.true_and, List.all_eq_true, Bool.and_eq_true, decide_eq_true_eq]
  have e : (∀ x ∈ r, 0 ≤ x ∧ x < (n : Int)) ↔ (0 ≤ nth r 0 ∧ ∀ y ∈ r.drop 1, 0 ≤ y) ∧ (nth r 0 < n ∧ ∀ y ∈ r.drop 1, y < (n : Int)) := by
    constructor
    · intro h
      rw [hc] at h
      exact ⟨⟨(h _ (by simp)).1, fun y hy => (h y (List.mem_cons_of_mem _ hy)).1⟩, (h _ (by simp)).2, fun y hy => (h y (List.mem_cons_of_mem _ hy)).2⟩
    · rintro ⟨⟨a, b⟩, c, d⟩ x hx
      rw [hc] at hx
      rcases List.mem_cons.1 hx with rfl | hx
      · exact ⟨a, c⟩
      · exact ⟨b x hx, d x hx⟩
  rw [e, ← h1, ← h2]
  omega
theorem drop_cth {rows : List (List Int)} {i : Nat} (h : i < rows.length) : rows.drop i = cth rows i :: rows.drop (i + 1) := by
  rw [List.drop_eq_getElem_cons h]
  congr 1
  simp [cth, h]
theorem val_loop {nv : AV} {ps : List AV} {rows : List (List Int)} {n k : Nat} (hn : IsRows nv ps rows) (hl : rows.length ≤ 1000) (hr : ∀ i, i < rows.length → (cth rows i).length ≤ 1000) (hk : 1 ≤ k) : ∀ (j i : Nat) (m : Mem), i + j = rows.length →
    brand_valid.L0 (.int .i64 n) (.int .i64 k) nv (.int .i64 rows.length) (.int .i64 i) m [.code brand_valid.r13, .code .ret] = some (.bool ((rows.drop i).all (rowOk n k)), Mem.empty) := by
  intro j
  induction j with
  | zero =>
    intro i m h1
    have e : i = rows.length := by omega
    subst e
    rw [brand_valid.L0_eq]
    simp
    done
  | succ j ih =>
    intro i m h1
    have hi : i < rows.length := by omega
    have hw : IntKind.wrap .i64 ((i : Int) + 1) = (i : Int) + 1 := wrap_id (by omega) (by omega)
    have iw := hn.row i hi
    have hrl := hr i hi
    have st := fun m => ih (i + 1) m (by omega)
    simp only [Int.natCast_add, Int.cast_ofNat_Int] at st
    rw [drop_cth hi, List.all_cons, brand_valid.L0_eq]
    by_cases c1 : (cth rows i).length = k
    · have c1' : ((cth rows i).length : Int) = k := by omega
      have hmn := fun m => min_spec iw (by omega) (by omega) m
      have hmx := fun m => max_spec iw (by omega) (by omega) m
      have hro := rowOk_iff (r := cth rows i) (n := n) c1 (by omega)
      by_cases c2 : minL (cth rows i) < 0
      · have : rowOk n k (cth rows i) = false := by
          cases h : rowOk n k (cth rows i) with
          | false => rfl
          | true => exact absurd c2 (hro.1 h).1
        simp [hi, hn.idx hi, hn.head hi, iw.len, c1, c1', iw.closed, hmn, c2, this]
        done
      · by_cases c3 : (n : Int) ≤ maxL (cth rows i)
        · have : rowOk n k (cth rows i) = false := by
            cases h : rowOk n k (cth rows i) with
            | false => rfl
            | true => exact absurd c3 (hro.1 h).2
          simp [hi, hn.idx hi, hn.head hi, iw.len, c1, c1', iw.closed, hmn, hmx, c2, c3, this]
          done
        · have : rowOk n k (cth rows i) = true := hro.2 ⟨c2, c3⟩
          simp [hi, hn.idx hi, hn.head hi, iw.len, c1, c1', iw.closed, hmn, hmx, c2, c3, this, hw, st]
          done
    · have c1' : ¬ ((cth rows i).length : Int) = k := by omega
      have : rowOk n k (cth rows i) = false := by simp [rowOk, c1]
      simp [hi, hn.idx hi, hn.head hi, iw.len, c1, c1', this]
      done
theorem valid_spec {nv gv : AV} {ps : List AV} {rows : List (List Int)} {good : List Bool} (hn : IsRows nv ps rows) (hg : IsB gv good) (hl : rows.length ≤ 1000) (hgl : good.length ≤ 1000) (hr : ∀ i, i < rows.length → (cth rows i).length ≤ 1000) (m : Mem) :
    denC prog ann 55 [.agg [nv, gv]] m = some (.bool (validB rows good), m) := by
  rw [brand_valid.call_eq _ _ (by simp [hn.closed, hg.closed])]
  unfold validB
  by_cases c1 : rows.length < 1
  · have : ¬ 1 ≤ rows.length := by omega
    simp [hn.one, hg.one, hn.closed, hg.closed, hn.len, c1, show (rows.length : Int) < 1 by omega, show ¬ 1 ≤ rows.length by omega]
    done
  · by_cases c2 : 6 < rows.length
    · simp [hn.one, hg.one, hn.closed, hg.closed, hn.len, show ¬ (rows.length : Int) < 1 by omega, show (6 : Int) < rows.length by omega, show ¬ rows.length ≤ 6 by omega]
      done
    · by_cases c3 : good.length = rows.length
      · have hi : 0 < rows.length := by omega
        have iw := hn.row 0 hi
        have i0 := hn.idx hi .i64
        have h0 := hn.head hi
        simp only [Int.ofNat_zero, Int.cast_ofNat_Int, List.drop_zero] at i0 h0
        have hr0 := hr 0 hi
        by_cases c4 : (cth rows 0).length < 1
        · simp [hn.one, hg.one, hn.closed, hg.closed, hn.len, hg.len, c3, show ¬ (rows.length : Int) < 1 by omega, show ¬ (6 : Int) < rows.length by omega, i0, h0, iw.len, show ((cth rows 0).length : Int) < 1 by omega, show ¬ 1 ≤ (cth rows 0).length by omega, show 1 ≤ rows.length by omega, show rows.length ≤ 6 by omega]
          done
        · by_cases c5 : 3 < (cth rows 0).length
          · simp [hn.one, hg.one, hn.closed, hg.closed, hn.len, hg.len, c3, show ¬ (rows.length : Int) < 1 by omega, show ¬ (6 : Int) < rows.length by omega, i0, h0, iw.len, show ¬ ((cth rows 0).length : Int) < 1 by omega, show (3 : Int) < (cth rows 0).length by omega, show ¬ (cth rows 0).length ≤ 3 by omega, show 1 ≤ rows.length by omega, show rows.length ≤ 6 by omega]
            done
          · have lp := fun m => val_loop (n := rows.length) (k := (cth rows 0).length) hn hl hr (by omega) rows.length 0 m (by omega)
            simp only [Int.ofNat_zero, Int.cast_ofNat_Int, List.drop_zero] at lp
            simp [hn.one, hg.one, hn.closed, hg.closed, hn.len, hg.len, c3, show ¬ (rows.length : Int) < 1 by omega, show ¬ (6 : Int) < rows.length by omega, i0, h0, iw.len, show ¬ ((cth rows 0).length : Int) < 1 by omega, show ¬ (3 : Int) < (cth rows 0).length by omega, show (cth rows 0).length ≤ 3 by omega, show 1 ≤ (cth rows 0).length by omega, show 1 ≤ rows.length by omega, show rows.length ≤ 6 by omega, lp]
            done
      · simp [hn.one, hg.one, hn.closed, hg.closed, hn.len, hg.len, c3, show ¬ (rows.length : Int) < 1 by omega, show ¬ (6 : Int) < rows.length by omega, show ¬ (good.length : Int) = rows.length by omega]
        done

/-! ### The specification's -/
theorem in_spec (a b c : Int) (m : Mem) : denC prog ann 62 [.int .i64 a, .int .i64 b, .int .i64 c] m = some (.bool (decide (b ≤ a) && decide (a ≤ c)), m) := by
  rw [r07_in.call_eq _ _ _ _ (by simp)]
  by_cases h : b ≤ a <;> simp [h]
theorem rv_in {nv gv : AV} {ps : List AV} {rows : List (List Int)} {n : Nat} (hn : IsRows nv ps rows) (hnn : n ≤ 1000) (hl : rows.length ≤ 1000) {i : Nat} (hi : i < rows.length) (hr : (cth rows i).length ≤ 1000) (K : List Item) : ∀ (j p : Nat) (m : Mem), p + j = (cth rows i).length →
    ∃ m', r07_Valid.L2 (.fptr [nv, gv]) (.int .i64 n) (.int .i64 i) (.int .i64 p) m (.inBlock 1 :: .code r07_Valid.r6 :: .inLoop r07_Valid.l0 :: .inBlock 0 :: K) =
      if ((cth rows i).drop p).all (fun x => decide (0 ≤ x) && decide (x < n)) = true then r07_Valid.L0 (.fptr [nv, gv]) (.int .i64 n) (.int .i64 ((i : Int) + 1)) m' K else some (.bool false, Mem.empty) := by
  intro j
  have iw := hn.row i hi
  have hw0 : IntKind.wrap .i64 ((n : Int) - 1) = (n : Int) - 1 := wrap_id (by omega) (by omega)
  have hwi : IntKind.wrap .i64 ((i : Int) + 1) = (i : Int) + 1 := wrap_id (by omega) (by omega)
  induction j with
  | zero =>
    intro p m h1
    have e : p = (cth rows i).length := by omega
    subst e
    refine ⟨m, ?_⟩
    rw [r07_Valid.L2_eq]
    simp [hn.idx hi, hn.head hi, iw.len, hwi]
    done
  | succ j ih =>
    intro p m h1
    have hp : p < (cth rows i).length := by omega
    have hwp : IntKind.wrap .i64 ((p : Int) + 1) = (p : Int) + 1 := wrap_id (by omega) (by omega)
    obtain ⟨m', g⟩ := ih (p + 1) m (by omega)
    simp only [Int.natCast_add, Int.cast_ofNat_Int] at g
    refine ⟨m', ?_⟩
    rw [drop_nth hp, List.all_cons, r07_Valid.L2_eq]
    by_cases c1 : 0 ≤ nth (cth rows i) p
    · by_cases c2 : nth (cth rows i) p < n
      · rw [decide_eq_true c1, decide_eq_true c2, Bool.true_and, Bool.true_and, ← g]
        simp [hp, hn.idx hi, hn.head hi, iw.len, iw.idx hp, ints_head hp, hw0, in_spec, c1, show nth (cth rows i) p ≤ (n : Int) - 1 by omega, hwp]
        done
      · rw [decide_eq_true c1, decide_eq_false c2]
        simp [hp, hn.idx hi, hn.head hi, iw.len, iw.idx hp, ints_head hp, hw0, in_spec, c1, show ¬ nth (cth rows i) p ≤ (n : Int) - 1 by omega]
        done
    · rw [decide_eq_false c1]
      simp [hp, hn.idx hi, hn.head hi, iw.len, iw.idx hp, ints_head hp, hw0, in_spec, c1]
      done
theorem rv_out {nv gv : AV} {ps : List AV} {rows : List (List Int)} (hn : IsRows nv ps rows) (hl : rows.length ≤ 1000) (h0 : 0 < rows.length) (hr : ∀ i, i < rows.length → (cth rows i).length ≤ 1000) : ∀ (j i : Nat) (m : Mem), i + j = rows.length →
    r07_Valid.L0 (.fptr [nv, gv]) (.int .i64 rows.length) (.int .i64 i) m [.code r07_Valid.r14, .code .ret] = some (.bool ((rows.drop i).all (rowOk rows.length (cth rows 0).length)), Mem.empty) := by
  intro j
  have iw0 := hn.row 0 h0
  have i0 := hn.idx h0 .i64
  have hh0 := hn.head h0
  simp only [Int.ofNat_zero, Int.cast_ofNat_Int, List.drop_zero] at i0 hh0
  induction j with
  | zero =>
    intro i m h1
    have e : i = rows.length := by omega
    subst e
    rw [r07_Valid.L0_eq]
    simp
    done
  | succ j ih =>
    intro i m h1
    have hi : i < rows.length := by omega
    have iw := hn.row i hi
    obtain ⟨m', g⟩ := rv_in (gv := gv) hn hl hl hi (hr i hi) [.code r07_Valid.r14, .code .ret] (cth rows i).length 0 { h := m.h, nx := m.nx + 12 } (by omega)
    simp only [Int.ofNat_zero, Int.cast_ofNat_Int, List.drop_zero] at g
    have st := ih (i + 1) m' (by omega)
    simp only [Int.natCast_add, Int.cast_ofNat_Int] at st
    rw [st] at g
    rw [drop_cth hi, List.all_cons, r07_Valid.L0_eq]
    unfold rowOk at g ⊢
    by_cases c1 : (cth rows i).length = (cth rows 0).length
    · have c1' : ((cth rows i).length : Int) = (cth rows 0).length := by omega
      rw [decide_eq_true c1, Bool.true_and]
      simp [hi, hn.idx hi, hn.head hi, iw.len, i0, hh0, iw0.len, c1']
      rw [g]
      cases q : ((cth rows i).all fun x => decide (0 ≤ x) && decide (x < (rows.length : Int))) with
      | true => rw [if_pos rfl, Bool.true_and]
      | false => rw [if_neg (by decide), Bool.false_and]
    · have c1' : ¬ ((cth rows i).length : Int) = (cth rows 0).length := by omega
      rw [decide_eq_false c1]
      simp [hi, hn.idx hi, hn.head hi, iw.len, i0, hh0, iw0.len, c1']
      done
theorem rvalid_spec {nv gv : AV} {ps : List AV} {rows : List (List Int)} {good : List Bool} (hn : IsRows nv ps rows) (hg : IsB gv good) (hl : rows.length ≤ 1000) (hgl : good.length ≤ 1000) (hr : ∀ i, i < rows.length → (cth rows i).length ≤ 1000) (m : Mem) :
    denC prog ann 19 [.agg [nv, gv]] m = some (.bool (validB rows good), m) := by
  rw [r07_Valid.call_eq _ _ (by simp [hn.closed, hg.closed])]
  unfold validB
  by_cases c1 : 1 ≤ rows.length
  · by_cases c2 : rows.length ≤ 6
    · by_cases c3 : good.length = rows.length
      · have hi : 0 < rows.length := by omega
        have iw := hn.row 0 hi
        have i0 := hn.idx hi .i64
        have h0 := hn.head hi
        simp only [Int.ofNat_zero, Int.cast_ofNat_Int, List.drop_zero] at i0 h0
        have lp := fun m => rv_out (gv := gv) hn hl hi hr rows.length 0 m (by omega)
        simp only [Int.ofNat_zero, Int.cast_ofNat_Int, List.drop_zero] at lp
        by_cases c4 : 1 ≤ (cth rows 0).length
        · by_cases c5 : (cth rows 0).length ≤ 3
          · simp [hn.one, hg.one, hn.closed, hg.closed, hn.len, hg.len, c3, in_spec, show (1 : Int) ≤ rows.length by omega, show (rows.length : Int) ≤ 6 by omega, i0, h0, iw.len, show (1 : Int) ≤ (cth rows 0).length by omega, show ((cth rows 0).length : Int) ≤ 3 by omega, c1, c2, c4, c5, lp]
            done
          · simp [hn.one, hg.one, hn.closed, hg.closed, hn.len, hg.len, c3, in_spec, show (1 : Int) ≤ rows.length by omega, show (rows.length : Int) ≤ 6 by omega, i0, h0, iw.len, show (1 : Int) ≤ (cth rows 0).length by omega, show ¬ ((cth rows 0).length : Int) ≤ 3 by omega, c1, c2, c4, c5]
            done
        · simp [hn.one, hg.one, hn.closed, hg.closed, hn.len, hg.len, c3, in_spec, show (1 : Int) ≤ rows.length by omega, show (rows.length : Int) ≤ 6 by omega, i0, h0, iw.len, show ¬ (1 : Int) ≤ (cth rows 0).length by omega, c1, c2, c4]
          done
      · simp [hn.one, hg.one, hn.closed, hg.closed, hn.len, hg.len, c3, in_spec, show (1 : Int) ≤ rows.length by omega, show (rows.length : Int) ≤ 6 by omega, c1, c2, show ¬ (good.length : Int) = rows.length by omega]
        done
    · simp [hn.one, hg.one, hn.closed, hg.closed, hn.len, in_spec, show (1 : Int) ≤ rows.length by omega, show ¬ (rows.length : Int) ≤ 6 by omega, c1, c2]
      done
  · simp [hn.one, hg.one, hn.closed, hg.closed, hn.len, in_spec, show ¬ (1 : Int) ≤ rows.length by omega, c1]
    done
end Go.Proofs.Ythnpflkpjimkfaa

/-
  WORDS: whether a string is one, and the state to which it leads: the code's and the specification's. Conditions: none.
-/
namespace Go.Proofs.Ythnpflkpjimkfaa
open Go.AM
open Go.Proofs.Try (prog)
set_option linter.all false
set_option maxRecDepth 100000
set_option maxHeartbeats 4000000

/-- A valid brand. -/
structure VB (rows : List (List Int)) (good : List Bool) (k : Nat) : Prop where
  n1 : 1 ≤ rows.length
  n6 : rows.length ≤ 6
  gl : good.length = rows.length
  k1 : 1 ≤ k
  k3 : k ≤ 3
  rl : ∀ i, i < rows.length → (cth rows i).length = k
  rg : ∀ i j, i < rows.length → j < k → 0 ≤ nth (cth rows i) j ∧ nth (cth rows i) j < rows.length
theorem VB.of {rows : List (List Int)} {good : List Bool} (h : validB rows good = true) : VB rows good (cth rows 0).length := by
  unfold validB at h
  simp only [Bool.and_eq_true, decide_eq_true_eq, List.all_eq_true] at h
  obtain ⟨⟨h1, h2⟩, h3, ⟨h4, h5⟩, h6⟩ := h
  have key : ∀ i, i < rows.length → rowOk rows.length (cth rows 0).length (cth rows i) = true := fun i hi => h6 _ (cth_mem hi)
  refine ⟨h1, h2, h3, h4, h5, fun i hi => ?_, fun i j hi hj => ?_⟩
  · have := key i hi
    unfold rowOk at this
    simp only [Bool.and_eq_true, decide_eq_true_eq] at this
    exact this.1
  · have := key i hi
    unfold rowOk at this
    simp only [Bool.and_eq_true, decide_eq_true_eq, List.all_eq_true] at this
    have hm : nth (cth rows i) j ∈ cth rows i := by rw [← nth_get (by omega : j < (cth rows i).length)]; exact List.getElem_mem _
    exact this.2 _ hm

def letB (k : Nat) (s : List UInt8) (i : Nat) : Bool := decide (97 ≤ byt s i) && decide (byt s i - 97 < k)
def letF (k : Nat) (s : List UInt8) (j i : Nat) : Bool := (List.range' i j).all (letB k s)
theorem letF_succ (k : Nat) (s : List UInt8) (j i : Nat) : letF k s (j + 1) i = (letB k s i && letF k s j (i + 1)) := by simp [letF, List.range'_succ]
/-- What the test of a word answers. -/
def wordE (k : Nat) (s : List UInt8) : Int := if 200 < s.length then 3 else if letF k s s.length 0 = true then 0 else 2
theorem sub97 {x : Nat} (h : 97 ≤ x) (h2 : x < 256) : IntKind.wrap .u8 ((x : Int) - 97) = ((x - 97 : Nat) : Int) := by
  rw [wrap8 (by omega)]; omega
theorem word_loop {nv gv : AV} {ps : List AV} {rows : List (List Int)} {k : Nat} (hn : IsRows nv ps rows) (h0 : 0 < rows.length) (hk : (cth rows 0).length = k) (hk3 : k ≤ 1000) {s : List UInt8} (hs : s.length ≤ 200) : ∀ (j i : Nat) (m : Mem), i + j = s.length →
    r07_Word.L0 (.str s) (.fptr [nv, gv]) (.int .i64 i) m [.code r07_Word.r8, .code .ret] = some (.int .i64 (if letF k s j i = true then 0 else 2), Mem.empty) := by
  intro j
  have iw := hn.row 0 h0
  have i0 := hn.idx h0 .i64
  have hh := hn.head h0
  simp only [Int.ofNat_zero, Int.cast_ofNat_Int, List.drop_zero] at i0 hh
  induction j with
  | zero =>
    intro i m h1
    have e : i = s.length := by omega
    subst e
    rw [r07_Word.L0_eq]
    simp [letF]
    done
  | succ j ih =>
    intro i m h1
    have hi : i < s.length := by omega
    have hwi : IntKind.wrap .i64 ((i : Int) + 1) = (i : Int) + 1 := wrap_id (by omega) (by omega)
    have hb := byt_lt s i
    have st := fun m => ih (i + 1) m (by omega)
    simp only [Int.natCast_add, Int.cast_ofNat_Int] at st
    rw [letF_succ, letB, r07_Word.L0_eq]
    by_cases c1 : byt s i < 97
    · simp [hi, str_idx hi, c1, show (byt s i : Int) < 97 by omega, show ¬ 97 ≤ byt s i by omega]
      done
    · have hsub := sub97 (x := byt s i) (by omega) hb
      have hws : IntKind.wrap .i64 ((byt s i - 97 : Nat) : Int) = ((byt s i - 97 : Nat) : Int) := wrap_id (by omega) (by omega)
      by_cases c2 : byt s i - 97 < k
      · simp [hi, str_idx hi, c1, show ¬ (byt s i : Int) < 97 by omega, show 97 ≤ byt s i by omega, hsub, hws, i0, hh, iw.len, hk, show ¬ (k : Int) ≤ ((byt s i - 97 : Nat) : Int) by omega, show ¬ k ≤ byt s i - 97 by omega, c2, hwi, st]
        done
      · simp [hi, str_idx hi, c1, show ¬ (byt s i : Int) < 97 by omega, show 97 ≤ byt s i by omega, hsub, hws, i0, hh, iw.len, hk, show (k : Int) ≤ ((byt s i - 97 : Nat) : Int) by omega, show k ≤ byt s i - 97 by omega, c2]
        done
theorem word_spec {nv gv : AV} {ps : List AV} {rows : List (List Int)} {good : List Bool} (hn : IsRows nv ps rows) (hg : IsB gv good) (h0 : 0 < rows.length) (hk3 : (cth rows 0).length ≤ 1000) {s : List UInt8} (hs : s.length ≤ 1000) (m : Mem) :
    denC prog ann 24 [.agg [nv, gv], .str s] m = some (.int .i64 (wordE (cth rows 0).length s), m) := by
  rw [r07_Word.call_eq _ _ _ (by simp [hn.closed, hg.closed])]
  unfold wordE
  by_cases c : 200 < s.length
  · simp [hn.one, hg.one, hn.closed, hg.closed, c, show (200 : Int) < s.length by omega]
    done
  · have lp := fun m => word_loop (gv := gv) hn h0 rfl hk3 (s := s) (by omega) s.length 0 m (by omega)
    simp only [Int.ofNat_zero, Int.cast_ofNat_Int] at lp
    simp [hn.one, hg.one, hn.closed, hg.closed, c, show ¬ (200 : Int) < s.length by omega, lp]
    done
theorem check_loop {nv gv : AV} {ps : List AV} {rows : List (List Int)} {k : Nat} (hn : IsRows nv ps rows) (h0 : 0 < rows.length) (hk : (cth rows 0).length = k) (hk3 : k ≤ 1000) {s : List UInt8} (hs : s.length ≤ 200) : ∀ (j i : Nat) (m : Mem), i + j = s.length →
    brand_check.L1 (.str s) (.fptr [nv, gv]) (.int .i64 s.length) (.int .i64 i) m [.code brand_check.r11, .code .ret] = some (.int .i64 (if letF k s j i = true then 0 else 2), Mem.empty) := by
  intro j
  have iw := hn.row 0 h0
  have i0 := hn.idx h0 .i64
  have hh := hn.head h0
  simp only [Int.ofNat_zero, Int.cast_ofNat_Int, List.drop_zero] at i0 hh
  induction j with
  | zero =>
    intro i m h1
    have e : i = s.length := by omega
    subst e
    rw [brand_check.L1_eq]
    simp [letF]
    done
  | succ j ih =>
    intro i m h1
    have hi : i < s.length := by omega
    have hwi : IntKind.wrap .i64 ((i : Int) + 1) = (i : Int) + 1 := wrap_id (by omega) (by omega)
    have hb := byt_lt s i
    have st := fun m => ih (i + 1) m (by omega)
    simp only [Int.natCast_add, Int.cast_ofNat_Int] at st
    rw [letF_succ, letB, brand_check.L1_eq]
    by_cases c1 : byt s i < 97
    · simp [hi, str_idx hi, c1, show (byt s i : Int) < 97 by omega, show ¬ 97 ≤ byt s i by omega]
      done
    · have hsub := sub97 (x := byt s i) (by omega) hb
      have hws : IntKind.wrap .i64 ((byt s i - 97 : Nat) : Int) = ((byt s i - 97 : Nat) : Int) := wrap_id (by omega) (by omega)
      by_cases c2 : byt s i - 97 < k
      · simp [hi, str_idx hi, c1, show ¬ (byt s i : Int) < 97 by omega, show 97 ≤ byt s i by omega, hsub, hws, i0, hh, iw.len, hk, show ¬ (k : Int) ≤ ((byt s i - 97 : Nat) : Int) by omega, show ¬ k ≤ byt s i - 97 by omega, c2, hwi, st]
        done
      · simp [hi, str_idx hi, c1, show ¬ (byt s i : Int) < 97 by omega, show 97 ≤ byt s i by omega, hsub, hws, i0, hh, iw.len, hk, show (k : Int) ≤ ((byt s i - 97 : Nat) : Int) by omega, show k ≤ byt s i - 97 by omega, c2]
        done
/-- The code's test: 1 for a brand that is not valid. -/
theorem check_spec {nv gv : AV} {ps : List AV} {rows : List (List Int)} {good : List Bool} (hn : IsRows nv ps rows) (hg : IsB gv good) (hl : rows.length ≤ 1000) (hgl : good.length ≤ 1000) (hr : ∀ i, i < rows.length → (cth rows i).length ≤ 1000) {s : List UInt8} (hs : s.length ≤ 1000) (m : Mem) :
    denC prog ann 68 [.agg [nv, gv], .str s] m = some (.int .i64 (if validB rows good = true then wordE (cth rows 0).length s else 1), m) := by
  have hv := fun m => valid_spec hn hg hl hgl hr m
  rw [brand_check.call_eq _ _ _ (by simp [hn.closed, hg.closed])]
  cases c0 : validB rows good with
  | false =>
    rw [c0] at hv
    simp [hn.one, hg.one, hn.closed, hg.closed, hv]
    done
  | true =>
    rw [c0] at hv
    have vb := VB.of c0
    have h0 := vb.n1
    rw [if_pos rfl]
    unfold wordE
    by_cases c : 200 < s.length
    · simp [hn.one, hg.one, hn.closed, hg.closed, hv, c, show (200 : Int) < s.length by omega]
      done
    · have lp := fun m => check_loop (gv := gv) hn h0 rfl (by have := vb.k3; omega) (s := s) (by omega) s.length 0 m (by omega)
      simp only [Int.ofNat_zero, Int.cast_ofNat_Int] at lp
      simp [hn.one, hg.one, hn.closed, hg.closed, hv, c, show ¬ (200 : Int) < s.length by omega, lp]
      done

/-! ### Where words lead -/
def nx (rows : List (List Int)) (st a : Nat) : Nat := (nth (cth rows st) a).toNat
def goF (rows : List (List Int)) (s : List UInt8) : Nat → Nat → Nat → Nat
  | 0, _, st => st
  | j + 1, i, st => goF rows s j (i + 1) (nx rows st (byt s i - 97))
def goL (rows : List (List Int)) : List UInt8 → Nat → Nat
  | [], st => st
  | c :: r, st => goL rows r (nx rows st (c.toNat - 97))
theorem goF_goL (rows : List (List Int)) (s : List UInt8) : ∀ (j i st : Nat), i + j = s.length → goF rows s j i st = goL rows (s.drop i) st
  | 0, i, st, h => by rw [List.drop_of_length_le (by omega)]; rfl
  | j + 1, i, st, h => by
    have hi : i < s.length := by omega
    rw [List.drop_eq_getElem_cons hi, goL, goF, goF_goL rows s j (i + 1) _ (by omega)]
    congr 2
    simp [byt, hi]
theorem nx_lt {rows : List (List Int)} {good : List Bool} {k : Nat} (v : VB rows good k) {st a : Nat} (h : st < rows.length) (ha : a < k) : nx rows st a < rows.length ∧ nth (cth rows st) a = (nx rows st a : Nat) := by
  have := v.rg st a h ha
  unfold nx
  omega
theorem go_loop {nv gv : AV} {ps : List AV} {rows : List (List Int)} {good : List Bool} {k : Nat} (hn : IsRows nv ps rows) (v : VB rows good k) {s : List UInt8} (hs : s.length ≤ 1000000) : ∀ (j i st : Nat) (m : Mem), i + j = s.length → st < rows.length → letF k s j i = true →
    r07_Go.L0 (.int .i64 st) (.str s) (.fptr [nv, gv]) (.int .i64 i) m [.code r07_Go.r5, .code .ret] = some (.int .i64 (goF rows s j i st : Nat), Mem.empty) := by
  intro j
  induction j with
  | zero =>
    intro i st m h1 hst hlt
    have e : i = s.length := by omega
    subst e
    rw [r07_Go.L0_eq]
    simp [goF]
    done
  | succ j ih =>
    intro i st m h1 hst hlt
    have hi : i < s.length := by omega
    rw [letF_succ, Bool.and_eq_true, letB, Bool.and_eq_true, decide_eq_true_eq, decide_eq_true_eq] at hlt
    obtain ⟨⟨a1, a2⟩, a3⟩ := hlt
    have hwi : IntKind.wrap .i64 ((i : Int) + 1) = (i : Int) + 1 := wrap_id (by omega) (by omega)
    have hsub := sub97 a1 (byt_lt s i)
    have iw := hn.row st hst
    have hrl := v.rl st hst
    obtain ⟨b1, b2⟩ := nx_lt v hst a2
    have st' := fun m => ih (i + 1) _ m (by omega) b1 a3
    simp only [Int.natCast_add, Int.cast_ofNat_Int] at st'
    have hx := iw.idx (i := byt s i - 97) (by omega) .u8
    have hy := ints_head (l := cth rows st) (i := byt s i - 97) (by omega)
    rw [b2] at hy
    rw [goF, r07_Go.L0_eq]
    simp [hi, str_idx hi, hn.idx hst, hn.head hst, hsub, hx, hy, hwi, st']
    done
theorem go_spec {nv gv : AV} {ps : List AV} {rows : List (List Int)} {good : List Bool} {k : Nat} (hn : IsRows nv ps rows) (hg : IsB gv good) (v : VB rows good k) {s : List UInt8} (hs : s.length ≤ 1000000) (hl : letF k s s.length 0 = true) {st : Nat} (hst : st < rows.length) (m : Mem) :
    denC prog ann 25 [.agg [nv, gv], .int .i64 st, .str s] m = some (.int .i64 (goL rows s st : Nat), m) := by
  rw [r07_Go.call_eq _ _ _ _ (by simp [hn.closed, hg.closed])]
  have lp := fun m => go_loop (gv := gv) hn v hs s.length 0 st m (by omega) hst hl
  simp only [Int.ofNat_zero, Int.cast_ofNat_Int, goF_goL rows s s.length 0 st (by omega), List.drop_zero] at lp
  simp [hn.one, hg.one, hn.closed, hg.closed, lp]
  done
theorem after_loop {nv gv : AV} {ps : List AV} {rows : List (List Int)} {good : List Bool} {k : Nat} (hn : IsRows nv ps rows) (v : VB rows good k) {s : List UInt8} (hs : s.length ≤ 1000000) : ∀ (j i st : Nat) (m : Mem), i + j = s.length → st < rows.length → letF k s j i = true →
    brand_after.L0 (.int .i64 st) (.str s) (.fptr [nv, gv]) (.int .i64 s.length) (.int .i64 i) m [.code brand_after.r6, .code .ret] = some (.int .i64 (goF rows s j i st : Nat), Mem.empty) := by
  intro j
  induction j with
  | zero =>
    intro i st m h1 hst hlt
    have e : i = s.length := by omega
    subst e
    rw [brand_after.L0_eq]
    simp [goF]
    done
  | succ j ih =>
    intro i st m h1 hst hlt
    have hi : i < s.length := by omega
    rw [letF_succ, Bool.and_eq_true, letB, Bool.and_eq_true, decide_eq_true_eq, decide_eq_true_eq] at hlt
    obtain ⟨⟨a1, a2⟩, a3⟩ := hlt
    have hwi : IntKind.wrap .i64 ((i : Int) + 1) = (i : Int) + 1 := wrap_id (by omega) (by omega)
    have hsub := sub97 a1 (byt_lt s i)
    have iw := hn.row st hst
    have hrl := v.rl st hst
    obtain ⟨b1, b2⟩ := nx_lt v hst a2
    have st' := fun m => ih (i + 1) _ m (by omega) b1 a3
    simp only [Int.natCast_add, Int.cast_ofNat_Int] at st'
    have hx := iw.idx (i := byt s i - 97) (by omega) .u8
    have hy := ints_head (l := cth rows st) (i := byt s i - 97) (by omega)
    rw [b2] at hy
    rw [goF, brand_after.L0_eq]
    simp [hi, str_idx hi, hn.idx hst, hn.head hst, hsub, hx, hy, hwi, st']
    done
theorem after_spec {nv gv : AV} {ps : List AV} {rows : List (List Int)} {good : List Bool} {k : Nat} (hn : IsRows nv ps rows) (hg : IsB gv good) (v : VB rows good k) {s : List UInt8} (hs : s.length ≤ 1000000) (hl : letF k s s.length 0 = true) {st : Nat} (hst : st < rows.length) (m : Mem) :
    denC prog ann 69 [.agg [nv, gv], .int .i64 st, .str s] m = some (.int .i64 (goL rows s st : Nat), m) := by
  rw [brand_after.call_eq _ _ _ _ (by simp [hn.closed, hg.closed])]
  have lp := fun m => after_loop (gv := gv) hn v hs s.length 0 st m (by omega) hst hl
  simp only [Int.ofNat_zero, Int.cast_ofNat_Int, goF_goL rows s s.length 0 st (by omega), List.drop_zero] at lp
  simp [hn.one, hg.one, hn.closed, hg.closed, lp]
  done
theorem goL_lt {rows : List (List Int)} {good : List Bool} {k : Nat} (v : VB rows good k) (s : List UInt8) : ∀ (j i st : Nat), i + j = s.length → st < rows.length → letF k s j i = true → goF rows s j i st < rows.length
  | 0, i, st, _, h, _ => h
  | j + 1, i, st, h1, h, hl => by
    rw [letF_succ, Bool.and_eq_true, letB, Bool.and_eq_true, decide_eq_true_eq, decide_eq_true_eq] at hl
    exact goL_lt v s j (i + 1) _ (by omega) (nx_lt v h hl.1.2).1 hl.2
end Go.Proofs.Ythnpflkpjimkfaa

/-
  ACCEPTS: the code's and the specification's; and what the laws cut off a brand and a string. Conditions: none.
-/
namespace Go.Proofs.Ythnpflkpjimkfaa
open Go.AM
open Go.Proofs.Try (prog)
set_option linter.all false
set_option maxRecDepth 100000
set_option maxHeartbeats 4000000

theorem u4 : prog.underlying 4 = some .bool := by kernel_rfl
@[simp] theorem eql_bool (a b : Bool) : binA prog .eql 4 (.bool a) (.bool b) = some (.bool (a == b)) := by simp [binA, eqT, eqA, u4]
theorem accepts_spec {nv gv : AV} {ps : List AV} {rows : List (List Int)} {good : List Bool} (hn : IsRows nv ps rows) (hg : IsB gv good) (hl : rows.length ≤ 1000) (hgl : good.length ≤ 1000) (hr : ∀ i, i < rows.length → (cth rows i).length ≤ 1000) {s : List UInt8} (hs : s.length ≤ 1000) (m : Mem) :
    denC prog ann 31 [.agg [nv, gv], .str s] m = some (if validB rows good = true then (if wordE (cth rows 0).length s = 0 then .tup [.bool (bnth good (goL rows s 0)), .int .i64 0] else .tup [.bool false, .int .i64 (wordE (cth rows 0).length s)]) else .tup [.bool false, .int .i64 1], m) := by
  have hc := fun m => check_spec hn hg hl hgl hr hs m
  rw [brand_Accepts.call_eq _ _ _ (by simp [hn.closed, hg.closed])]
  cases c0 : validB rows good with
  | false =>
    rw [c0] at hc
    simp [hn.one, hg.one, hn.closed, hg.closed, hc]
    done
  | true =>
    rw [c0, if_pos rfl] at hc
    have v := VB.of c0
    rw [if_pos rfl]
    by_cases e : wordE (cth rows 0).length s = 0
    · rw [e] at hc
      rw [if_pos e]
      have h2 : ¬ 200 < s.length ∧ letF (cth rows 0).length s s.length 0 = true := by
        unfold wordE at e
        by_cases q : 200 < s.length
        · rw [if_pos q] at e; cases e
        · rw [if_neg q] at e
          refine ⟨q, ?_⟩
          by_cases q2 : letF (cth rows 0).length s s.length 0 = true
          · exact q2
          · rw [if_neg q2] at e; cases e
      have ha := fun m => after_spec hn hg v (by omega) h2.2 (st := 0) v.n1 m
      have hlt := goL_lt v s s.length 0 0 (by omega) v.n1 h2.2
      rw [goF_goL rows s s.length 0 0 (by omega), List.drop_zero] at hlt
      simp only [Int.ofNat_zero, Int.cast_ofNat_Int] at ha
      have hgi : goL rows s 0 < good.length := by rw [v.gl]; exact hlt
      simp [hn.one, hg.one, hn.closed, hg.closed, hc, ha, hg.idx hgi, bls_head hgi]
      done
    · rw [if_neg e]
      simp [hn.one, hg.one, hn.closed, hg.closed, hc, e]
      done
theorem raccepts_spec {nv gv : AV} {ps : List AV} {rows : List (List Int)} {good : List Bool} {k : Nat} (hn : IsRows nv ps rows) (hg : IsB gv good) (v : VB rows good k) {s : List UInt8} (hs : s.length ≤ 1000) (hl : letF k s s.length 0 = true) (m : Mem) :
    denC prog ann 32 [.agg [nv, gv], .str s] m = some (.bool (bnth good (goL rows s 0)), m) := by
  have ha := fun m => go_spec hn hg v (by omega) hl (st := 0) v.n1 m
  have hlt := goL_lt v s s.length 0 0 (by omega) v.n1 hl
  rw [goF_goL rows s s.length 0 0 (by omega), List.drop_zero] at hlt
  simp only [Int.ofNat_zero, Int.cast_ofNat_Int] at ha
  have hgi : goL rows s 0 < good.length := by rw [v.gl]; exact hlt
  rw [r07_Accepts.call_eq _ _ _ (by simp [hn.closed, hg.closed])]
  simp [hn.one, hg.one, hn.closed, hg.closed, ha, hg.idx hgi, bls_head hgi]
  done
end Go.Proofs.Ythnpflkpjimkfaa

/-
  WHAT THE LAWS CUT OFF A BRAND AND A STRING. Conditions: none.
-/
namespace Go.Proofs.Ythnpflkpjimkfaa
open Go.AM
open Go.Proofs.Try (prog)
set_option linter.all false
set_option maxRecDepth 100000
set_option maxHeartbeats 4000000

theorem appV_nothing (k b : Nat) (hk : k ≠ 0) : appV k b (.fsl true 0 []) .nils = some (.fsl true 0 []) := by
  have h' : (k == 0) = false := by simpa using hk
  simp [appV, appF, h']
theorem appV_full {size by' n : Nat} {ex : Bool} {cs : List AV} (h : size ≠ 0) (hl : cs.length = n * size) (hc : closedL cs = true) (hr : room n by' = true) (hn : n ≠ 0) :
    appV size by' (.fsl true 0 []) (.fsl ex n cs) = some (.fsl false n cs) := by
  have h' : (size == 0) = false := by simpa using h
  have hn' : (n == 0) = false := by simpa using hn
  have hr' := hr
  simp [room] at hr'
  have ht : cs.take (n * size) = cs := by rw [← hl]; exact List.take_length
  simp [appV, appF, h', hl, hn', hr', hc, ht]
theorem app_ints {v : AV} {l : List Int} (h : IsInts v l) (hl : l.length ≤ 1000000) : ∃ v', appV 1 8 (.fsl true 0 []) v = some v' ∧ IsInts v' l := by
  rcases h with ⟨rfl, rfl⟩ | ⟨ex, rfl⟩
  · exact ⟨_, appV_nothing 1 8 (by omega), .inr ⟨true, rfl⟩⟩
  · by_cases h0 : l.length = 0
    · have : l = [] := List.eq_nil_of_length_eq_zero h0
      subst this
      exact ⟨.fsl true 0 [], by simp [appV, appF], .inr ⟨true, rfl⟩⟩
    · exact ⟨_, appV_full (by omega) (by simp) (by simp) (by simp [room]; omega) h0, .inr ⟨false, rfl⟩⟩
theorem app_bls {v : AV} {l : List Bool} (h : IsB v l) (hl : l.length ≤ 1000000) : ∃ v', appV 1 1 (.fsl true 0 []) v = some v' ∧ IsB v' l := by
  rcases h with ⟨rfl, rfl⟩ | ⟨ex, rfl⟩
  · exact ⟨_, appV_nothing 1 1 (by omega), .inr ⟨true, rfl⟩⟩
  · by_cases h0 : l.length = 0
    · have : l = [] := List.eq_nil_of_length_eq_zero h0
      subst this
      exact ⟨.fsl true 0 [], by simp [appV, appF, bls], .inr ⟨true, rfl⟩⟩
    · exact ⟨_, appV_full (by omega) (by simp) (by simp) (by simp [room]; omega) h0, .inr ⟨false, rfl⟩⟩
theorem slice_ints {v : AV} {l : List Int} (h : IsInts v l) {j : Int} (h0 : 0 ≤ j) (h1 : j ≤ l.length) : ∃ v', sliceSl 1 v none (some (.int .i64 j)) = some v' ∧ IsInts v' (l.take j.toNat) := by
  rcases h with ⟨rfl, rfl⟩ | ⟨ex, rfl⟩
  · have : j = 0 := by simp at h1; omega
    subst this
    exact ⟨.nils, by simp [sliceSl, bnds, bnd], .inl ⟨rfl, by simp⟩⟩
  · refine ⟨.fsl (ex && j.toNat == l.length) j.toNat (ints (l.take j.toNat)), by simp [sliceSl, bnds, bnd, h0, h1], .inr ⟨ex && j.toNat == l.length, by simp [show min j.toNat l.length = j.toNat by omega]⟩⟩
theorem slice_bls {v : AV} {l : List Bool} (h : IsB v l) {j : Int} (h0 : 0 ≤ j) (h1 : j ≤ l.length) : ∃ v', sliceSl 1 v none (some (.int .i64 j)) = some v' ∧ IsB v' (l.take j.toNat) := by
  rcases h with ⟨rfl, rfl⟩ | ⟨ex, rfl⟩
  · have : j = 0 := by simp at h1; omega
    subst this
    exact ⟨.nils, by simp [sliceSl, bnds, bnd], .inl ⟨rfl, by simp⟩⟩
  · refine ⟨.fsl (ex && j.toNat == l.length) j.toNat (bls (l.take j.toNat)), by simp [sliceSl, bnds, bnd, h0, h1], .inr ⟨ex && j.toNat == l.length, by simp [show min j.toNat l.length = j.toNat by omega]⟩⟩
theorem take_min {α : Type} (l : List α) (n : Nat) : l.take (min (l.length : Int) n).toNat = l.take n := by
  rcases Nat.le_total l.length n with h | h
  · rw [List.take_of_length_le h, List.take_of_length_le (by omega)]
  · rw [show (min (l.length : Int) n).toNat = n by omega]
theorem short_spec (s : List UInt8) (m : Mem) : denC prog ann 30 [.str s] m = some (.str (s.take 201), m) := by
  have e := take_min s 201
  simp only [Int.cast_ofNat_Int] at e
  rw [l07_short.call_eq _ _ (by simp)]
  have hsl : sliceStr (.str s) none (some (.int .i64 (min (s.length : Int) 201))) = some (.str (s.take 201)) := by
    simp [sliceStr, bnds, bnd, show 0 ≤ min (s.length : Int) 201 by omega, show min (s.length : Int) 201 ≤ s.length by omega, e]
  simp [hsl]
  done

theorem pth_app {acc : List AV} {w : AV} {p : Nat} : pth (acc ++ [w]) p = if p < acc.length then pth acc p else if p = acc.length then w else .undef := by
  unfold pth
  rw [List.getD_eq_getElem?_getD, List.getD_eq_getElem?_getD, List.getElem?_append]
  by_cases h : p < acc.length
  · rw [if_pos h, if_pos h]
  · rw [if_neg h, if_neg h]
    by_cases h2 : p = acc.length
    · rw [if_pos h2, h2, Nat.sub_self]; rfl
    · rw [if_neg h2, List.getElem?_eq_none (by simp; omega)]; rfl
theorem cut_rows {rows : List (List Int)} {p : Nat} (h : p < min rows.length 7) : cth (List.take 7 (List.map (fun r => List.take 4 r) rows)) p = (cth rows p).take 4 := by
  unfold cth
  have h1 : p < rows.length := by omega
  have h2 : p < 7 := by omega
  simp [List.getD_eq_getElem?_getD, List.getElem?_take, h1, h2]
theorem cut_loop {nv gv gw : AV} {ps : List AV} {rows : List (List Int)} (hn : IsRows nv ps rows) (hrl : ∀ i, i < rows.length → ((cth rows i).length : Int) ≤ 9223372036854775807) (hgw : gw.one = true) (hgc : gw.closed = true) (hgd : ∀ (h : Nat → Option AObj) d, deep h (d + 1) gw = some gw) : ∀ (j i oid : Nat) (acc : List AV) (m : Mem), i + j = min rows.length 7 → acc.length = i → (∀ p, p < i → IsInts (pth acc p) ((cth rows p).take 4)) →
    m.h 1 = some (.cells [if acc = [] then .nils else .sl oid 1 0 i i, gw]) → (acc ≠ [] → m.h oid = some (.cells acc) ∧ oid ≠ 1 ∧ oid ≠ 0) → 2 ≤ m.nx → (∃ x y, m.h 0 = some (.cells [x, y])) →
    ∃ nv' ps', IsRows nv' ps' (List.take 7 (List.map (fun r => List.take 4 r) rows)) ∧ l07_cut.L0 (.fptr [nv, gv]) (.ptr 0 0 2) (.ptr 1 0 2) (.int .i64 i) m [.code l07_cut.r6, .code .ret] = some (.agg [nv', gw], Mem.empty) := by
  intro j
  induction j with
  | zero =>
    intro i oid acc m h1 ha hacc hm1 hmo hnx hm0
    obtain ⟨x0, y0, hm0⟩ := hm0
    have hend : ¬ (i < rows.length ∧ i ≤ 6) := by omega
    have hlen : (List.take 7 (List.map (fun r => List.take 4 r) rows)).length = i := by simp; omega
    by_cases hz : acc = []
    · subst hz
      have : i = 0 := by simpa using ha.symm
      subst this
      have hr0 : rows.length = 0 := by omega
      have hr0' : rows = [] := List.eq_nil_of_length_eq_zero hr0
      subst hr0'
      rw [if_pos rfl] at hm1
      refine ⟨.nils, [], ⟨rfl, fun i h => by simp at h, .inl ⟨rfl, by simp⟩⟩, ?_⟩
      rw [l07_cut.L0_eq]
      simp [hn.len, hm1, hm0, hgw, hgd]
      done
    · rw [if_neg hz] at hm1
      obtain ⟨g1, g2, g3⟩ := hmo hz
      have hdp : ∀ (h : Nat → Option AObj) d, mapO (deep h (d + 1)) acc = some acc := fun h d => mapO_fix fun a hax => by
        obtain ⟨p, hp, e⟩ := List.getElem_of_mem hax
        have := hacc p (by omega)
        have e2 : pth acc p = a := by simp [pth, hp, e]
        rw [e2] at this
        exact this.deep h d
      refine ⟨.fsl false i acc, acc, ⟨by rw [hlen, ha], fun p hp => ?_, .inr ⟨false, by rw [hlen]⟩⟩, ?_⟩
      · rw [hlen] at hp
        rw [cut_rows (by omega)]
        exact hacc p hp
      · rw [l07_cut.L0_eq]
        by_cases q : i < rows.length
        · simp [hn.len, q, show ¬ i ≤ 6 by omega, show ¬ (i : Int) ≤ 6 by omega, hm1, hm0, hgw, hgd, g1, updNe g3, show (oid == 0) = false by simpa using g3, ha, hdp, List.take_of_length_le (Nat.le_of_eq ha)]
          done
        · simp [hn.len, q, hm1, hm0, hgw, hgd, g1, updNe g3, show (oid == 0) = false by simpa using g3, ha, hdp, List.take_of_length_le (Nat.le_of_eq ha)]
          done
  | succ j ih =>
    intro i oid acc m h1 ha hacc hm1 hmo hnx hm0
    have hi : i < rows.length := by omega
    have hi6 : i ≤ 6 := by omega
    have hwi : IntKind.wrap .i64 ((i : Int) + 1) = (i : Int) + 1 := wrap_id (by omega) (by omega)
    have iw := hn.row i hi
    obtain ⟨w1, a1, a2⟩ := slice_ints iw (j := min ((cth rows i).length : Int) 4) (by omega) (by omega)
    have e1 := take_min (cth rows i) 4
    simp only [Int.cast_ofNat_Int] at e1
    rw [e1] at a2
    obtain ⟨w2, c1, c2⟩ := app_ints a2 (by simp; omega)
    have hx := hn.idx hi .i64
    have hy := hn.head hi
    by_cases hz : acc = []
    · subst hz
      have : i = 0 := by simpa using ha.symm
      subst this
      rw [if_pos rfl] at hm1
      simp only [Int.ofNat_zero, Int.cast_ofNat_Int, List.drop_zero] at hx hy ⊢
      rw [l07_cut.L0_eq]
      simp [hn.len, hi, hx, hy, iw.len, a1, c1, c2.closed, c2.one, hm1, c2.cells, hgw]
      have st := ih 1 (m.nx + 18) [w2] ⟨upd (upd m.h (m.nx + 18) (some (AObj.cells [w2]))) 1 (some (AObj.cells [AV.sl (m.nx + 18) 1 0 1 1, gw])), m.nx + 21⟩ (by omega) rfl (fun p hp => by
        have : p = 0 := by omega
        subst this
        exact c2) (by simp) (fun _ => ⟨(by simp [updNe (show m.nx + 18 ≠ 1 by omega)]), by omega, by omega⟩) (by show 2 ≤ m.nx + 21; omega) (by
        obtain ⟨x0, y0, hm0⟩ := hm0
        exact ⟨x0, y0, (by simp [updNe (show 0 ≠ 1 by omega), updNe (show 0 ≠ m.nx + 18 by omega), hm0])⟩)
      obtain ⟨nv', ps', st1, st2⟩ := st
      exact ⟨nv', ⟨ps', st1⟩, st2⟩
    · rw [if_neg hz] at hm1
      obtain ⟨g1, g2, g3⟩ := hmo hz
      rw [l07_cut.L0_eq]
      simp [hn.len, hi, hi6, show (i : Int) ≤ 6 by omega, hx, hy, iw.len, a1, c1, c2.closed, c2.one, hm1, c2.cells, hgw, g1, ha, hwi, show i ≤ 4611686018427387903 by omega, show (i + 1) * 24 ≤ 70368744177664 by omega, show (1 == oid) = false from beq_eq_false_iff_ne.2 (fun h => g2 h.symm)]
      have st := ih (i + 1) oid (acc ++ [w2]) ⟨upd (upd m.h oid (some (AObj.cells (acc ++ [w2])))) 1 (some (AObj.cells [AV.sl oid 1 0 (i + 1) (i + 1), gw])), m.nx + 21⟩ (by omega) (by simp [ha]) (fun p hp => by
        rw [pth_app, ha]
        by_cases q : p < i
        · rw [if_pos q]; exact hacc p q
        · have : p = i := by omega
          subst this
          rw [if_neg q, if_pos rfl]; exact c2) (by simp) (fun _ => ⟨(by show upd (upd m.h oid (some (AObj.cells (acc ++ [w2])))) 1 _ oid = _; rw [updNe g2]; simp), g2, g3⟩) (by show 2 ≤ m.nx + 21; omega) (by
        obtain ⟨x0, y0, hm0⟩ := hm0
        exact ⟨x0, y0, (by rw [show (⟨upd (upd m.h oid (some (AObj.cells (acc ++ [w2])))) 1 (some (AObj.cells [AV.sl oid 1 0 (i + 1) (i + 1), gw])), m.nx + 21⟩ : Mem).h 0 = m.h 0 from by show upd (upd m.h oid (some (AObj.cells (acc ++ [w2])))) 1 (some (AObj.cells [AV.sl oid 1 0 (i + 1) (i + 1), gw])) 0 = m.h 0; rw [updNe (by omega), updNe (fun h => g3 h.symm)]]; exact hm0)⟩)
      obtain ⟨nv', ps', st1, st2⟩ := st
      simp only [Int.natCast_add, Int.cast_ofNat_Int] at st2
      exact ⟨nv', ⟨ps', st1⟩, st2⟩
end Go.Proofs.Ythnpflkpjimkfaa

/-
  THE LAWS' EXAMPLES HOLD. Conditions: none.
-/
namespace Go.Proofs.Ythnpflkpjimkfaa
open Go.AM
open Go.Proofs.Try (prog)
set_option linter.all false
set_option maxRecDepth 1000000

def isT (r : Option Res) : Bool := match r with
  | some (.bool b, _) => b
  | _ => false
theorem lives_run : isT (callN prog ann 3000 21 [] Mem.empty) = true := by kernel_rfl
@[simp] theorem lives_pure : (ann 21).pure = true := by kernel_rfl
theorem f21_at : prog.funcs[21]? = some Try.f21 := by kernel_rfl
theorem f21_some : Try.f21.body.isSome = true := by kernel_rfl
theorem lives_spec (m : Mem) : denC prog ann 21 [] m = some (.bool true, m) := by
  have hb : Try.f21.body = some (Try.f21.body.getD .skip) := by
    cases h : Try.f21.body with
    | none => have := f21_some; rw [h] at this; cases this
    | some b => rfl
  have e := fun m => denC_pure (P := prog) (A := ann) (f := 21) f21_at hb (by kernel_rfl) (by kernel_rfl) (show closedL [] = true from rfl) m
  have h := lives_run
  cases hr : callN prog ann 3000 21 [] Mem.empty with
  | none => rw [hr] at h; cases h
  | some r =>
    rw [hr] at h
    have h2 := denC_of_callN hr
    rw [e] at h2 ⊢
    obtain ⟨q, h3, h4⟩ := Option.bind_eq_some_iff.1 h2
    rw [h3]
    simp at h4
    subst h4
    match q, h with
    | (.bool true, _), _ => rfl
end Go.Proofs.Ythnpflkpjimkfaa

/-
  WHAT THE LAWS' ARGUMENTS ARE: brands, strings, numbers. Conditions: none.
-/
namespace Go.Proofs.Ythnpflkpjimkfaa
open Go.AM
open Go.Proofs.Try (prog)
set_option linter.all false
set_option maxRecDepth 100000
set_option maxHeartbeats 4000000

theorem u3 : prog.underlying 3 = some (.int .i64) := by kernel_rfl
theorem u9 : prog.underlying 9 = some .string := by kernel_rfl
theorem u54 : prog.underlying 54 = some (.slice 3) := by kernel_rfl
theorem u22 : prog.underlying 22 = some (.slice 54) := by kernel_rfl
theorem u23 : prog.underlying 23 = some (.slice 4) := by kernel_rfl
theorem u25 : prog.underlying 25 = some (.struct #[⟨ "Next", 22, 0, false, "", "", 0⟩, ⟨ "Good", 23, 1, false, "", "", 24⟩]) := by kernel_rfl

theorem parts_list {α : Type} (f : α → List AV) (R : List AV → Prop) (hR : ∀ p, R p → ∃ a, p = f a) : ∀ (parts : List (List AV)), (∀ p ∈ parts, R p) → ∃ l : List α, l.length = parts.length ∧ parts.flatten = flatC f l
  | [], _ => ⟨[], rfl, rfl⟩
  | p :: ps, h => by
    obtain ⟨a, e⟩ := hR p (h p (by simp))
    obtain ⟨l, h1, h2⟩ := parts_list f R hR ps (fun q hq => h q (by simp [hq]))
    exact ⟨a :: l, by simp [h1], by rw [List.flatten_cons, flatC_cons, e, h2]⟩
theorem flatC_ints : ∀ l : List Int, flatC (fun n => [AV.int .i64 n]) l = ints l
  | [] => rfl
  | a :: l => by rw [flatC_cons, flatC_ints l]; rfl
theorem flatC_bls : ∀ l : List Bool, flatC (fun n => [AV.bool n]) l = bls l
  | [] => rfl
  | a :: l => by rw [flatC_cons, flatC_bls l]; rfl
theorem mlen : maxLen = 9223372036854775807 := by decide
theorem dat54 {d : Nat} {cs : List AV} (h : Dat prog (d + 2) 54 cs) : ∃ v l, cs = [v] ∧ IsInts v l ∧ (l.length : Int) ≤ 9223372036854775807 := by
  rw [Dat] at h
  simp only [u54] at h
  rcases h with rfl | ⟨parts, rfl, hl, hp⟩
  · exact ⟨.nils, [], rfl, .inl ⟨rfl, rfl⟩, by simp⟩
  · obtain ⟨l, h1, h2⟩ := parts_list (fun n : Int => [AV.int .i64 n]) (fun p => ∃ n, p = [.int .i64 n]) (fun p h => h) parts (fun p hq => by
      have := (hp p hq).2
      simp only [Dat, u3] at this
      obtain ⟨n, e, _⟩ := this
      exact ⟨n, e⟩)
    rw [flatC_ints] at h2
    refine ⟨_, l, rfl, .inr ⟨false, by rw [h1, h2]⟩, ?_⟩
    have := mlen
    omega
theorem u4' : prog.underlying 4 = some .bool := by kernel_rfl
theorem dat23 {d : Nat} {cs : List AV} (h : Dat prog (d + 2) 23 cs) : ∃ v l, cs = [v] ∧ IsB v l ∧ (l.length : Int) ≤ 9223372036854775807 := by
  rw [Dat] at h
  simp only [u23] at h
  rcases h with rfl | ⟨parts, rfl, hl, hp⟩
  · exact ⟨.nils, [], rfl, .inl ⟨rfl, rfl⟩, by simp⟩
  · obtain ⟨l, h1, h2⟩ := parts_list (fun n : Bool => [AV.bool n]) (fun p => ∃ n, p = [.bool n]) (fun p h => h) parts (fun p hq => by
      have := (hp p hq).2
      simp only [Dat, u4'] at this
      exact this)
    rw [flatC_bls] at h2
    refine ⟨_, l, rfl, .inr ⟨false, by rw [h1, h2]⟩, ?_⟩
    have := mlen
    omega
theorem rows_of {d : Nat} : ∀ (parts : List (List AV)), (∀ p ∈ parts, Dat prog (d + 2) 54 p) → ∃ rows : List (List Int), parts.flatten.length = rows.length ∧ (∀ i, i < rows.length → IsInts (pth parts.flatten i) (cth rows i) ∧ ((cth rows i).length : Int) ≤ 9223372036854775807) ∧ rows.length = parts.length
  | [], _ => ⟨[], rfl, fun i h => by simp at h, rfl⟩
  | p :: ps, h => by
    obtain ⟨v, l, rfl, h1, h2⟩ := dat54 (h p (by simp))
    obtain ⟨rows, g1, g2, g3⟩ := rows_of ps (fun q hq => h q (by simp [hq]))
    refine ⟨l :: rows, by simpa using g1, fun i hi => ?_, by simpa using g3⟩
    cases i with
    | zero => exact ⟨h1, h2⟩
    | succ i => exact g2 i (by simpa using hi)
/-- A brand as a law's argument. -/
theorem datV25 {d : Nat} {a : AV} (h : DatV prog (d + 4) 25 a) : ∃ nv gv ps rows good, a = .agg [nv, gv] ∧ IsRows nv ps rows ∧ IsB gv good ∧ (good.length : Int) ≤ 9223372036854775807 ∧ ∀ i, i < rows.length → ((cth rows i).length : Int) ≤ 9223372036854775807 := by
  simp only [DatV, u25] at h
  obtain ⟨cs, rfl, h⟩ := h
  rw [Dat] at h
  simp only [u25] at h
  obtain ⟨parts, rfl, hl, hp⟩ := h
  match parts, hl with
  | [a, b], _ =>
    have h1 := (hp 0 _ _ rfl rfl).2
    obtain ⟨v1, good, rfl, h3, h4⟩ := dat23 (d := d + 1) (hp 1 _ _ rfl rfl).2
    have h1' : Dat prog (d + 3) 22 a := h1
    rw [Dat] at h1'
    simp only [u22] at h1'
    rcases h1' with rfl | ⟨parts, rfl, hl, hq⟩
    · exact ⟨.nils, v1, [], [], good, rfl, ⟨rfl, fun i h => by simp at h, .inl ⟨rfl, rfl⟩⟩, h3, h4, fun i h => by simp at h⟩
    · obtain ⟨rows, g1, g2, g3⟩ := rows_of parts (fun p hp => (hq p hp).2)
      exact ⟨_, v1, parts.flatten, rows, good, rfl, ⟨g1, fun i hi => (g2 i hi).1, .inr ⟨false, by rw [g3]⟩⟩, h3, h4, fun i hi => (g2 i hi).2⟩
theorem datV9 {d : Nat} {a : AV} (h : DatV prog (d + 1) 9 a) : ∃ s, a = .str s := by
  simp only [DatV, u9, Dat] at h
  obtain ⟨s, e, _⟩ := h
  exact ⟨s, by simpa using e⟩
theorem IsB.deep {v : AV} {l : List Bool} (h : IsB v l) (hp : Nat → Option AObj) (d : Nat) : AM.deep hp (d + 1) v = some v := by rcases h with ⟨rfl, _⟩ | ⟨_, rfl⟩ <;> rfl
theorem IsB.cells {v : AV} {l : List Bool} (h : IsB v l) : v.cells = [v] := by rcases h with ⟨rfl, _⟩ | ⟨_, rfl⟩ <;> rfl
def cutR (rows : List (List Int)) : List (List Int) := List.take 7 (List.map (fun r => List.take 4 r) rows)
theorem cutR_len (rows : List (List Int)) : (cutR rows).length ≤ 7 := by simp [cutR]; omega
theorem cutR_row (rows : List (List Int)) (i : Nat) (h : i < (cutR rows).length) : (cth (cutR rows) i).length ≤ 4 := by
  have h' : i < min rows.length 7 := by simp [cutR] at h; omega
  rw [cutR, cut_rows h']
  simp; omega
/-- What the law's 'cut' leaves. -/
theorem cut_spec {nv gv : AV} {ps : List AV} {rows : List (List Int)} {good : List Bool} (hn : IsRows nv ps rows) (hg : IsB gv good) (hgl : (good.length : Int) ≤ 9223372036854775807) (hrl : ∀ i, i < rows.length → ((cth rows i).length : Int) ≤ 9223372036854775807) :
    ∃ nv' gv' ps', IsRows nv' ps' (cutR rows) ∧ IsB gv' (good.take 7) ∧ ∀ m, denC prog ann 17 [.agg [nv, gv]] m = some (.agg [nv', gv'], m) := by
  obtain ⟨w1, a1, a2⟩ := slice_bls hg (j := min (good.length : Int) 7) (by omega) (by omega)
  have e1 := take_min good 7
  simp only [Int.cast_ofNat_Int] at e1
  rw [e1] at a2
  obtain ⟨gw, c1, c2⟩ := app_bls a2 (by simp; omega)
  obtain ⟨nv', ps', h1, h2⟩ := cut_loop (gv := gv) (gw := gw) hn hrl c2.one c2.closed c2.deep (min rows.length 7) 0 0 [] ⟨upd (upd Mem.empty.h 0 (some (.cells [.nils, .nils]))) 1 (some (.cells [.nils, gw])), 2⟩ (by omega) rfl (fun p h => by omega) (by simp) (fun h => absurd rfl h) (by simp) ⟨.nils, .nils, by simp⟩
  simp only [Int.ofNat_zero, Int.cast_ofNat_Int] at h2
  refine ⟨nv', gw, ps', h1, c2, fun m => ?_⟩
  rw [l07_cut.call_eq _ _ (by simp [hn.closed, hg.closed])]
  simp [hn.one, hg.one, hn.closed, hg.closed, hg.len, a1, c1, c2.one, c2.cells, h2]
  done
end Go.Proofs.Ythnpflkpjimkfaa

/-
  BrandAccepts: the law answers true. Conditions: none.
-/
namespace Go.Proofs.Ythnpflkpjimkfaa
open Go.AM
open Go.Proofs.Try (prog)
set_option linter.all false
set_option maxRecDepth 100000
set_option maxHeartbeats 8000000

theorem IsRows.cells {v : AV} {ps : List AV} {rows : List (List Int)} (h : IsRows v ps rows) : v.cells = [v] := by rcases h.val with ⟨rfl, _⟩ | ⟨_, rfl⟩ <;> rfl
theorem acc_runs {d : Nat} (a0 a1 : AV) (h0 : DatV prog (d + 4) 25 a0) (h1 : DatV prog (d + 4) 9 a1) : ∃ m', denC prog ann 6 [a0, a1] Mem.empty = some (.bool true, m') := by
  obtain ⟨nv, gv, ps, rows, good, rfl, hn, hg, hgl, hrl⟩ := datV25 h0
  obtain ⟨s, rfl⟩ := datV9 h1
  obtain ⟨nv', gv', ps', hn', hg', hc⟩ := cut_spec hn hg hgl hrl
  have hsh := fun m => short_spec s m
  have hl := cutR_len rows
  have hr : ∀ i, i < (cutR rows).length → (cth (cutR rows) i).length ≤ 1000 := fun i hi => by have := cutR_row rows i hi; omega
  have hg7 : (good.take 7).length ≤ 7 := by simp; omega
  have hs201 : (s.take 201).length ≤ 1000 := by simp; omega
  have hcl : closedL [.agg [nv, gv], .str s] = true := by simp [hn.closed, hg.closed]
  generalize s.take 201 = t at *
  generalize good.take 7 = gd at *
  generalize cutR rows = R at *
  have ha := fun m => accepts_spec hn' hg' (by omega) (by omega) hr (s := t) (by omega) m
  have hv := fun m => rvalid_spec hn' hg' (by omega) (by omega) hr m
  refine ⟨Mem.empty, ?_⟩
  rw [l07_BrandAccepts.call_eq _ _ _ hcl]
  cases c0 : validB R gd with
  | false =>
    rw [c0, if_neg (by decide)] at ha
    rw [c0] at hv
    simp [hn.one, hg.one, hn.closed, hg.closed, hc, hsh, hn'.one, hg'.one, hn'.closed, hg'.closed, hn'.cells, hg'.cells, ha, hv, lives_spec]
    done
  | true =>
    rw [c0, if_pos rfl] at ha
    rw [c0] at hv
    have v := VB.of c0
    have hw := fun m => word_spec hn' hg' v.n1 (by have := v.k3; omega) (s := t) (by omega) m
    by_cases e : wordE (cth R 0).length t = 0
    · rw [if_pos e] at ha
      rw [e] at hw
      have h2 : ¬ 200 < t.length ∧ letF (cth R 0).length t t.length 0 = true := by
        unfold wordE at e
        by_cases q : 200 < t.length
        · rw [if_pos q] at e; cases e
        · rw [if_neg q] at e
          refine ⟨q, ?_⟩
          by_cases q2 : letF (cth R 0).length t t.length 0 = true
          · exact q2
          · rw [if_neg q2] at e; cases e
      have hra := fun m => raccepts_spec hn' hg' v (s := t) (by omega) h2.2 m
      simp [hn.one, hg.one, hn.closed, hg.closed, hc, hsh, hn'.one, hg'.one, hn'.closed, hg'.closed, hn'.cells, hg'.cells, ha, hv, hw, hra, lives_spec]
      done
    · rw [if_neg e] at ha
      simp [hn.one, hg.one, hn.closed, hg.closed, hc, hsh, hn'.one, hg'.one, hn'.closed, hg'.closed, hn'.cells, hg'.cells, ha, hv, hw, e, lives_spec]
      done
end Go.Proofs.Ythnpflkpjimkfaa
