/-
  WHAT THE REFERENCE's Cuts COMPUTES: the consistent ones among all tuples, in lexicographic order. Conditions: none.
-/
import Derived.Test.YtdkmepjedjclkaaSRefB
namespace Go.Proofs.Ytdkmepjedjclkaa
open Go.AM
open Go.Proofs.Try (prog)
set_option linter.all false
set_option maxRecDepth 10000

/-! ### Tuples in lexicographic order -/
def tuplesL : List Int → List (List Int)
  | [] => [[]]
  | d :: D => (List.range (d.toNat + 1)).flatMap fun (i : Nat) => (tuplesL D).map (List.cons (i : Int))
/-- The tuples from one on. -/
def fromL : List Int → List Int → List (List Int)
  | d :: D, x :: c => (fromL D c).map (List.cons x) ++ (List.range' 1 (d - x).toNat).flatMap fun (i : Nat) => (tuplesL D).map (List.cons (x + i))
  | _, _ => [[]]
def nextL : List Int → List Int → Option (List Int)
  | d :: D, x :: c => match nextL D c with
    | some c' => some (x :: c')
    | none => if x < d then some ((x + 1) :: List.replicate c.length 0) else none
  | _, _ => none

theorem fromL_zero : ∀ (D : List Int), (∀ d ∈ D, 0 ≤ d) → fromL D (List.replicate D.length 0) = tuplesL D
  | [], _ => rfl
  | d :: D, h => by
    have hd := h d (by simp)
    simp only [List.length_cons, List.replicate_succ, fromL, tuplesL, fromL_zero D (fun x hx => h x (by simp [hx])), Int.sub_zero]
    rw [List.range_eq_range', List.range'_succ, List.flatMap_cons]
    congr 1
    simp

theorem fromL_next : ∀ (D c : List Int), c.length = D.length → (∀ d ∈ D, 0 ≤ d) → fromL D c = c :: (match nextL D c with | none => [] | some c' => fromL D c')
  | [], [], _, _ => rfl
  | d :: D, x :: c, h, hd => by
    have hl : c.length = D.length := by simpa using h
    have ih := fromL_next D c hl (fun y hy => hd y (by simp [hy]))
    have hz := fromL_zero D (fun y hy => hd y (by simp [hy]))
    cases hn : nextL D c with
    | some c' =>
      rw [hn] at ih
      simp only [fromL, nextL, hn, ih, List.map_cons, List.cons_append]
    | none =>
      rw [hn] at ih
      simp only [fromL, nextL, hn, ih, List.map_cons, List.map_nil, List.cons_append, List.nil_append]
      by_cases hx : x < d
      · simp only [hx, if_true, fromL, hl, hz]
        have e : (d - x).toNat = (d - (x + 1)).toNat + 1 := by omega
        rw [e, List.range'_succ, List.flatMap_cons]
        congr 2
        rw [show (1 : Nat) + 1 = 1 + 1 by rfl, List.range'_eq_map_range, List.range'_eq_map_range, List.flatMap_map, List.flatMap_map]
        congr 1
        funext i
        congr 2
        simp only [Int.natCast_add]
        omega
      · have e : (d - x).toNat = 0 := by omega
        simp [hx, e]

/-- The odometer: places below j. -/
def odo (D : List Int) : List Int → Nat → Option (List Int)
  | _, 0 => none
  | c, j + 1 => if nth c j = nth D j then odo D (c.set j 0) j else some (c.set j (nth c j + 1))
def zeroTo : List Int → Nat → List Int
  | c, 0 => c
  | c, j + 1 => zeroTo (c.set j 0) j

theorem odo_cons (d x : Int) (D : List Int) : ∀ (j : Nat) (c : List Int), odo (d :: D) (x :: c) (j + 1) = match odo D c j with | some c' => some (x :: c') | none => if x = d then none else some ((x + 1) :: zeroTo c j)
  | 0, c => by
    by_cases h : x = d <;> simp [odo, nth_cons0, zeroTo, h]
  | j + 1, c => by
    rw [odo, nth_cons1, nth_cons1]
    simp only [List.set_cons_succ]
    rw [odo_cons d x D j (c.set j 0)]
    rw [show odo D c (j + 1) = if nth c j = nth D j then odo D (c.set j 0) j else some (c.set j (nth c j + 1)) from rfl]
    by_cases h : nth c j = nth D j
    · simp [h, zeroTo]
    · simp [h]

theorem zeroTo_len : ∀ (j : Nat) (c : List Int), (zeroTo c j).length = c.length
  | 0, c => rfl
  | j + 1, c => by rw [zeroTo, zeroTo_len j]; simp
theorem zeroTo_all : ∀ (c : List Int), zeroTo c c.length = List.replicate c.length 0
  | [] => rfl
  | x :: c => by
    have go : ∀ (j : Nat) (c : List Int), zeroTo (x :: c) (j + 1) = 0 :: zeroTo c j := by
      intro j
      induction j with
      | zero => intro c; rfl
      | succ j ih => intro c; rw [zeroTo]; simp only [List.set_cons_succ]; rw [ih]; rfl
    rw [List.length_cons, go, zeroTo_all c]; rfl

theorem odo_next : ∀ (D c : List Int), c.length = D.length → (∀ i, nth c i ≤ nth D i) → odo D c c.length = nextL D c
  | [], [], _, _ => rfl
  | d :: D, x :: c, h, hle => by
    have hl : c.length = D.length := by simpa using h
    rw [List.length_cons, odo_cons, odo_next D c hl (fun i => by simpa [nth_cons1] using hle (i + 1))]
    have h0 := hle 0
    simp only [nth_cons0] at h0
    simp only [nextL]
    cases nextL D c with
    | some c' => rfl
    | none =>
      simp only [zeroTo_all]
      by_cases hx : x < d
      · have : ¬ x = d := by omega
        simp [hx, this]
      · have : x = d := by omega
        simp [hx, this]

/-- Slices of slices of numbers: each row is a value. -/
def rowC (c : List Int) : List AV := [.fsl false c.length (ints c)]
@[simp] theorem rowC_one (c : List Int) : oneL (rowC c) = true := rfl
@[simp] theorem rowC_closed (c : List Int) : closedL (rowC c) = true := rfl
theorem rowC_len (l : List (List Int)) : ∀ c ∈ l, (rowC c).length = 1 := fun _ _ => rfl

/-- A tuple in the box of the deeds. -/
structure InBox (D c : List Int) : Prop where
  len : c.length = D.length
  lo : ∀ i, 0 ≤ nth c i
  hi : ∀ i, nth c i ≤ nth D i

theorem odo_box {D : List Int} : ∀ (j : Nat) (c c' : List Int), InBox D c → j ≤ D.length → odo D c j = some c' → InBox D c'
  | 0, c, c', _, _, h => by simp [odo] at h
  | j + 1, c, c', hb, hj, h => by
    have hc := hb.len
    rw [odo] at h
    split at h
    · rename_i he
      have h0 := hb.hi j; have h1 := hb.lo j
      refine odo_box j (c.set j 0) c' ⟨by simp [hc], fun i => ?_, fun i => ?_⟩ (by omega) h
      · simp only [nth, List.getD, List.getElem?_set]
        have := hb.lo i
        simp only [nth, List.getD] at this
        split
        · split <;> simp
        · exact this
      · have h2 := hb.hi i; have h3 := hb.lo i
        by_cases e : j = i
        · subst e
          have : nth (c.set j 0) j = 0 := by simp [nth, List.getD, List.getElem?_set, show j < c.length by omega]
          omega
        · have : nth (c.set j 0) i = nth c i := by simp [nth, List.getD, List.getElem?_set, e]
          omega
    · rename_i he
      cases h
      have h0 := hb.hi j; have h1 := hb.lo j
      refine ⟨by simp [hc], fun i => ?_, fun i => ?_⟩
      · by_cases e : j = i
        · subst e
          have : nth (c.set j (nth c j + 1)) j = nth c j + 1 := by simp [nth, List.getD, List.getElem?_set, show j < c.length by omega]
          omega
        · have : nth (c.set j (nth c j + 1)) i = nth c i := by simp [nth, List.getD, List.getElem?_set, e]
          have := hb.lo i
          omega
      · by_cases e : j = i
        · subst e
          have : nth (c.set j (nth c j + 1)) j = nth c j + 1 := by simp [nth, List.getD, List.getElem?_set, show j < c.length by omega]
          omega
        · have : nth (c.set j (nth c j + 1)) i = nth c i := by simp [nth, List.getD, List.getElem?_set, e]
          have := hb.hi i
          omega

/-- A story within the limits: hands, deeds, messages' places. -/
structure Lims (D : List Int) (N : List Note) : Prop where
  n1 : 1 ≤ D.length
  n4 : D.length ≤ 4
  lo : ∀ i, 0 ≤ nth D i
  hi : ∀ i, nth D i ≤ 6
  N24 : N.length ≤ 24
  notes : ∀ x ∈ N, 0 ≤ x.f ∧ x.f < D.length ∧ 0 ≤ x.t ∧ x.t < D.length

theorem odo_loop {vD vN : AV} {D : List Int} {N : List Note} (hD : IsInts vD D) (L : Lims D N) {acc : List (List Int)} : ∀ (j : Nat) (c : List Int) (m : Mem), j ≤ D.length → InBox D c →
    m.h 0 = some (.cells (flatC rowC acc)) → m.h 4 = some (.cells (ints c)) →
    match odo D c j with
    | none => r09_Cuts.L2 (.fptr [vD, vN]) (.sl 0 1 0 acc.length acc.length) (.sl 4 1 0 D.length D.length) (.int .i64 ((j : Int) - 1)) m [.code r09_Cuts.r8, .code r09_Cuts.i2, .code r09_Cuts.r10, .inBlock 1, .inLoop r09_Cuts.l0, .inBlock 0] = some (.fsl false acc.length (flatC rowC acc), Mem.empty)
    | some c' => ∃ nx, m.nx ≤ nx ∧ r09_Cuts.L2 (.fptr [vD, vN]) (.sl 0 1 0 acc.length acc.length) (.sl 4 1 0 D.length D.length) (.int .i64 ((j : Int) - 1)) m [.code r09_Cuts.r8, .code r09_Cuts.i2, .code r09_Cuts.r10, .inBlock 1, .inLoop r09_Cuts.l0, .inBlock 0] =
        r09_Cuts.L0 (.fptr [vD, vN]) (.sl 0 1 0 acc.length acc.length) (.sl 4 1 0 D.length D.length) ⟨upd m.h 4 (some (.cells (ints c'))), nx⟩ [] := by
  intro j
  induction j with
  | zero =>
    intro c m hj hc h0 h4
    simp only [odo]
    rw [r09_Cuts.L2_eq]
    have hfl : (flatC rowC acc).length = acc.length := by simpa using flatC_len (k := 1) (rowC_len acc)
    have hdp := flatC_deep m.h 4 (f := rowC) (fun a => by simp [rowC]) acc
    have ht : (flatC rowC acc).take acc.length = flatC rowC acc := List.take_of_length_le (by omega)
    simp [h0, hfl, hdp, ht]
  | succ j ih =>
    intro c m hj hc h0 h4
    have hl := hc.len
    have hj' : j < c.length := by omega
    have b1 := hc.lo j
    have b2 := hc.hi j
    have b3 := L.hi j
    have hlen := L.n4
    have hw : IntKind.wrap .i64 ((j : Int) - 1) = (j : Int) - 1 := wrap_id (by omega) (by omega)
    have hw2 : IntKind.wrap .i64 (nth c j + 1) = nth c j + 1 := wrap_id (by omega) (by omega)
    have e : ((j + 1 : Nat) : Int) - 1 = j := by omega
    rw [odo, e]
    by_cases hq : nth c j = nth D j
    · simp only [hq, if_true]
      have hc' : InBox D (c.set j 0) := by
        refine ⟨by simp [hl], fun i => ?_, fun i => ?_⟩
        · by_cases e : j = i
          · subst e; simp [nth, List.getD, List.getElem?_set, hj']
          · have : nth (c.set j 0) i = nth c i := by simp [nth, List.getD, List.getElem?_set, e]
            have := hc.lo i; omega
        · by_cases e : j = i
          · subst e
            have : nth (c.set j 0) j = 0 := by simp [nth, List.getD, List.getElem?_set, hj']
            omega
          · have : nth (c.set j 0) i = nth c i := by simp [nth, List.getD, List.getElem?_set, e]
            have := hc.hi i; omega
      have step : r09_Cuts.L2 (.fptr [vD, vN]) (.sl 0 1 0 acc.length acc.length) (.sl 4 1 0 D.length D.length) (.int .i64 j) m [.code r09_Cuts.r8, .code r09_Cuts.i2, .code r09_Cuts.r10, .inBlock 1, .inLoop r09_Cuts.l0, .inBlock 0] =
          r09_Cuts.L2 (.fptr [vD, vN]) (.sl 0 1 0 acc.length acc.length) (.sl 4 1 0 D.length D.length) (.int .i64 ((j : Int) - 1)) ⟨upd m.h 4 (some (.cells (ints (c.set j 0)))), m.nx + 14⟩ [.code r09_Cuts.r8, .code r09_Cuts.i2, .code r09_Cuts.r10, .inBlock 1, .inLoop r09_Cuts.l0, .inBlock 0] := by
        rw [r09_Cuts.L2_eq]
        simp [hD.idx (show j < D.length by omega), ints_head (show j < D.length by omega), h4, hl, show j < D.length by omega, hq, hw]
      rw [step]
      have := ih (c.set j 0) ⟨upd m.h 4 (some (.cells (ints (c.set j 0)))), m.nx + 14⟩ (by omega) hc' (by simpa using h0) (by simp)
      cases ho : odo D (c.set j 0) j with
      | none => rw [ho] at this; exact this
      | some c' =>
        rw [ho] at this
        obtain ⟨nx, h1, h2⟩ := this
        exact ⟨nx, by simp at h1; omega, by rw [h2]; simp⟩
    · simp only [hq, if_false]
      refine ⟨m.nx + 14, by omega, ?_⟩
      rw [r09_Cuts.L2_eq]
      simp [hD.idx (show j < D.length by omega), ints_head (show j < D.length by omega), h4, hl, show j < D.length by omega, hq, hw2]

theorem fromL_len_pos (D c : List Int) : 0 < (fromL D c).length := by
  match D, c with
  | [], _ => simp [fromL]
  | _ :: _, [] => simp [fromL]
  | d :: D, x :: c => have := fromL_len_pos D c; simp [fromL]; omega

theorem cuts_loop {vD vN : AV} {D : List Int} {N : List Note} (hD : IsInts vD D) (hN : IsSl noteC vN N) (L : Lims D N) : ∀ (n : Nat) (c : List Int) (acc : List (List Int)) (m : Mem), (fromL D c).length ≤ n → InBox D c →
    m.h 0 = some (.cells (flatC rowC acc)) → m.h 4 = some (.cells (ints c)) → 5 ≤ m.nx → acc.length + (fromL D c).length ≤ 1000000 →
    r09_Cuts.L0 (.fptr [vD, vN]) (.sl 0 1 0 acc.length acc.length) (.sl 4 1 0 D.length D.length) m [] = some (.fsl false (acc ++ (fromL D c).filter (conR N)).length (flatC rowC (acc ++ (fromL D c).filter (conR N))), Mem.empty) := by
  intro n
  induction n with
  | zero => intro c acc m h; have := fromL_len_pos D c; omega
  | succ n ih =>
    intro c acc m hlen hc h0 h4 hnx hb
    have hl := hc.len
    have hn1 := L.n1
    have hn4 := L.n4
    have hpos : ∀ d ∈ D, 0 ≤ d := by
      intro d hd
      obtain ⟨i, hi, rfl⟩ := List.mem_iff_getElem.1 hd
      rw [nth_get hi]; exact L.lo i
    have htale : IsTale (.agg [vD, vN]) D N := ⟨vD, vN, rfl, hD, hN⟩
    have hcon := consR_spec htale (vc := .fsl false D.length (ints c)) (c := c) (.inr ⟨false, by rw [hl]⟩) (by have := L.N24; omega) (fun x hx => by rw [hl]; exact L.notes x hx) Mem.empty
    have hfl : (flatC rowC acc).length = acc.length := by simpa using flatC_len (k := 1) (rowC_len acc)
    have hno := fromL_next D c hl hpos
    have hon := odo_next D c hl hc.hi
    rw [hl] at hon
    have e04 : (0 == 4) = false := rfl
    have hw : IntKind.wrap .i64 ((D.length : Int) - 1) = (D.length : Int) - 1 := wrap_id (by omega) (by omega)
    have htk : (ints c).take D.length = ints c := List.take_of_length_le (by simp; omega)
    rw [hno] at hlen hb
    simp only [List.length_cons] at hlen hb
    -- behind the test: the odometer, and on
    have go : ∀ (acc : List (List Int)) (m : Mem), m.h 0 = some (.cells (flatC rowC acc)) → m.h 4 = some (.cells (ints c)) → 5 ≤ m.nx → acc.length + (match nextL D c with | none => [] | some c' => fromL D c').length ≤ 1000000 →
        r09_Cuts.L2 (.fptr [vD, vN]) (.sl 0 1 0 acc.length acc.length) (.sl 4 1 0 D.length D.length) (.int .i64 ((D.length : Int) - 1)) m [.code r09_Cuts.r8, .code r09_Cuts.i2, .code r09_Cuts.r10, .inBlock 1, .inLoop r09_Cuts.l0, .inBlock 0] =
          some (.fsl false (acc ++ (match nextL D c with | none => [] | some c' => fromL D c').filter (conR N)).length (flatC rowC (acc ++ (match nextL D c with | none => [] | some c' => fromL D c').filter (conR N))), Mem.empty) := by
      intro acc m h0 h4 hnx hb
      have := odo_loop (vN := vN) hD L (acc := acc) D.length c m (Nat.le_refl _) hc h0 h4
      rw [hon] at this
      cases hq : nextL D c with
      | none => rw [hq] at this; simpa using this
      | some c' =>
        rw [hq] at this hlen hb
        obtain ⟨nx, q1, q2⟩ := this
        rw [q2]
        have hc' : InBox D c' := odo_box D.length c c' hc (Nat.le_refl _) (by rw [hon, hq])
        exact ih c' acc _ (by simp only at hlen; omega) hc' (by simpa using h0) (by simp) (by simp; omega) hb
    rw [r09_Cuts.L0_eq]
    rw [hno]
    by_cases hq : conR N c = true
    · have hg := go (acc ++ [c]) ⟨upd (upd m.h m.nx none) 0 (some (.cells (flatC rowC (acc ++ [c])))), m.nx + 1⟩ (by simp) (by
          have : (4 == m.nx) = false := by simp; omega
          simpa [this] using h4) (by simp; omega) (by rw [List.length_append]; simp; omega)
      have e0 : (0 == m.nx) = false := by simp; omega
      have e4 : (4 == m.nx) = false := by simp; omega
      have hr : flatC rowC acc ++ [.fsl false D.length (ints c)] = flatC rowC (acc ++ [c]) := by rw [flatC_append, flatC_one]; simp [rowC, hl]
      have hfl' : (flatC rowC (acc ++ [c])).length = acc.length + 1 := by simpa using flatC_len (k := 1) (rowC_len (acc ++ [c]))
      have en : (D.length == 0) = false := by rw [beq_eq_false_iff_ne]; omega
      simp [List.append_assoc] at hg
      simp [h4, hl, htk, hD.closed, hN.closed, hcon, hD.deep m.h 4, hN.deep m.h 4, AV.flat, AV.flat1, hq, h0, e0, e4, hfl, en, hw, show D.length ≤ 4611686018427387904 by omega, show D.length * 8 ≤ 70368744177664 by omega, show acc.length ≤ 4611686018427387903 by omega, show (acc.length + 1) * 24 ≤ 70368744177664 by omega, hr, hfl', hg]
    · have hq' : conR N c = false := by simpa using hq
      have hg := go acc m h0 h4 hnx (by omega)
      simp at hg
      simp [h4, hl, htk, hD.closed, hN.closed, hcon, hD.deep m.h 4, hN.deep m.h 4, AV.flat, AV.flat1, hq', hw, hg]

theorem tuplesL_len : ∀ (D : List Int), (∀ d ∈ D, d ≤ 6) → (tuplesL D).length ≤ 7 ^ D.length
  | [], _ => by simp [tuplesL]
  | d :: D, h => by
    have ih := tuplesL_len D (fun x hx => h x (by simp [hx]))
    have go : ∀ (l : List Nat), (l.flatMap fun (i : Nat) => (tuplesL D).map (List.cons (i : Int))).length ≤ l.length * 7 ^ D.length := by
      intro l
      induction l with
      | nil => simp
      | cons a l ihl => rw [List.flatMap_cons, List.length_append, List.length_cons, Nat.succ_mul, List.length_map]; omega
    have h1 := go (List.range (d.toNat + 1))
    simp only [List.length_range] at h1
    have h2 : (d.toNat + 1) * 7 ^ D.length ≤ 7 * 7 ^ D.length := Nat.mul_le_mul_right _ (by have := h d (by simp); omega)
    rw [List.length_cons, Nat.pow_succ, Nat.mul_comm]
    simp only [tuplesL]
    omega

theorem Lims.all {D : List Int} {N : List Note} (L : Lims D N) : ∀ d ∈ D, 0 ≤ d ∧ d ≤ 6 := by
  intro d hd
  obtain ⟨i, hi, rfl⟩ := List.mem_iff_getElem.1 hd
  rw [nth_get hi]; exact ⟨L.lo i, L.hi i⟩

/-- All consistent cuts of the reference. -/
def cutsL (D : List Int) (N : List Note) : List (List Int) := (tuplesL D).filter (conR N)

theorem cutsR_spec {v : AV} {D : List Int} {N : List Note} (hs : IsTale v D N) (L : Lims D N) (m : Mem) :
    denC prog ann 20 [v] m = some (.fsl false (cutsL D N).length (flatC rowC (cutsL D N)), m) := by
  obtain ⟨vD, vN, rfl, hD, hN⟩ := hs.ex
  have hz : ∀ i, nth (List.replicate D.length 0) i = 0 := fun i => by
    simp only [nth, List.getD, List.getElem?_replicate]
    split <;> rfl
  have hlen : (tuplesL D).length ≤ 1000000 := by
    have h1 := tuplesL_len D (fun d hd => (L.all d hd).2)
    have h2 : 7 ^ D.length ≤ 7 ^ 4 := Nat.pow_le_pow_right (by omega) L.n4
    omega
  have hfz := fromL_zero D (fun d hd => (L.all d hd).1)
  have := cuts_loop hD hN L _ (List.replicate D.length 0) [] ⟨upd (upd Mem.empty.h 0 (some (.cells []))) 4 (some (.cells (List.replicate D.length (.int .i64 0)))), 7⟩ (Nat.le_refl _)
    ⟨by simp, fun i => by rw [hz]; omega, fun i => by rw [hz]; exact L.lo i⟩ (by simp) (by simp [ints]) (by simp) (by rw [hfz]; simpa using hlen)
  rw [r09_Cuts.call_eq _ _ (by simp [hD.closed, hN.closed])]
  rw [hfz] at this
  simp at this
  have hn4 := L.n4
  have h7 : (D.length : Int).toNat = D.length := by simp
  have hone : oneL (List.replicate D.length (AV.int .i64 0)) = true := by
    have := ints_oneL (List.replicate D.length 0)
    simpa [ints] using this
  simp [hD.one, hN.one, hD.closed, hN.closed, hD.len, this, hone, show D.length ≤ 4611686018427387904 by omega, show D.length * 8 ≤ 70368744177664 by omega, cutsL]
end Go.Proofs.Ytdkmepjedjclkaa
