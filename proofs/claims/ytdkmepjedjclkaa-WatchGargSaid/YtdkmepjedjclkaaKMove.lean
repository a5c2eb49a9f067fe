/-
  THE PLAIN LAW (3): Back and Forth are what the reference says. Conditions: none.
-/
import Derived.Test.YtdkmepjedjclkaaKCut
set_option linter.all false
namespace Go.Proofs.Ytdkmepjedjclkaa
open Go.AM
open Go.Proofs.Try (prog)
set_option linter.all false
set_option maxRecDepth 10000

theorem zmax_le {a b : List Int} (h : a.length = b.length) : zmax a b = b ↔ ∀ g, nth a g ≤ nth b g := by
  constructor
  · intro e g
    have := nth_zmax h g
    rw [e] at this; omega
  · intro e
    refine ext_nth (by simp [zmax, h]) fun g => ?_
    rw [nth_zmax h]; have := e g; omega
theorem nth_zmin {a b : List Int} (hl : a.length = b.length) (g : Nat) : nth (zmin a b) g = min (nth a g) (nth b g) := by
  simp only [nth, List.getD, zmin, List.getElem?_zipWith]
  rcases Nat.lt_or_ge g a.length with h | h
  · simp [List.getElem?_eq_getElem h, List.getElem?_eq_getElem (show g < b.length by omega)]
  · simp [List.getElem?_eq_none h, List.getElem?_eq_none (show b.length ≤ g by omega)]
theorem zmin_le {a b : List Int} (h : a.length = b.length) : zmin a b = a ↔ ∀ g, nth a g ≤ nth b g := by
  constructor
  · intro e g
    have := nth_zmin h g
    rw [e] at this; omega
  · intro e
    refine ext_nth (by simp [zmin, h]) fun g => ?_
    rw [nth_zmin h]; have := e g; omega
theorem below_iff {a b : List Int} (h : a.length = b.length) : belowB a b = true ↔ ∀ g, nth a g ≤ nth b g := by
  rw [belowB, decide_eq_true_eq, zmin_le h]

section
variable {D : List Int} {N : List Note} {K : List (List (List Int))}
theorem Clocks.clk4 (c : Clocks D N K) {h i : Nat} (hh : h < D.length) (hi : (i : Int) < nth D h) : (clk K h i).length = 4 := c.F h _ (cth_mem (c.in hh hi))
theorem Clocks.self (c : Clocks D N K) (r : Reach D N D) {h i : Nat} (hh : h < D.length) (hi : (i : Int) < nth D h) : kn K h i h = (i : Int) + 1 := by
  obtain ⟨V, v⟩ := sched c.P r
  have S : Super D N V := by
    refine ⟨fun h i hi => by rw [v.self h i hi]; omega, v.lo, fun h i g hi => v.own h i g hi, fun x hx g => v.note x hx (c.P.notes x hx).r1 g⟩
  have a := c.I.low V S h i (c.in hh hi) h
  rw [v.self h i hi] at a
  have b := c.I.unit h i (c.in hh hi)
  show nth _ _ = _
  omega
theorem Clocks.leD (c : Clocks D N K) {h i : Nat} (hh : h < D.length) (hi : (i : Int) < nth D h) (g : Nat) : kn K h i g ≤ nth D g :=
  c.I.low (fun _ _ g => nth D g) ⟨fun h i h1 => by omega, fun _ _ g => c.P.L.lo g, fun _ _ _ _ => Int.le_refl _, fun _ _ _ => Int.le_refl _⟩ h i (c.in hh hi) g

theorem bk_max (K : List (List (List Int))) (c : List Int) (h : Nat) {i : Nat} (hi : zmax (clk K h i) c = c) : ∀ j, i < j → i + 1 ≤ bk K c h j
  | 0, h1 => by omega
  | j + 1, h1 => by
    rw [bk]
    split
    · omega
    · rename_i q
      rcases Nat.lt_or_ge i j with h2 | h2
      · exact bk_max K c h hi j h2
      · have : i = j := by omega
        subst this; exact absurd hi q
theorem bk_at (K : List (List (List Int))) (c : List Int) (h : Nat) : ∀ j, 0 < bk K c h j → zmax (clk K h (bk K c h j - 1)) c = c
  | 0, h1 => by simp [bk] at h1
  | j + 1, h1 => by
    rw [bk] at h1 ⊢
    split
    · rename_i q; exact q
    · rename_i q
      rw [if_neg q] at h1
      exact bk_at K c h j h1

theorem Clocks.inD (c : Clocks D N K) {h i : Nat} (hi : (i : Int) < nth D h) : h < D.length := by
  rcases Nat.lt_or_ge h D.length with h1 | h1
  · exact h1
  · rw [nth_out h1] at hi; omega

/-- Clocks hold what comes before what they hold. -/
theorem Clocks.trans (c : Clocks D N K) {h i q j : Nat} (hh : h < D.length) (hi : (i : Int) < nth D h) (hj : (j : Int) < kn K h i q) (g : Nat) : kn K q j g ≤ kn K h i g := by
  have hjD : (j : Int) < nth D q := by have := c.leD hh hi q; omega
  have hq := c.inD hjD
  have S : Super D N (fun h i q => (bk K (clk K h i) q (nth D q).toNat : Nat)) := by
    have mono : ∀ {h i h' i' : Nat}, (clk K h i).length = 4 → (clk K h' i').length = 4 → (∀ g, kn K h i g ≤ kn K h' i' g) → ∀ q, bk K (clk K h i) q (nth D q).toNat ≤ bk K (clk K h' i') q (nth D q).toNat := by
      intro h i h' i' l1 l2 le q
      rcases Nat.eq_zero_or_pos (bk K (clk K h i) q (nth D q).toNat) with e | e
      · omega
      · have a := bk_at K (clk K h i) q _ e
        have b := bk_le K (clk K h i) q (nth D q).toNat
        have hqi : ((bk K (clk K h i) q (nth D q).toNat - 1 : Nat) : Int) < nth D q := by have := c.P.L.lo q; omega
        have l3 := c.clk4 (c.inD hqi) hqi
        rw [zmax_le (by omega)] at a
        have := bk_max K (clk K h' i') q (i := bk K (clk K h i) q (nth D q).toNat - 1) ((zmax_le (by omega)).2 fun g => Int.le_trans (a g) (le g)) (nth D q).toNat (by omega)
        omega
    refine ⟨fun h i h1 => ?_, fun _ _ _ => by omega, fun h i g h1 => ?_, fun x hx g => ?_⟩
    · have l1 := c.clk4 (c.inD h1) h1
      have := bk_max K (clk K h i) h (i := i) ((zmax_le rfl).2 fun _ => Int.le_refl _) (nth D h).toNat (by omega)
      show (i : Int) + 1 ≤ ((bk K (clk K h i) h (nth D h).toNat : Nat) : Int)
      omega
    · have hh := c.inD h1
      have := mono (c.clk4 hh (i := i) (by omega)) (c.clk4 hh h1) (c.own hh h1) g
      exact Int.ofNat_le.2 this
    · obtain ⟨f0, f1, t0, t1, ne, s0, s1, r0, r1⟩ := c.P.notes x hx
      have := mono (c.clk4 (h := x.f.toNat) (i := x.s.toNat - 1) (by omega) (by omega)) (c.clk4 (h := x.t.toNat) (i := x.r.toNat - 1) (by omega) (by omega)) (c.note hx) g
      exact Int.ofNat_le.2 this
  have low := c.I.low _ S h i (c.in hh hi) q
  have low' : kn K h i q ≤ (bk K (clk K h i) q (nth D q).toNat : Nat) := low
  have a := bk_at K (clk K h i) q (nth D q).toNat (by omega)
  have b := bk_le K (clk K h i) q (nth D q).toNat
  have l1 := c.clk4 hh hi
  have hqi : ((bk K (clk K h i) q (nth D q).toNat - 1 : Nat) : Int) < nth D q := by omega
  rw [zmax_le (by rw [c.clk4 hq hqi, l1])] at a
  have m := c.mono hq g (bk K (clk K h i) q (nth D q).toNat - 1 - j) j (by omega)
  rw [show j + (bk K (clk K h i) q (nth D q).toNat - 1 - j) = bk K (clk K h i) q (nth D q).toNat - 1 by omega] at m
  exact Int.le_trans m (a g)

/-! ### Consistent cuts as lists -/
theorem mem_tuples : ∀ {E x : List Int}, (∀ d ∈ E, 0 ≤ d) → (x ∈ tuplesL E ↔ CutL E x)
  | [], x, _ => by
    simp only [tuplesL, List.mem_singleton]
    constructor
    · rintro rfl; exact ⟨rfl, fun h => by simp [nth], fun h => by simp [nth]⟩
    · intro h; exact List.length_eq_zero_iff.1 h.len
  | d :: E, x, hp => by
    simp only [tuplesL, List.mem_flatMap, List.mem_map, List.mem_range]
    have hd := hp d (by simp)
    constructor
    · rintro ⟨i, hi, y, hy, rfl⟩
      have h := (mem_tuples (fun e he => hp e (by simp [he]))).1 hy
      refine ⟨by simp [h.len], fun g => ?_, fun g => ?_⟩
      · cases g with
        | zero => rw [nth_cons0]; omega
        | succ g => rw [nth_cons1]; exact h.lo g
      · cases g with
        | zero => rw [nth_cons0, nth_cons0]; omega
        | succ g => rw [nth_cons1, nth_cons1]; exact h.hi g
    · intro h
      cases x with
      | nil => have := h.len; simp at this
      | cons a y =>
        have h0 := h.lo 0
        have h1 := h.hi 0
        rw [nth_cons0] at h0 h1
        rw [nth_cons0] at h1
        refine ⟨a.toNat, by omega, y, (mem_tuples (fun e he => hp e (by simp [he]))).2 ⟨by have := h.len; simpa using this, fun g => by have := h.lo (g + 1); rwa [nth_cons1] at this, fun g => by have := h.hi (g + 1); rwa [nth_cons1, nth_cons1] at this⟩, by rw [show ((a.toNat : Nat) : Int) = a by omega]⟩

theorem mem_cuts (L : Lims D N) {x : List Int} : x ∈ cutsL D N ↔ CutL D x ∧ conR N x = true := by
  rw [cutsL, List.mem_filter, mem_tuples (fun d hd => (L.all d hd).1)]

/-! ### The last and the first of some cuts -/
theorem foldl_zmax {n : Nat} : ∀ (l : List (List Int)) (x : List Int), x.length = n → (∀ y ∈ l, y.length = n) → (l.foldl zmax x).length = n ∧ (∀ g, nth x g ≤ nth (l.foldl zmax x) g) ∧ (∀ y ∈ l, ∀ g, nth y g ≤ nth (l.foldl zmax x) g) ∧ ∀ g, nth (l.foldl zmax x) g = nth x g ∨ ∃ y ∈ l, nth (l.foldl zmax x) g = nth y g
  | [], x, hx, _ => ⟨hx, fun _ => Int.le_refl _, (fun _ h => by cases h), fun _ => .inl rfl⟩
  | z :: l, x, hx, hl => by
    have hz := hl z (by simp)
    have hxz : (zmax x z).length = n := by simp [zmax, hx, hz]
    obtain ⟨a, b, c, d⟩ := foldl_zmax l (zmax x z) hxz (fun y hy => hl y (by simp [hy]))
    have m := fun g => nth_zmax (a := x) (b := z) (by omega) g
    refine ⟨a, fun g => ?_, fun y hy g => ?_, fun g => ?_⟩
    · have := b g; rw [m] at this; rw [List.foldl_cons]; omega
    · rcases List.mem_cons.1 hy with rfl | hy
      · have := b g; rw [m] at this; rw [List.foldl_cons]; omega
      · exact c y hy g
    · rw [List.foldl_cons]
      rcases d g with e | ⟨y, hy, e⟩
      · rw [m] at e
        rcases Int.le_total (nth x g) (nth z g) with h | h
        · exact .inr ⟨z, by simp, by omega⟩
        · exact .inl (by omega)
      · exact .inr ⟨y, by simp [hy], e⟩
theorem foldl_zmin {n : Nat} : ∀ (l : List (List Int)) (x : List Int), x.length = n → (∀ y ∈ l, y.length = n) → (l.foldl zmin x).length = n ∧ (∀ g, nth (l.foldl zmin x) g ≤ nth x g) ∧ (∀ y ∈ l, ∀ g, nth (l.foldl zmin x) g ≤ nth y g) ∧ ∀ g, nth (l.foldl zmin x) g = nth x g ∨ ∃ y ∈ l, nth (l.foldl zmin x) g = nth y g
  | [], x, hx, _ => ⟨hx, fun _ => Int.le_refl _, (fun _ h => by cases h), fun _ => .inl rfl⟩
  | z :: l, x, hx, hl => by
    have hz := hl z (by simp)
    have hxz : (zmin x z).length = n := by simp [zmin, hx, hz]
    obtain ⟨a, b, c, d⟩ := foldl_zmin l (zmin x z) hxz (fun y hy => hl y (by simp [hy]))
    have m := fun g => nth_zmin (a := x) (b := z) (by omega) g
    refine ⟨a, fun g => ?_, fun y hy g => ?_, fun g => ?_⟩
    · have := b g; rw [m] at this; rw [List.foldl_cons]; omega
    · rcases List.mem_cons.1 hy with rfl | hy
      · have := b g; rw [m] at this; rw [List.foldl_cons]; omega
      · exact c y hy g
    · rw [List.foldl_cons]
      rcases d g with e | ⟨y, hy, e⟩
      · rw [m] at e
        rcases Int.le_total (nth x g) (nth z g) with h | h
        · exact .inl (by omega)
        · exact .inr ⟨z, by simp, by omega⟩
      · exact .inr ⟨y, by simp [hy], e⟩

theorem lastL_spec {n : Nat} {S : List (List Int)} (hne : S ≠ []) (hr : ∀ y ∈ S, y.length = n) : (lastL S).length = n ∧ (∀ y ∈ S, ∀ g, nth y g ≤ nth (lastL S) g) ∧ ∀ g, ∃ y ∈ S, nth (lastL S) g = nth y g := by
  cases S with
  | nil => exact absurd rfl hne
  | cons x l =>
    obtain ⟨a, b, c, d⟩ := foldl_zmax l x (hr x (by simp)) (fun y hy => hr y (by simp [hy]))
    refine ⟨a, fun y hy g => ?_, fun g => ?_⟩
    · rcases List.mem_cons.1 hy with rfl | hy
      · exact b g
      · exact c y hy g
    · rcases d g with e | ⟨y, hy, e⟩
      · exact ⟨x, by simp, e⟩
      · exact ⟨y, by simp [hy], e⟩
theorem firstL_spec {n : Nat} {S : List (List Int)} (hne : S ≠ []) (hr : ∀ y ∈ S, y.length = n) : (firstL S).length = n ∧ (∀ y ∈ S, ∀ g, nth (firstL S) g ≤ nth y g) ∧ ∀ g, ∃ y ∈ S, nth (firstL S) g = nth y g := by
  cases S with
  | nil => exact absurd rfl hne
  | cons x l =>
    obtain ⟨a, b, c, d⟩ := foldl_zmin l x (hr x (by simp)) (fun y hy => hr y (by simp [hy]))
    refine ⟨a, fun y hy g => ?_, fun g => ?_⟩
    · rcases List.mem_cons.1 hy with rfl | hy
      · exact b g
      · exact c y hy g
    · rcases d g with e | ⟨y, hy, e⟩
      · exact ⟨x, by simp, e⟩
      · exact ⟨y, by simp [hy], e⟩
end
end Go.Proofs.Ytdkmepjedjclkaa

/-
  THE PLAIN LAW (4): Back and Forth. Conditions: none.
-/
namespace Go.Proofs.Ytdkmepjedjclkaa
open Go.AM
open Go.Proofs.Try (prog)
set_option linter.all false
set_option maxRecDepth 10000

section
variable {D : List Int} {N : List Note} {K : List (List (List Int))}
end
end Go.Proofs.Ytdkmepjedjclkaa
