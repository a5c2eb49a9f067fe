/-
  THE PLAIN LAW (3): Back and Forth are what the reference says. Conditions: none.
-/
import Derived.Test.YtdkmepjedjclkaaKCut
set_option linter.all false
namespace Go.Proofs.Ytdkmepjedjclkaa
open Go.AM
open Go.Proofs.Try (prog)
set_option linter.all false
set_option maxRecDepth 10000

theorem zmax_le {a b : List Int} (h : a.length = b.length) : zmax a b = b ↔ ∀ g, nth a g ≤ nth b g := by
  constructor
  · intro e g
    have := nth_zmax h g
    rw [e] at this; omega
  · intro e
    refine ext_nth (by simp [zmax, h]) fun g => ?_
    rw [nth_zmax h]; have := e g; omega
theorem nth_zmin {a b : List Int} (hl : a.length = b.length) (g : Nat) : nth (zmin a b) g = min (nth a g) (nth b g) := by
  simp only [nth, List.getD, zmin, List.getElem?_zipWith]
  rcases Nat.lt_or_ge g a.length with h | h
  · simp [List.getElem?_eq_getElem h, List.getElem?_eq_getElem (show g < b.length by omega)]
  · simp [List.getElem?_eq_none h, List.getElem?_eq_none (show b.length ≤ g by omega)]
theorem zmin_le {a b : List Int} (h : a.length = b.length) : zmin a b = a ↔ ∀ g, nth a g ≤ nth b g := by
  constructor
  · intro e g
    have := nth_zmin h g
    rw [e] at this; omega
  · intro e
    refine ext_nth (by simp [zmin, h]) fun g => ?_
    rw [nth_zmin h]; have := e g; omega
theorem below_iff {a b : List Int} (h : a.length = b.length) : belowB a b = true ↔ ∀ g, nth a g ≤ nth b g := by
  rw [belowB, decide_eq_true_eq, zmin_le h]

section
variable {D : List Int} {N : List Note} {K : List (List (List Int))}
theorem Clocks.clk4 (c : Clocks D N K) {h i : Nat} (hh : h < D.length) (hi : (i : Int) < nth D h) : (clk K h i).length = 4 := c.F h _ (cth_mem (c.in hh hi))
theorem Clocks.self (c : Clocks D N K) (r : Reach D N D) {h i : Nat} (hh : h < D.length) (hi : (i : Int) < nth D h) : kn K h i h = (i : Int) + 1 := by
  obtain ⟨V, v⟩ := sched c.P r
  have S : Super D N V := by
    refine ⟨fun h i hi => by rw [v.self h i hi]; omega, v.lo, fun h i g hi => v.own h i g hi, fun x hx g => v.note x hx (c.P.notes x hx).r1 g⟩
  have a := c.I.low V S h i (c.in hh hi) h
  rw [v.self h i hi] at a
  have b := c.I.unit h i (c.in hh hi)
  show nth _ _ = _
  omega
theorem Clocks.leD (c : Clocks D N K) {h i : Nat} (hh : h < D.length) (hi : (i : Int) < nth D h) (g : Nat) : kn K h i g ≤ nth D g :=
  c.I.low (fun _ _ g => nth D g) ⟨fun h i h1 => by omega, fun _ _ g => c.P.L.lo g, fun _ _ _ _ => Int.le_refl _, fun _ _ _ => Int.le_refl _⟩ h i (c.in hh hi) g

theorem bk_max (K : List (List (List Int))) (c : List Int) (h : Nat) {i : Nat} (hi : zmax (clk K h i) c = c) : ∀ j, i < j → i + 1 ≤ bk K c h j
  | 0, h1 => by omega
  | j + 1, h1 => by
    rw [bk]
    split
    · omega
    · rename_i q
      rcases Nat.lt_or_ge i j with h2 | h2
      · exact bk_max K c h hi j h2
      · have : i = j := by omega
        subst this; exact absurd hi q
theorem bk_at (K : List (List (List Int))) (c : List Int) (h : Nat) : ∀ j, 0 < bk K c h j → zmax (clk K h (bk K c h j - 1)) c = c
  | 0, h1 => by simp [bk] at h1
  | j + 1, h1 => by
    rw [bk] at h1 ⊢
    split
    · rename_i q; exact q
    · rename_i q
      rw [if_neg q] at h1
      exact bk_at K c h j h1

theorem Clocks.inD (c : Clocks D N K) {h i : Nat} (hi : (i : Int) < nth D h) : h < D.length := by
  rcases Nat.lt_or_ge h D.length with h1 | h1
  · exact h1
  · rw [nth_out h1] at hi; omega

/-- Clocks hold what comes before what they hold. -/
theorem Clocks.trans (c : Clocks D N K) {h i q j : Nat} (hh : h < D.length) (hi : (i : Int) < nth D h) (hj : (j : Int) < kn K h i q) (g : Nat) : kn K q j g ≤ kn K h i g := by
  have hjD : (j : Int) < nth D q := by have := c.leD hh hi q; omega
  have hq := c.inD hjD
  have S : Super D N (fun h i q => (bk K (clk K h i) q (nth D q).toNat : Nat)) := by
    have mono : ∀ {h i h' i' : Nat}, (clk K h i).length = 4 → (clk K h' i').length = 4 → (∀ g, kn K h i g ≤ kn K h' i' g) → ∀ q, bk K (clk K h i) q (nth D q).toNat ≤ bk K (clk K h' i') q (nth D q).toNat := by
      intro h i h' i' l1 l2 le q
      rcases Nat.eq_zero_or_pos (bk K (clk K h i) q (nth D q).toNat) with e | e
      · omega
      · have a := bk_at K (clk K h i) q _ e
        have b := bk_le K (clk K h i) q (nth D q).toNat
        have hqi : ((bk K (clk K h i) q (nth D q).toNat - 1 : Nat) : Int) < nth D q := by have := c.P.L.lo q; omega
        have l3 := c.clk4 (c.inD hqi) hqi
        rw [zmax_le (by omega)] at a
        have := bk_max K (clk K h' i') q (i := bk K (clk K h i) q (nth D q).toNat - 1) ((zmax_le (by omega)).2 fun g => Int.le_trans (a g) (le g)) (nth D q).toNat (by omega)
        omega
    refine ⟨fun h i h1 => ?_, fun _ _ _ => by omega, fun h i g h1 => ?_, fun x hx g => ?_⟩
    · have l1 := c.clk4 (c.inD h1) h1
      have := bk_max K (clk K h i) h (i := i) ((zmax_le rfl).2 fun _ => Int.le_refl _) (nth D h).toNat (by omega)
      show (i : Int) + 1 ≤ ((bk K (clk K h i) h (nth D h).toNat : Nat) : Int)
      omega
    · have hh := c.inD h1
      have := mono (c.clk4 hh (i := i) (by omega)) (c.clk4 hh h1) (c.own hh h1) g
      exact Int.ofNat_le.2 this
    · obtain ⟨f0, f1, t0, t1, ne, s0, s1, r0, r1⟩ := c.P.notes x hx
      have := mono (c.clk4 (h := x.f.toNat) (i := x.s.toNat - 1) (by omega) (by omega)) (c.clk4 (h := x.t.toNat) (i := x.r.toNat - 1) (by omega) (by omega)) (c.note hx) g
      exact Int.ofNat_le.2 this
  have low := c.I.low _ S h i (c.in hh hi) q
  have low' : kn K h i q ≤ (bk K (clk K h i) q (nth D q).toNat : Nat) := low
  have a := bk_at K (clk K h i) q (nth D q).toNat (by omega)
  have b := bk_le K (clk K h i) q (nth D q).toNat
  have l1 := c.clk4 hh hi
  have hqi : ((bk K (clk K h i) q (nth D q).toNat - 1 : Nat) : Int) < nth D q := by omega
  rw [zmax_le (by rw [c.clk4 hq hqi, l1])] at a
  have m := c.mono hq g (bk K (clk K h i) q (nth D q).toNat - 1 - j) j (by omega)
  rw [show j + (bk K (clk K h i) q (nth D q).toNat - 1 - j) = bk K (clk K h i) q (nth D q).toNat - 1 by omega] at m
  exact Int.le_trans m (a g)

/-! ### Consistent cuts as lists -/
theorem mem_tuples : ∀ {E x : List Int}, (∀ d ∈ E, 0 ≤ d) → (x ∈ tuplesL E ↔ CutL E x)
  | [], x, _ => by
    simp only [tuplesL, List.mem_singleton]
    constructor
    · rintro rfl; exact ⟨rfl, fun h => by simp [nth], fun h => by simp [nth]⟩
    · intro h; exact List.length_eq_zero_iff.1 h.len
  | d :: E, x, hp => by
    simp only [tuplesL, List.mem_flatMap, List.mem_map, List.mem_range]
    have hd := hp d (by simp)
    constructor
    · rintro ⟨i, hi, y, hy, rfl⟩
      have h := (mem_tuples (fun e he => hp e (by simp [he]))).1 hy
      refine ⟨by simp [h.len], fun g => ?_, fun g => ?_⟩
      · cases g with
        | zero => rw [nth_cons0]; omega
        | succ g => rw [nth_cons1]; exact h.lo g
      · cases g with
        | zero => rw [nth_cons0, nth_cons0]; omega
        | succ g => rw [nth_cons1, nth_cons1]; exact h.hi g
    · intro h
      cases x with
      | nil => have := h.len; simp at this
      | cons a y =>
        have h0 := h.lo 0
        have h1 := h.hi 0
        rw [nth_cons0] at h0 h1
        rw [nth_cons0] at h1
        refine ⟨a.toNat, by omega, y, (mem_tuples (fun e he => hp e (by simp [he]))).2 ⟨by have := h.len; simpa using this, fun g => by have := h.lo (g + 1); rwa [nth_cons1] at this, fun g => by have := h.hi (g + 1); rwa [nth_cons1, nth_cons1] at this⟩, by rw [show ((a.toNat : Nat) : Int) = a by omega]⟩

theorem mem_cuts (L : Lims D N) {x : List Int} : x ∈ cutsL D N ↔ CutL D x ∧ conR N x = true := by
  rw [cutsL, List.mem_filter, mem_tuples (fun d hd => (L.all d hd).1)]

theorem con_iff (k : Clocks D N K) {x : List Int} (h : CutL D x) : conR N x = true ↔ In K x D.length 0 := by
  have hc := pad_cut k.P.L.n4 h
  have hi : ∀ h, h < D.length → nth (pad x) h ≤ (kth K h).length := fun g hh => by rw [k.I.rows g hh, nth_pad]; exact h.hi g
  have a := in_iff k hc
  rw [pad_self k.P.L.n4 h.len] at a
  rw [← a, forthL, forthR_iff k.F hc.len hi _ 0 (by omega)]
  simp only [In, nth_pad]

/-- A clock is a consistent cut. -/
theorem clk_cut (k : Clocks D N K) {h i : Nat} (hh : h < D.length) (hi : (i : Int) < nth D h) : (clk K h i).take D.length ∈ cutsL D N := by
  have h4 := k.P.L.n4
  have l4 := k.clk4 hh hi
  have e : ∀ g, g < D.length → nth ((clk K h i).take D.length) g = kn K h i g := fun g hg => nth_take hg
  have z : ∀ g, D.length ≤ g → nth ((clk K h i).take D.length) g = 0 := fun g hg => nth_out (by simp; omega)
  have hcut : CutL D ((clk K h i).take D.length) := by
    refine ⟨by simp [l4]; omega, fun g => ?_, fun g => ?_⟩ <;> rcases Nat.lt_or_ge g D.length with h1 | h1
    · rw [e g h1]; exact k.I.pos h i (k.in hh hi) g
    · rw [z g h1]; omega
    · rw [e g h1]; exact k.leD hh hi g
    · rw [z g h1]; exact k.P.L.lo g
  refine (mem_cuts k.P.L).2 ⟨hcut, (con_iff k hcut).2 fun g _ hg hpos q => ?_⟩
  rw [e g hg] at hpos ⊢
  have t := k.trans hh hi (q := g) (j := (kn K h i g).toNat - 1) (by omega) q
  rcases Nat.lt_or_ge q D.length with h1 | h1
  · rw [e q h1]; exact t
  · rw [z q h1]
    have hD := k.leD hh hi g
    have := k.leD (h := g) (i := (kn K h i g).toNat - 1) hg (by omega) q
    rw [nth_out h1] at this; exact this

/-! ### The last and the first of some cuts -/
theorem foldl_zmax {n : Nat} : ∀ (l : List (List Int)) (x : List Int), x.length = n → (∀ y ∈ l, y.length = n) → (l.foldl zmax x).length = n ∧ (∀ g, nth x g ≤ nth (l.foldl zmax x) g) ∧ (∀ y ∈ l, ∀ g, nth y g ≤ nth (l.foldl zmax x) g) ∧ ∀ g, nth (l.foldl zmax x) g = nth x g ∨ ∃ y ∈ l, nth (l.foldl zmax x) g = nth y g
  | [], x, hx, _ => ⟨hx, fun _ => Int.le_refl _, (fun _ h => by cases h), fun _ => .inl rfl⟩
  | z :: l, x, hx, hl => by
    have hz := hl z (by simp)
    have hxz : (zmax x z).length = n := by simp [zmax, hx, hz]
    obtain ⟨a, b, c, d⟩ := foldl_zmax l (zmax x z) hxz (fun y hy => hl y (by simp [hy]))
    have m := fun g => nth_zmax (a := x) (b := z) (by omega) g
    refine ⟨a, fun g => ?_, fun y hy g => ?_, fun g => ?_⟩
    · have := b g; rw [m] at this; rw [List.foldl_cons]; omega
    · rcases List.mem_cons.1 hy with rfl | hy
      · have := b g; rw [m] at this; rw [List.foldl_cons]; omega
      · exact c y hy g
    · rw [List.foldl_cons]
      rcases d g with e | ⟨y, hy, e⟩
      · rw [m] at e
        rcases Int.le_total (nth x g) (nth z g) with h | h
        · exact .inr ⟨z, by simp, by omega⟩
        · exact .inl (by omega)
      · exact .inr ⟨y, by simp [hy], e⟩
theorem foldl_zmin {n : Nat} : ∀ (l : List (List Int)) (x : List Int), x.length = n → (∀ y ∈ l, y.length = n) → (l.foldl zmin x).length = n ∧ (∀ g, nth (l.foldl zmin x) g ≤ nth x g) ∧ (∀ y ∈ l, ∀ g, nth (l.foldl zmin x) g ≤ nth y g) ∧ ∀ g, nth (l.foldl zmin x) g = nth x g ∨ ∃ y ∈ l, nth (l.foldl zmin x) g = nth y g
  | [], x, hx, _ => ⟨hx, fun _ => Int.le_refl _, (fun _ h => by cases h), fun _ => .inl rfl⟩
  | z :: l, x, hx, hl => by
    have hz := hl z (by simp)
    have hxz : (zmin x z).length = n := by simp [zmin, hx, hz]
    obtain ⟨a, b, c, d⟩ := foldl_zmin l (zmin x z) hxz (fun y hy => hl y (by simp [hy]))
    have m := fun g => nth_zmin (a := x) (b := z) (by omega) g
    refine ⟨a, fun g => ?_, fun y hy g => ?_, fun g => ?_⟩
    · have := b g; rw [m] at this; rw [List.foldl_cons]; omega
    · rcases List.mem_cons.1 hy with rfl | hy
      · have := b g; rw [m] at this; rw [List.foldl_cons]; omega
      · exact c y hy g
    · rw [List.foldl_cons]
      rcases d g with e | ⟨y, hy, e⟩
      · rw [m] at e
        rcases Int.le_total (nth x g) (nth z g) with h | h
        · exact .inl (by omega)
        · exact .inr ⟨z, by simp, by omega⟩
      · exact .inr ⟨y, by simp [hy], e⟩

theorem lastL_spec {n : Nat} {S : List (List Int)} (hne : S ≠ []) (hr : ∀ y ∈ S, y.length = n) : (lastL S).length = n ∧ (∀ y ∈ S, ∀ g, nth y g ≤ nth (lastL S) g) ∧ ∀ g, ∃ y ∈ S, nth (lastL S) g = nth y g := by
  cases S with
  | nil => exact absurd rfl hne
  | cons x l =>
    obtain ⟨a, b, c, d⟩ := foldl_zmax l x (hr x (by simp)) (fun y hy => hr y (by simp [hy]))
    refine ⟨a, fun y hy g => ?_, fun g => ?_⟩
    · rcases List.mem_cons.1 hy with rfl | hy
      · exact b g
      · exact c y hy g
    · rcases d g with e | ⟨y, hy, e⟩
      · exact ⟨x, by simp, e⟩
      · exact ⟨y, by simp [hy], e⟩
theorem firstL_spec {n : Nat} {S : List (List Int)} (hne : S ≠ []) (hr : ∀ y ∈ S, y.length = n) : (firstL S).length = n ∧ (∀ y ∈ S, ∀ g, nth (firstL S) g ≤ nth y g) ∧ ∀ g, ∃ y ∈ S, nth (firstL S) g = nth y g := by
  cases S with
  | nil => exact absurd rfl hne
  | cons x l =>
    obtain ⟨a, b, c, d⟩ := foldl_zmin l x (hr x (by simp)) (fun y hy => hr y (by simp [hy]))
    refine ⟨a, fun y hy g => ?_, fun g => ?_⟩
    · rcases List.mem_cons.1 hy with rfl | hy
      · exact b g
      · exact c y hy g
    · rcases d g with e | ⟨y, hy, e⟩
      · exact ⟨x, by simp, e⟩
      · exact ⟨y, by simp [hy], e⟩
end
end Go.Proofs.Ytdkmepjedjclkaa

/-
  THE PLAIN LAW (4): Back and Forth. Conditions: none.
-/
namespace Go.Proofs.Ytdkmepjedjclkaa
open Go.AM
open Go.Proofs.Try (prog)
set_option linter.all false
set_option maxRecDepth 10000

section
variable {D : List Int} {N : List Note} {K : List (List (List Int))}
theorem nth_bkR (K : List (List (List Int))) (c : List Int) : ∀ (k h : Nat) (out : List Int) (g : Nat), h + k ≤ out.length → nth (bkR K c k h out) g = if h ≤ g ∧ g < h + k then ((bk K c g (nth out g).toNat : Nat) : Int) else nth out g
  | 0, h, out, g, _ => by rw [bkR, if_neg (by omega)]
  | k + 1, h, out, g, hl => by
    rw [bkR, nth_bkR K c k (h + 1) _ g (by simp; omega), nth_set]
    by_cases e : h = g
    · subst e
      rw [if_neg (by omega), if_pos ⟨rfl, by omega⟩, if_pos ⟨by omega, by omega⟩]
    · by_cases e2 : h + 1 ≤ g ∧ g < h + 1 + k
      · rw [if_pos e2, if_neg (fun x => e x.1), if_pos ⟨by omega, by omega⟩]
      · rw [if_neg e2, if_neg (fun x => e x.1), if_neg (by omega)]

theorem zeros_cut (L : Lims D N) (P : Pre D N) : List.replicate D.length 0 ∈ cutsL D N := by
  refine (mem_cuts L).2 ⟨⟨by simp, fun h => by rw [nth_zero']; omega, fun h => by rw [nth_zero']; exact L.lo h⟩, ?_⟩
  rw [conR_iff]
  intro x hx hr
  have := (P.notes x hx).r0
  rw [nth_zero'] at hr; omega
theorem deeds_cut (P : Pre D N) : D ∈ cutsL D N := by
  refine (mem_cuts P.L).2 ⟨⟨rfl, P.L.lo, fun _ => Int.le_refl _⟩, ?_⟩
  rw [conR_iff]
  exact fun x hx _ => (P.notes x hx).s1

/-- The clocks of a consistent cut's deeds are in it. -/
theorem clk_in (k : Clocks D N K) {x : List Int} (hx : x ∈ cutsL D N) {g i : Nat} (hi : (i : Int) < nth x g) (q : Nat) : kn K g i q ≤ nth x q := by
  obtain ⟨hc, hcon⟩ := (mem_cuts k.P.L).1 hx
  have hD := hc.hi g
  have hg := k.inD (h := g) (i := i) (by omega)
  have a := (con_iff k hc).1 hcon g (by omega) hg (by omega) q
  have m := k.mono hg q ((nth x g).toNat - 1 - i) i (by omega)
  rw [show i + ((nth x g).toNat - 1 - i) = (nth x g).toNat - 1 by omega] at m
  omega

theorem take_n {c : List Int} {n g : Nat} (h : g < n) : nth (c.take n) g = nth c g := nth_take h
theorem take_out {c : List Int} {n g : Nat} (h : n ≤ g) : nth (c.take n) g = 0 := nth_out (by simp; omega)

theorem back_eq (k : Clocks D N K) (r : Reach D N D) {l : List Int} (h : CutL D l) : (backL K D.length (pad l)).take D.length = lastL ((cutsL D N).filter fun x => belowB x l) := by
  have h4 := k.P.L.n4
  have hll := h.len
  have mem : ∀ x, x ∈ (cutsL D N).filter (fun x => belowB x l) ↔ x ∈ cutsL D N ∧ ∀ g, nth x g ≤ nth l g := by
    intro x
    rw [List.mem_filter]
    constructor
    · rintro ⟨a, b⟩; exact ⟨a, (below_iff (by rw [cutsL_row a, hll])).1 b⟩
    · rintro ⟨a, b⟩; exact ⟨a, (below_iff (by rw [cutsL_row a, hll])).2 b⟩
  have hz := zeros_cut k.P.L k.P
  obtain ⟨s1, s2, s3⟩ := lastL_spec (S := (cutsL D N).filter fun x => belowB x l) (n := D.length) (List.ne_nil_of_mem ((mem _).2 ⟨hz, fun g => by rw [nth_zero']; exact h.lo g⟩)) (fun y hy => cutsL_row ((mem y).1 hy).1)
  have hlen : (backL K D.length (pad l)).length = 4 := by rw [backL, bkR_len]; exact pad_len (by omega)
  refine ext_nth (by rw [s1]; simp [hlen]; omega) fun g => ?_
  rcases Nat.lt_or_ge g D.length with hg | hg
  · rw [take_n hg, backL, nth_bkR K (pad l) D.length 0 (pad l) g (by rw [pad_len (by omega)]; omega), if_pos ⟨by omega, by omega⟩, nth_pad]
    have hlg := h.lo g
    have hlD := h.hi g
    apply Int.le_antisymm
    · rcases Nat.eq_zero_or_pos (bk K (pad l) g (nth l g).toNat) with e | e
      · have := s2 _ ((mem _).2 ⟨hz, fun g => by rw [nth_zero']; exact h.lo g⟩) g
        rw [nth_zero'] at this; rw [e]; exact this
      · have a := bk_at K (pad l) g _ e
        have b := bk_le K (pad l) g (nth l g).toNat
        have hi : ((bk K (pad l) g (nth l g).toNat - 1 : Nat) : Int) < nth D g := by omega
        rw [zmax_le (by rw [k.clk4 hg hi, pad_len (by omega)])] at a
        have hc := clk_cut k hg hi
        have := s2 _ ((mem _).2 ⟨hc, fun q => by
          rcases Nat.lt_or_ge q D.length with h1 | h1
          · rw [take_n h1]; have := a q; rw [nth_pad] at this; exact this
          · rw [take_out h1]; exact h.lo q⟩) g
        rw [take_n hg] at this
        have self := k.self r hg hi
        have self' : nth (clk K g (bk K (pad l) g (nth l g).toNat - 1)) g = _ := self
        omega
    · obtain ⟨x, hx, e⟩ := s3 g
      obtain ⟨hc, hb⟩ := (mem x).1 hx
      rw [e]
      rcases Int.lt_or_le 0 (nth x g) with hp | hp
      · have hcut := ((mem_cuts k.P.L).1 hc).1
        have hi : (((nth x g).toNat - 1 : Nat) : Int) < nth D g := by have := hcut.hi g; omega
        have hbg := hb g
        have := bk_max K (pad l) g (i := (nth x g).toNat - 1) ((zmax_le (by rw [k.clk4 hg hi, pad_len (by omega)])).2 fun q => by
          rw [nth_pad]
          exact Int.le_trans (clk_in k hc (by omega) q) (hb q)) (nth l g).toNat (by omega)
        omega
      · omega
  · rw [take_out hg, nth_out (by omega)]

theorem forthR_clk (F : ∀ h, Four (kth K h)) {c : List Int} {n : Nat} (hi : ∀ h, h < n → nth c h ≤ (kth K h).length) : ∀ (k h : Nat) (out : List Int), h + k ≤ n → out.length = 4 → ∀ g, h ≤ g → g < h + k → 0 < nth c g → ∀ q, kn K g ((nth c g).toNat - 1) q ≤ nth (forthR K c k h out) q
  | 0, h, out, _, _, g, h1, h2, _, _ => by omega
  | k + 1, h, out, hk, ho, g, h1, h2, hp, q => by
    simp only [forthR]
    by_cases e : h = g
    · subst e
      have h3 := hi h (by omega)
      have h4 : (clk K h ((nth c h).toNat - 1)).length = 4 := F h _ (cth_mem (by omega))
      rw [if_pos hp]
      have := forthR_ge F hi k (h + 1) _ (by omega) (zmax_len ho h4) q
      rw [nth_zmax (by omega)] at this
      show nth (clk K h _) q ≤ _
      omega
    · refine forthR_clk F hi k (h + 1) _ (by omega) ?_ g (by omega) (by omega) hp q
      split
      · have h3 := hi h (by omega)
        exact zmax_len ho (F h _ (cth_mem (by omega)))
      · exact ho
theorem forthR_least (F : ∀ h, Four (kth K h)) {c : List Int} {n : Nat} (hi : ∀ h, h < n → nth c h ≤ (kth K h).length) (z : Nat → Int) (hz : ∀ g, g < n → 0 < nth c g → ∀ q, kn K g ((nth c g).toNat - 1) q ≤ z q) : ∀ (k h : Nat) (out : List Int), h + k ≤ n → out.length = 4 → (∀ q, nth out q ≤ z q) → ∀ q, nth (forthR K c k h out) q ≤ z q
  | 0, h, out, _, _, ho, q => ho q
  | k + 1, h, out, hk, ho, hoz, q => by
    simp only [forthR]
    split
    · rename_i hp
      have h3 := hi h (by omega)
      have h4 : (clk K h ((nth c h).toNat - 1)).length = 4 := F h _ (cth_mem (by omega))
      refine forthR_least F hi z hz k (h + 1) _ (by omega) (zmax_len ho h4) (fun q => ?_) q
      rw [nth_zmax (by omega)]
      have a := hoz q
      have b : nth (clk K h ((nth c h).toNat - 1)) q ≤ z q := hz h (by omega) hp q
      omega
    · exact forthR_least F hi z hz k (h + 1) _ (by omega) ho hoz q

theorem forth_cut (k : Clocks D N K) {l : List Int} (h : CutL D l) : (forthL K D.length (pad l)).length = 4 ∧ (∀ g, D.length ≤ g → nth (forthL K D.length (pad l)) g = 0) ∧ (forthL K D.length (pad l)).take D.length ∈ cutsL D N ∧ (∀ g, nth l g ≤ nth (forthL K D.length (pad l)) g) ∧ ∀ x ∈ cutsL D N, (∀ g, nth l g ≤ nth x g) → ∀ g, nth (forthL K D.length (pad l)) g ≤ nth x g := by
  have h4 := k.P.L.n4
  have hll := h.len
  have hp4 : (pad l).length = 4 := pad_len (by omega)
  have hi : ∀ g, g < D.length → nth (pad l) g ≤ (kth K g).length := fun g hg => by rw [nth_pad, k.I.rows g hg]; exact h.hi g
  have len : (forthL K D.length (pad l)).length = 4 := forthR_len' k.F hi D.length 0 _ (by omega) hp4
  have ge : ∀ g, nth l g ≤ nth (forthL K D.length (pad l)) g := fun g => by have := forthR_ge k.F hi D.length 0 (pad l) (by omega) hp4 g; rw [nth_pad] at this; exact this
  have clk : ∀ g, g < D.length → 0 < nth l g → ∀ q, kn K g ((nth l g).toNat - 1) q ≤ nth (forthL K D.length (pad l)) q := fun g hg hp q => by
    have := forthR_clk k.F hi D.length 0 (pad l) (by omega) hp4 g (by omega) (by omega) (by rw [nth_pad]; exact hp) q
    rw [nth_pad] at this; exact this
  have least : ∀ z : Nat → Int, (∀ q, nth l q ≤ z q) → (∀ g, g < D.length → 0 < nth l g → ∀ q, kn K g ((nth l g).toNat - 1) q ≤ z q) → ∀ q, nth (forthL K D.length (pad l)) q ≤ z q := fun z h1 h2 q =>
    forthR_least k.F hi z (fun g hg hp q => by rw [nth_pad] at hp ⊢; exact h2 g hg hp q) D.length 0 (pad l) (by omega) hp4 (fun q => by rw [nth_pad]; exact h1 q) q
  generalize forthL K D.length (pad l) = r at len ge clk least
  have leD : ∀ g, nth r g ≤ nth D g := least _ h.hi fun g hg hp q => k.leD hg (by have := h.hi g; omega) q
  have zero : ∀ g, D.length ≤ g → nth r g = 0 := fun g hg => by have := leD g; have := ge g; have := h.lo g; rw [nth_out hg] at *; omega
  have lo : ∀ g, 0 ≤ nth r g := fun g => by have := ge g; have := h.lo g; omega
  have tk : ∀ g, nth (r.take D.length) g = nth r g := fun g => by
    rcases Nat.lt_or_ge g D.length with hg | hg
    · exact take_n hg
    · rw [take_out hg, zero g hg]
  have hcut : CutL D (r.take D.length) := ⟨by simp [len]; omega, fun g => by rw [tk]; exact lo g, fun g => by rw [tk]; exact leD g⟩
  refine ⟨len, zero, (mem_cuts k.P.L).2 ⟨hcut, (con_iff k hcut).2 fun g _ hg hpos q => ?_⟩, ge, fun x hx hlx => least _ hlx fun g hg hp q => clk_in k hx (by have := hlx g; omega) q⟩
  rw [tk] at hpos ⊢
  rw [tk]
  -- the greatest deeds whose clocks are in r
  have up := least (fun g => (bk K r g (nth D g).toNat : Nat)) (fun g => ?_) (fun a ha hp g => ?_) g
  · have up' : nth r g ≤ (bk K r g (nth D g).toNat : Nat) := up
    have a := bk_at K r g (nth D g).toNat (by omega)
    have b := bk_le K r g (nth D g).toNat
    have hbi : ((bk K r g (nth D g).toNat - 1 : Nat) : Int) < nth D g := by omega
    rw [zmax_le (by rw [k.clk4 hg hbi, len])] at a
    have m := k.mono hg q (bk K r g (nth D g).toNat - 1 - ((nth r g).toNat - 1)) ((nth r g).toNat - 1) (by omega)
    rw [show (nth r g).toNat - 1 + (bk K r g (nth D g).toNat - 1 - ((nth r g).toNat - 1)) = bk K r g (nth D g).toNat - 1 by omega] at m
    exact Int.le_trans m (a q)
  · show nth l g ≤ ((bk K r g (nth D g).toNat : Nat) : Int)
    have hlo := h.lo g
    have hhi := h.hi g
    rcases Int.lt_or_le 0 (nth l g) with hp | hp
    · have hgi : (((nth l g).toNat - 1 : Nat) : Int) < nth D g := by omega
      have hgD := k.inD hgi
      have := bk_max K r g (i := (nth l g).toNat - 1) ((zmax_le (by rw [k.clk4 hgD hgi, len])).2 (clk g hgD hp)) (nth D g).toNat (by omega)
      omega
    · omega
  · show kn K a ((nth l a).toNat - 1) g ≤ ((bk K r g (nth D g).toNat : Nat) : Int)
    have hai : (((nth l a).toNat - 1 : Nat) : Int) < nth D a := by have := h.hi a; omega
    have hd := k.leD ha hai g
    rcases Int.lt_or_le 0 (kn K a ((nth l a).toNat - 1) g) with hp2 | hp2
    · have hgi : (((kn K a ((nth l a).toNat - 1) g).toNat - 1 : Nat) : Int) < nth D g := by omega
      have hgD := k.inD hgi
      have := bk_max K r g (i := (kn K a ((nth l a).toNat - 1) g).toNat - 1) ((zmax_le (by rw [k.clk4 hgD hgi, len])).2 fun q => Int.le_trans (k.trans ha hai (q := g) (by omega) q) (clk a ha hp q)) (nth D g).toNat (by omega)
      omega
    · omega

theorem forth_eq (k : Clocks D N K) {l : List Int} (h : CutL D l) : (forthL K D.length (pad l)).take D.length = firstL ((cutsL D N).filter fun x => belowB l x) := by
  have hll := h.len
  have h4 := k.P.L.n4
  obtain ⟨len, zero, mem0, ge, le⟩ := forth_cut k h
  have tk : ∀ g, nth ((forthL K D.length (pad l)).take D.length) g = nth (forthL K D.length (pad l)) g := fun g => by
    rcases Nat.lt_or_ge g D.length with hg | hg
    · exact take_n hg
    · rw [take_out hg, zero g hg]
  have mem : ∀ x, x ∈ (cutsL D N).filter (fun x => belowB l x) ↔ x ∈ cutsL D N ∧ ∀ g, nth l g ≤ nth x g := by
    intro x
    rw [List.mem_filter]
    constructor
    · rintro ⟨a, b⟩; exact ⟨a, (below_iff (by rw [cutsL_row a, hll])).1 b⟩
    · rintro ⟨a, b⟩; exact ⟨a, (below_iff (by rw [cutsL_row a, hll])).2 b⟩
  have hr : (forthL K D.length (pad l)).take D.length ∈ (cutsL D N).filter fun x => belowB l x := (mem _).2 ⟨mem0, fun g => by rw [tk]; exact ge g⟩
  obtain ⟨s1, s2, s3⟩ := firstL_spec (S := (cutsL D N).filter fun x => belowB l x) (n := D.length) (List.ne_nil_of_mem hr) (fun y hy => cutsL_row ((mem y).1 hy).1)
  refine ext_nth (by rw [s1]; simp [len]; omega) fun g => Int.le_antisymm ?_ ?_
  · obtain ⟨x, hx, e⟩ := s3 g
    rw [e, tk]
    exact le x ((mem x).1 hx).1 ((mem x).1 hx).2 g
  · exact s2 _ hr g
end
end Go.Proofs.Ytdkmepjedjclkaa
