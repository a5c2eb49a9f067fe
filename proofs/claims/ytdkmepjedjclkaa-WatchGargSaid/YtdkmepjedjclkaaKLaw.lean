/-
  THE PLAIN LAW: the program's clocks and the reference's. Conditions: none.
-/
import Derived.Test.YtdkmepjedjclkaaKRead
set_option linter.all false
namespace Go.Proofs.Ytdkmepjedjclkaa
open Go.AM
open Go.Proofs.Try (prog)
set_option linter.all false
set_option maxRecDepth 10000

/-- A number of a clock. -/
abbrev kn (K : List (List (List Int))) (h i g : Nat) : Int := nth (cth (kth K h) i) g

theorem grows_le {K : List (List (List Int))} {h i : Nat} {c : List Int} (hc : c.length = 4) (h4 : (cth (kth K h) i).length = 4) (hg : grows K h i c = false) (g : Nat) : nth c g ≤ kn K h i g := by
  have e : zmax (cth (kth K h) i) c = cth (kth K h) i := by simpa [grows] using hg
  have := nth_zmax (a := cth (kth K h) i) (b := c) (by omega) g
  rw [e] at this
  show nth c g ≤ nth (cth (kth K h) i) g
  omega

structure Clocks (D : List Int) (N : List Note) (K : List (List (List Int))) : Prop where
  P : Pre D N
  I : Inv D N K
  C : Closed D N K
  F : ∀ h, Four (kth K h)

section
variable {D : List Int} {N : List Note} {K : List (List (List Int))}
theorem Clocks.in (c : Clocks D N K) {h i : Nat} (hh : h < D.length) (hi : (i : Int) < nth D h) : i < (kth K h).length := by
  have := c.I.rows h hh; omega
theorem Clocks.own (c : Clocks D N K) {h i : Nat} (hh : h < D.length) (hi : (i : Int) + 1 < nth D h) (g : Nat) : kn K h i g ≤ kn K h (i + 1) g := by
  have a := c.in hh (i := i) (by omega)
  have b := c.in hh (i := i + 1) (by omega)
  have := c.C.1 h (i + 1) hh (by omega) (by omega)
  exact grows_le (c.F h _ (cth_mem a)) (c.F h _ (cth_mem b)) (by simpa [okOwn] using this) g
theorem Clocks.mono (c : Clocks D N K) {h : Nat} (hh : h < D.length) (g : Nat) : ∀ (d i : Nat), ((i + d : Nat) : Int) < nth D h → kn K h i g ≤ kn K h (i + d) g
  | 0, i, _ => Int.le_refl _
  | d + 1, i, hi => by
    have := c.mono hh g d i (by omega)
    have := c.own hh (i := i + d) (by omega) g
    rw [show i + (d + 1) = i + d + 1 by omega]; omega
theorem Clocks.note (c : Clocks D N K) {x : Note} (hx : x ∈ N) (g : Nat) : kn K x.f.toNat (x.s.toNat - 1) g ≤ kn K x.t.toNat (x.r.toNat - 1) g := by
  have q := c.P.notes x hx
  obtain ⟨f0, f1, t0, t1, ne, s0, s1, r0, r1⟩ := q
  have a := c.in (h := x.f.toNat) (i := x.s.toNat - 1) (by omega) (by omega)
  have b := c.in (h := x.t.toNat) (i := x.r.toNat - 1) (by omega) (by omega)
  exact grows_le (c.F _ _ (cth_mem a)) (c.F _ _ (cth_mem b)) (c.C.2 x hx) g

/-! ### Valid: no two deeds have one clock -/
theorem nth_zero' (n i : Nat) : nth (List.replicate n 0) i = 0 := by
  simp only [nth, List.getD, List.getElem?_replicate]; split <;> rfl

/-- The order in which the deeds were done, as clocks. -/
structure Sched (N : List Note) (n : Nat) (x : List Int) (V : Nat → Nat → Nat → Int) : Prop where
  len : x.length = n
  pos : ∀ h, 0 ≤ nth x h
  self : ∀ (h i : Nat), (i : Int) < nth x h → V h i h = (i : Int) + 1
  lo : ∀ h i g, 0 ≤ V h i g
  hi : ∀ (h i g : Nat), (i : Int) < nth x h → V h i g ≤ nth x g
  own : ∀ (h i g : Nat), (i : Int) + 1 < nth x h → V h i g ≤ V h (i + 1) g
  sent : ∀ y ∈ N, y.r ≤ nth x y.t.toNat → y.s ≤ nth x y.f.toNat
  note : ∀ y ∈ N, y.r ≤ nth x y.t.toNat → ∀ g, V y.f.toNat (y.s.toNat - 1) g ≤ V y.t.toNat (y.r.toNat - 1) g
  diff : ∀ h g, h ≠ g → ∀ (i j : Nat), (i : Int) < nth x h → (j : Int) < nth x g → ¬ ((i : Int) + 1 ≤ V g j h ∧ (j : Int) + 1 ≤ V h i g)

theorem sched {D : List Int} {N : List Note} (P : Pre D N) {x : List Int} (r : Reach D N x) : ∃ V, Sched N D.length x V := by
  induction r with
  | zero =>
    refine ⟨fun _ _ _ => 0, by simp, ?_, ?_, fun _ _ _ => Int.le_refl _, ?_, ?_, ?_, ?_, ?_⟩
    · intro h; rw [nth_zero']; omega
    · intro h i hi; rw [nth_zero'] at hi; omega
    · intro h i g hi; rw [nth_zero'] at hi; omega
    · intro h i g hi; exact Int.le_refl _
    · intro y hy hr
      have := (P.notes y hy).r0
      rw [nth_zero'] at hr; omega
    · intro y hy hr; exact fun _ => Int.le_refl _
    · intro h g _ i j hi; rw [nth_zero'] at hi; omega
  | @step x h0 r s ih =>
    obtain ⟨V, v⟩ := ih
    obtain ⟨s1, s2, s3⟩ := s
    have hl := v.len
    have hx : ∀ g, nth (x.set h0 (nth x h0 + 1)) g = if h0 = g then nth x h0 + 1 else nth x g := by
      intro g
      rw [nth_set]
      by_cases e : h0 = g
      · simp [e, show g < x.length by omega]
      · simp [e]
    generalize hx' : x.set h0 (nth x h0 + 1) = x' at hx
    have hle : ∀ g, nth x g ≤ nth x' g := by
      intro g; rw [hx]; split
      · rename_i e; subst e; omega
      · omega
    have hl' : x'.length = D.length := by rw [← hx']; simpa using hl
    have p0 := v.pos h0
    obtain ⟨a, ha⟩ : ∃ a : Nat, nth x h0 = a := ⟨(nth x h0).toNat, by omega⟩
    let W : Nat → Nat → Nat → Int := fun h i g => if h = h0 ∧ i = a then nth x' g else V h i g
    have hW : ∀ h i g, W h i g = if h = h0 ∧ i = a then nth x' g else V h i g := fun _ _ _ => rfl
    have old : ∀ (h i : Nat), (i : Int) < nth x h → ¬ (h = h0 ∧ i = a) := by
      rintro h i hi ⟨rfl, rfl⟩; omega
    have new : ∀ (h i : Nat), (i : Int) < nth x' h → (i : Int) < nth x h ∨ (h = h0 ∧ i = a) := by
      intro h i hi
      rw [hx] at hi
      split at hi
      · rename_i e; subst e
        by_cases e2 : i = a
        · exact .inr ⟨rfl, e2⟩
        · left; omega
      · exact .inl hi
    have oldN : ∀ y ∈ N, y.r ≤ nth x' y.t.toNat → y.r ≤ nth x y.t.toNat ∨ (y.t.toNat = h0 ∧ y.r = (a : Int) + 1 ∧ y.s ≤ nth x y.f.toNat) := by
      intro y hy hr
      obtain ⟨f0, f1, t0, t1, ne, s0, s1, r0, r1⟩ := P.notes y hy
      rw [hx] at hr
      split at hr
      · rename_i e
        by_cases e2 : y.r ≤ nth x y.t.toNat
        · exact .inl e2
        · right
          rw [← e] at e2
          refine ⟨e.symm, by omega, ?_⟩
          simp only [readyL, List.all_eq_true] at s3
          have := s3 y hy
          have e3 : y.t = (h0 : Int) := by omega
          have e4 : y.r = nth x h0 + 1 := by omega
          simp [readyOk, e3, e4] at this
          exact this
      · exact .inl hr
    refine ⟨W, hl', ?_, ?_, ?_, ?_, ?_, ?_, ?_, ?_⟩
    · intro h; have := v.pos h; have := hle h; omega
    · intro h i hi
      rw [hW]
      rcases new h i hi with h1 | ⟨h1, h2⟩
      · rw [if_neg (old h i h1)]; exact v.self h i h1
      · rw [if_pos ⟨h1, h2⟩, h1, hx, if_pos rfl]; omega
    · intro h i g
      rw [hW]; split
      · have := v.pos g; have := hle g; omega
      · exact v.lo h i g
    · intro h i g hi
      rw [hW]
      rcases new h i hi with h1 | ⟨h1, h2⟩
      · rw [if_neg (old h i h1)]; have := v.hi h i g h1; have := hle g; omega
      · rw [if_pos ⟨h1, h2⟩]; exact Int.le_refl _
    · intro h i g hi
      have hi0 : (i : Int) < nth x h := by
        rcases new h (i + 1) (by omega) with h1 | ⟨h1, h2⟩
        · omega
        · subst h1; omega
      rw [hW, if_neg (old h i hi0), hW]
      split
      · have := v.hi h i g hi0; have := hle g; omega
      · rename_i e
        rcases new h (i + 1) (by omega) with h1 | h1
        · exact v.own h i g (by omega)
        · exact absurd h1 e
    · intro y hy hr
      have := hle y.f.toNat
      rcases oldN y hy hr with h1 | ⟨_, _, h1⟩
      · have := v.sent y hy h1; omega
      · omega
    · intro y hy hr g
      obtain ⟨f0, f1, t0, t1, ne, s0, s1, r0, r1⟩ := P.notes y hy
      rcases oldN y hy hr with h1 | ⟨h1, h2, h3⟩
      · have h4 := v.sent y hy h1
        rw [hW, if_neg (old _ _ (by omega)), hW, if_neg (old _ _ (by omega))]
        exact v.note y hy h1 g
      · rw [hW, if_neg (old _ _ (by omega)), hW, if_pos ⟨h1, by omega⟩]
        have := v.hi y.f.toNat (y.s.toNat - 1) g (by omega)
        have := hle g; omega
    · intro h g hne i j hi hj
      rw [hW, hW]
      rcases new h i hi with h1 | ⟨h1, h2⟩
      · rw [if_neg (old h i h1)]
        rcases new g j hj with k1 | ⟨k1, k2⟩
        · rw [if_neg (old g j k1)]; exact v.diff h g hne i j h1 k1
        · have := v.hi h i g h1
          subst k1; omega
      · rcases new g j hj with k1 | ⟨k1, k2⟩
        · rw [if_neg (old g j k1)]
          have := v.hi g j h k1
          subst h1; omega
        · omega

theorem good_of_reach (c : Clocks D N K) (r : Reach D N D) : badAll K D.length 0 = false := by
  obtain ⟨V, v⟩ := sched c.P r
  have S : Super D N V := by
    refine ⟨fun h i hi => by rw [v.self h i hi]; omega, v.lo, fun h i g hi => v.own h i g hi, fun x hx g => v.note x hx (c.P.notes x hx).r1 g⟩
  have low : ∀ (h i : Nat), h < D.length → (i : Int) < nth D h → ∀ g, kn K h i g ≤ V h i g := fun h i hh hi g => c.I.low V S h i (c.in hh hi) g
  have self : ∀ (h i : Nat), h < D.length → (i : Int) < nth D h → kn K h i h = (i : Int) + 1 := by
    intro h i hh hi
    have := low h i hh hi h
    rw [v.self h i hi] at this
    have := c.I.unit h i (c.in hh hi)
    show nth _ _ = _
    simp only [kn] at *; omega
  cases hb : badAll K D.length 0 with
  | false => rfl
  | true =>
    exfalso
    simp only [badAll, List.any_eq_true, List.mem_range'_1, badRow, Bool.or_eq_true, Bool.not_eq_true', decide_eq_false_iff_not, badIn, Bool.and_eq_true, decide_eq_true_eq] at hb
    obtain ⟨h, hh, i, hi, hb⟩ := hb
    have hh' : h < D.length := by omega
    have hrow := c.I.rows h hh'
    have hi' : (i : Int) < nth D h := by omega
    rcases hb with hb | ⟨g, hg, hne, hm⟩
    · exact hb (self h i hh' hi')
    · have hg' : g < D.length := by omega
      have hrow2 := c.I.rows g hg'
      obtain ⟨j, hj, e⟩ := List.getElem_of_mem hm
      have hj' : (j : Int) < nth D g := by omega
      have e2 : cth (kth K g) j = cth (kth K h) i := by rw [← e]; simp [cth, List.getD, List.getElem?_eq_getElem hj]
      refine v.diff h g (fun x => hne x.symm) i j hi' hj' ⟨?_, ?_⟩
      · have a := self h i hh' hi'
        have b := low g j hg' hj' h
        simp only [kn] at a b; rw [e2] at b; omega
      · have a := self g j hg' hj'
        have b := low h i hh' hi' g
        simp only [kn] at a b; rw [← e2] at b; omega

theorem stuck_exists (L : Lims D N) : ∀ (k : Nat) (x : List Int), Reach D N x → (D.sum - x.sum).toNat ≤ k → ∃ y, Reach D N y ∧ Stuck D N y := by
  intro k
  induction k with
  | zero =>
    intro x r hk
    refine ⟨x, r, fun h s => ?_⟩
    have r2 := Reach.step r s
    have b := r.box L.lo
    have b2 := r2.box L.lo
    have hs := s.1
    have := sum_set x h (nth x h + 1) (by have := b.len; omega)
    have := sum_le _ _ b2.len b2.hi
    omega
  | succ k ih =>
    intro x r hk
    by_cases hst : Stuck D N x
    · exact ⟨x, r, hst⟩
    · have : ∃ h, Step D N x h := Classical.byContradiction fun hh => hst fun h s => hh ⟨h, s⟩
      obtain ⟨h, s⟩ := this
      have b := r.box L.lo
      have hs := s.1
      have := sum_set x h (nth x h + 1) (by have := b.len; omega)
      exact ih _ (Reach.step r s) (by omega)

theorem sum_eq : ∀ (a b : List Int), a.length = b.length → (∀ i, nth a i ≤ nth b i) → b.sum ≤ a.sum → a = b
  | [], [], _, _, _ => rfl
  | x :: a, y :: b, hl, h, hs => by
    have h0 := h 0
    have ht : ∀ i, nth a i ≤ nth b i := fun i => by simpa [nth_cons1] using h (i + 1)
    have := sum_le a b (by simpa using hl) ht
    simp only [nth_cons0] at h0
    simp only [List.sum_cons] at hs
    have e1 : x = y := by omega
    rw [e1, sum_eq a b (by simpa using hl) ht (by omega)]

theorem reach_of_good (c : Clocks D N K) (hb : badAll K D.length 0 = false) : Reach D N D := by
  obtain ⟨y, r, st⟩ := stuck_exists c.P.L _ _ (Reach.zero (D := D) (N := N)) (Nat.le_refl _)
  have b := r.box c.P.L.lo
  have none : ∀ (k h : Nat), h < D.length → nth y h < nth D h → ((cth (kth K h) (nth y h).toNat).sum).toNat ≤ k → False := by
    intro k
    induction k with
    | zero => ?_
    | succ k ih => ?_
    all_goals
      intro h hh hlt hk
      have hny : readyL N y h = false := by
        cases e : readyL N y h with
        | false => rfl
        | true => exact absurd ⟨hh, hlt, e⟩ (st h)
      have p0 := b.lo h
      simp only [readyL, List.all_eq_false] at hny
      obtain ⟨x, hx, e⟩ := hny
      obtain ⟨f0, f1, t0, t1, ne, s0, s1, r0, r1⟩ := c.P.notes x hx
      have e' : x.t = (h : Int) ∧ x.r = nth y h + 1 ∧ nth y x.f.toNat < x.s := by
        simpa [readyOk] using e
      obtain ⟨e1, e2, e3⟩ := e'
      have pf := b.lo x.f.toNat
      have m1 := fun g => c.note hx g
      have m2 := fun g => c.mono (h := x.f.toNat) (by omega) g (x.s.toNat - 1 - (nth y x.f.toNat).toNat) (nth y x.f.toNat).toNat (by omega)
      have ei : (nth y x.f.toNat).toNat + (x.s.toNat - 1 - (nth y x.f.toNat).toNat) = x.s.toNat - 1 := by omega
      rw [ei] at m2
      have et : x.t.toNat = h := by omega
      have er : x.r.toNat - 1 = (nth y h).toNat := by omega
      rw [et, er] at m1
      have le : ∀ g, kn K x.f.toNat (nth y x.f.toNat).toNat g ≤ kn K h (nth y h).toNat g := fun g => Int.le_trans (m2 g) (m1 g)
      have in1 := c.in (h := h) (i := (nth y h).toNat) hh (by omega)
      have in2 := c.in (h := x.f.toNat) (i := (nth y x.f.toNat).toNat) (by omega) (by omega)
      have l1 := c.F h _ (cth_mem in1)
      have l2 := c.F x.f.toNat _ (cth_mem in2)
      have pos2 : ∀ g, 0 ≤ nth (cth (kth K x.f.toNat) (nth y x.f.toNat).toNat) g := c.I.pos _ _ in2
      have sle := sum_le _ _ (by rw [l2, l1]) le
      have s0' : 0 ≤ (cth (kth K x.f.toNat) (nth y x.f.toNat).toNat).sum := by
        have := sum_le [0, 0, 0, 0] _ (by rw [l2]; rfl) (fun i => by have := pos2 i; have z : nth [0, 0, 0, 0] i = 0 := nth_zero' 4 i; omega)
        simpa using this
      by_cases eq : (cth (kth K h) (nth y h).toNat).sum ≤ (cth (kth K x.f.toNat) (nth y x.f.toNat).toNat).sum
      · have e4 := sum_eq _ _ (by rw [l2, l1]) le eq
        rw [← Bool.not_eq_true] at hb
        apply hb
        simp only [badAll, List.any_eq_true, List.mem_range'_1, badRow, Bool.or_eq_true, Bool.not_eq_true', decide_eq_false_iff_not, badIn, Bool.and_eq_true, decide_eq_true_eq]
        refine ⟨h, by omega, (nth y h).toNat, by omega, .inr ⟨x.f.toNat, by omega, by omega, ?_⟩⟩
        rw [← e4]; exact cth_mem in2
      · first
          | exact ih x.f.toNat (by omega) (by omega) (by omega)
          | omega
  have e : y = D := ext_nth b.len fun i => by
    have h1 := b.hi i
    rcases Nat.lt_or_ge i D.length with h2 | h2
    · rcases Int.lt_or_eq_of_le h1 with h3 | h3
      · exact absurd (none _ i h2 h3 (Nat.le_refl _)) id
      · exact h3
    · rw [nth_out h2, nth_out (by have := b.len; omega)]
  rw [e] at r; exact r
end
end Go.Proofs.Ytdkmepjedjclkaa

/-
  THE PLAIN LAW (2): the program's consistent cuts are the reference's. Conditions: none.
-/
namespace Go.Proofs.Ytdkmepjedjclkaa
open Go.AM
open Go.Proofs.Try (prog)
set_option linter.all false
set_option maxRecDepth 10000

section
variable {D : List Int} {N : List Note} {K : List (List (List Int))}

/-- No clock of the cut's last deeds goes beyond the cut. -/
def In (K : List (List (List Int))) (c : List Int) (n h : Nat) : Prop := ∀ g, h ≤ g → g < n → 0 < nth c g → ∀ q, kn K g ((nth c g).toNat - 1) q ≤ nth c q

theorem forthR_ge (F : ∀ h, Four (kth K h)) {c : List Int} {n : Nat} (hi : ∀ h, h < n → nth c h ≤ (kth K h).length) : ∀ (k h : Nat) (out : List Int), h + k ≤ n → out.length = 4 → ∀ q, nth out q ≤ nth (forthR K c k h out) q
  | 0, _, _, _, ho, _ => Int.le_refl _
  | k + 1, h, out, hk, ho, q => by
    simp only [forthR]
    by_cases h2 : 0 < nth c h
    · have h3 := hi h (by omega)
      have h4 : (clk K h ((nth c h).toNat - 1)).length = 4 := F h _ (cth_mem (by omega))
      rw [if_pos h2]
      have h5 := forthR_ge F hi k (h + 1) (zmax out (clk K h ((nth c h).toNat - 1))) (by omega) (zmax_len ho h4) q
      rw [nth_zmax (by omega)] at h5
      omega
    · rw [if_neg h2]; exact forthR_ge F hi k (h + 1) _ (by omega) ho q

theorem forthR_iff (F : ∀ h, Four (kth K h)) {c : List Int} {n : Nat} (hc : c.length = 4) (hi : ∀ h, h < n → nth c h ≤ (kth K h).length) : ∀ (k h : Nat), h + k = n → (forthR K c k h c = c ↔ In K c n h)
  | 0, h, hk => ⟨fun _ g h1 h2 => by omega, fun _ => rfl⟩
  | k + 1, h, hk => by
    simp only [forthR]
    have ih := forthR_iff F hc hi k (h + 1) (by omega)
    by_cases h2 : 0 < nth c h
    · have h3 := hi h (by omega)
      have h4 : (clk K h ((nth c h).toNat - 1)).length = 4 := F h _ (cth_mem (by omega))
      rw [if_pos h2]
      have hz := fun q => nth_zmax (a := c) (b := clk K h ((nth c h).toNat - 1)) (by omega) q
      have hzl : (zmax c (clk K h ((nth c h).toNat - 1))).length = 4 := zmax_len hc h4
      constructor
      · intro e
        have ge := forthR_ge F hi k (h + 1) _ (by omega) hzl
        rw [e] at ge
        have ez : zmax c (clk K h ((nth c h).toNat - 1)) = c := ext_nth (by omega) fun q => by have := ge q; have := hz q; omega
        rw [ez] at e
        intro g g1 g2 g3 q
        rcases Nat.lt_or_ge h g with h5 | h5
        · exact ih.1 e g h5 g2 g3 q
        · have : g = h := by omega
          subst this
          have := hz q; rw [ez] at this
          show nth (clk K g _) q ≤ _
          omega
      · intro a
        have ez : zmax c (clk K h ((nth c h).toNat - 1)) = c := ext_nth (by omega) fun q => by
          have := a h (Nat.le_refl _) (by omega) h2 q
          rw [hz]
          show max (nth c q) (kn K h _ q) = _
          omega
        rw [ez]
        exact ih.2 fun g g1 g2 => a g (by omega) g2
    · rw [if_neg h2, ih]
      constructor
      · intro a g g1 g2 g3
        rcases Nat.lt_or_ge h g with h5 | h5
        · exact a g h5 g2 g3
        · have : g = h := by omega
          subst this; exact absurd g3 h2
      · intro a g g1 g2; exact a g (by omega) g2

theorem nth_take {l : List Int} {n i : Nat} (h : i < n) : nth (l.take n) i = nth l i := by simp [nth, List.getD, List.getElem?_take, h]

theorem conR_iff {c : List Int} : conR N c = true ↔ ∀ x ∈ N, x.r ≤ nth c x.t.toNat → x.s ≤ nth c x.f.toNat := by
  simp only [conR, List.all_eq_true, noteOk]
  constructor
  · intro h x hx hr
    have := h x hx
    simp [hr] at this; exact this
  · intro h x hx
    by_cases q : x.r ≤ nth c x.t.toNat
    · have := h x hx q
      simp [q]; omega
    · simp [q]

theorem in_iff (k : Clocks D N K) {c : List Int} (hc : IsCut D.length (pad D) c) : forthL K D.length c = c ↔ conR N (c.take D.length) = true := by
  have hD : ∀ h, nth c h ≤ nth D h := fun h => by have := hc.hi h; rw [nth_pad] at this; exact this
  have hi : ∀ h, h < D.length → nth c h ≤ (kth K h).length := fun h hh => by rw [k.I.rows h hh]; exact hD h
  rw [forthL, forthR_iff k.F hc.len hi _ 0 (by omega), conR_iff]
  constructor
  · intro a x hx hr
    obtain ⟨f0, f1, t0, t1, ne, s0, s1, r0, r1⟩ := k.P.notes x hx
    rw [nth_take (by omega)] at hr ⊢
    have h1 := a x.t.toNat (by omega) (by omega) (by omega) x.f.toNat
    have h2 := k.mono (h := x.t.toNat) (by omega) x.f.toNat ((nth c x.t.toNat).toNat - x.r.toNat) (x.r.toNat - 1) (by have := hD x.t.toNat; omega)
    rw [show x.r.toNat - 1 + ((nth c x.t.toNat).toNat - x.r.toNat) = (nth c x.t.toNat).toNat - 1 by omega] at h2
    have h3 := k.note hx x.f.toNat
    have h4 := k.I.unit x.f.toNat (x.s.toNat - 1) (k.in (by omega) (by omega))
    have h4' : ((x.s.toNat - 1 : Nat) : Int) + 1 ≤ kn K x.f.toNat (x.s.toNat - 1) x.f.toNat := h4
    omega
  · intro a g _ hg hpos q
    let V : Nat → Nat → Nat → Int := fun h i q => if (i : Int) < nth c h then nth c q else nth D q
    have hV : ∀ h i q, V h i q = if (i : Int) < nth c h then nth c q else nth D q := fun _ _ _ => rfl
    have S : Super D N V := by
      refine ⟨fun h i h1 => ?_, fun h i g => ?_, fun h i g h1 => ?_, fun x hx g => ?_⟩
      · rw [hV]; split <;> omega
      · rw [hV]; split
        · exact hc.lo g
        · exact k.P.L.lo g
      · rw [hV, hV]
        have := hD g
        split <;> split <;> omega
      · obtain ⟨f0, f1, t0, t1, ne, s0, s1, r0, r1⟩ := k.P.notes x hx
        have h1 := a x hx
        rw [nth_take (by omega), nth_take (by omega)] at h1
        rw [hV, hV]
        have := hD g
        split <;> split <;> omega
    have h1 := k.I.low V S g ((nth c g).toNat - 1) (k.in hg (by have := hD g; omega)) q
    rw [hV, if_pos (by omega)] at h1
    exact h1

/-! ### All cuts -/
theorem enumR_take {D4 : List Int} : ∀ (k h : Nat) (c : List Int), ∀ x ∈ enumR D4 k h c, x.take h = c.take h ∧ x.length = c.length
  | 0, h, c, x, hx => by simp [enumR] at hx; subst hx; exact ⟨rfl, rfl⟩
  | k + 1, h, c, x, hx => by
    simp only [enumR, List.mem_flatMap, List.mem_range] at hx
    obtain ⟨i, hi, hx⟩ := hx
    obtain ⟨a, b⟩ := enumR_take k (h + 1) _ x hx
    refine ⟨?_, by simpa using b⟩
    have := congrArg (List.take h) a
    rw [List.take_take, List.take_take, Nat.min_eq_left (by omega)] at this
    rw [this, List.take_set_of_le (Nat.le_refl h)]

theorem enumR_tuples {D4 : List Int} : ∀ (E : List Int) (h : Nat) (c : List Int), h + E.length ≤ c.length → (∀ i, i < E.length → nth D4 (h + i) = nth E i) →
    (enumR D4 E.length h c).map (fun x => (x.drop h).take E.length) = tuplesL E
  | [], h, c, _, _ => by simp [enumR, tuplesL]
  | d :: E, h, c, hl, hE => by
    have h0 := hE 0 (by simp)
    simp only [Nat.add_zero, nth_cons0] at h0
    simp only [List.length_cons, enumR, tuplesL, List.map_flatMap, h0]
    congr 1
    funext i
    have ih := enumR_tuples E (h + 1) (c.set h (i : Int)) (by simp at hl ⊢; omega) (fun j hj => by have := hE (j + 1) (by simpa using hj); rw [nth_cons1] at this; rw [← this]; congr 1; omega)
    rw [← ih, List.map_map]
    refine List.map_congr_left fun x hx => ?_
    obtain ⟨a, b⟩ := enumR_take _ _ _ x hx
    have hx : h < x.length := by rw [b]; simp at hl ⊢; omega
    have e : x[h] = (i : Int) := by
      have := congrArg (fun l : List Int => l[h]?) a
      simp only [List.getElem?_take, Nat.lt_succ_self, if_true] at this
      rw [List.getElem?_eq_getElem hx] at this
      simp at hl
      rw [List.getElem?_set_self (by omega)] at this
      simpa using this
    simp only [Function.comp]
    rw [List.drop_eq_getElem_cons hx, List.take_succ_cons, e]

theorem allL_eq (k : Clocks D N K) : (allL (pad D) K D.length).map (fun c => c.take D.length) = cutsL D N := by
  have h4 := k.P.L.n4
  have e := enumR_tuples (D4 := pad D) D 0 [0, 0, 0, 0] (by simp; omega) (fun i _ => by rw [Nat.zero_add, nth_pad])
  simp only [List.drop_zero] at e
  rw [cutsL, ← e, allL, List.filter_map]
  congr 1
  refine List.filter_congr fun c hc => ?_
  have hz : IsCut D.length (pad D) [0, 0, 0, 0] := ⟨rfl, fun h => by have : nth [0, 0, 0, 0] h = 0 := nth_zero' 4 h; omega, fun h => by have : nth [0, 0, 0, 0] h = 0 := nth_zero' 4 h; have := k.P.L.lo h; rw [nth_pad]; omega⟩
  have hcut := enumR_cut (D := pad D) (fun h => by rw [nth_pad]; exact k.P.L.lo h) _ _ _ hz c hc
  have := in_iff k hcut
  simp only [Function.comp]
  cases hq : conR N (c.take D.length) with
  | true => simp [this.2 hq]
  | false => simp; intro h; rw [this.1 h] at hq; cases hq
end
end Go.Proofs.Ytdkmepjedjclkaa
