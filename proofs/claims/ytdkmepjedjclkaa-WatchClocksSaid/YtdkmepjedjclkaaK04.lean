/-
  THE PLAIN LAW: the program's clocks and the reference's. Conditions: none.
-/
import Derived.Test.YtdkmepjedjclkaaK03
import Derived.Test.YtdkmepjedjclkaaKAmH
import Derived.Test.YtdkmepjedjclkaaK02
import Derived.Test.YtdkmepjedjclkaaK01
set_option linter.all false
namespace Go.Proofs.Ytdkmepjedjclkaa
open Go.AM
open Go.Proofs.Try (prog)
set_option linter.all false
set_option maxRecDepth 10000
abbrev kn (K : List (List (List Int))) (h i g : Nat) : Int := nth (cth (kth K h) i) g
theorem grows_le {K : List (List (List Int))} {h i : Nat} {c : List Int} (hc : c.length = 4) (h4 : (cth (kth K h) i).length = 4) (hg : grows K h i c = false) (g : Nat) : nth c g ≤ kn K h i g := by
  have e : zmax (cth (kth K h) i) c = cth (kth K h) i := by simpa [grows] using hg
  have := nth_zmax (a := cth (kth K h) i) (b := c) (by omega) g
  rw [e] at this
  show nth c g ≤ nth (cth (kth K h) i) g
  omega
structure Clocks (D : List Int) (N : List Note) (K : List (List (List Int))) : Prop where
  P : Pre D N
  I : Inv D N K
  C : Closed D N K
  F : ∀ h, Four (kth K h)
section
variable {D : List Int} {N : List Note} {K : List (List (List Int))}
theorem Clocks.in (c : Clocks D N K) {h i : Nat} (hh : h < D.length) (hi : (i : Int) < nth D h) : i < (kth K h).length := by
  have := c.I.rows h hh; omega
theorem Clocks.own (c : Clocks D N K) {h i : Nat} (hh : h < D.length) (hi : (i : Int) + 1 < nth D h) (g : Nat) : kn K h i g ≤ kn K h (i + 1) g := by
  have a := c.in hh (i := i) (by omega)
  have b := c.in hh (i := i + 1) (by omega)
  have := c.C.1 h (i + 1) hh (by omega) (by omega)
  exact grows_le (c.F h _ (cth_mem a)) (c.F h _ (cth_mem b)) (by simpa [okOwn] using this) g
theorem Clocks.mono (c : Clocks D N K) {h : Nat} (hh : h < D.length) (g : Nat) : ∀ (d i : Nat), ((i + d : Nat) : Int) < nth D h → kn K h i g ≤ kn K h (i + d) g
  | 0, i, _ => Int.le_refl _
  | d + 1, i, hi => by
    have := c.mono hh g d i (by omega)
    have := c.own hh (i := i + d) (by omega) g
    rw [show i + (d + 1) = i + d + 1 by omega]; omega
theorem Clocks.note (c : Clocks D N K) {x : Note} (hx : x ∈ N) (g : Nat) : kn K x.f.toNat (x.s.toNat - 1) g ≤ kn K x.t.toNat (x.r.toNat - 1) g := by
  have q := c.P.notes x hx
  obtain ⟨f0, f1, t0, t1, ne, s0, s1, r0, r1⟩ := q
  have a := c.in (h := x.f.toNat) (i := x.s.toNat - 1) (by omega) (by omega)
  have b := c.in (h := x.t.toNat) (i := x.r.toNat - 1) (by omega) (by omega)
  exact grows_le (c.F _ _ (cth_mem a)) (c.F _ _ (cth_mem b)) (c.C.2 x hx) g
theorem nth_zero' (n i : Nat) : nth (List.replicate n 0) i = 0 := by
  simp only [nth, List.getD, List.getElem?_replicate]; split <;> rfl
structure Sched (N : List Note) (n : Nat) (x : List Int) (V : Nat → Nat → Nat → Int) : Prop where
  len : x.length = n
  pos : ∀ h, 0 ≤ nth x h
  self : ∀ (h i : Nat), (i : Int) < nth x h → V h i h = (i : Int) + 1
  lo : ∀ h i g, 0 ≤ V h i g
  hi : ∀ (h i g : Nat), (i : Int) < nth x h → V h i g ≤ nth x g
  own : ∀ (h i g : Nat), (i : Int) + 1 < nth x h → V h i g ≤ V h (i + 1) g
  sent : ∀ y ∈ N, y.r ≤ nth x y.t.toNat → y.s ≤ nth x y.f.toNat
  note : ∀ y ∈ N, y.r ≤ nth x y.t.toNat → ∀ g, V y.f.toNat (y.s.toNat - 1) g ≤ V y.t.toNat (y.r.toNat - 1) g
  diff : ∀ h g, h ≠ g → ∀ (i j : Nat), (i : Int) < nth x h → (j : Int) < nth x g → ¬ ((i : Int) + 1 ≤ V g j h ∧ (j : Int) + 1 ≤ V h i g)
theorem sched {D : List Int} {N : List Note} (P : Pre D N) {x : List Int} (r : Reach D N x) : ∃ V, Sched N D.length x V := by
  induction r with
  | zero =>
    refine ⟨fun _ _ _ => 0, by simp, ?_, ?_, fun _ _ _ => Int.le_refl _, ?_, ?_, ?_, ?_, ?_⟩
    · intro h; rw [nth_zero']; omega
    · intro h i hi; rw [nth_zero'] at hi; omega
    · intro h i g hi; rw [nth_zero'] at hi; omega
    · intro h i g hi; exact Int.le_refl _
    · intro y hy hr
      have := (P.notes y hy).r0
      rw [nth_zero'] at hr; omega
    · intro y hy hr; exact fun _ => Int.le_refl _
    · intro h g _ i j hi; rw [nth_zero'] at hi; omega
  | @step x h0 r s ih =>
    obtain ⟨V, v⟩ := ih
    obtain ⟨s1, s2, s3⟩ := s
    have hl := v.len
    have hx : ∀ g, nth (x.set h0 (nth x h0 + 1)) g = if h0 = g then nth x h0 + 1 else nth x g := by
      intro g
      rw [nth_set]
      by_cases e : h0 = g
      · simp [e, show g < x.length by omega]
      · simp [e]
    generalize hx' : x.set h0 (nth x h0 + 1) = x' at hx
    have hle : ∀ g, nth x g ≤ nth x' g := by
      intro g; rw [hx]; split
      · rename_i e; subst e; omega
      · omega
    have hl' : x'.length = D.length := by rw [← hx']; simpa using hl
    have p0 := v.pos h0
    obtain ⟨a, ha⟩ : ∃ a : Nat, nth x h0 = a := ⟨(nth x h0).toNat, by omega⟩
    let W : Nat → Nat → Nat → Int := fun h i g => if h = h0 ∧ i = a then nth x' g else V h i g
    have hW : ∀ h i g, W h i g = if h = h0 ∧ i = a then nth x' g else V h i g := fun _ _ _ => rfl
    have old : ∀ (h i : Nat), (i : Int) < nth x h → ¬ (h = h0 ∧ i = a) := by
      rintro h i hi ⟨rfl, rfl⟩; omega
    have new : ∀ (h i : Nat), (i : Int) < nth x' h → (i : Int) < nth x h ∨ (h = h0 ∧ i = a) := by
      intro h i hi
      rw [hx] at hi
      split at hi
      · rename_i e; subst e
        by_cases e2 : i = a
        · exact .inr ⟨rfl, e2⟩
        · left; omega
      · exact .inl hi
    have oldN : ∀ y ∈ N, y.r ≤ nth x' y.t.toNat → y.r ≤ nth x y.t.toNat ∨ (y.t.toNat = h0 ∧ y.r = (a : Int) + 1 ∧ y.s ≤ nth x y.f.toNat) := by
      intro y hy hr
      obtain ⟨f0, f1, t0, t1, ne, s0, s1, r0, r1⟩ := P.notes y hy
      rw [hx] at hr
      split at hr
      · rename_i e
        by_cases e2 : y.r ≤ nth x y.t.toNat
        · exact .inl e2
        · right
          rw [← e] at e2
          refine ⟨e.symm, by omega, ?_⟩
          simp only [readyL, List.all_eq_true] at s3
          have := s3 y hy
          have e3 : y.t = (h0 : Int) := by omega
          have e4 : y.r = nth x h0 + 1 := by omega
          simp [readyOk, e3, e4] at this
          exact this
      · exact .inl hr
    refine ⟨W, hl', ?_, ?_, ?_, ?_, ?_, ?_, ?_, ?_⟩
    · intro h; have := v.pos h; have := hle h; omega
    · intro h i hi
      rw [hW]
      rcases new h i hi with h1 | ⟨h1, h2⟩
      · rw [if_neg (old h i h1)]; exact v.self h i h1
      · rw [if_pos ⟨h1, h2⟩, h1, hx, if_pos rfl]; omega
    · intro h i g
      rw [hW]; split
      · have := v.pos g; have := hle g; omega
      · exact v.lo h i g
    · intro h i g hi
      rw [hW]
      rcases new h i hi with h1 | ⟨h1, h2⟩
      · rw [if_neg (old h i h1)]; have := v.hi h i g h1; have := hle g; omega
      · rw [if_pos ⟨h1, h2⟩]; exact Int.le_refl _
    · intro h i g hi
      have hi0 : (i : Int) < nth x h := by
        rcases new h (i + 1) (by omega) with h1 | ⟨h1, h2⟩
        · omega
        · subst h1; omega
      rw [hW, if_neg (old h i hi0), hW]
      split
      · have := v.hi h i g hi0; have := hle g; omega
      · rename_i e
        rcases new h (i + 1) (by omega) with h1 | h1
        · exact v.own h i g (by omega)
        · exact absurd h1 e
    · intro y hy hr
      have := hle y.f.toNat
      rcases oldN y hy hr with h1 | ⟨_, _, h1⟩
      · have := v.sent y hy h1; omega
      · omega
    · intro y hy hr g
      obtain ⟨f0, f1, t0, t1, ne, s0, s1, r0, r1⟩ := P.notes y hy
      rcases oldN y hy hr with h1 | ⟨h1, h2, h3⟩
      · have h4 := v.sent y hy h1
        rw [hW, if_neg (old _ _ (by omega)), hW, if_neg (old _ _ (by omega))]
        exact v.note y hy h1 g
      · rw [hW, if_neg (old _ _ (by omega)), hW, if_pos ⟨h1, by omega⟩]
        have := v.hi y.f.toNat (y.s.toNat - 1) g (by omega)
        have := hle g; omega
    · intro h g hne i j hi hj
      rw [hW, hW]
      rcases new h i hi with h1 | ⟨h1, h2⟩
      · rw [if_neg (old h i h1)]
        rcases new g j hj with k1 | ⟨k1, k2⟩
        · rw [if_neg (old g j k1)]; exact v.diff h g hne i j h1 k1
        · have := v.hi h i g h1
          subst k1; omega
      · rcases new g j hj with k1 | ⟨k1, k2⟩
        · rw [if_neg (old g j k1)]
          have := v.hi g j h k1
          subst h1; omega
        · omega
theorem good_of_reach (c : Clocks D N K) (r : Reach D N D) : badAll K D.length 0 = false := by
  obtain ⟨V, v⟩ := sched c.P r
  have S : Super D N V := by
    refine ⟨fun h i hi => by rw [v.self h i hi]; omega, v.lo, fun h i g hi => v.own h i g hi, fun x hx g => v.note x hx (c.P.notes x hx).r1 g⟩
  have low : ∀ (h i : Nat), h < D.length → (i : Int) < nth D h → ∀ g, kn K h i g ≤ V h i g := fun h i hh hi g => c.I.low V S h i (c.in hh hi) g
  have self : ∀ (h i : Nat), h < D.length → (i : Int) < nth D h → kn K h i h = (i : Int) + 1 := by
    intro h i hh hi
    have := low h i hh hi h
    rw [v.self h i hi] at this
    have := c.I.unit h i (c.in hh hi)
    show nth _ _ = _
    simp only [kn] at *; omega
  cases hb : badAll K D.length 0 with
  | false => rfl
  | true =>
    exfalso
    simp only [badAll, List.any_eq_true, List.mem_range'_1, badRow, Bool.or_eq_true, Bool.not_eq_true', decide_eq_false_iff_not, badIn, Bool.and_eq_true, decide_eq_true_eq] at hb
    obtain ⟨h, hh, i, hi, hb⟩ := hb
    have hh' : h < D.length := by omega
    have hrow := c.I.rows h hh'
    have hi' : (i : Int) < nth D h := by omega
    rcases hb with hb | ⟨g, hg, hne, hm⟩
    · exact hb (self h i hh' hi')
    · have hg' : g < D.length := by omega
      have hrow2 := c.I.rows g hg'
      obtain ⟨j, hj, e⟩ := List.getElem_of_mem hm
      have hj' : (j : Int) < nth D g := by omega
      have e2 : cth (kth K g) j = cth (kth K h) i := by rw [← e]; simp [cth, List.getD, List.getElem?_eq_getElem hj]
      refine v.diff h g (fun x => hne x.symm) i j hi' hj' ⟨?_, ?_⟩
      · have a := self h i hh' hi'
        have b := low g j hg' hj' h
        simp only [kn] at a b; rw [e2] at b; omega
      · have a := self g j hg' hj'
        have b := low h i hh' hi' g
        simp only [kn] at a b; rw [← e2] at b; omega
theorem stuck_exists (L : Lims D N) : ∀ (k : Nat) (x : List Int), Reach D N x → (D.sum - x.sum).toNat ≤ k → ∃ y, Reach D N y ∧ Stuck D N y := by
  intro k
  induction k with
  | zero =>
    intro x r hk
    refine ⟨x, r, fun h s => ?_⟩
    have r2 := Reach.step r s
    have b := r.box L.lo
    have b2 := r2.box L.lo
    have hs := s.1
    have := sum_set x h (nth x h + 1) (by have := b.len; omega)
    have := sum_le _ _ b2.len b2.hi
    omega
  | succ k ih =>
    intro x r hk
    by_cases hst : Stuck D N x
    · exact ⟨x, r, hst⟩
    · have : ∃ h, Step D N x h := Classical.byContradiction fun hh => hst fun h s => hh ⟨h, s⟩
      obtain ⟨h, s⟩ := this
      have b := r.box L.lo
      have hs := s.1
      have := sum_set x h (nth x h + 1) (by have := b.len; omega)
      exact ih _ (Reach.step r s) (by omega)
theorem sum_eq : ∀ (a b : List Int), a.length = b.length → (∀ i, nth a i ≤ nth b i) → b.sum ≤ a.sum → a = b
  | [], [], _, _, _ => rfl
  | x :: a, y :: b, hl, h, hs => by
    have h0 := h 0
    have ht : ∀ i, nth a i ≤ nth b i := fun i => by simpa [nth_cons1] using h (i + 1)
    have := sum_le a b (by simpa using hl) ht
    simp only [nth_cons0] at h0
    simp only [List.sum_cons] at hs
    have e1 : x = y := by omega
    rw [e1, sum_eq a b (by simpa using hl) ht (by omega)]
theorem reach_of_good (c : Clocks D N K) (hb : badAll K D.length 0 = false) : Reach D N D := by
  obtain ⟨y, r, st⟩ := stuck_exists c.P.L _ _ (Reach.zero (D := D) (N := N)) (Nat.le_refl _)
  have b := r.box c.P.L.lo
  have none : ∀ (k h : Nat), h < D.length → nth y h < nth D h → ((cth (kth K h) (nth y h).toNat).sum).toNat ≤ k → False := by
    intro k
    induction k with
    | zero => ?_
    | succ k ih => ?_
    all_goals
      intro h hh hlt hk
      have hny : readyL N y h = false := by
        cases e : readyL N y h with
        | false => rfl
        | true => exact absurd ⟨hh, hlt, e⟩ (st h)
      have p0 := b.lo h
      simp only [readyL, List.all_eq_false] at hny
      obtain ⟨x, hx, e⟩ := hny
      obtain ⟨f0, f1, t0, t1, ne, s0, s1, r0, r1⟩ := c.P.notes x hx
      have e' : x.t = (h : Int) ∧ x.r = nth y h + 1 ∧ nth y x.f.toNat < x.s := by
        simpa [readyOk] using e
      obtain ⟨e1, e2, e3⟩ := e'
      have pf := b.lo x.f.toNat
      have m1 := fun g => c.note hx g
      have m2 := fun g => c.mono (h := x.f.toNat) (by omega) g (x.s.toNat - 1 - (nth y x.f.toNat).toNat) (nth y x.f.toNat).toNat (by omega)
      have ei : (nth y x.f.toNat).toNat + (x.s.toNat - 1 - (nth y x.f.toNat).toNat) = x.s.toNat - 1 := by omega
      rw [ei] at m2
      have et : x.t.toNat = h := by omega
      have er : x.r.toNat - 1 = (nth y h).toNat := by omega
      rw [et, er] at m1
      have le : ∀ g, kn K x.f.toNat (nth y x.f.toNat).toNat g ≤ kn K h (nth y h).toNat g := fun g => Int.le_trans (m2 g) (m1 g)
      have in1 := c.in (h := h) (i := (nth y h).toNat) hh (by omega)
      have in2 := c.in (h := x.f.toNat) (i := (nth y x.f.toNat).toNat) (by omega) (by omega)
      have l1 := c.F h _ (cth_mem in1)
      have l2 := c.F x.f.toNat _ (cth_mem in2)
      have pos2 : ∀ g, 0 ≤ nth (cth (kth K x.f.toNat) (nth y x.f.toNat).toNat) g := c.I.pos _ _ in2
      have sle := sum_le _ _ (by rw [l2, l1]) le
      have s0' : 0 ≤ (cth (kth K x.f.toNat) (nth y x.f.toNat).toNat).sum := by
        have := sum_le [0, 0, 0, 0] _ (by rw [l2]; rfl) (fun i => by have := pos2 i; have z : nth [0, 0, 0, 0] i = 0 := nth_zero' 4 i; omega)
        simpa using this
      by_cases eq : (cth (kth K h) (nth y h).toNat).sum ≤ (cth (kth K x.f.toNat) (nth y x.f.toNat).toNat).sum
      · have e4 := sum_eq _ _ (by rw [l2, l1]) le eq
        rw [← Bool.not_eq_true] at hb
        apply hb
        simp only [badAll, List.any_eq_true, List.mem_range'_1, badRow, Bool.or_eq_true, Bool.not_eq_true', decide_eq_false_iff_not, badIn, Bool.and_eq_true, decide_eq_true_eq]
        refine ⟨h, by omega, (nth y h).toNat, by omega, .inr ⟨x.f.toNat, by omega, by omega, ?_⟩⟩
        rw [← e4]; exact cth_mem in2
      · first
          | exact ih x.f.toNat (by omega) (by omega) (by omega)
          | omega
  have e : y = D := ext_nth b.len fun i => by
    have h1 := b.hi i
    rcases Nat.lt_or_ge i D.length with h2 | h2
    · rcases Int.lt_or_eq_of_le h1 with h3 | h3
      · exact absurd (none _ i h2 h3 (Nat.le_refl _)) id
      · exact h3
    · rw [nth_out h2, nth_out (by have := b.len; omega)]
  rw [e] at r; exact r
end
end Go.Proofs.Ytdkmepjedjclkaa

/-
  THE PLAIN LAW (2): the program's consistent cuts are the reference's. Conditions: none.
-/
namespace Go.Proofs.Ytdkmepjedjclkaa
open Go.AM
open Go.Proofs.Try (prog)
set_option linter.all false
set_option maxRecDepth 10000
section
variable {D : List Int} {N : List Note} {K : List (List (List Int))}
def In (K : List (List (List Int))) (c : List Int) (n h : Nat) : Prop := ∀ g, h ≤ g → g < n → 0 < nth c g → ∀ q, kn K g ((nth c g).toNat - 1) q ≤ nth c q
theorem forthR_ge (F : ∀ h, Four (kth K h)) {c : List Int} {n : Nat} (hi : ∀ h, h < n → nth c h ≤ (kth K h).length) : ∀ (k h : Nat) (out : List Int), h + k ≤ n → out.length = 4 → ∀ q, nth out q ≤ nth (forthR K c k h out) q
  | 0, _, _, _, ho, _ => Int.le_refl _
  | k + 1, h, out, hk, ho, q => by
    simp only [forthR]
    by_cases h2 : 0 < nth c h
    · have h3 := hi h (by omega)
      have h4 : (clk K h ((nth c h).toNat - 1)).length = 4 := F h _ (cth_mem (by omega))
      rw [if_pos h2]
      have h5 := forthR_ge F hi k (h + 1) (zmax out (clk K h ((nth c h).toNat - 1))) (by omega) (zmax_len ho h4) q
      rw [nth_zmax (by omega)] at h5
      omega
    · rw [if_neg h2]; exact forthR_ge F hi k (h + 1) _ (by omega) ho q
theorem forthR_iff (F : ∀ h, Four (kth K h)) {c : List Int} {n : Nat} (hc : c.length = 4) (hi : ∀ h, h < n → nth c h ≤ (kth K h).length) : ∀ (k h : Nat), h + k = n → (forthR K c k h c = c ↔ In K c n h)
  | 0, h, hk => ⟨fun _ g h1 h2 => by omega, fun _ => rfl⟩
  | k + 1, h, hk => by
    simp only [forthR]
    have ih := forthR_iff F hc hi k (h + 1) (by omega)
    by_cases h2 : 0 < nth c h
    · have h3 := hi h (by omega)
      have h4 : (clk K h ((nth c h).toNat - 1)).length = 4 := F h _ (cth_mem (by omega))
      rw [if_pos h2]
      have hz := fun q => nth_zmax (a := c) (b := clk K h ((nth c h).toNat - 1)) (by omega) q
      have hzl : (zmax c (clk K h ((nth c h).toNat - 1))).length = 4 := zmax_len hc h4
      constructor
      · intro e
        have ge := forthR_ge F hi k (h + 1) _ (by omega) hzl
        rw [e] at ge
        have ez : zmax c (clk K h ((nth c h).toNat - 1)) = c := ext_nth (by omega) fun q => by have := ge q; have := hz q; omega
        rw [ez] at e
        intro g g1 g2 g3 q
        rcases Nat.lt_or_ge h g with h5 | h5
        · exact ih.1 e g h5 g2 g3 q
        · have : g = h := by omega
          subst this
          have := hz q; rw [ez] at this
          show nth (clk K g _) q ≤ _
          omega
      · intro a
        have ez : zmax c (clk K h ((nth c h).toNat - 1)) = c := ext_nth (by omega) fun q => by
          have := a h (Nat.le_refl _) (by omega) h2 q
          rw [hz]
          show max (nth c q) (kn K h _ q) = _
          omega
        rw [ez]
        exact ih.2 fun g g1 g2 => a g (by omega) g2
    · rw [if_neg h2, ih]
      constructor
      · intro a g g1 g2 g3
        rcases Nat.lt_or_ge h g with h5 | h5
        · exact a g h5 g2 g3
        · have : g = h := by omega
          subst this; exact absurd g3 h2
      · intro a g g1 g2; exact a g (by omega) g2
theorem nth_take {l : List Int} {n i : Nat} (h : i < n) : nth (l.take n) i = nth l i := by simp [nth, List.getD, List.getElem?_take, h]
theorem conR_iff {c : List Int} : conR N c = true ↔ ∀ x ∈ N, x.r ≤ nth c x.t.toNat → x.s ≤ nth c x.f.toNat := by
  simp only [conR, List.all_eq_true, noteOk]
  constructor
  · intro h x hx hr
    have := h x hx
    simp [hr] at this; exact this
  · intro h x hx
    by_cases q : x.r ≤ nth c x.t.toNat
    · have := h x hx q
      simp [q]; omega
    · simp [q]
theorem in_iff (k : Clocks D N K) {c : List Int} (hc : IsCut D.length (pad D) c) : forthL K D.length c = c ↔ conR N (c.take D.length) = true := by
  have hD : ∀ h, nth c h ≤ nth D h := fun h => by have := hc.hi h; rw [nth_pad] at this; exact this
  have hi : ∀ h, h < D.length → nth c h ≤ (kth K h).length := fun h hh => by rw [k.I.rows h hh]; exact hD h
  rw [forthL, forthR_iff k.F hc.len hi _ 0 (by omega), conR_iff]
  constructor
  · intro a x hx hr
    obtain ⟨f0, f1, t0, t1, ne, s0, s1, r0, r1⟩ := k.P.notes x hx
    rw [nth_take (by omega)] at hr ⊢
    have h1 := a x.t.toNat (by omega) (by omega) (by omega) x.f.toNat
    have h2 := k.mono (h := x.t.toNat) (by omega) x.f.toNat ((nth c x.t.toNat).toNat - x.r.toNat) (x.r.toNat - 1) (by have := hD x.t.toNat; omega)
    rw [show x.r.toNat - 1 + ((nth c x.t.toNat).toNat - x.r.toNat) = (nth c x.t.toNat).toNat - 1 by omega] at h2
    have h3 := k.note hx x.f.toNat
    have h4 := k.I.unit x.f.toNat (x.s.toNat - 1) (k.in (by omega) (by omega))
    have h4' : ((x.s.toNat - 1 : Nat) : Int) + 1 ≤ kn K x.f.toNat (x.s.toNat - 1) x.f.toNat := h4
    omega
  · intro a g _ hg hpos q
    let V : Nat → Nat → Nat → Int := fun h i q => if (i : Int) < nth c h then nth c q else nth D q
    have hV : ∀ h i q, V h i q = if (i : Int) < nth c h then nth c q else nth D q := fun _ _ _ => rfl
    have S : Super D N V := by
      refine ⟨fun h i h1 => ?_, fun h i g => ?_, fun h i g h1 => ?_, fun x hx g => ?_⟩
      · rw [hV]; split <;> omega
      · rw [hV]; split
        · exact hc.lo g
        · exact k.P.L.lo g
      · rw [hV, hV]
        have := hD g
        split <;> split <;> omega
      · obtain ⟨f0, f1, t0, t1, ne, s0, s1, r0, r1⟩ := k.P.notes x hx
        have h1 := a x hx
        rw [nth_take (by omega), nth_take (by omega)] at h1
        rw [hV, hV]
        have := hD g
        split <;> split <;> omega
    have h1 := k.I.low V S g ((nth c g).toNat - 1) (k.in hg (by have := hD g; omega)) q
    rw [hV, if_pos (by omega)] at h1
    exact h1
theorem enumR_take {D4 : List Int} : ∀ (k h : Nat) (c : List Int), ∀ x ∈ enumR D4 k h c, x.take h = c.take h ∧ x.length = c.length
  | 0, h, c, x, hx => by simp [enumR] at hx; subst hx; exact ⟨rfl, rfl⟩
  | k + 1, h, c, x, hx => by
    simp only [enumR, List.mem_flatMap, List.mem_range] at hx
    obtain ⟨i, hi, hx⟩ := hx
    obtain ⟨a, b⟩ := enumR_take k (h + 1) _ x hx
    refine ⟨?_, by simpa using b⟩
    have := congrArg (List.take h) a
    rw [List.take_take, List.take_take, Nat.min_eq_left (by omega)] at this
    rw [this, List.take_set_of_le (Nat.le_refl h)]
theorem enumR_tuples {D4 : List Int} : ∀ (E : List Int) (h : Nat) (c : List Int), h + E.length ≤ c.length → (∀ i, i < E.length → nth D4 (h + i) = nth E i) →
    (enumR D4 E.length h c).map (fun x => (x.drop h).take E.length) = tuplesL E
  | [], h, c, _, _ => by simp [enumR, tuplesL]
  | d :: E, h, c, hl, hE => by
    have h0 := hE 0 (by simp)
    simp only [Nat.add_zero, nth_cons0] at h0
    simp only [List.length_cons, enumR, tuplesL, List.map_flatMap, h0]
    congr 1
    funext i
    have ih := enumR_tuples E (h + 1) (c.set h (i : Int)) (by simp at hl ⊢; omega) (fun j hj => by have := hE (j + 1) (by simpa using hj); rw [nth_cons1] at this; rw [← this]; congr 1; omega)
    rw [← ih, List.map_map]
    refine List.map_congr_left fun x hx => ?_
    obtain ⟨a, b⟩ := enumR_take _ _ _ x hx
    have hx : h < x.length := by rw [b]; simp at hl ⊢; omega
    have e : x[h] = (i : Int) := by
      have := congrArg (fun l : List Int => l[h]?) a
      simp only [List.getElem?_take, Nat.lt_succ_self, if_true] at this
      rw [List.getElem?_eq_getElem hx] at this
      simp at hl
      rw [List.getElem?_set_self (by omega)] at this
      simpa using this
    simp only [Function.comp]
    rw [List.drop_eq_getElem_cons hx, List.take_succ_cons, e]
theorem allL_eq (k : Clocks D N K) : (allL (pad D) K D.length).map (fun c => c.take D.length) = cutsL D N := by
  have h4 := k.P.L.n4
  have e := enumR_tuples (D4 := pad D) D 0 [0, 0, 0, 0] (by simp; omega) (fun i _ => by rw [Nat.zero_add, nth_pad])
  simp only [List.drop_zero] at e
  rw [cutsL, ← e, allL, List.filter_map]
  congr 1
  refine List.filter_congr fun c hc => ?_
  have hz : IsCut D.length (pad D) [0, 0, 0, 0] := ⟨rfl, fun h => by have : nth [0, 0, 0, 0] h = 0 := nth_zero' 4 h; omega, fun h => by have : nth [0, 0, 0, 0] h = 0 := nth_zero' 4 h; have := k.P.L.lo h; rw [nth_pad]; omega⟩
  have hcut := enumR_cut (D := pad D) (fun h => by rw [nth_pad]; exact k.P.L.lo h) _ _ _ hz c hc
  have := in_iff k hcut
  simp only [Function.comp]
  cases hq : conR N (c.take D.length) with
  | true => simp [this.2 hq]
  | false => simp; intro h; rw [this.1 h] at hq; cases hq
end
end Go.Proofs.Ytdkmepjedjclkaa

/-
  BODIES OF FUNCTIONS OF THE PROGRAM AS SMALL OPERATIONS (written by gen.py; checked by the kernel against the program). Conditions: none.
-/
namespace Go.Proofs.Ytdkmepjedjclkaa
open Go.AM
open Go.Proofs.Try (prog)
set_option maxRecDepth 100000
set_option linter.all false
namespace l09_cut
noncomputable section
variable (K : List Item) (s : St)
def b : Code := (Try.f17.body).getD .skip
theorem hf : prog.funcs[17]? = some Try.f17 := by kernel_rfl
def r0 := findReg b 0
def r1 := findReg b 1
theorem b_eq : den prog ann 17 (.code b :: K) s = den prog ann 17 (.code r0 :: .code r1 :: .code .ret :: K) s := den_flat hf (l := [r0, r1, .ret]) (by kernel_rfl) K s
theorem r0_eq : den prog ann 17 (.code r0 :: K) s = mreg prog ann 17 none [] none [] [qA 1 frozenPtr 0,⟨some 2, none, .w false none fun s => newPtr s.m [.nils, .nils]⟩] K s := (den_reg hf _ K s).trans (by kernel_rfl)
theorem r1_draw : drawOk (fun g => (ann g).pure) (modeOf (ann 17) (idOf r1)) (frzOf (ann 17) (idOf r1)) (opsOf r1) = true := drawOk_of (an := [0, 0, 2, 0, 8, 24, 56, 126, 255, 0, 0, 1024, 0, 4096, 12288, 28672, 64512, 131071, 262143, 524287]) (by kernel_rfl) (by kernel_rfl)
theorem r1_eq : den prog ann 17 (.code r1 :: K) s = mreg prog ann 17 none [] (some 20) [] [qF 3 fun s => bslF 0 (bslA 1 0 [.int .i64 0] []),qA 4 (fieldA 0) 1,qA 5 (loadF false 1) 4,qA 6 (fieldA 0) 1,qA 7 (loadF false 1) 6,qA 8 lenSl 7,qF 9 fun s => foldA min2A (s.get 8) [(.int .i64 5)],qF 10 fun s => sliceSl 1 (s.get 5) none (some (s.get 9)),qB 11 (appV 1 8) 3 10,qF 12 fun s => bslF 0 (bslA 4 0 [.int .i64 0, .int .i64 0, .int .i64 0, .int .i64 0] []),qA 13 (fieldA 1) 1,qA 14 (loadF false 1) 13,qA 15 (fieldA 1) 1,qA 16 (loadF false 1) 15,qA 17 lenSl 16,qF 18 fun s => foldA min2A (s.get 17) [(.int .i64 25)],qF 19 fun s => sliceSl 4 (s.get 14) none (some (s.get 18)),qB 20 (appV 4 32) 12 19,qF 21 fun s => bldA (plc [(0, 1), (1, 1)]) [.nils, .nils] [(0, (s.get 11)), (1, (s.get 20))],⟨none, none, .w false (some 19) fun s => stA true 2 s.m (s.get 2) (s.get 21)⟩] K s := (den_regD hf r1_draw K s).trans (by kernel_rfl)
theorem ret_eq : den prog ann 17 (.code .ret :: K) s = finM true [fun s => loadA true 2 s.m (s.get 2)] s := (den_ret hf K s).trans (by kernel_rfl)
theorem nil_eq (s : St) : den prog ann 17 [] s = finM true [fun s => loadA true 2 s.m (s.get 2)] s := (den_nil hf s).trans (by kernel_rfl)
theorem inBlock_eq (id : Nat) (K : List Item) (s : St) : den prog ann 17 (.inBlock id :: K) s = den prog ann 17 K s := den_inBlock hf id K s
theorem exit_eq (id : Nat) (K : List Item) (s : St) : den prog ann 17 (.code (.exit id) :: K) s = exitV prog ann 17 (exitTo id K) s := den_exitV hf id K s
theorem call_eq (v0 : AV) (m : Mem) (h : closedL [v0] = true) : denC prog ann 17 [v0] m = (den prog ann 17 [.code b] ⟨[(0, v0)], 22, Mem.empty⟩).bind fun r => some (r.1, m) := (denC_pure hf (b := b) (by kernel_rfl) (by kernel_rfl) (by kernel_rfl) h m).trans (by kernel_rfl)
theorem pure_eq : (ann 17).pure = true := by kernel_rfl
attribute [simp] b_eq r0_eq r1_eq ret_eq nil_eq inBlock_eq exit_eq pure_eq
end
end l09_cut
end Go.Proofs.Ytdkmepjedjclkaa

/-
  At, AND WHAT THE LAWS CALL. Conditions: none.
-/
namespace Go.Proofs.Ytdkmepjedjclkaa
open Go.AM
open Go.Proofs.Try (prog)
set_option linter.all false
set_option maxRecDepth 100000
theorem okV_story {D : List Int} {N : List Note} {K : List (List (List Int))} (P : Pre D N) (I : Inv D N K) (h4 : K.length = 4) (F : ∀ h, Four (kth K h)) (few : ∀ h, (kth K h).length ≤ 6) :
    IsStory (.fptr (.int .i64 D.length :: (ints (pad D) ++ vals4 K))) D.length (pad D) K := by
  have hs : ∀ h, IsSl ints (valK K h) (kth K h) := fun h => by
    by_cases e : kth K h = []
    · exact .inl ⟨by simp [valK, e], e⟩
    · exact .inr ⟨false, by simp [valK, e]⟩
  refine ⟨⟨vals4 K, rfl, rfl, fun h hh => ?_⟩, pad_len P.L.n4, P.L.n4, P.L.n1, F, few, fun h hh => by rw [nth_pad]; exact I.rows h hh, fun h hh => by rw [nth_pad]; exact nth_out hh, fun h => by rw [nth_pad]; exact P.L.lo h⟩
  match h, hh with
  | 0, _ => exact hs 0
  | 1, _ => exact hs 1
  | 2, _ => exact hs 2
  | 3, _ => exact hs 3
theorem IsStory.closed {v : AV} {n : Nat} {D : List Int} {K : List (List (List Int))} (s : IsStory v n D K) : v.closed = true := by obtain ⟨V, rfl, _⟩ := s.V; rfl
theorem IsStory.one {v : AV} {n : Nat} {D : List Int} {K : List (List (List Int))} (s : IsStory v n D K) : v.one = true := by obtain ⟨V, rfl, _⟩ := s.V; rfl
theorem pure_any {f : Nat} {a : List AV} {X : Option Res} {v : AV} {m0 : Mem} (h : ∀ m, denC prog ann f a m = X.bind fun r => some (r.1, m)) (e : denC prog ann f a m0 = some (v, m0)) : ∀ m, denC prog ann f a m = some (v, m) := by
  intro m
  rw [h] at e ⊢
  obtain ⟨q, h3, h4⟩ := Option.bind_eq_some_iff.1 e
  rw [h3]
  simp at h4 ⊢
  exact h4
theorem ValidS.pre {D : List Int} {N : List Note} (v : ValidS D N) : Pre D N := ⟨v.lims, v.notes⟩
theorem Pre.valid {D : List Int} {N : List Note} (P : Pre D N) (r : Reach D N D) : ValidS D N := ⟨P.L.n1, P.L.n4, P.L.lo, P.L.hi, P.L.N24, P.notes, r⟩
inductive IsRead (D : List Int) (N : List Note) : AV → Prop where
  | ok {sv : AV} {K : List (List (List Int))} (v : ValidS D N) (k : Clocks D N K) (s : IsStory sv D.length (pad D) K) : IsRead D N (.tup [sv, .bool true])
  | no (h : ¬ ValidS D N) : IsRead D N (.tup [.nilp, .bool false])
theorem readV_spec {v : AV} {D : List Int} {N : List Note} (hs : IsTale v D N) (hl : D.length < 100000) (hn : N.length < 100000) : ∃ r, IsRead D N r ∧ ∀ m, denC prog ann 61 [v] m = some (r, m) := by
  obtain ⟨r, h, e⟩ := read_spec hs hl hn
  refine ⟨r, ?_, e⟩
  rcases h with ⟨P, K, I, C, h4, F, few, rfl⟩ | ⟨h, rfl⟩
  · have k : Clocks D N K := ⟨P, I, C, F⟩
    cases hb : badAll K D.length 0 with
    | true =>
      refine .no fun v => ?_
      rw [good_of_reach k v.all] at hb; cases hb
    | false => exact .ok (P.valid (reach_of_good k hb)) k (okV_story P I h4 F few)
  · exact .no fun v => h v.pre
theorem app_ints {v : AV} {l : List Int} (h : IsInts v l) (hl : l.length ≤ 1000000) : ∃ v', appV 1 8 (.fsl true 0 []) v = some v' ∧ IsInts v' l := by
  rcases h with ⟨rfl, rfl⟩ | ⟨ex, rfl⟩
  · exact ⟨_, appV_nothing 1 8 (by omega), .inr ⟨true, rfl⟩⟩
  · obtain ⟨e, h⟩ := appV_some (size := 1) (by' := 8) (n := l.length) (ex := ex) (cs := ints l) (by omega) (by simp) (by simp) (by simp [room]; omega)
    exact ⟨_, h, .inr ⟨e, rfl⟩⟩
theorem app_sl {α : Type} {f : α → List AV} {k b : Nat} {v : AV} {l : List α} (h : IsSl f v l) (hf : ∀ a, (f a).length = k) (hc : ∀ a, closedL (f a) = true) (hk : k ≠ 0) (hb : b ≤ 1000) (hl : l.length ≤ 1000000) : ∃ v', appV k b (.fsl true 0 []) v = some v' ∧ IsSl f v' l := by
  rcases h with ⟨rfl, rfl⟩ | ⟨ex, rfl⟩
  · exact ⟨_, appV_nothing k b hk, .inr ⟨true, rfl⟩⟩
  · have : l.length * b ≤ 1000000 * 1000 := Nat.mul_le_mul hl hb
    obtain ⟨e, h⟩ := appV_some (size := k) (by' := b) (n := l.length) (ex := ex) (cs := flatC f l) hk (flatC_len fun a _ => hf a) (flatC_closedL hc l) (by simp [room]; omega)
    exact ⟨_, h, .inr ⟨e, rfl⟩⟩
theorem slice_ints {v : AV} {l : List Int} (h : IsInts v l) {j : Int} (h0 : 0 ≤ j) (h1 : j ≤ l.length) : ∃ v', sliceSl 1 v none (some (.int .i64 j)) = some v' ∧ IsInts v' (l.take j.toNat) := by
  rcases h with ⟨rfl, rfl⟩ | ⟨ex, rfl⟩
  · have : j = 0 := by simp at h1; omega
    subst this
    exact ⟨.nils, by simp [sliceSl, bnds, bnd], .inl ⟨rfl, by simp⟩⟩
  · refine ⟨.fsl (ex && j.toNat == l.length) j.toNat (ints (l.take j.toNat)), by simp [sliceSl, bnds, bnd, h0, h1], .inr ⟨ex && j.toNat == l.length, by simp [show min j.toNat l.length = j.toNat by omega]⟩⟩
theorem slice_sl {α : Type} {f : α → List AV} {k : Nat} {v : AV} {l : List α} (h : IsSl f v l) (hf : ∀ a, (f a).length = k) {j : Int} (h0 : 0 ≤ j) (h1 : j ≤ l.length) : ∃ v', sliceSl k v none (some (.int .i64 j)) = some v' ∧ IsSl f v' (l.take j.toNat) := by
  rcases h with ⟨rfl, rfl⟩ | ⟨ex, rfl⟩
  · have : j = 0 := by simp at h1; omega
    subst this
    exact ⟨.nils, by simp [sliceSl, bnds, bnd], .inl ⟨rfl, by simp⟩⟩
  · refine ⟨.fsl (ex && j.toNat == l.length) j.toNat (flatC f (l.take j.toNat)), ?_, .inr ⟨ex && j.toNat == l.length, by simp [show min j.toNat l.length = j.toNat by omega]⟩⟩
    simp [sliceSl, bnds, bnd, h0, h1, flatC_take j.toNat (fun a _ => hf a)]
theorem take_min {α : Type} (l : List α) (n : Nat) : l.take (min (l.length : Int) n).toNat = l.take n := by
  rcases Nat.le_total l.length n with h | h
  · rw [List.take_of_length_le h, List.take_of_length_le (by omega)]
  · rw [show (min (l.length : Int) n).toNat = n by omega]
theorem cut_spec {v : AV} {D : List Int} {N : List Note} (hs : IsTale v D N) (hD : (D.length : Int) ≤ 9223372036854775807) (hN : (N.length : Int) ≤ 9223372036854775807) :
    ∃ v', IsTale v' (D.take 5) (N.take 25) ∧ ∀ m, denC prog ann 17 [v] m = some (v', m) := by
  obtain ⟨vD, vN, rfl, h1, h2⟩ := hs.ex
  obtain ⟨w1, a1, a2⟩ := slice_ints h1 (j := min (D.length : Int) 5) (by omega) (by omega)
  obtain ⟨w2, b1, b2⟩ := slice_sl (k := 4) h2 (fun _ => rfl) (j := min (N.length : Int) 25) (by omega) (by omega)
  have e1 := take_min D 5
  have e2 := take_min N 25
  simp only [Int.cast_ofNat_Int] at e1 e2
  rw [e1] at a2
  rw [e2] at b2
  obtain ⟨x1, c1, c2⟩ := app_ints a2 (by simp; omega)
  obtain ⟨x2, d1, d2⟩ := app_sl (k := 4) (b := 32) b2 (fun _ => rfl) (fun _ => rfl) (by omega) (by omega) (by simp; omega)
  refine ⟨.agg [x1, x2], ⟨x1, x2, rfl, c2, d2⟩, fun m => ?_⟩
  rw [l09_cut.call_eq _ _ (by simp [h1.closed, h2.closed])]
  simp [h1.one, h2.one, h1.closed, h2.closed, h1.len, h2.len, a1, b1, c1, d1, c2.one, d2.one, c2.cells, d2.cells, c2.closed, d2.closed, c2.deep, d2.deep]
  done
def isT (r : Option Res) : Bool := match r with
  | some (.bool b, _) => b
  | _ => false
theorem lives_run : isT (callN prog ann 3000 22 [] Mem.empty) = true := by kernel_rfl
@[simp] theorem lives_pure : (ann 22).pure = true := by kernel_rfl
theorem f22_at : prog.funcs[22]? = some Try.f22 := by kernel_rfl
theorem f22_some : Try.f22.body.isSome = true := by kernel_rfl
theorem lives_spec (m : Mem) : denC prog ann 22 [] m = some (.bool true, m) := by
  have hb : Try.f22.body = some (Try.f22.body.getD .skip) := by
    cases h : Try.f22.body with
    | none => have := f22_some; rw [h] at this; cases this
    | some b => rfl
  have e := fun m => denC_pure (P := prog) (A := ann) (f := 22) f22_at hb (by kernel_rfl) (by kernel_rfl) (show closedL [] = true from rfl) m
  have h := lives_run
  cases hr : callN prog ann 3000 22 [] Mem.empty with
  | none => rw [hr] at h; cases h
  | some r =>
    rw [hr] at h
    have h2 := denC_of_callN hr
    rw [e] at h2 ⊢
    obtain ⟨q, h3, h4⟩ := Option.bind_eq_some_iff.1 h2
    rw [h3]
    simp at h4
    subst h4
    match q, h with
    | (.bool true, _), _ => rfl
structure AtRes (D : List Int) (N : List Note) (rank : Int) (v : AV) (e : Int) : Prop where
  bad : ¬ ValidS D N → v = .nils ∧ e = 1
  none : ValidS D N → (rank < 0 ∨ (cutsL D N).length ≤ rank) → v = .nils ∧ e = 5
  ok : ValidS D N → 0 ≤ rank → rank < (cutsL D N).length → IsInts v ((cutsL D N).getD rank.toNat []) ∧ e = 0
end Go.Proofs.Ytdkmepjedjclkaa

/-
  BODIES OF FUNCTIONS OF THE PROGRAM AS SMALL OPERATIONS (written by gen.py; checked by the kernel against the program). Conditions: none.
-/
namespace Go.Proofs.Ytdkmepjedjclkaa
open Go.AM
open Go.Proofs.Try (prog)
set_option maxRecDepth 100000
set_option linter.all false
end Go.Proofs.Ytdkmepjedjclkaa

/-
  BODIES OF FUNCTIONS OF THE PROGRAM AS SMALL OPERATIONS (written by gen.py; checked by the kernel against the program). Conditions: none.
-/
namespace Go.Proofs.Ytdkmepjedjclkaa
open Go.AM
open Go.Proofs.Try (prog)
set_option maxRecDepth 100000
set_option linter.all false
end Go.Proofs.Ytdkmepjedjclkaa

/-
  CUTS AS ARGUMENTS: what is a cut, for the reference and for the program. Conditions: none.
-/
namespace Go.Proofs.Ytdkmepjedjclkaa
open Go.AM
open Go.Proofs.Try (prog)
set_option linter.all false
set_option maxRecDepth 100000
def boxB (l D : List Int) (k i : Nat) : Bool := (List.range' i k).all fun h => decide (0 ≤ nth l h) && decide (nth l h ≤ nth D h)
structure CutL (D l : List Int) : Prop where
  len : l.length = D.length
  lo : ∀ h, 0 ≤ nth l h
  hi : ∀ h, nth l h ≤ nth D h
def cutB (D l : List Int) : Bool := decide (l.length = D.length) && boxB l D D.length 0
end Go.Proofs.Ytdkmepjedjclkaa

/-
  THE PROGRAM's Back, Forth, Consistent, Rank. Conditions: none.
-/
namespace Go.Proofs.Ytdkmepjedjclkaa
open Go.AM
open Go.Proofs.Try (prog)
set_option linter.all false
set_option maxRecDepth 100000
def bk (K : List (List (List Int))) (c : List Int) (h : Nat) : Nat → Nat
  | 0 => 0
  | j + 1 => if zmax (clk K h j) c = c then j + 1 else bk K c h j
theorem bk_le (K : List (List (List Int))) (c : List Int) (h : Nat) : ∀ j, bk K c h j ≤ j
  | 0 => Nat.le_refl _
  | j + 1 => by rw [bk]; split; exact Nat.le_refl _; have := bk_le K c h j; omega
structure ConsRes (D : List Int) (N : List Note) (l : List Int) (b : Bool) (e : Int) : Prop where
  bad : ¬ ValidS D N → b = false ∧ e = 1
  form : ValidS D N → cutB D l = false → b = false ∧ e = 2
  ok : ValidS D N → cutB D l = true → b = conR N l ∧ e = 0
def rankOf (D : List Int) (N : List Note) (l : List Int) : Int := match (cutsL D N).findIdx? (fun x => l == x) with | some j => (j : Int) | none => -1
structure RankRes (D : List Int) (N : List Note) (l : List Int) (r : Int) (e : Int) : Prop where
  bad : ¬ ValidS D N → r = 0 ∧ e = 1
  form : ValidS D N → cutB D l = false → r = 0 ∧ e = 2
  none : ValidS D N → cutB D l = true → rankOf D N l < 0 → r = 0 ∧ e = 5
  ok : ValidS D N → cutB D l = true → 0 ≤ rankOf D N l → r = rankOf D N l ∧ e = 0
theorem allV {sv : AV} {D : List Int} {K : List (List (List Int))} (s : IsStory sv D.length (pad D) K) : ∃ av, (∀ m, denC prog ann 62 [sv] m = some (av, m)) ∧ IsSl ints av (allL (pad D) K D.length) := by
  obtain ⟨av, ea, ia⟩ := all_spec s Mem.empty
  exact ⟨av, pure_any (fun m => watch_story_all.call_eq _ m (by simp [s.closed])) ea, ia⟩
inductive MoveRes (move : List (List (List Int)) → Nat → List Int → List Int) (D : List Int) (N : List Note) (l : List Int) : AV → Int → Prop where
  | bad (h : ¬ ValidS D N) : MoveRes move D N l .nils 1
  | form (v : ValidS D N) (h : cutB D l = false) : MoveRes move D N l .nils 2
  | ok {K : List (List (List Int))} {r : AV} (v : ValidS D N) (h : cutB D l = true) (k : Clocks D N K) (hr : IsInts r ((move K D.length (pad l)).take D.length)) : MoveRes move D N l r 0
end Go.Proofs.Ytdkmepjedjclkaa

/-
  THE REFERENCE's Meet, Join, Below, First, Last, Back, Forth. Conditions: none.
-/
namespace Go.Proofs.Ytdkmepjedjclkaa
open Go.AM
open Go.Proofs.Try (prog)
set_option linter.all false
set_option maxRecDepth 100000
theorem maxR_loop {vx vy : AV} {x y : List Int} (hx : IsInts vx x) (hy : IsInts vy y) (he : x.length = y.length) (hl : x.length < 1000000) : ∀ (k i : Nat) (acc : List Int) (m : Mem), i + k = x.length → acc.length = i → m.h 0 = some (.cells (ints acc)) →
    r09_Join.L0 vx vy (.sl 0 1 0 i i) (.int .i64 i) m [.code r09_Join.r6, .code .ret] = some (.fsl false (acc ++ zmax (x.drop i) (y.drop i)).length (ints (acc ++ zmax (x.drop i) (y.drop i))), Mem.empty) := by
  intro k
  induction k with
  | zero =>
    intro i acc m h1 h2 h0
    have e : i = x.length := by omega
    rw [r09_Join.L0_eq]
    have hd : x.drop i = [] := List.drop_of_length_le (by omega)
    have hni : ¬ (i : Int) < x.length := by omega
    have hz : zmax (x.drop i) (y.drop i) = [] := by rw [hd]; simp [zmax]
    have h2' : acc.length = x.length := by omega
    have ht : (ints acc).take x.length = ints acc := List.take_of_length_le (by simp; omega)
    simp at ht
    rw [hz]
    simp [hx.len, hni, e, h0, h2', ht]
  | succ k ih =>
    intro i acc m h1 h2 h0
    have h3 : i < x.length := by omega
    have h4 : i < y.length := by omega
    have hw : IntKind.wrap .i64 ((i : Int) + 1) = (i : Int) + 1 := wrap_id (by omega) (by omega)
    have hz : acc ++ zmax (x.drop i) (y.drop i) = (acc ++ [max (nth x i) (nth y i)]) ++ zmax (x.drop (i + 1)) (y.drop (i + 1)) := by
      rw [drop_nth h3, drop_nth h4]
      simp [zmax]
    rw [hz, r09_Join.L0_eq]
    have hi := fun nx => ih (i + 1) (acc ++ [max (nth x i) (nth y i)]) ⟨upd m.h 0 (some (.cells (ints (acc ++ [max (nth x i) (nth y i)])))), nx⟩ (by omega) (by simp [h2]) (by simp)
    simp [h2] at hi
    have hr : ints acc ++ [AV.int .i64 (max (nth x i) (nth y i))] = ints (acc ++ [max (nth x i) (nth y i)]) := by simp [ints]
    have hroom : i ≤ 4611686018427387903 := by omega
    have hroom2 : (i + 1) * 8 ≤ 70368744177664 := by omega
    simp [hx.len, h3, hx.idx h3, hy.idx h4, ints_head h3, ints_head h4, h0, h2, hw, hroom, hroom2, hr, hi]
theorem maxR_spec {vx vy : AV} {x y : List Int} (hx : IsInts vx x) (hy : IsInts vy y) (he : x.length = y.length) (hl : x.length < 1000000) (m : Mem) :
    denC prog ann 29 [vx, vy] m = some (.fsl false (zmax x y).length (ints (zmax x y)), m) := by
  rw [r09_Join.call_eq _ _ _ (by simp [hx.closed, hy.closed])]
  have := maxR_loop hx hy he hl x.length 0 [] ⟨upd Mem.empty.h 0 (some (.cells [])), 1⟩ (by omega) rfl (by simp)
  simp at this
  simp [this]
def belowB (x y : List Int) : Bool := decide (zmin x y = x)
end Go.Proofs.Ytdkmepjedjclkaa

/-
  THE REFERENCE's First, Last, Back, Forth. Conditions: none.
-/
namespace Go.Proofs.Ytdkmepjedjclkaa
open Go.AM
open Go.Proofs.Try (prog)
set_option linter.all false
set_option maxRecDepth 100000
theorem tuplesL_row : ∀ {E : List Int}, ∀ x ∈ tuplesL E, x.length = E.length
  | [], x, hx => by simp [tuplesL] at hx; subst hx; rfl
  | d :: E, x, hx => by
    simp only [tuplesL, List.mem_flatMap, List.mem_map] at hx
    obtain ⟨j, _, y, hy, rfl⟩ := hx
    simp [tuplesL_row y hy]
theorem cutsL_row {D : List Int} {N : List Note} {x : List Int} (hx : x ∈ cutsL D N) : x.length = D.length := tuplesL_row x (List.mem_filter.1 hx).1
def firstL : List (List Int) → List Int
  | [] => []
  | x :: l => l.foldl zmin x
def lastL : List (List Int) → List Int
  | [] => []
  | x :: l => l.foldl zmax x
end Go.Proofs.Ytdkmepjedjclkaa

/-
  THE PLAIN LAW (3): Back and Forth are what the reference says. Conditions: none.
-/
namespace Go.Proofs.Ytdkmepjedjclkaa
open Go.AM
open Go.Proofs.Try (prog)
set_option linter.all false
set_option maxRecDepth 10000
theorem zmax_le {a b : List Int} (h : a.length = b.length) : zmax a b = b ↔ ∀ g, nth a g ≤ nth b g := by
  constructor
  · intro e g
    have := nth_zmax h g
    rw [e] at this; omega
  · intro e
    refine ext_nth (by simp [zmax, h]) fun g => ?_
    rw [nth_zmax h]; have := e g; omega
section
variable {D : List Int} {N : List Note} {K : List (List (List Int))}
theorem Clocks.clk4 (c : Clocks D N K) {h i : Nat} (hh : h < D.length) (hi : (i : Int) < nth D h) : (clk K h i).length = 4 := c.F h _ (cth_mem (c.in hh hi))
theorem Clocks.self (c : Clocks D N K) (r : Reach D N D) {h i : Nat} (hh : h < D.length) (hi : (i : Int) < nth D h) : kn K h i h = (i : Int) + 1 := by
  obtain ⟨V, v⟩ := sched c.P r
  have S : Super D N V := by
    refine ⟨fun h i hi => by rw [v.self h i hi]; omega, v.lo, fun h i g hi => v.own h i g hi, fun x hx g => v.note x hx (c.P.notes x hx).r1 g⟩
  have a := c.I.low V S h i (c.in hh hi) h
  rw [v.self h i hi] at a
  have b := c.I.unit h i (c.in hh hi)
  show nth _ _ = _
  omega
theorem Clocks.leD (c : Clocks D N K) {h i : Nat} (hh : h < D.length) (hi : (i : Int) < nth D h) (g : Nat) : kn K h i g ≤ nth D g :=
  c.I.low (fun _ _ g => nth D g) ⟨fun h i h1 => by omega, fun _ _ g => c.P.L.lo g, fun _ _ _ _ => Int.le_refl _, fun _ _ _ => Int.le_refl _⟩ h i (c.in hh hi) g
theorem bk_max (K : List (List (List Int))) (c : List Int) (h : Nat) {i : Nat} (hi : zmax (clk K h i) c = c) : ∀ j, i < j → i + 1 ≤ bk K c h j
  | 0, h1 => by omega
  | j + 1, h1 => by
    rw [bk]
    split
    · omega
    · rename_i q
      rcases Nat.lt_or_ge i j with h2 | h2
      · exact bk_max K c h hi j h2
      · have : i = j := by omega
        subst this; exact absurd hi q
theorem bk_at (K : List (List (List Int))) (c : List Int) (h : Nat) : ∀ j, 0 < bk K c h j → zmax (clk K h (bk K c h j - 1)) c = c
  | 0, h1 => by simp [bk] at h1
  | j + 1, h1 => by
    rw [bk] at h1 ⊢
    split
    · rename_i q; exact q
    · rename_i q
      rw [if_neg q] at h1
      exact bk_at K c h j h1
theorem Clocks.inD (c : Clocks D N K) {h i : Nat} (hi : (i : Int) < nth D h) : h < D.length := by
  rcases Nat.lt_or_ge h D.length with h1 | h1
  · exact h1
  · rw [nth_out h1] at hi; omega
theorem Clocks.trans (c : Clocks D N K) {h i q j : Nat} (hh : h < D.length) (hi : (i : Int) < nth D h) (hj : (j : Int) < kn K h i q) (g : Nat) : kn K q j g ≤ kn K h i g := by
  have hjD : (j : Int) < nth D q := by have := c.leD hh hi q; omega
  have hq := c.inD hjD
  have S : Super D N (fun h i q => (bk K (clk K h i) q (nth D q).toNat : Nat)) := by
    have mono : ∀ {h i h' i' : Nat}, (clk K h i).length = 4 → (clk K h' i').length = 4 → (∀ g, kn K h i g ≤ kn K h' i' g) → ∀ q, bk K (clk K h i) q (nth D q).toNat ≤ bk K (clk K h' i') q (nth D q).toNat := by
      intro h i h' i' l1 l2 le q
      rcases Nat.eq_zero_or_pos (bk K (clk K h i) q (nth D q).toNat) with e | e
      · omega
      · have a := bk_at K (clk K h i) q _ e
        have b := bk_le K (clk K h i) q (nth D q).toNat
        have hqi : ((bk K (clk K h i) q (nth D q).toNat - 1 : Nat) : Int) < nth D q := by have := c.P.L.lo q; omega
        have l3 := c.clk4 (c.inD hqi) hqi
        rw [zmax_le (by omega)] at a
        have := bk_max K (clk K h' i') q (i := bk K (clk K h i) q (nth D q).toNat - 1) ((zmax_le (by omega)).2 fun g => Int.le_trans (a g) (le g)) (nth D q).toNat (by omega)
        omega
    refine ⟨fun h i h1 => ?_, fun _ _ _ => by omega, fun h i g h1 => ?_, fun x hx g => ?_⟩
    · have l1 := c.clk4 (c.inD h1) h1
      have := bk_max K (clk K h i) h (i := i) ((zmax_le rfl).2 fun _ => Int.le_refl _) (nth D h).toNat (by omega)
      show (i : Int) + 1 ≤ ((bk K (clk K h i) h (nth D h).toNat : Nat) : Int)
      omega
    · have hh := c.inD h1
      have := mono (c.clk4 hh (i := i) (by omega)) (c.clk4 hh h1) (c.own hh h1) g
      exact Int.ofNat_le.2 this
    · obtain ⟨f0, f1, t0, t1, ne, s0, s1, r0, r1⟩ := c.P.notes x hx
      have := mono (c.clk4 (h := x.f.toNat) (i := x.s.toNat - 1) (by omega) (by omega)) (c.clk4 (h := x.t.toNat) (i := x.r.toNat - 1) (by omega) (by omega)) (c.note hx) g
      exact Int.ofNat_le.2 this
  have low := c.I.low _ S h i (c.in hh hi) q
  have low' : kn K h i q ≤ (bk K (clk K h i) q (nth D q).toNat : Nat) := low
  have a := bk_at K (clk K h i) q (nth D q).toNat (by omega)
  have b := bk_le K (clk K h i) q (nth D q).toNat
  have l1 := c.clk4 hh hi
  have hqi : ((bk K (clk K h i) q (nth D q).toNat - 1 : Nat) : Int) < nth D q := by omega
  rw [zmax_le (by rw [c.clk4 hq hqi, l1])] at a
  have m := c.mono hq g (bk K (clk K h i) q (nth D q).toNat - 1 - j) j (by omega)
  rw [show j + (bk K (clk K h i) q (nth D q).toNat - 1 - j) = bk K (clk K h i) q (nth D q).toNat - 1 by omega] at m
  exact Int.le_trans m (a g)
theorem mem_tuples : ∀ {E x : List Int}, (∀ d ∈ E, 0 ≤ d) → (x ∈ tuplesL E ↔ CutL E x)
  | [], x, _ => by
    simp only [tuplesL, List.mem_singleton]
    constructor
    · rintro rfl; exact ⟨rfl, fun h => by simp [nth], fun h => by simp [nth]⟩
    · intro h; exact List.length_eq_zero_iff.1 h.len
  | d :: E, x, hp => by
    simp only [tuplesL, List.mem_flatMap, List.mem_map, List.mem_range]
    have hd := hp d (by simp)
    constructor
    · rintro ⟨i, hi, y, hy, rfl⟩
      have h := (mem_tuples (fun e he => hp e (by simp [he]))).1 hy
      refine ⟨by simp [h.len], fun g => ?_, fun g => ?_⟩
      · cases g with
        | zero => rw [nth_cons0]; omega
        | succ g => rw [nth_cons1]; exact h.lo g
      · cases g with
        | zero => rw [nth_cons0, nth_cons0]; omega
        | succ g => rw [nth_cons1, nth_cons1]; exact h.hi g
    · intro h
      cases x with
      | nil => have := h.len; simp at this
      | cons a y =>
        have h0 := h.lo 0
        have h1 := h.hi 0
        rw [nth_cons0] at h0 h1
        rw [nth_cons0] at h1
        refine ⟨a.toNat, by omega, y, (mem_tuples (fun e he => hp e (by simp [he]))).2 ⟨by have := h.len; simpa using this, fun g => by have := h.lo (g + 1); rwa [nth_cons1] at this, fun g => by have := h.hi (g + 1); rwa [nth_cons1, nth_cons1] at this⟩, by rw [show ((a.toNat : Nat) : Int) = a by omega]⟩
theorem mem_cuts (L : Lims D N) {x : List Int} : x ∈ cutsL D N ↔ CutL D x ∧ conR N x = true := by
  rw [cutsL, List.mem_filter, mem_tuples (fun d hd => (L.all d hd).1)]
end
end Go.Proofs.Ytdkmepjedjclkaa

/-
  THE PLAIN LAW (4): Back and Forth. Conditions: none.
-/
namespace Go.Proofs.Ytdkmepjedjclkaa
open Go.AM
open Go.Proofs.Try (prog)
set_option linter.all false
set_option maxRecDepth 10000
section
variable {D : List Int} {N : List Note} {K : List (List (List Int))}
theorem zeros_cut (L : Lims D N) (P : Pre D N) : List.replicate D.length 0 ∈ cutsL D N := by
  refine (mem_cuts L).2 ⟨⟨by simp, fun h => by rw [nth_zero']; omega, fun h => by rw [nth_zero']; exact L.lo h⟩, ?_⟩
  rw [conR_iff]
  intro x hx hr
  have := (P.notes x hx).r0
  rw [nth_zero'] at hr; omega
theorem deeds_cut (P : Pre D N) : D ∈ cutsL D N := by
  refine (mem_cuts P.L).2 ⟨⟨rfl, P.L.lo, fun _ => Int.le_refl _⟩, ?_⟩
  rw [conR_iff]
  exact fun x hx _ => (P.notes x hx).s1
theorem take_out {c : List Int} {n g : Nat} (h : n ≤ g) : nth (c.take n) g = 0 := nth_out (by simp; omega)
end
end Go.Proofs.Ytdkmepjedjclkaa

/-
  A STORY MADE OF ARBITRARY NUMBERS (3): it is valid. Conditions: none.
-/
namespace Go.Proofs.Ytdkmepjedjclkaa
open Go.AM
open Go.Proofs.Try (prog)
set_option linter.all false
set_option maxRecDepth 100000
end Go.Proofs.Ytdkmepjedjclkaa

/-
  BODIES OF FUNCTIONS OF THE PROGRAM AS SMALL OPERATIONS (written by gen.py; checked by the kernel against the program). Conditions: none.
-/
namespace Go.Proofs.Ytdkmepjedjclkaa
open Go.AM
open Go.Proofs.Try (prog)
set_option maxRecDepth 100000
set_option linter.all false
end Go.Proofs.Ytdkmepjedjclkaa

/-
  CUTS OF A STORY THAT WAS MADE; Back and Forth of a valid story. Conditions: none.
-/
namespace Go.Proofs.Ytdkmepjedjclkaa
open Go.AM
open Go.Proofs.Try (prog)
set_option linter.all false
set_option maxRecDepth 100000
set_option maxHeartbeats 4000000
def bl (D : List Int) (N : List Note) (l : List Int) : List Int := lastL ((cutsL D N).filter fun x => belowB x l)
def fl (D : List Int) (N : List Note) (l : List Int) : List Int := firstL ((cutsL D N).filter fun x => belowB l x)
section
variable {v vl : AV} {D l : List Int} {N : List Note}
end
end Go.Proofs.Ytdkmepjedjclkaa

/-
  THE PLAIN LAW (5): the reference's clocks settle deed by deed, and are the program's. Conditions: none.
-/
namespace Go.Proofs.Ytdkmepjedjclkaa
open Go.AM
open Go.Proofs.Try (prog)
set_option linter.all false
set_option maxRecDepth 10000
section
variable {D : List Int} {N : List Note} {K : List (List (List Int))}
theorem kn_pos (c : Clocks D N K) (h i q : Nat) : 0 ≤ kn K h i q := by
  rcases Nat.lt_or_ge i (kth K h).length with h1 | h1
  · exact c.I.pos h i h1 q
  · have : cth (kth K h) i = [] := by simp [cth, List.getD, List.getElem?_eq_none h1]
    show 0 ≤ nth (cth (kth K h) i) q
    rw [this]; simp [nth]
theorem Clocks.super (c : Clocks D N K) : Super D N (fun h i q => kn K h i q) :=
  ⟨fun h i hi => c.I.unit h i (c.in (c.inD hi) hi), kn_pos c, fun h i g hi => c.own (c.inD hi) hi g, fun x hx g => c.note hx g⟩
theorem kn_le (c : Clocks D N K) {h i : Nat} (hi : (i : Int) < nth D h) {B : Nat → Int} (b0 : (i : Int) + 1 ≤ B h) (bp : ∀ q, 0 ≤ B q) (bo : 0 < i → ∀ q, kn K h (i - 1) q ≤ B q)
    (bn : ∀ x ∈ N, x.t.toNat = h → x.r.toNat - 1 = i → ∀ q, kn K x.f.toNat (x.s.toNat - 1) q ≤ B q) (q : Nat) : kn K h i q ≤ B q := by
  let V : Nat → Nat → Nat → Int := fun h' i' q => if h' = h ∧ i' = i then min (kn K h i q) (B q) else kn K h' i' q
  have hV : ∀ h' i' q, V h' i' q = if h' = h ∧ i' = i then min (kn K h i q) (B q) else kn K h' i' q := fun _ _ _ => rfl
  have S : Super D N V := by
    refine ⟨fun h' i' h1 => ?_, fun h' i' q => ?_, fun h' i' q h1 => ?_, fun x hx q => ?_⟩
    · have u : (i' : Int) + 1 ≤ kn K h' i' h' := c.I.unit h' i' (c.in (c.inD h1) h1)
      rw [hV]; split
      · rename_i e; obtain ⟨rfl, rfl⟩ := e; omega
      · exact u
    · have p1 := kn_pos c h' i' q
      have p2 := kn_pos c h i q
      have p3 := bp q
      rw [hV]; split <;> omega
    · have o := c.own (c.inD h1) h1 q
      rw [hV, hV]
      by_cases e1 : h' = h ∧ i' = i
      · obtain ⟨rfl, rfl⟩ := e1
        rw [if_pos ⟨rfl, rfl⟩, if_neg (by omega)]; omega
      · rw [if_neg e1]
        by_cases e2 : h' = h ∧ i' + 1 = i
        · rw [if_pos e2]
          obtain ⟨rfl, e3⟩ := e2
          have := bo (by omega) q
          rw [show i - 1 = i' by omega] at this
          rw [← e3]
          omega
        · rw [if_neg e2]; exact o
    · obtain ⟨f0, f1, t0, t1, ne, s0, s1, r0, r1⟩ := c.P.notes x hx
      have o := c.note hx q
      rw [hV, hV]
      by_cases e1 : x.f.toNat = h ∧ x.s.toNat - 1 = i
      · rw [if_pos e1, if_neg (by omega)]
        rw [e1.1, e1.2] at o
        omega
      · rw [if_neg e1]
        by_cases e2 : x.t.toNat = h ∧ x.r.toNat - 1 = i
        · rw [if_pos e2]
          have := bn x hx e2.1 e2.2 q
          rw [e2.1, e2.2] at o
          omega
        · rw [if_neg e2]; exact o
  have low := c.I.low V S h i (c.in (c.inD hi) hi) q
  rw [hV, if_pos ⟨rfl, rfl⟩] at low
  show nth _ _ ≤ _
  omega
structure RInv (D : List Int) (N : List Note) (C : List (List (List Int))) : Prop where
  len : C.length = D.length
  rows : ∀ h, h < D.length → ((kth C h).length : Int) = nth D h
  wid : ∀ h, ∀ c ∈ kth C h, c.length = D.length
  low : ∀ V, Super D N V → ∀ h i, i < (kth C h).length → ∀ g, kn C h i g ≤ V h i g
  unit : ∀ (h i : Nat), i < (kth C h).length → (i : Int) + 1 ≤ kn C h i h
  pos : ∀ h i, i < (kth C h).length → ∀ g, 0 ≤ kn C h i g
def Ge (C C' : List (List (List Int))) : Prop := ∀ h i q, kn C h i q ≤ kn C' h i q
theorem Ge.refl (C : List (List (List Int))) : Ge C C := fun _ _ _ => Int.le_refl _
theorem Ge.trans {A B C : List (List (List Int))} (h : Ge A B) (k : Ge B C) : Ge A C := fun a b c => Int.le_trans (h a b c) (k a b c)
theorem kn_grow {C : List (List (List Int))} {h i n : Nat} {c : List Int} (hh : h < C.length) (hi : i < (kth C h).length) (hw : (cth (kth C h) i).length = n) (hc : c.length = n) (g j q : Nat) : kn (growK C h i c) g j q = if g = h ∧ j = i then max (kn C h i q) (nth c q) else kn C g j q := by
  show nth (cth (kth (growK C h i c) g) j) q = _
  rw [growK, kth_set hh]
  by_cases e : g = h
  · subst e
    simp only [if_true, true_and]
    by_cases e2 : j = i
    · subst e2
      rw [if_pos rfl, ← nth_zmax (by omega)]
      congr 1
      simp [cth, List.getD, List.getElem?_set, hi]
    · rw [if_neg e2]
      have : ¬ i = j := fun x => e2 x.symm
      show nth _ _ = nth _ _
      congr 1
      simp [cth, List.getD, List.getElem?_set, this]
  · simp [e]
theorem RInv.grow {C : List (List (List Int))} (I : RInv D N C) {h i : Nat} (hh : h < D.length) (hi : i < (kth C h).length) {c : List Int} (hc : c.length = D.length) (hl : ∀ V, Super D N V → ∀ g, nth c g ≤ V h i g) : RInv D N (growK C h i c) ∧ Ge C (growK C h i c) ∧ ∀ q, nth c q ≤ kn (growK C h i c) h i q := by
  have hhC : h < C.length := by rw [I.len]; exact hh
  have hw := I.wid h _ (cth_mem hi)
  have e := kn_grow (n := D.length) hhC hi hw hc
  have hk := fun g => kth_set (K := C) (h := h) (g := g) (r := (kth C h).set i (zmax (cth (kth C h) i) c)) hhC
  have hkl : ∀ g, (kth (growK C h i c) g).length = (kth C g).length := by
    intro g; rw [growK, hk]; split
    · rename_i e; subst e; simp
    · rfl
  refine ⟨⟨by simp [growK, I.len], fun g hg => by rw [hkl]; exact I.rows g hg, fun g d hd => ?_, fun V hV g j hj q => ?_, fun g j hj => ?_, fun g j hj q => ?_⟩, fun g j q => ?_, fun q => ?_⟩
  · rw [growK, hk] at hd
    split at hd
    · rcases List.mem_or_eq_of_mem_set hd with h1 | h1
      · exact I.wid h d h1
      · rw [h1]; simp [zmax, hw, hc]
    · exact I.wid g d hd
  · rw [hkl] at hj
    rw [e]; split
    · rename_i e2; obtain ⟨rfl, rfl⟩ := e2
      have := I.low V hV g j hj q; have := hl V hV q; omega
    · exact I.low V hV g j hj q
  · rw [hkl] at hj
    rw [e]; split
    · rename_i e2; obtain ⟨rfl, rfl⟩ := e2
      have := I.unit g j hj; omega
    · exact I.unit g j hj
  · rw [hkl] at hj
    rw [e]; split
    · rename_i e2; obtain ⟨rfl, rfl⟩ := e2
      have := I.pos g j hj q; omega
    · exact I.pos g j hj q
  · rw [e]; split
    · rename_i e2; obtain ⟨rfl, rfl⟩ := e2; omega
    · exact Int.le_refl _
  · rw [e, if_pos ⟨rfl, rfl⟩]; omega
structure Round (D : List Int) (N : List Note) (C C' : List (List (List Int))) : Prop where
  inv : RInv D N C'
  ge : Ge C C'
  own : ∀ (h i : Nat), h < D.length → (i : Int) + 1 < nth D h → ∀ q, kn C h i q ≤ kn C' h (i + 1) q
  note : ∀ x ∈ N, ∀ q, kn C x.f.toNat (x.s.toNat - 1) q ≤ kn C' x.t.toNat (x.r.toNat - 1) q
def Settled (K C : List (List (List Int))) (x : List Int) : Prop := ∀ (h i : Nat), (i : Int) < nth x h → ∀ q, kn K h i q ≤ kn C h i q
theorem round_step (c : Clocks D N K) {C C' : List (List (List Int))} (R : Round D N C C') {x : List Int} (r : Reach D N x) {h0 : Nat} (s : Step D N x h0) (st : Settled K C x) : Settled K C' (x.set h0 (nth x h0 + 1)) := by
  have box := r.box c.P.L.lo
  obtain ⟨s1, s2, s3⟩ := s
  have p0 := box.lo h0
  intro h i hi q
  rw [nth_set] at hi
  by_cases e : h0 = h ∧ h0 < x.length
  · rw [if_pos e] at hi
    obtain ⟨rfl, _⟩ := e
    rcases Int.lt_or_le (i : Int) (nth x h0) with h1 | h1
    · exact Int.le_trans (st h0 i h1 q) (R.ge h0 i q)
    · have hiD : (i : Int) < nth D h0 := by omega
      have hin : i < (kth C' h0).length := by have := R.inv.rows h0 s1; omega
      refine kn_le c hiD (B := fun q => kn C' h0 i q) (R.inv.unit h0 i hin) (R.inv.pos h0 i hin) (fun hpos q => ?_) (fun y hy ht hr q => ?_) q
      · have a := st h0 (i - 1) (by omega) q
        have b := R.own h0 (i - 1) s1 (by omega) q
        rw [show i - 1 + 1 = i by omega] at b
        exact Int.le_trans a b
      · obtain ⟨f0, f1, t0, t1, ne, s0, s1', r0, r1⟩ := c.P.notes y hy
        simp only [readyL, List.all_eq_true] at s3
        have h3 := s3 y hy
        have e3 : y.t = (h0 : Int) := by omega
        have e4 : y.r = nth x h0 + 1 := by omega
        simp [readyOk, e3, e4] at h3
        have a := st y.f.toNat (y.s.toNat - 1) (by omega) q
        have b := R.note y hy q
        rw [ht, hr] at b
        exact Int.le_trans a b
  · rw [if_neg e] at hi
    exact Int.le_trans (st h i hi q) (R.ge h i q)
theorem round_next (c : Clocks D N K) (rD : Reach D N D) {C C' : List (List (List Int))} (R : Round D N C C') {x : List Int} (r : Reach D N x) (st : Settled K C x) : ∃ y, Reach D N y ∧ Settled K C' y ∧ (x.sum < D.sum → x.sum + 1 ≤ y.sum) ∧ x.sum ≤ y.sum := by
  have box := r.box c.P.L.lo
  by_cases hst : Stuck D N x
  · have e : x = D := ext_nth box.len fun i => Int.le_antisymm (box.hi i) (stuck_most box.len hst rD c.P.L.lo box.lo i)
    refine ⟨x, r, fun h i hi q => Int.le_trans (st h i hi q) (R.ge h i q), fun h => by rw [e] at h; omega, Int.le_refl _⟩
  · have : ∃ h, Step D N x h := Classical.byContradiction fun hh => hst fun h s => hh ⟨h, s⟩
    obtain ⟨h, s⟩ := this
    have hs := s.1
    have := sum_set x h (nth x h + 1) (by have := box.len; omega)
    exact ⟨_, Reach.step r s, round_step c R r s st, fun _ => by omega, by omega⟩
theorem settled_all (c : Clocks D N K) (rD : Reach D N D) {C : List (List (List Int))} {x : List Int} (r : Reach D N x) (st : Settled K C x) (hs : D.sum ≤ x.sum) : Settled K C D := by
  have box := r.box c.P.L.lo
  have e := sum_eq x D box.len box.hi hs
  rw [e] at st; exact st
theorem settled_eq (c : Clocks D N K) {C : List (List (List Int))} (I : RInv D N C) (st : Settled K C D) {h i : Nat} (hi : (i : Int) < nth D h) (q : Nat) : kn C h i q = kn K h i q := by
  have hh := c.inD hi
  have := I.rows h hh
  exact Int.le_antisymm (I.low _ c.super h i (by omega) q) (st h i hi q)
end
end Go.Proofs.Ytdkmepjedjclkaa

/-
  WatchCuts RETURNS TRUE. Conditions: none.
-/
namespace Go.Proofs.Ytdkmepjedjclkaa
open Go.AM
open Go.Proofs.Try (prog)
set_option linter.all false
set_option maxRecDepth 100000
end Go.Proofs.Ytdkmepjedjclkaa

/-
  BODIES OF FUNCTIONS OF THE PROGRAM AS SMALL OPERATIONS (written by gen.py; checked by the kernel against the program). Conditions: none.
-/
namespace Go.Proofs.Ytdkmepjedjclkaa
open Go.AM
open Go.Proofs.Try (prog)
set_option maxRecDepth 100000
set_option linter.all false
namespace r09_Clocks
noncomputable section
variable (K : List Item) (s : St)
def b : Code := (Try.f34.body).getD .skip
theorem hf : prog.funcs[34]? = some Try.f34 := by kernel_rfl
def r0 := findReg b 0
def r1 := findReg b 1
def r2 := findReg b 2
def k0 := findBlk b 0
def l0 := loopOf k0
def L0 (x1 x3 x4 : AV) (m : Mem) (K : List Item) : Option Res := den prog ann 34 (.code l0 :: .inLoop l0 :: .inBlock 0 :: K) ⟨[(1, x1), (3, x3), (4, x4)], 138, m⟩
def r3 := findReg b 3
def i0 := findCond b 0
def i0t := thenOf i0
def i0e := elseOf i0
def k1 := findBlk b 1
def r5 := findReg b 5
def r6 := findReg b 6
def k2 := findBlk b 2
def l2 := loopOf k2
def L2 (x1 x3 x4 x5 x6 : AV) (m : Mem) (K : List Item) : Option Res := den prog ann 34 (.code l2 :: .inLoop l2 :: .inBlock 2 :: K) ⟨[(1, x1), (3, x3), (4, x4), (5, x5), (6, x6)], 138, m⟩
def r7 := findReg b 7
def i1 := findCond b 1
def i1t := thenOf i1
def i1e := elseOf i1
def k3 := findBlk b 3
def r9 := findReg b 9
def r10 := findReg b 10
def r11 := findReg b 11
def r8 := findReg b 8
def r12 := findReg b 12
def r4 := findReg b 4
def r13 := findReg b 13
def k4 := findBlk b 4
def l4 := loopOf k4
def L4 (x1 x3 x8 : AV) (m : Mem) (K : List Item) : Option Res := den prog ann 34 (.code l4 :: .inLoop l4 :: .inBlock 4 :: K) ⟨[(1, x1), (3, x3), (8, x8)], 138, m⟩
def r14 := findReg b 14
def i2 := findCond b 2
def i2t := thenOf i2
def i2e := elseOf i2
def k5 := findBlk b 5
def r16 := findReg b 16
def k6 := findBlk b 6
def l6 := loopOf k6
def L6 (x1 x3 x8 x9 : AV) (m : Mem) (K : List Item) : Option Res := den prog ann 34 (.code l6 :: .inLoop l6 :: .inBlock 6 :: K) ⟨[(1, x1), (3, x3), (8, x8), (9, x9)], 138, m⟩
def r17 := findReg b 17
def i3 := findCond b 3
def i3t := thenOf i3
def i3e := elseOf i3
def k7 := findBlk b 7
def r19 := findReg b 19
def k8 := findBlk b 8
def l8 := loopOf k8
def L8 (x1 x3 x8 x9 x10 : AV) (m : Mem) (K : List Item) : Option Res := den prog ann 34 (.code l8 :: .inLoop l8 :: .inBlock 8 :: K) ⟨[(1, x1), (3, x3), (8, x8), (9, x9), (10, x10)], 138, m⟩
def r20 := findReg b 20
def i4 := findCond b 4
def i4t := thenOf i4
def i4e := elseOf i4
def k9 := findBlk b 9
def r22 := findReg b 22
def i5 := findCond b 5
def i5t := thenOf i5
def i5e := elseOf i5
def r23 := findReg b 23
def r24 := findReg b 24
def k10 := findBlk b 10
def l10 := loopOf k10
def L10 (x1 x3 x8 x9 x10 x11 : AV) (m : Mem) (K : List Item) : Option Res := den prog ann 34 (.code l10 :: .inLoop l10 :: .inBlock 10 :: K) ⟨[(1, x1), (3, x3), (8, x8), (9, x9), (10, x10), (11, x11)], 138, m⟩
def r25 := findReg b 25
def i6 := findCond b 6
def i6t := thenOf i6
def i6e := elseOf i6
def k11 := findBlk b 11
def r27 := findReg b 27
def r28 := findReg b 28
def i7 := findCond b 7
def i7t := thenOf i7
def i7e := elseOf i7
def r29 := findReg b 29
def r26 := findReg b 26
def r21 := findReg b 21
def r18 := findReg b 18
def r15 := findReg b 15
def r30 := findReg b 30
theorem b_eq : den prog ann 34 (.code b :: K) s = den prog ann 34 (.code r0 :: .code r1 :: .code r2 :: .code k0 :: .code r13 :: .code k4 :: .code r30 :: .code .ret :: K) s := den_flat hf (l := [r0, r1, r2, k0, r13, k4, r30, .ret]) (by kernel_rfl) K s
theorem r0_eq : den prog ann 34 (.code r0 :: K) s = mreg prog ann 34 none [] none [] [qA 1 frozenPtr 0,qF 2 fun s => some (.nils)] K s := (den_reg hf _ K s).trans (by kernel_rfl)
theorem r1_eq : den prog ann 34 (.code r1 :: K) s = mreg prog ann 34 none [] none [] [⟨some 13, none, .w false none fun s => bslM s.m 0 (bslA 1 0 [.nils] [])⟩,qC 3 13] K s := (den_reg hf _ K s).trans (by kernel_rfl)
theorem r2_eq : den prog ann 34 (.code r2 :: K) s = mreg prog ann 34 none [] none [] [qF 4 fun s => some (.int .i64 0)] K s := (den_reg hf _ K s).trans (by kernel_rfl)
theorem k0_eq (K : List Item) (t : List (Nat × AV)) (m : Mem) : den prog ann 34 (.code k0 :: K) ⟨t, 138, m⟩ = L0 (get t 1) (get t 3) (get t 4) m K := den_loop_enter hf (b := l0) (id := 3) (l := [1, 3, 4]) (by kernel_rfl) (by kernel_rfl) (by kernel_rfl) K _
theorem l0_eq (K : List Item) (t : List (Nat × AV)) (m : Mem) : den prog ann 34 (.inLoop l0 :: .inBlock 0 :: K) ⟨t, 138, m⟩ = L0 (get t 1) (get t 3) (get t 4) m K := den_loop_again hf (id := 3) (l := [1, 3, 4]) (by kernel_rfl) (by kernel_rfl) (.inBlock 0 :: K) _
theorem L0_eq (x1 x3 x4 : AV) (m : Mem) (K : List Item) : L0 x1 x3 x4 m K = den prog ann 34 (.code r3 :: .code i0 :: .code k1 :: .code r4 :: .inLoop l0 :: .inBlock 0 :: K) ⟨[(1, x1), (3, x3), (4, x4)], 138, m⟩ := den_flat hf (l := [r3, i0, k1, r4]) (by kernel_rfl) _ _
theorem r3_eq : den prog ann 34 (.code r3 :: K) s = mreg prog ann 34 (some [1, 3, 4]) [] none [] [qC 14 4,qA 15 (fieldA 0) 1,qA 16 (loadF false 1) 15,qA 17 lenSl 16,qB 18 (binA prog .lss 3) 14 17] K s := (den_reg hf _ K s).trans (by kernel_rfl)
theorem i0_eq : den prog ann 34 (.code i0 :: K) s = ifV prog ann 34 18 i0t i0e K s (s.get 18) := den_if hf (by kernel_rfl) K s
theorem i0t_eq : den prog ann 34 (.code i0t :: K) s = den prog ann 34 (K) s := den_flat hf (l := []) (by kernel_rfl) K s
theorem i0e_eq : den prog ann 34 (.code i0e :: K) s = den prog ann 34 (.code (.exit 0) :: K) s := den_flat hf (l := [(.exit 0)]) (by kernel_rfl) K s
theorem k1_eq : den prog ann 34 (.code k1 :: K) s = den prog ann 34 (.code r5 :: .code r6 :: .code k2 :: .code r12 :: .inBlock 1 :: K) s := den_blk hf (b := blkOf k1) (l := [r5, r6, k2, r12]) (by kernel_rfl) (by kernel_rfl) K s
theorem r5_eq : den prog ann 34 (.code r5 :: K) s = mreg prog ann 34 none [] none [] [⟨some 21, none, .w false none fun s => bslM s.m 0 (bslA 1 0 [.nils] [])⟩,qC 5 21] K s := (den_reg hf _ K s).trans (by kernel_rfl)
theorem r6_eq : den prog ann 34 (.code r6 :: K) s = mreg prog ann 34 none [] none [] [qF 6 fun s => some (.int .i64 1)] K s := (den_reg hf _ K s).trans (by kernel_rfl)
theorem k2_eq (K : List Item) (t : List (Nat × AV)) (m : Mem) : den prog ann 34 (.code k2 :: K) ⟨t, 138, m⟩ = L2 (get t 1) (get t 3) (get t 4) (get t 5) (get t 6) m K := den_loop_enter hf (b := l2) (id := 7) (l := [1, 3, 4, 5, 6]) (by kernel_rfl) (by kernel_rfl) (by kernel_rfl) K _
theorem l2_eq (K : List Item) (t : List (Nat × AV)) (m : Mem) : den prog ann 34 (.inLoop l2 :: .inBlock 2 :: K) ⟨t, 138, m⟩ = L2 (get t 1) (get t 3) (get t 4) (get t 5) (get t 6) m K := den_loop_again hf (id := 7) (l := [1, 3, 4, 5, 6]) (by kernel_rfl) (by kernel_rfl) (.inBlock 2 :: K) _
theorem L2_eq (x1 x3 x4 x5 x6 : AV) (m : Mem) (K : List Item) : L2 x1 x3 x4 x5 x6 m K = den prog ann 34 (.code r7 :: .code i1 :: .code k3 :: .code r8 :: .inLoop l2 :: .inBlock 2 :: K) ⟨[(1, x1), (3, x3), (4, x4), (5, x5), (6, x6)], 138, m⟩ := den_flat hf (l := [r7, i1, k3, r8]) (by kernel_rfl) _ _
theorem r7_eq : den prog ann 34 (.code r7 :: K) s = mreg prog ann 34 (some [1, 3, 4, 5, 6]) [] none [] [qC 22 6,qA 23 (fieldA 0) 1,qA 24 (loadF false 1) 23,qC 25 4,qB 26 (idxSl 1) 24 25,qA 27 (loadF false 1) 26,qB 28 (binA prog .leq 3) 22 27] K s := (den_reg hf _ K s).trans (by kernel_rfl)
theorem i1_eq : den prog ann 34 (.code i1 :: K) s = ifV prog ann 34 28 i1t i1e K s (s.get 28) := den_if hf (by kernel_rfl) K s
theorem i1t_eq : den prog ann 34 (.code i1t :: K) s = den prog ann 34 (K) s := den_flat hf (l := []) (by kernel_rfl) K s
theorem i1e_eq : den prog ann 34 (.code i1e :: K) s = den prog ann 34 (.code (.exit 2) :: K) s := den_flat hf (l := [(.exit 2)]) (by kernel_rfl) K s
theorem k3_eq : den prog ann 34 (.code k3 :: K) s = den prog ann 34 (.code r9 :: .code r10 :: .code r11 :: .inBlock 3 :: K) s := den_blk hf (b := blkOf k3) (l := [r9, r10, r11]) (by kernel_rfl) (by kernel_rfl) K s
theorem r9_eq : den prog ann 34 (.code r9 :: K) s = mreg prog ann 34 none [] none [] [qA 31 (fieldA 0) 1,qA 32 (loadF false 1) 31,qA 33 lenSl 32,⟨some 34, none, .w false none fun s => makeA 1 8 (.int .i64 0) s.m (s.get 33) (s.get 33)⟩,qC 7 34] K s := (den_reg hf _ K s).trans (by kernel_rfl)
theorem r10_eq : den prog ann 34 (.code r10 :: K) s = mreg prog ann 34 none [] none [] [qC 35 7,qC 36 4,qC 37 6,qB 38 (idxSl 1) 35 36,⟨none, none, .w false none fun s => stA false 1 s.m (s.get 38) (s.get 37)⟩] K s := (den_reg hf _ K s).trans (by kernel_rfl)
theorem r11_eq : den prog ann 34 (.code r11 :: K) s = mreg prog ann 34 none [7] none [] [qC 39 5,qC 40 7,qF 41 fun s => bslF 1 (bslA 1 1 [.nils] [(0, (s.get 40))]),⟨some 42, none, .w false none fun s => appendA 1 24 s.m (s.get 39) (s.get 41)⟩,qC 5 42] K s := (den_reg hf _ K s).trans (by kernel_rfl)
theorem r8_eq : den prog ann 34 (.code r8 :: K) s = mreg prog ann 34 (some [1, 3, 4, 5, 6]) [] none [] [qC 29 6,qF 30 fun s => binA prog .add 3 (s.get 29) (.int .i64 1),qC 6 30] K s := (den_reg hf _ K s).trans (by kernel_rfl)
theorem r12_eq : den prog ann 34 (.code r12 :: K) s = mreg prog ann 34 (some [1, 3, 4, 5]) [] none [] [qC 43 3,qC 44 5,⟨some 45, none, .w false none fun s => bslM s.m 1 (bslA 1 1 [.nils] [(0, (s.get 44))])⟩,⟨some 46, none, .w false none fun s => appendA 1 24 s.m (s.get 43) (s.get 45)⟩,qC 3 46] K s := (den_reg hf _ K s).trans (by kernel_rfl)
theorem r4_eq : den prog ann 34 (.code r4 :: K) s = mreg prog ann 34 (some [1, 3, 4]) [] none [] [qC 19 4,qF 20 fun s => binA prog .add 3 (s.get 19) (.int .i64 1),qC 4 20] K s := (den_reg hf _ K s).trans (by kernel_rfl)
theorem r13_eq : den prog ann 34 (.code r13 :: K) s = mreg prog ann 34 (some [1, 3]) [] none [] [qF 8 fun s => some (.int .i64 0)] K s := (den_reg hf _ K s).trans (by kernel_rfl)
theorem k4_eq (K : List Item) (t : List (Nat × AV)) (m : Mem) : den prog ann 34 (.code k4 :: K) ⟨t, 138, m⟩ = L4 (get t 1) (get t 3) (get t 8) m K := den_loop_enter hf (b := l4) (id := 14) (l := [1, 3, 8]) (by kernel_rfl) (by kernel_rfl) (by kernel_rfl) K _
theorem l4_eq (K : List Item) (t : List (Nat × AV)) (m : Mem) : den prog ann 34 (.inLoop l4 :: .inBlock 4 :: K) ⟨t, 138, m⟩ = L4 (get t 1) (get t 3) (get t 8) m K := den_loop_again hf (id := 14) (l := [1, 3, 8]) (by kernel_rfl) (by kernel_rfl) (.inBlock 4 :: K) _
theorem L4_eq (x1 x3 x8 : AV) (m : Mem) (K : List Item) : L4 x1 x3 x8 m K = den prog ann 34 (.code r14 :: .code i2 :: .code k5 :: .code r15 :: .inLoop l4 :: .inBlock 4 :: K) ⟨[(1, x1), (3, x3), (8, x8)], 138, m⟩ := den_flat hf (l := [r14, i2, k5, r15]) (by kernel_rfl) _ _
theorem r14_eq : den prog ann 34 (.code r14 :: K) s = mreg prog ann 34 (some [1, 3, 8]) [] none [] [qC 47 8,qF 48 fun s => binA prog .lss 3 (s.get 47) (.int .i64 24)] K s := (den_reg hf _ K s).trans (by kernel_rfl)
theorem i2_eq : den prog ann 34 (.code i2 :: K) s = ifV prog ann 34 48 i2t i2e K s (s.get 48) := den_if hf (by kernel_rfl) K s
theorem i2t_eq : den prog ann 34 (.code i2t :: K) s = den prog ann 34 (K) s := den_flat hf (l := []) (by kernel_rfl) K s
theorem i2e_eq : den prog ann 34 (.code i2e :: K) s = den prog ann 34 (.code (.exit 4) :: K) s := den_flat hf (l := [(.exit 4)]) (by kernel_rfl) K s
theorem k5_eq : den prog ann 34 (.code k5 :: K) s = den prog ann 34 (.code r16 :: .code k6 :: .inBlock 5 :: K) s := den_blk hf (b := blkOf k5) (l := [r16, k6]) (by kernel_rfl) (by kernel_rfl) K s
theorem r16_eq : den prog ann 34 (.code r16 :: K) s = mreg prog ann 34 none [] none [] [qF 9 fun s => some (.int .i64 0)] K s := (den_reg hf _ K s).trans (by kernel_rfl)
theorem k6_eq (K : List Item) (t : List (Nat × AV)) (m : Mem) : den prog ann 34 (.code k6 :: K) ⟨t, 138, m⟩ = L6 (get t 1) (get t 3) (get t 8) (get t 9) m K := den_loop_enter hf (b := l6) (id := 17) (l := [1, 3, 8, 9]) (by kernel_rfl) (by kernel_rfl) (by kernel_rfl) K _
theorem l6_eq (K : List Item) (t : List (Nat × AV)) (m : Mem) : den prog ann 34 (.inLoop l6 :: .inBlock 6 :: K) ⟨t, 138, m⟩ = L6 (get t 1) (get t 3) (get t 8) (get t 9) m K := den_loop_again hf (id := 17) (l := [1, 3, 8, 9]) (by kernel_rfl) (by kernel_rfl) (.inBlock 6 :: K) _
theorem L6_eq (x1 x3 x8 x9 : AV) (m : Mem) (K : List Item) : L6 x1 x3 x8 x9 m K = den prog ann 34 (.code r17 :: .code i3 :: .code k7 :: .code r18 :: .inLoop l6 :: .inBlock 6 :: K) ⟨[(1, x1), (3, x3), (8, x8), (9, x9)], 138, m⟩ := den_flat hf (l := [r17, i3, k7, r18]) (by kernel_rfl) _ _
theorem r17_eq : den prog ann 34 (.code r17 :: K) s = mreg prog ann 34 (some [1, 3, 8, 9]) [] none [] [qC 51 9,qC 52 3,qA 53 lenSl 52,qB 54 (binA prog .lss 3) 51 53] K s := (den_reg hf _ K s).trans (by kernel_rfl)
theorem i3_eq : den prog ann 34 (.code i3 :: K) s = ifV prog ann 34 54 i3t i3e K s (s.get 54) := den_if hf (by kernel_rfl) K s
theorem i3t_eq : den prog ann 34 (.code i3t :: K) s = den prog ann 34 (K) s := den_flat hf (l := []) (by kernel_rfl) K s
theorem i3e_eq : den prog ann 34 (.code i3e :: K) s = den prog ann 34 (.code (.exit 6) :: K) s := den_flat hf (l := [(.exit 6)]) (by kernel_rfl) K s
theorem k7_eq : den prog ann 34 (.code k7 :: K) s = den prog ann 34 (.code r19 :: .code k8 :: .inBlock 7 :: K) s := den_blk hf (b := blkOf k7) (l := [r19, k8]) (by kernel_rfl) (by kernel_rfl) K s
theorem r19_eq : den prog ann 34 (.code r19 :: K) s = mreg prog ann 34 none [] none [] [qF 10 fun s => some (.int .i64 0)] K s := (den_reg hf _ K s).trans (by kernel_rfl)
theorem k8_eq (K : List Item) (t : List (Nat × AV)) (m : Mem) : den prog ann 34 (.code k8 :: K) ⟨t, 138, m⟩ = L8 (get t 1) (get t 3) (get t 8) (get t 9) (get t 10) m K := den_loop_enter hf (b := l8) (id := 20) (l := [1, 3, 8, 9, 10]) (by kernel_rfl) (by kernel_rfl) (by kernel_rfl) K _
theorem l8_eq (K : List Item) (t : List (Nat × AV)) (m : Mem) : den prog ann 34 (.inLoop l8 :: .inBlock 8 :: K) ⟨t, 138, m⟩ = L8 (get t 1) (get t 3) (get t 8) (get t 9) (get t 10) m K := den_loop_again hf (id := 20) (l := [1, 3, 8, 9, 10]) (by kernel_rfl) (by kernel_rfl) (.inBlock 8 :: K) _
theorem L8_eq (x1 x3 x8 x9 x10 : AV) (m : Mem) (K : List Item) : L8 x1 x3 x8 x9 x10 m K = den prog ann 34 (.code r20 :: .code i4 :: .code k9 :: .code r21 :: .inLoop l8 :: .inBlock 8 :: K) ⟨[(1, x1), (3, x3), (8, x8), (9, x9), (10, x10)], 138, m⟩ := den_flat hf (l := [r20, i4, k9, r21]) (by kernel_rfl) _ _
theorem r20_eq : den prog ann 34 (.code r20 :: K) s = mreg prog ann 34 (some [1, 3, 8, 9, 10]) [] none [] [qC 57 10,qC 58 3,qC 59 9,qB 60 (idxSl 1) 58 59,qF 61 fun s => loadA false 1 s.m (s.get 60),qA 62 lenSl 61,qB 63 (binA prog .lss 3) 57 62] K s := (den_reg hf _ K s).trans (by kernel_rfl)
theorem i4_eq : den prog ann 34 (.code i4 :: K) s = ifV prog ann 34 63 i4t i4e K s (s.get 63) := den_if hf (by kernel_rfl) K s
theorem i4t_eq : den prog ann 34 (.code i4t :: K) s = den prog ann 34 (K) s := den_flat hf (l := []) (by kernel_rfl) K s
theorem i4e_eq : den prog ann 34 (.code i4e :: K) s = den prog ann 34 (.code (.exit 8) :: K) s := den_flat hf (l := [(.exit 8)]) (by kernel_rfl) K s
theorem k9_eq : den prog ann 34 (.code k9 :: K) s = den prog ann 34 (.code r22 :: .code i5 :: .code r24 :: .code k10 :: .inBlock 9 :: K) s := den_blk hf (b := blkOf k9) (l := [r22, i5, r24, k10]) (by kernel_rfl) (by kernel_rfl) K s
theorem r22_eq : den prog ann 34 (.code r22 :: K) s = mreg prog ann 34 none [] none [] [qC 66 10,qF 67 fun s => binA prog .gtr 3 (s.get 66) (.int .i64 0)] K s := (den_reg hf _ K s).trans (by kernel_rfl)
theorem i5_eq : den prog ann 34 (.code i5 :: K) s = ifV prog ann 34 67 i5t i5e K s (s.get 67) := den_if hf (by kernel_rfl) K s
theorem i5t_eq : den prog ann 34 (.code i5t :: K) s = den prog ann 34 (.code r23 :: K) s := den_flat hf (l := [r23]) (by kernel_rfl) K s
theorem r23_draw : drawOk (fun g => (ann g).pure) (modeOf (ann 34) (idOf r23)) (frzOf (ann 34) (idOf r23)) (opsOf r23) = true := drawOk_of (an := [0, 0, 3, 7, 0, 0, 0, 96, 224, 0, 992, 2016, 0, 0, 12288, 28672, 0, 65536, 258048, 520192, 1048544, 2097151, 4194303]) (by kernel_rfl) (by kernel_rfl)
theorem r23_eq : den prog ann 34 (.code r23 :: K) s = mreg prog ann 34 none [] (some 23) [] [qC 68 3,qC 69 9,qB 70 (idxSl 1) 68 69,qF 71 fun s => loadA false 1 s.m (s.get 70),qC 72 10,qC 73 3,qC 74 9,qB 75 (idxSl 1) 73 74,qF 76 fun s => loadA false 1 s.m (s.get 75),qC 77 10,qB 78 (idxSl 1) 76 77,qF 79 fun s => loadA false 1 s.m (s.get 78),qC 80 3,qC 81 9,qB 82 (idxSl 1) 80 81,qF 83 fun s => loadA false 1 s.m (s.get 82),qC 84 10,qF 85 fun s => binA prog .sub 3 (s.get 84) (.int .i64 1),qB 86 (idxSl 1) 83 85,qF 87 fun s => loadA false 1 s.m (s.get 86),⟨some 88, none, .c 0 (fun s => (.fn 29 [] [])) fun s => [(s.get 79), (s.get 87)]⟩,qB 89 (idxSl 1) 71 72,⟨none, none, .w false (some 22) fun s => stA false 1 s.m (s.get 89) (s.get 88)⟩] K s := (den_regD hf r23_draw K s).trans (by kernel_rfl)
theorem i5e_eq : den prog ann 34 (.code i5e :: K) s = den prog ann 34 (K) s := den_flat hf (l := []) (by kernel_rfl) K s
theorem r24_eq : den prog ann 34 (.code r24 :: K) s = mreg prog ann 34 (some [1, 3, 8, 9, 10]) [] none [] [qF 11 fun s => some (.int .i64 0)] K s := (den_reg hf _ K s).trans (by kernel_rfl)
theorem k10_eq (K : List Item) (t : List (Nat × AV)) (m : Mem) : den prog ann 34 (.code k10 :: K) ⟨t, 138, m⟩ = L10 (get t 1) (get t 3) (get t 8) (get t 9) (get t 10) (get t 11) m K := den_loop_enter hf (b := l10) (id := 25) (l := [1, 3, 8, 9, 10, 11]) (by kernel_rfl) (by kernel_rfl) (by kernel_rfl) K _
theorem l10_eq (K : List Item) (t : List (Nat × AV)) (m : Mem) : den prog ann 34 (.inLoop l10 :: .inBlock 10 :: K) ⟨t, 138, m⟩ = L10 (get t 1) (get t 3) (get t 8) (get t 9) (get t 10) (get t 11) m K := den_loop_again hf (id := 25) (l := [1, 3, 8, 9, 10, 11]) (by kernel_rfl) (by kernel_rfl) (.inBlock 10 :: K) _
theorem L10_eq (x1 x3 x8 x9 x10 x11 : AV) (m : Mem) (K : List Item) : L10 x1 x3 x8 x9 x10 x11 m K = den prog ann 34 (.code r25 :: .code i6 :: .code k11 :: .code r26 :: .inLoop l10 :: .inBlock 10 :: K) ⟨[(1, x1), (3, x3), (8, x8), (9, x9), (10, x10), (11, x11)], 138, m⟩ := den_flat hf (l := [r25, i6, k11, r26]) (by kernel_rfl) _ _
theorem r25_eq : den prog ann 34 (.code r25 :: K) s = mreg prog ann 34 (some [1, 3, 8, 9, 10, 11]) [] none [] [qC 90 11,qA 91 (fieldA 1) 1,qA 92 (loadF false 1) 91,qA 93 lenSl 92,qB 94 (binA prog .lss 3) 90 93] K s := (den_reg hf _ K s).trans (by kernel_rfl)
theorem i6_eq : den prog ann 34 (.code i6 :: K) s = ifV prog ann 34 94 i6t i6e K s (s.get 94) := den_if hf (by kernel_rfl) K s
theorem i6t_eq : den prog ann 34 (.code i6t :: K) s = den prog ann 34 (K) s := den_flat hf (l := []) (by kernel_rfl) K s
theorem i6e_eq : den prog ann 34 (.code i6e :: K) s = den prog ann 34 (.code (.exit 10) :: K) s := den_flat hf (l := [(.exit 10)]) (by kernel_rfl) K s
theorem k11_eq : den prog ann 34 (.code k11 :: K) s = den prog ann 34 (.code r27 :: .code r28 :: .code i7 :: .inBlock 11 :: K) s := den_blk hf (b := blkOf k11) (l := [r27, r28, i7]) (by kernel_rfl) (by kernel_rfl) K s
theorem r27_eq : den prog ann 34 (.code r27 :: K) s = mreg prog ann 34 none [] none [12] [qA 97 (fieldA 1) 1,qA 98 (loadF false 1) 97,qC 99 11,qB 100 (idxSl 4) 98 99,qA 101 (loadF true 4) 100,⟨some 12, none, .w false none fun s => newPtr s.m [.int .i64 0, .int .i64 0, .int .i64 0, .int .i64 0]⟩,⟨none, none, .w false none fun s => stA true 4 s.m (s.get 12) (s.get 101)⟩] K s := (den_reg hf _ K s).trans (by kernel_rfl)
theorem r28_eq : den prog ann 34 (.code r28 :: K) s = mreg prog ann 34 none [] none [] [qA 102 (fieldA 2) 12,qA 103 (loadF false 1) 102,qC 104 9,qB 105 (binA prog .eql 3) 103 104,qC 106 105,⟨some 107, some (106, true), .v fun s => fieldA 3 (s.get 12)⟩,⟨some 108, some (106, true), .v fun s => loadF false 1 (s.get 107)⟩,⟨some 109, some (106, true), .v fun s => some (s.get 10)⟩,⟨some 110, some (106, true), .v fun s => binA prog .add 3 (s.get 109) (.int .i64 1)⟩,⟨some 111, some (106, true), .v fun s => binA prog .eql 3 (s.get 108) (s.get 110)⟩,qF 112 fun s => pickA (s.get 106) (s.get 111) (.bool false)] K s := (den_reg hf _ K s).trans (by kernel_rfl)
theorem i7_eq : den prog ann 34 (.code i7 :: K) s = ifV prog ann 34 112 i7t i7e K s (s.get 112) := den_if hf (by kernel_rfl) K s
theorem i7t_eq : den prog ann 34 (.code i7t :: K) s = den prog ann 34 (.code r29 :: K) s := den_flat hf (l := [r29]) (by kernel_rfl) K s
theorem r29_draw : drawOk (fun g => (ann g).pure) (modeOf (ann 34) (idOf r29)) (frzOf (ann 34) (idOf r29)) (opsOf r29) = true := drawOk_of (an := [0, 0, 3, 7, 0, 0, 0, 96, 224, 0, 992, 2016, 0, 0, 8192, 28672, 61440, 0, 131072, 393216, 1044480, 2093056, 4194272, 8388607, 16777215]) (by kernel_rfl) (by kernel_rfl)
theorem r29_eq : den prog ann 34 (.code r29 :: K) s = mreg prog ann 34 none [] (some 25) [] [qC 113 3,qC 114 9,qB 115 (idxSl 1) 113 114,qF 116 fun s => loadA false 1 s.m (s.get 115),qC 117 10,qC 118 3,qC 119 9,qB 120 (idxSl 1) 118 119,qF 121 fun s => loadA false 1 s.m (s.get 120),qC 122 10,qB 123 (idxSl 1) 121 122,qF 124 fun s => loadA false 1 s.m (s.get 123),qC 125 3,qA 126 (fieldA 0) 12,qA 127 (loadF false 1) 126,qB 128 (idxSl 1) 125 127,qF 129 fun s => loadA false 1 s.m (s.get 128),qA 130 (fieldA 1) 12,qA 131 (loadF false 1) 130,qF 132 fun s => binA prog .sub 3 (s.get 131) (.int .i64 1),qB 133 (idxSl 1) 129 132,qF 134 fun s => loadA false 1 s.m (s.get 133),⟨some 135, none, .c 0 (fun s => (.fn 29 [] [])) fun s => [(s.get 124), (s.get 134)]⟩,qB 136 (idxSl 1) 116 117,⟨none, none, .w false (some 24) fun s => stA false 1 s.m (s.get 136) (s.get 135)⟩] K s := (den_regD hf r29_draw K s).trans (by kernel_rfl)
theorem i7e_eq : den prog ann 34 (.code i7e :: K) s = den prog ann 34 (K) s := den_flat hf (l := []) (by kernel_rfl) K s
theorem r26_eq : den prog ann 34 (.code r26 :: K) s = mreg prog ann 34 (some [1, 3, 8, 9, 10, 11]) [] none [] [qC 95 11,qF 96 fun s => binA prog .add 3 (s.get 95) (.int .i64 1),qC 11 96] K s := (den_reg hf _ K s).trans (by kernel_rfl)
theorem r21_eq : den prog ann 34 (.code r21 :: K) s = mreg prog ann 34 (some [1, 3, 8, 9, 10]) [] none [] [qC 64 10,qF 65 fun s => binA prog .add 3 (s.get 64) (.int .i64 1),qC 10 65] K s := (den_reg hf _ K s).trans (by kernel_rfl)
theorem r18_eq : den prog ann 34 (.code r18 :: K) s = mreg prog ann 34 (some [1, 3, 8, 9]) [] none [] [qC 55 9,qF 56 fun s => binA prog .add 3 (s.get 55) (.int .i64 1),qC 9 56] K s := (den_reg hf _ K s).trans (by kernel_rfl)
theorem r15_eq : den prog ann 34 (.code r15 :: K) s = mreg prog ann 34 (some [1, 3, 8]) [] none [] [qC 49 8,qF 50 fun s => binA prog .add 3 (s.get 49) (.int .i64 1),qC 8 50] K s := (den_reg hf _ K s).trans (by kernel_rfl)
theorem r30_eq : den prog ann 34 (.code r30 :: K) s = mreg prog ann 34 (some [3]) [] none [] [qC 137 3,qC 2 137] K s := (den_reg hf _ K s).trans (by kernel_rfl)
theorem ret_eq : den prog ann 34 (.code .ret :: K) s = finM true [fun s => some (s.get 2)] s := (den_ret hf K s).trans (by kernel_rfl)
theorem nil_eq (s : St) : den prog ann 34 [] s = finM true [fun s => some (s.get 2)] s := (den_nil hf s).trans (by kernel_rfl)
theorem inBlock_eq (id : Nat) (K : List Item) (s : St) : den prog ann 34 (.inBlock id :: K) s = den prog ann 34 K s := den_inBlock hf id K s
theorem exit_eq (id : Nat) (K : List Item) (s : St) : den prog ann 34 (.code (.exit id) :: K) s = exitV prog ann 34 (exitTo id K) s := den_exitV hf id K s
theorem call_eq (v0 : AV) (m : Mem) (h : closedL [v0] = true) : denC prog ann 34 [v0] m = (den prog ann 34 [.code b] ⟨[(0, v0)], 138, Mem.empty⟩).bind fun r => some (r.1, m) := (denC_pure hf (b := b) (by kernel_rfl) (by kernel_rfl) (by kernel_rfl) h m).trans (by kernel_rfl)
theorem pure_eq : (ann 34).pure = true := by kernel_rfl
attribute [simp] b_eq r0_eq r1_eq r2_eq k0_eq l0_eq r3_eq i0_eq i0t_eq i0e_eq k1_eq r5_eq r6_eq k2_eq l2_eq r7_eq i1_eq i1t_eq i1e_eq k3_eq r9_eq r10_eq r11_eq r8_eq r12_eq r4_eq r13_eq k4_eq l4_eq r14_eq i2_eq i2t_eq i2e_eq k5_eq r16_eq k6_eq l6_eq r17_eq i3_eq i3t_eq i3e_eq k7_eq r19_eq k8_eq l8_eq r20_eq i4_eq i4t_eq i4e_eq k9_eq r22_eq i5_eq i5t_eq r23_eq i5e_eq r24_eq k10_eq l10_eq r25_eq i6_eq i6t_eq i6e_eq k11_eq r27_eq r28_eq i7_eq i7t_eq r29_eq i7e_eq r26_eq r21_eq r18_eq r15_eq r30_eq ret_eq nil_eq inBlock_eq exit_eq pure_eq
end
end r09_Clocks
namespace watch_Clocks
noncomputable section
variable (K : List Item) (s : St)
def b : Code := (Try.f43.body).getD .skip
theorem hf : prog.funcs[43]? = some Try.f43 := by kernel_rfl
def r0 := findReg b 0
def r1 := findReg b 1
def r2 := findReg b 2
def i0 := findCond b 0
def i0t := thenOf i0
def i0e := elseOf i0
def r3 := findReg b 3
def r4 := findReg b 4
def r5 := findReg b 5
def k0 := findBlk b 0
def l0 := loopOf k0
def L0 (x4 x6 x25 x26 : AV) (m : Mem) (K : List Item) : Option Res := den prog ann 43 (.code l0 :: .inLoop l0 :: .inBlock 0 :: K) ⟨[(4, x4), (6, x6), (25, x25), (26, x26)], 55, m⟩
def r6 := findReg b 6
def i1 := findCond b 1
def i1t := thenOf i1
def i1e := elseOf i1
def k1 := findBlk b 1
def r7 := findReg b 7
def r8 := findReg b 8
def k2 := findBlk b 2
def l2 := loopOf k2
def L2 (x4 x6 x7 x25 x26 x34 x35 x36 : AV) (m : Mem) (K : List Item) : Option Res := den prog ann 43 (.code l2 :: .inLoop l2 :: .inBlock 2 :: K) ⟨[(4, x4), (6, x6), (7, x7), (25, x25), (26, x26), (34, x34), (35, x35), (36, x36)], 55, m⟩
def r9 := findReg b 9
def i2 := findCond b 2
def i2t := thenOf i2
def i2e := elseOf i2
def k3 := findBlk b 3
def r10 := findReg b 10
def r11 := findReg b 11
def r12 := findReg b 12
def r13 := findReg b 13
def r14 := findReg b 14
theorem b_eq : den prog ann 43 (.code b :: K) s = den prog ann 43 (.code r0 :: .code r1 :: .code r2 :: .code i0 :: .code r4 :: .code r5 :: .code k0 :: .code r14 :: .code .ret :: K) s := den_flat hf (l := [r0, r1, r2, i0, r4, r5, k0, r14, .ret]) (by kernel_rfl) K s
theorem r0_eq : den prog ann 43 (.code r0 :: K) s = mreg prog ann 43 none [] none [] [qA 1 frozenPtr 0,qF 2 fun s => some (.nils),qF 3 fun s => some (.int .i64 0)] K s := (den_reg hf _ K s).trans (by kernel_rfl)
theorem r1_eq : den prog ann 43 (.code r1 :: K) s = mreg prog ann 43 none [] none [] [qA 11 (loadF true 2) 1,⟨some 12, none, .c 0 (fun s => (.fn 61 [] [])) fun s => [(s.get 11)]⟩,qC 10 12,qF 13 fun s => extA (s.get 10) 0,qF 14 fun s => extA (s.get 10) 1,qC 4 13,qC 5 14] K s := (den_reg hf _ K s).trans (by kernel_rfl)
theorem r2_eq : den prog ann 43 (.code r2 :: K) s = mreg prog ann 43 none [] none [] [qC 15 5,qA 16 (unA .not) 15] K s := (den_reg hf _ K s).trans (by kernel_rfl)
theorem i0_eq : den prog ann 43 (.code i0 :: K) s = ifV prog ann 43 16 i0t i0e K s (s.get 16) := den_if hf (by kernel_rfl) K s
theorem i0t_eq : den prog ann 43 (.code i0t :: K) s = den prog ann 43 (.code r3 :: .code .ret :: K) s := den_flat hf (l := [r3, .ret]) (by kernel_rfl) K s
theorem r3_eq : den prog ann 43 (.code r3 :: K) s = mreg prog ann 43 none [] none [] [qF 2 fun s => some (.nils),qF 3 fun s => some (.int .i64 1)] K s := (den_reg hf _ K s).trans (by kernel_rfl)
theorem i0e_eq : den prog ann 43 (.code i0e :: K) s = den prog ann 43 (K) s := den_flat hf (l := []) (by kernel_rfl) K s
theorem r4_eq : den prog ann 43 (.code r4 :: K) s = mreg prog ann 43 none [] none [] [qC 17 4,qA 18 nilA 17,qA 19 (fieldA 0) 18,qA 20 (loadF false 1) 19,⟨some 21, none, .w false none fun s => makeA 1 24 (.nils) s.m (s.get 20) (s.get 20)⟩,qC 6 21] K s := (den_reg hf _ K s).trans (by kernel_rfl)
theorem r5_eq : den prog ann 43 (.code r5 :: K) s = mreg prog ann 43 none [] none [] [qC 22 4,qA 23 nilA 22,qA 24 (fieldA 0) 23,qA 25 (loadF false 1) 24,qF 26 fun s => some (.int .i64 0)] K s := (den_reg hf _ K s).trans (by kernel_rfl)
theorem k0_eq (K : List Item) (t : List (Nat × AV)) (m : Mem) : den prog ann 43 (.code k0 :: K) ⟨t, 55, m⟩ = L0 (get t 4) (get t 6) (get t 25) (get t 26) m K := den_loop_enter hf (b := l0) (id := 6) (l := [4, 6, 25, 26]) (by kernel_rfl) (by kernel_rfl) (by kernel_rfl) K _
theorem l0_eq (K : List Item) (t : List (Nat × AV)) (m : Mem) : den prog ann 43 (.inLoop l0 :: .inBlock 0 :: K) ⟨t, 55, m⟩ = L0 (get t 4) (get t 6) (get t 25) (get t 26) m K := den_loop_again hf (id := 6) (l := [4, 6, 25, 26]) (by kernel_rfl) (by kernel_rfl) (.inBlock 0 :: K) _
theorem L0_eq (x4 x6 x25 x26 : AV) (m : Mem) (K : List Item) : L0 x4 x6 x25 x26 m K = den prog ann 43 (.code r6 :: .code i1 :: .code k1 :: .code r13 :: .inLoop l0 :: .inBlock 0 :: K) ⟨[(4, x4), (6, x6), (25, x25), (26, x26)], 55, m⟩ := den_flat hf (l := [r6, i1, k1, r13]) (by kernel_rfl) _ _
theorem r6_eq : den prog ann 43 (.code r6 :: K) s = mreg prog ann 43 (some [4, 6, 25, 26]) [] none [] [qB 27 (binA prog .lss 3) 26 25] K s := (den_reg hf _ K s).trans (by kernel_rfl)
theorem i1_eq : den prog ann 43 (.code i1 :: K) s = ifV prog ann 43 27 i1t i1e K s (s.get 27) := den_if hf (by kernel_rfl) K s
theorem i1t_eq : den prog ann 43 (.code i1t :: K) s = den prog ann 43 (K) s := den_flat hf (l := []) (by kernel_rfl) K s
theorem i1e_eq : den prog ann 43 (.code i1e :: K) s = den prog ann 43 (.code (.exit 0) :: K) s := den_flat hf (l := [(.exit 0)]) (by kernel_rfl) K s
theorem k1_eq : den prog ann 43 (.code k1 :: K) s = den prog ann 43 (.code r7 :: .code r8 :: .code k2 :: .inBlock 1 :: K) s := den_blk hf (b := blkOf k1) (l := [r7, r8, k2]) (by kernel_rfl) (by kernel_rfl) K s
theorem r7_eq : den prog ann 43 (.code r7 :: K) s = mreg prog ann 43 none [] none [] [qC 28 26,qC 7 28] K s := (den_reg hf _ K s).trans (by kernel_rfl)
theorem r8_eq : den prog ann 43 (.code r8 :: K) s = mreg prog ann 43 none [] none [] [qC 29 4,qC 30 7,qA 31 nilA 29,qA 32 (fieldA 5) 31,qB 33 (idxArr 4 1) 32 30,qA 34 (loadF false 1) 33,qA 35 lenSl 34,qF 36 fun s => some (.int .i64 0)] K s := (den_reg hf _ K s).trans (by kernel_rfl)
theorem k2_eq (K : List Item) (t : List (Nat × AV)) (m : Mem) : den prog ann 43 (.code k2 :: K) ⟨t, 55, m⟩ = L2 (get t 4) (get t 6) (get t 7) (get t 25) (get t 26) (get t 34) (get t 35) (get t 36) m K := den_loop_enter hf (b := l2) (id := 9) (l := [4, 6, 7, 25, 26, 34, 35, 36]) (by kernel_rfl) (by kernel_rfl) (by kernel_rfl) K _
theorem l2_eq (K : List Item) (t : List (Nat × AV)) (m : Mem) : den prog ann 43 (.inLoop l2 :: .inBlock 2 :: K) ⟨t, 55, m⟩ = L2 (get t 4) (get t 6) (get t 7) (get t 25) (get t 26) (get t 34) (get t 35) (get t 36) m K := den_loop_again hf (id := 9) (l := [4, 6, 7, 25, 26, 34, 35, 36]) (by kernel_rfl) (by kernel_rfl) (.inBlock 2 :: K) _
theorem L2_eq (x4 x6 x7 x25 x26 x34 x35 x36 : AV) (m : Mem) (K : List Item) : L2 x4 x6 x7 x25 x26 x34 x35 x36 m K = den prog ann 43 (.code r9 :: .code i2 :: .code k3 :: .code r12 :: .inLoop l2 :: .inBlock 2 :: K) ⟨[(4, x4), (6, x6), (7, x7), (25, x25), (26, x26), (34, x34), (35, x35), (36, x36)], 55, m⟩ := den_flat hf (l := [r9, i2, k3, r12]) (by kernel_rfl) _ _
theorem r9_eq : den prog ann 43 (.code r9 :: K) s = mreg prog ann 43 (some [4, 6, 7, 25, 26, 34, 35, 36]) [] none [] [qB 37 (binA prog .lss 3) 36 35] K s := (den_reg hf _ K s).trans (by kernel_rfl)
theorem i2_eq : den prog ann 43 (.code i2 :: K) s = ifV prog ann 43 37 i2t i2e K s (s.get 37) := den_if hf (by kernel_rfl) K s
theorem i2t_eq : den prog ann 43 (.code i2t :: K) s = den prog ann 43 (K) s := den_flat hf (l := []) (by kernel_rfl) K s
theorem i2e_eq : den prog ann 43 (.code i2e :: K) s = den prog ann 43 (.code (.exit 2) :: K) s := den_flat hf (l := [(.exit 2)]) (by kernel_rfl) K s
theorem k3_eq : den prog ann 43 (.code k3 :: K) s = den prog ann 43 (.code r10 :: .code r11 :: .inBlock 3 :: K) s := den_blk hf (b := blkOf k3) (l := [r10, r11]) (by kernel_rfl) (by kernel_rfl) K s
theorem r10_eq : den prog ann 43 (.code r10 :: K) s = mreg prog ann 43 none [] none [9] [qB 38 (idxSl 4) 34 36,qA 39 (loadF true 4) 38,⟨some 9, none, .w false none fun s => newPtr s.m [.int .i64 0, .int .i64 0, .int .i64 0, .int .i64 0]⟩,⟨none, none, .w false none fun s => stA true 4 s.m (s.get 9) (s.get 39)⟩] K s := (den_reg hf _ K s).trans (by kernel_rfl)
theorem r11_draw : drawOk (fun g => (ann g).pure) (modeOf (ann 43) (idOf r11)) (frzOf (ann 43) (idOf r11)) (opsOf r11) = true := drawOk_of (an := [0, 0, 0, 0, 12, 28, 0, 0, 192, 448, 1020, 2047, 4095]) (by kernel_rfl) (by kernel_rfl)
theorem r11_eq : den prog ann 43 (.code r11 :: K) s = mreg prog ann 43 none [] (some 13) [] [qC 40 6,qC 41 7,qC 42 6,qC 43 7,qB 44 (idxSl 1) 42 43,qF 45 fun s => loadA false 1 s.m (s.get 44),qC 46 4,qA 47 (loadF true 4) 9,⟨some 48, none, .c 0 (fun s => (.fn 63 [] [])) fun s => [(s.get 46), (s.get 47)]⟩,qF 49 fun s => bslF 1 (bslA 1 1 [.nils] [(0, (s.get 48))]),⟨some 50, none, .w false (some 10) fun s => appendA 1 24 s.m (s.get 45) (s.get 49)⟩,qB 51 (idxSl 1) 40 41,⟨none, none, .w false (some 12) fun s => stA false 1 s.m (s.get 51) (s.get 50)⟩] K s := (den_regD hf r11_draw K s).trans (by kernel_rfl)
theorem r12_eq : den prog ann 43 (.code r12 :: K) s = mreg prog ann 43 (some [4, 6, 7, 25, 26, 34, 35, 36]) [] none [] [qF 52 fun s => binA prog .add 3 (s.get 36) (.int .i64 1),qC 36 52] K s := (den_reg hf _ K s).trans (by kernel_rfl)
theorem r13_eq : den prog ann 43 (.code r13 :: K) s = mreg prog ann 43 (some [4, 6, 25, 26]) [] none [] [qF 53 fun s => binA prog .add 3 (s.get 26) (.int .i64 1),qC 26 53] K s := (den_reg hf _ K s).trans (by kernel_rfl)
theorem r14_eq : den prog ann 43 (.code r14 :: K) s = mreg prog ann 43 (some [6]) [] none [] [qC 54 6,qC 2 54,qF 3 fun s => some (.int .i64 0)] K s := (den_reg hf _ K s).trans (by kernel_rfl)
theorem ret_eq : den prog ann 43 (.code .ret :: K) s = finM true [fun s => some (s.get 2), fun s => some (s.get 3)] s := (den_ret hf K s).trans (by kernel_rfl)
theorem nil_eq (s : St) : den prog ann 43 [] s = finM true [fun s => some (s.get 2), fun s => some (s.get 3)] s := (den_nil hf s).trans (by kernel_rfl)
theorem inBlock_eq (id : Nat) (K : List Item) (s : St) : den prog ann 43 (.inBlock id :: K) s = den prog ann 43 K s := den_inBlock hf id K s
theorem exit_eq (id : Nat) (K : List Item) (s : St) : den prog ann 43 (.code (.exit id) :: K) s = exitV prog ann 43 (exitTo id K) s := den_exitV hf id K s
theorem call_eq (v0 : AV) (m : Mem) (h : closedL [v0] = true) : denC prog ann 43 [v0] m = (den prog ann 43 [.code b] ⟨[(0, v0)], 55, Mem.empty⟩).bind fun r => some (r.1, m) := (denC_pure hf (b := b) (by kernel_rfl) (by kernel_rfl) (by kernel_rfl) h m).trans (by kernel_rfl)
theorem pure_eq : (ann 43).pure = true := by kernel_rfl
attribute [simp] b_eq r0_eq r1_eq r2_eq i0_eq i0t_eq r3_eq i0e_eq r4_eq r5_eq k0_eq l0_eq r6_eq i1_eq i1t_eq i1e_eq k1_eq r7_eq r8_eq k2_eq l2_eq r9_eq i2_eq i2t_eq i2e_eq k3_eq r10_eq r11_eq r12_eq r13_eq r14_eq ret_eq nil_eq inBlock_eq exit_eq pure_eq
end
end watch_Clocks
end Go.Proofs.Ytdkmepjedjclkaa

/-
  Before, AND WHAT A DEED IS. Conditions: none.
-/
namespace Go.Proofs.Ytdkmepjedjclkaa
open Go.AM
open Go.Proofs.Try (prog)
set_option linter.all false
set_option maxRecDepth 100000
set_option maxHeartbeats 4000000
inductive BefRes (D : List Int) (N : List Note) (a b c d : Int) : Bool → Int → Prop where
  | bad (h : ¬ ValidS D N) : BefRes D N a b c d false 1
  | form (v : ValidS D N) (h : (deedOk D a b && deedOk D c d) = false) : BefRes D N a b c d false 2
  | ok {K : List (List (List Int))} (v : ValidS D N) (h : deedOk D a b = true) (h' : deedOk D c d = true) (k : Clocks D N K) : BefRes D N a b c d (!decide ([a, b] = [c, d]) && decide (b ≤ kn K c.toNat (d.toNat - 1) a.toNat)) 0
end Go.Proofs.Ytdkmepjedjclkaa

/-
  THE REFERENCE's CLOCKS IN MEMORY (1): a row of single deeds. Conditions: none.
-/
namespace Go.Proofs.Ytdkmepjedjclkaa
open Go.AM
open Go.Proofs.Try (prog)
set_option linter.all false
set_option maxRecDepth 100000
set_option maxHeartbeats 4000000
def unitW (n h i : Nat) : List Int := (List.replicate n 0).set h ((i : Int) + 1)
def unitsW (n h k : Nat) : List (List Int) := (List.range k).map (unitW n h)
theorem unitsW_succ (n h k : Nat) : unitsW n h (k + 1) = unitsW n h k ++ [unitW n h k] := by simp [unitsW, List.range_succ]
def rowV (D : List Int) (rids : Nat → Nat) (h : Nat) : AV := .sl (rids h) 1 0 (nth D h).toNat (nth D h).toNat
def rowsV (D : List Int) (rids : Nat → Nat) (k : Nat) : List AV := (List.range k).map (rowV D rids)
theorem rowsV_succ (D : List Int) (rids : Nat → Nat) (k : Nat) : rowsV D rids (k + 1) = rowsV D rids k ++ [rowV D rids k] := by simp [rowsV, List.range_succ]
theorem row_loop {vD vN : AV} {D : List Int} (hD : IsInts vD D) (h4 : D.length ≤ 4) (hi : ∀ i, nth D i ≤ 6) {h : Nat} (hh : h < D.length) {oid : Nat} {rids : Nat → Nat} (Kc : List Item) : ∀ (k j : Nat) (m : Mem), (j : Int) + k = nth D h → m.h (rids h) = some (.cells (flatC rowC (unitsW D.length h j))) → m.h oid = some (.cells (rowsV D rids h)) → rids h < m.nx → oid < m.nx → oid ≠ rids h →
    ∃ m' : Mem, m'.h (rids h) = some (.cells (flatC rowC (unitsW D.length h (nth D h).toNat))) ∧ m'.h oid = some (.cells (rowsV D rids (h + 1))) ∧ m.nx ≤ m'.nx ∧ (∀ id, id < m.nx → id ≠ rids h → id ≠ oid → m'.h id = m.h id) ∧
      r09_Clocks.L2 (.fptr [vD, vN]) (.sl oid 1 0 h h) (.int .i64 h) (.sl (rids h) 1 0 j j) (.int .i64 ((j : Int) + 1)) m (.code r09_Clocks.r12 :: .inBlock 1 :: .code r09_Clocks.r4 :: .inLoop r09_Clocks.l0 :: .inBlock 0 :: Kc) = r09_Clocks.L0 (.fptr [vD, vN]) (.sl oid 1 0 (h + 1) (h + 1)) (.int .i64 ((h : Int) + 1)) m' Kc := by
  intro k
  induction k with
  | zero =>
    intro j m h1 h2 h3 h4' h5 h6
    have e : nth D h = j := by omega
    have hn : ¬ ((j : Int) + 1 ≤ (j : Int)) := by omega
    have hw : IntKind.wrap .i64 ((h : Int) + 1) = (h : Int) + 1 := wrap_id (by omega) (by omega)
    have hro : (rowsV D rids h).length = h := by simp [rowsV]
    have e1 : (oid == m.nx) = false := beq_eq_false_iff_ne.2 (by omega)
    have hro' : (rowsV D rids (h + 1)).length = h + 1 := by simp [rowsV]
    have e2 : (rids h == m.nx) = false := beq_eq_false_iff_ne.2 (by omega)
    have e3 : (rids h == oid) = false := beq_eq_false_iff_ne.2 (fun x => h6 x.symm)
    have hr : rowsV D rids h ++ [.sl (rids h) 1 0 j j] = rowsV D rids (h + 1) := by rw [rowsV_succ, rowV, e]; rfl
    refine ⟨⟨upd (upd m.h m.nx (some (.cells [.sl (rids h) 1 0 j j]))) oid (some (.cells (rowsV D rids (h + 1)))), m.nx + 1⟩, by rw [e]; simpa [e2, e3] using h2, by simp, by simp, fun id a b c => by simp [show (id == m.nx) = false from beq_eq_false_iff_ne.2 (by omega), show (id == oid) = false from beq_eq_false_iff_ne.2 c], ?_⟩
    rw [r09_Clocks.L2_eq]
    simp [hD.idx hh, ints_head hh, e, hn, h3, hro, hro', e1, hr, hw, show h ≤ 4611686018427387903 by omega, show (h + 1) * 24 ≤ 70368744177664 by omega]
    done
  | succ k ih =>
    intro j m h1 h2 h3 h4' h5 h6
    have h6D := hi h
    have hle : (j : Int) + 1 ≤ nth D h := by omega
    have hw1 : IntKind.wrap .i64 ((j : Int) + 1 + 1) = (j : Int) + 1 + 1 := wrap_id (by omega) (by omega)
    have hlenU : (unitsW D.length h j).length = j := by simp [unitsW]
    have hfl : (flatC rowC (unitsW D.length h j)).length = j := by have := flatC_len (k := 1) (rowC_len (unitsW D.length h j)); omega
    have e1 : (rids h == m.nx) = false := beq_eq_false_iff_ne.2 (by omega)
    have e2 : (m.nx == rids h) = false := beq_eq_false_iff_ne.2 (by omega)
    have hUl : (unitW D.length h j).length = D.length := by simp [unitW]
    have hr : flatC rowC (unitsW D.length h j) ++ [.fsl false D.length (ints (unitW D.length h j))] = flatC rowC (unitsW D.length h (j + 1)) := by rw [unitsW_succ, flatC_append, flatC_one]; simp [rowC, hUl]
    obtain ⟨m', i1, i2, i3, i4, i5⟩ := ih (j + 1) ⟨upd (upd m.h m.nx none) (rids h) (some (.cells (flatC rowC (unitsW D.length h (j + 1))))), m.nx + 1⟩ (by omega) (by simp) (by simp [show (oid == m.nx) = false from beq_eq_false_iff_ne.2 (by omega), show (oid == rids h) = false from beq_eq_false_iff_ne.2 h6]; exact h3) (by show rids h < m.nx + 1; omega) (by show oid < m.nx + 1; omega) h6
    refine ⟨m', i1, i2, by have : m.nx + 1 ≤ m'.nx := i3; omega, fun id a b c => ?_, ?_⟩
    · rw [i4 id (by show id < m.nx + 1; omega) b c]
      simp [show (id == m.nx) = false from beq_eq_false_iff_ne.2 (by omega), show (id == rids h) = false from beq_eq_false_iff_ne.2 b]
    · simp only [Int.natCast_add, Int.cast_ofNat_Int] at i5
      rw [← i5, r09_Clocks.L2_eq]
      have hfl2 : (flatC rowC (unitsW D.length h (j + 1))).length = j + 1 := by have := flatC_len (k := 1) (rowC_len (unitsW D.length h (j + 1))); simp [unitsW] at this ⊢; omega
      have hrep : List.replicate D.length (AV.int .i64 0) = ints (List.replicate D.length 0) := by simp [ints]
      have hset : (List.replicate D.length 0).set h ((j : Int) + 1) = unitW D.length h j := rfl
      have htk : (ints (unitW D.length h j)).take D.length = ints (unitW D.length h j) := List.take_of_length_le (by simp [hUl])
      simp at htk
      simp [hD.idx hh, ints_head hh, hle, hD.len, hh, h2, hfl, e1, e2, hw1, hrep, hset, hUl, htk, hr, hfl2, show D.length ≤ 4611686018427387904 by omega, show D.length * 8 ≤ 70368744177664 by omega, show j ≤ 4611686018427387903 by omega, show (j + 1) * 24 ≤ 70368744177664 by omega]
      done
end Go.Proofs.Ytdkmepjedjclkaa

/-
  THE REFERENCE's CLOCKS IN MEMORY (2): all rows. Conditions: none.
-/
namespace Go.Proofs.Ytdkmepjedjclkaa
open Go.AM
open Go.Proofs.Try (prog)
set_option linter.all false
set_option maxRecDepth 100000
set_option maxHeartbeats 4000000
structure CAt (m : Mem) (oid : Nat) (rids : Nat → Nat) (D : List Int) (C : List (List (List Int))) : Prop where
  o : m.h oid = some (.cells (rowsV D rids C.length))
  r : ∀ h, h < C.length → m.h (rids h) = some (.cells (flatC rowC (kth C h)))
  ol : oid < m.nx
  rl : ∀ h, h < C.length → rids h < m.nx
  ne : ∀ h, h < C.length → oid ≠ rids h
  inj : ∀ g h, g < C.length → h < C.length → rids g = rids h → g = h
def unitsC (D : List Int) (k : Nat) : List (List (List Int)) := (List.range k).map fun h => unitsW D.length h (nth D h).toNat
theorem unitsC_len (D : List Int) (k : Nat) : (unitsC D k).length = k := by simp [unitsC]
theorem unitsC_kth (D : List Int) {k h : Nat} (hh : h < k) : kth (unitsC D k) h = unitsW D.length h (nth D h).toNat := by
  simp [kth, unitsC, List.getD, List.getElem?_map, List.getElem?_range hh]
theorem build_loop {vD vN : AV} {D : List Int} (hD : IsInts vD D) (h4 : D.length ≤ 4) (hi : ∀ i, nth D i ≤ 6) (lo : ∀ i, 0 ≤ nth D i) {oid : Nat} (Kc : List Item) : ∀ (k h : Nat) (m : Mem) (rids : Nat → Nat), h + k = D.length → CAt m oid rids D (unitsC D h) →
    ∃ m' rids', CAt m' oid rids' D (unitsC D D.length) ∧ r09_Clocks.L0 (.fptr [vD, vN]) (.sl oid 1 0 h h) (.int .i64 h) m Kc = r09_Clocks.L0 (.fptr [vD, vN]) (.sl oid 1 0 D.length D.length) (.int .i64 D.length) m' Kc := by
  intro k
  induction k with
  | zero =>
    intro h m rids h1 c
    have e : h = D.length := by omega
    subst e
    exact ⟨m, rids, c, rfl⟩
  | succ k ih =>
    intro h m rids h1 c
    have hh : h < D.length := by omega
    have hl := unitsC_len D h
    let rids' : Nat → Nat := fun g => if g = h then m.nx else rids g
    have r0 : rids' h = m.nx := if_pos rfl
    have r1 : ∀ g, g ≠ h → rids' g = rids g := fun g hg => if_neg hg
    have hol := c.ol
    have hrows : rowsV D rids' h = rowsV D rids h := List.map_congr_left fun g hg => by simp only [rowV]; rw [r1 g (by have := List.mem_range.1 hg; omega)]
    have co := c.o
    rw [hl] at co
    have lo' := lo h
    obtain ⟨m', i1, i2, i3, i4, i5⟩ := row_loop (vN := vN) hD h4 hi hh (oid := oid) (rids := rids') Kc (nth D h).toNat 0 ⟨upd m.h m.nx (some (.cells [])), m.nx + 1⟩ (by omega) (by rw [r0]; simp [unitsW]) (by simp [show (oid == m.nx) = false from beq_eq_false_iff_ne.2 (by omega), hrows]; exact co) (by rw [r0]; show m.nx < m.nx + 1; omega) (by show oid < m.nx + 1; omega) (by rw [r0]; omega)
    have c' : CAt m' oid rids' D (unitsC D (h + 1)) := by
      have hl1 := unitsC_len D (h + 1)
      have i3' : m.nx + 1 ≤ m'.nx := i3
      have cr := c.r
      have crl := c.rl
      have cne := c.ne
      have cinj := c.inj
      rw [hl] at cr crl cne cinj
      refine ⟨by rw [hl1]; exact i2, fun g hg => ?_, by omega, fun g hg => ?_, fun g hg => ?_, fun g g' hg hg' e => ?_⟩
      · rw [hl1] at hg
        rw [unitsC_kth D hg]
        by_cases e : g = h
        · rw [e]; exact i1
        · have hgh : g < h := by omega
          have a := crl g hgh
          have b := cne g hgh
          rw [r1 g e, i4 (rids g) (by show rids g < m.nx + 1; omega) (by rw [r0]; omega) (fun x => b x.symm)]
          have := cr g hgh
          rw [unitsC_kth D hgh] at this
          simp [show (rids g == m.nx) = false from beq_eq_false_iff_ne.2 (by omega)]
          exact this
      · rw [hl1] at hg
        by_cases e : g = h
        · rw [e, r0]; omega
        · rw [r1 g e]; have := crl g (by omega); omega
      · rw [hl1] at hg
        by_cases e : g = h
        · rw [e, r0]; omega
        · rw [r1 g e]; exact cne g (by omega)
      · rw [hl1] at hg hg'
        by_cases e1 : g = h
        · by_cases e2 : g' = h
          · omega
          · rw [e1, r0, r1 g' e2] at e; have := crl g' (by omega); omega
        · by_cases e2 : g' = h
          · rw [e2, r0, r1 g e1] at e; have := crl g (by omega); omega
          · rw [r1 g e1, r1 g' e2] at e; exact cinj g g' (by omega) (by omega) e
    obtain ⟨m2, rids2, j1, j2⟩ := ih (h + 1) m' rids' (by omega) c'
    refine ⟨m2, rids2, j1, ?_⟩
    simp only [Int.natCast_add, Int.cast_ofNat_Int] at j2
    rw [← j2, ← i5, r09_Clocks.L0_eq, r0]
    simp [hD.len, hh]
    done
end Go.Proofs.Ytdkmepjedjclkaa

/-
  THE REFERENCE's CLOCKS IN MEMORY (3): at the outset. Conditions: none.
-/
namespace Go.Proofs.Ytdkmepjedjclkaa
open Go.AM
open Go.Proofs.Try (prog)
set_option linter.all false
set_option maxRecDepth 100000
theorem nth_unitW {n h i g : Nat} (hh : h < n) : nth (unitW n h i) g = if g = h then (i : Int) + 1 else 0 := by
  simp only [unitW, nth_set]
  by_cases e : h = g
  · subst e; simp [hh]
  · have : ¬ g = h := fun x => e x.symm
    simp [e, this, nth_zero']
theorem units_inv {D : List Int} {N : List Note} (L : Lims D N) : RInv D N (unitsC D D.length) := by
  have hk : ∀ h, h < D.length → kth (unitsC D D.length) h = unitsW D.length h (nth D h).toNat := fun h hh => unitsC_kth D hh
  have hk0 : ∀ h, D.length ≤ h → kth (unitsC D D.length) h = [] := fun h hh => by simp [kth, unitsC, List.getD, List.getElem?_eq_none (show (List.range D.length).length ≤ h by simpa using hh), hh]
  have hc : ∀ h i, h < D.length → i < (nth D h).toNat → cth (kth (unitsC D D.length) h) i = unitW D.length h i := by
    intro h i hh hi
    rw [hk h hh]
    simp [cth, unitsW, List.getD, List.getElem?_map, List.getElem?_range hi]
  have hin : ∀ h i, i < (kth (unitsC D D.length) h).length → h < D.length ∧ i < (nth D h).toNat := by
    intro h i hi
    rcases Nat.lt_or_ge h D.length with hh | hh
    · rw [hk h hh] at hi; exact ⟨hh, by simpa [unitsW] using hi⟩
    · rw [hk0 h hh] at hi; simp at hi
  refine ⟨unitsC_len D _, fun h hh => by rw [hk h hh]; have := L.lo h; simp [unitsW]; omega, fun h c hcm => ?_, fun V hV h i hi g => ?_, fun h i hi => ?_, fun h i hi g => ?_⟩
  · rcases Nat.lt_or_ge h D.length with hh | hh
    · rw [hk h hh] at hcm
      simp only [unitsW, List.mem_map] at hcm
      obtain ⟨i, _, rfl⟩ := hcm
      simp [unitW]
    · rw [hk0 h hh] at hcm; cases hcm
  · obtain ⟨a, b⟩ := hin h i hi
    show nth _ _ ≤ _
    rw [hc h i a b, nth_unitW a]
    split
    · rename_i e; rw [e]; exact hV.unit h i (by omega)
    · exact hV.pos h i g
  · obtain ⟨a, b⟩ := hin h i hi
    show _ ≤ nth _ _
    rw [hc h i a b, nth_unitW a, if_pos rfl]; exact Int.le_refl _
  · obtain ⟨a, b⟩ := hin h i hi
    show 0 ≤ nth _ _
    rw [hc h i a b, nth_unitW a]
    split <;> omega
end Go.Proofs.Ytdkmepjedjclkaa
