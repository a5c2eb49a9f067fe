/-
  THE PLAIN LAW: the program's clocks and the reference's. Conditions: none.
-/
import Derived.Test.YtdkmepjedjclkaaK02
import Derived.Test.YtdkmepjedjclkaaKAmH
import Derived.Test.YtdkmepjedjclkaaK01
import Derived.Test.YtdkmepjedjclkaaK00
import Derived.Test.YtdkmepjedjclkaaKAmG
set_option linter.all false
namespace Go.Proofs.Ytdkmepjedjclkaa
open Go.AM
open Go.Proofs.Try (prog)
set_option linter.all false
set_option maxRecDepth 10000
abbrev kn (K : List (List (List Int))) (h i g : Nat) : Int := nth (cth (kth K h) i) g
theorem grows_le {K : List (List (List Int))} {h i : Nat} {c : List Int} (hc : c.length = 4) (h4 : (cth (kth K h) i).length = 4) (hg : grows K h i c = false) (g : Nat) : nth c g ≤ kn K h i g := by
  have e : zmax (cth (kth K h) i) c = cth (kth K h) i := by simpa [grows] using hg
  have := nth_zmax (a := cth (kth K h) i) (b := c) (by omega) g
  rw [e] at this
  show nth c g ≤ nth (cth (kth K h) i) g
  omega
structure Clocks (D : List Int) (N : List Note) (K : List (List (List Int))) : Prop where
  P : Pre D N
  I : Inv D N K
  C : Closed D N K
  F : ∀ h, Four (kth K h)
section
variable {D : List Int} {N : List Note} {K : List (List (List Int))}
theorem Clocks.in (c : Clocks D N K) {h i : Nat} (hh : h < D.length) (hi : (i : Int) < nth D h) : i < (kth K h).length := by
  have := c.I.rows h hh; omega
theorem Clocks.own (c : Clocks D N K) {h i : Nat} (hh : h < D.length) (hi : (i : Int) + 1 < nth D h) (g : Nat) : kn K h i g ≤ kn K h (i + 1) g := by
  have a := c.in hh (i := i) (by omega)
  have b := c.in hh (i := i + 1) (by omega)
  have := c.C.1 h (i + 1) hh (by omega) (by omega)
  exact grows_le (c.F h _ (cth_mem a)) (c.F h _ (cth_mem b)) (by simpa [okOwn] using this) g
theorem Clocks.mono (c : Clocks D N K) {h : Nat} (hh : h < D.length) (g : Nat) : ∀ (d i : Nat), ((i + d : Nat) : Int) < nth D h → kn K h i g ≤ kn K h (i + d) g
  | 0, i, _ => Int.le_refl _
  | d + 1, i, hi => by
    have := c.mono hh g d i (by omega)
    have := c.own hh (i := i + d) (by omega) g
    rw [show i + (d + 1) = i + d + 1 by omega]; omega
theorem Clocks.note (c : Clocks D N K) {x : Note} (hx : x ∈ N) (g : Nat) : kn K x.f.toNat (x.s.toNat - 1) g ≤ kn K x.t.toNat (x.r.toNat - 1) g := by
  have q := c.P.notes x hx
  obtain ⟨f0, f1, t0, t1, ne, s0, s1, r0, r1⟩ := q
  have a := c.in (h := x.f.toNat) (i := x.s.toNat - 1) (by omega) (by omega)
  have b := c.in (h := x.t.toNat) (i := x.r.toNat - 1) (by omega) (by omega)
  exact grows_le (c.F _ _ (cth_mem a)) (c.F _ _ (cth_mem b)) (c.C.2 x hx) g
theorem nth_zero' (n i : Nat) : nth (List.replicate n 0) i = 0 := by
  simp only [nth, List.getD, List.getElem?_replicate]; split <;> rfl
structure Sched (N : List Note) (n : Nat) (x : List Int) (V : Nat → Nat → Nat → Int) : Prop where
  len : x.length = n
  pos : ∀ h, 0 ≤ nth x h
  self : ∀ (h i : Nat), (i : Int) < nth x h → V h i h = (i : Int) + 1
  lo : ∀ h i g, 0 ≤ V h i g
  hi : ∀ (h i g : Nat), (i : Int) < nth x h → V h i g ≤ nth x g
  own : ∀ (h i g : Nat), (i : Int) + 1 < nth x h → V h i g ≤ V h (i + 1) g
  sent : ∀ y ∈ N, y.r ≤ nth x y.t.toNat → y.s ≤ nth x y.f.toNat
  note : ∀ y ∈ N, y.r ≤ nth x y.t.toNat → ∀ g, V y.f.toNat (y.s.toNat - 1) g ≤ V y.t.toNat (y.r.toNat - 1) g
  diff : ∀ h g, h ≠ g → ∀ (i j : Nat), (i : Int) < nth x h → (j : Int) < nth x g → ¬ ((i : Int) + 1 ≤ V g j h ∧ (j : Int) + 1 ≤ V h i g)
theorem sched {D : List Int} {N : List Note} (P : Pre D N) {x : List Int} (r : Reach D N x) : ∃ V, Sched N D.length x V := by
  induction r with
  | zero =>
    refine ⟨fun _ _ _ => 0, by simp, ?_, ?_, fun _ _ _ => Int.le_refl _, ?_, ?_, ?_, ?_, ?_⟩
    · intro h; rw [nth_zero']; omega
    · intro h i hi; rw [nth_zero'] at hi; omega
    · intro h i g hi; rw [nth_zero'] at hi; omega
    · intro h i g hi; exact Int.le_refl _
    · intro y hy hr
      have := (P.notes y hy).r0
      rw [nth_zero'] at hr; omega
    · intro y hy hr; exact fun _ => Int.le_refl _
    · intro h g _ i j hi; rw [nth_zero'] at hi; omega
  | @step x h0 r s ih =>
    obtain ⟨V, v⟩ := ih
    obtain ⟨s1, s2, s3⟩ := s
    have hl := v.len
    have hx : ∀ g, nth (x.set h0 (nth x h0 + 1)) g = if h0 = g then nth x h0 + 1 else nth x g := by
      intro g
      rw [nth_set]
      by_cases e : h0 = g
      · simp [e, show g < x.length by omega]
      · simp [e]
    generalize hx' : x.set h0 (nth x h0 + 1) = x' at hx
    have hle : ∀ g, nth x g ≤ nth x' g := by
      intro g; rw [hx]; split
      · rename_i e; subst e; omega
      · omega
    have hl' : x'.length = D.length := by rw [← hx']; simpa using hl
    have p0 := v.pos h0
    obtain ⟨a, ha⟩ : ∃ a : Nat, nth x h0 = a := ⟨(nth x h0).toNat, by omega⟩
    let W : Nat → Nat → Nat → Int := fun h i g => if h = h0 ∧ i = a then nth x' g else V h i g
    have hW : ∀ h i g, W h i g = if h = h0 ∧ i = a then nth x' g else V h i g := fun _ _ _ => rfl
    have old : ∀ (h i : Nat), (i : Int) < nth x h → ¬ (h = h0 ∧ i = a) := by
      rintro h i hi ⟨rfl, rfl⟩; omega
    have new : ∀ (h i : Nat), (i : Int) < nth x' h → (i : Int) < nth x h ∨ (h = h0 ∧ i = a) := by
      intro h i hi
      rw [hx] at hi
      split at hi
      · rename_i e; subst e
        by_cases e2 : i = a
        · exact .inr ⟨rfl, e2⟩
        · left; omega
      · exact .inl hi
    have oldN : ∀ y ∈ N, y.r ≤ nth x' y.t.toNat → y.r ≤ nth x y.t.toNat ∨ (y.t.toNat = h0 ∧ y.r = (a : Int) + 1 ∧ y.s ≤ nth x y.f.toNat) := by
      intro y hy hr
      obtain ⟨f0, f1, t0, t1, ne, s0, s1, r0, r1⟩ := P.notes y hy
      rw [hx] at hr
      split at hr
      · rename_i e
        by_cases e2 : y.r ≤ nth x y.t.toNat
        · exact .inl e2
        · right
          rw [← e] at e2
          refine ⟨e.symm, by omega, ?_⟩
          simp only [readyL, List.all_eq_true] at s3
          have := s3 y hy
          have e3 : y.t = (h0 : Int) := by omega
          have e4 : y.r = nth x h0 + 1 := by omega
          simp [readyOk, e3, e4] at this
          exact this
      · exact .inl hr
    refine ⟨W, hl', ?_, ?_, ?_, ?_, ?_, ?_, ?_, ?_⟩
    · intro h; have := v.pos h; have := hle h; omega
    · intro h i hi
      rw [hW]
      rcases new h i hi with h1 | ⟨h1, h2⟩
      · rw [if_neg (old h i h1)]; exact v.self h i h1
      · rw [if_pos ⟨h1, h2⟩, h1, hx, if_pos rfl]; omega
    · intro h i g
      rw [hW]; split
      · have := v.pos g; have := hle g; omega
      · exact v.lo h i g
    · intro h i g hi
      rw [hW]
      rcases new h i hi with h1 | ⟨h1, h2⟩
      · rw [if_neg (old h i h1)]; have := v.hi h i g h1; have := hle g; omega
      · rw [if_pos ⟨h1, h2⟩]; exact Int.le_refl _
    · intro h i g hi
      have hi0 : (i : Int) < nth x h := by
        rcases new h (i + 1) (by omega) with h1 | ⟨h1, h2⟩
        · omega
        · subst h1; omega
      rw [hW, if_neg (old h i hi0), hW]
      split
      · have := v.hi h i g hi0; have := hle g; omega
      · rename_i e
        rcases new h (i + 1) (by omega) with h1 | h1
        · exact v.own h i g (by omega)
        · exact absurd h1 e
    · intro y hy hr
      have := hle y.f.toNat
      rcases oldN y hy hr with h1 | ⟨_, _, h1⟩
      · have := v.sent y hy h1; omega
      · omega
    · intro y hy hr g
      obtain ⟨f0, f1, t0, t1, ne, s0, s1, r0, r1⟩ := P.notes y hy
      rcases oldN y hy hr with h1 | ⟨h1, h2, h3⟩
      · have h4 := v.sent y hy h1
        rw [hW, if_neg (old _ _ (by omega)), hW, if_neg (old _ _ (by omega))]
        exact v.note y hy h1 g
      · rw [hW, if_neg (old _ _ (by omega)), hW, if_pos ⟨h1, by omega⟩]
        have := v.hi y.f.toNat (y.s.toNat - 1) g (by omega)
        have := hle g; omega
    · intro h g hne i j hi hj
      rw [hW, hW]
      rcases new h i hi with h1 | ⟨h1, h2⟩
      · rw [if_neg (old h i h1)]
        rcases new g j hj with k1 | ⟨k1, k2⟩
        · rw [if_neg (old g j k1)]; exact v.diff h g hne i j h1 k1
        · have := v.hi h i g h1
          subst k1; omega
      · rcases new g j hj with k1 | ⟨k1, k2⟩
        · rw [if_neg (old g j k1)]
          have := v.hi g j h k1
          subst h1; omega
        · omega
theorem good_of_reach (c : Clocks D N K) (r : Reach D N D) : badAll K D.length 0 = false := by
  obtain ⟨V, v⟩ := sched c.P r
  have S : Super D N V := by
    refine ⟨fun h i hi => by rw [v.self h i hi]; omega, v.lo, fun h i g hi => v.own h i g hi, fun x hx g => v.note x hx (c.P.notes x hx).r1 g⟩
  have low : ∀ (h i : Nat), h < D.length → (i : Int) < nth D h → ∀ g, kn K h i g ≤ V h i g := fun h i hh hi g => c.I.low V S h i (c.in hh hi) g
  have self : ∀ (h i : Nat), h < D.length → (i : Int) < nth D h → kn K h i h = (i : Int) + 1 := by
    intro h i hh hi
    have := low h i hh hi h
    rw [v.self h i hi] at this
    have := c.I.unit h i (c.in hh hi)
    show nth _ _ = _
    simp only [kn] at *; omega
  cases hb : badAll K D.length 0 with
  | false => rfl
  | true =>
    exfalso
    simp only [badAll, List.any_eq_true, List.mem_range'_1, badRow, Bool.or_eq_true, Bool.not_eq_true', decide_eq_false_iff_not, badIn, Bool.and_eq_true, decide_eq_true_eq] at hb
    obtain ⟨h, hh, i, hi, hb⟩ := hb
    have hh' : h < D.length := by omega
    have hrow := c.I.rows h hh'
    have hi' : (i : Int) < nth D h := by omega
    rcases hb with hb | ⟨g, hg, hne, hm⟩
    · exact hb (self h i hh' hi')
    · have hg' : g < D.length := by omega
      have hrow2 := c.I.rows g hg'
      obtain ⟨j, hj, e⟩ := List.getElem_of_mem hm
      have hj' : (j : Int) < nth D g := by omega
      have e2 : cth (kth K g) j = cth (kth K h) i := by rw [← e]; simp [cth, List.getD, List.getElem?_eq_getElem hj]
      refine v.diff h g (fun x => hne x.symm) i j hi' hj' ⟨?_, ?_⟩
      · have a := self h i hh' hi'
        have b := low g j hg' hj' h
        simp only [kn] at a b; rw [e2] at b; omega
      · have a := self g j hg' hj'
        have b := low h i hh' hi' g
        simp only [kn] at a b; rw [← e2] at b; omega
theorem stuck_exists (L : Lims D N) : ∀ (k : Nat) (x : List Int), Reach D N x → (D.sum - x.sum).toNat ≤ k → ∃ y, Reach D N y ∧ Stuck D N y := by
  intro k
  induction k with
  | zero =>
    intro x r hk
    refine ⟨x, r, fun h s => ?_⟩
    have r2 := Reach.step r s
    have b := r.box L.lo
    have b2 := r2.box L.lo
    have hs := s.1
    have := sum_set x h (nth x h + 1) (by have := b.len; omega)
    have := sum_le _ _ b2.len b2.hi
    omega
  | succ k ih =>
    intro x r hk
    by_cases hst : Stuck D N x
    · exact ⟨x, r, hst⟩
    · have : ∃ h, Step D N x h := Classical.byContradiction fun hh => hst fun h s => hh ⟨h, s⟩
      obtain ⟨h, s⟩ := this
      have b := r.box L.lo
      have hs := s.1
      have := sum_set x h (nth x h + 1) (by have := b.len; omega)
      exact ih _ (Reach.step r s) (by omega)
theorem sum_eq : ∀ (a b : List Int), a.length = b.length → (∀ i, nth a i ≤ nth b i) → b.sum ≤ a.sum → a = b
  | [], [], _, _, _ => rfl
  | x :: a, y :: b, hl, h, hs => by
    have h0 := h 0
    have ht : ∀ i, nth a i ≤ nth b i := fun i => by simpa [nth_cons1] using h (i + 1)
    have := sum_le a b (by simpa using hl) ht
    simp only [nth_cons0] at h0
    simp only [List.sum_cons] at hs
    have e1 : x = y := by omega
    rw [e1, sum_eq a b (by simpa using hl) ht (by omega)]
theorem reach_of_good (c : Clocks D N K) (hb : badAll K D.length 0 = false) : Reach D N D := by
  obtain ⟨y, r, st⟩ := stuck_exists c.P.L _ _ (Reach.zero (D := D) (N := N)) (Nat.le_refl _)
  have b := r.box c.P.L.lo
  have none : ∀ (k h : Nat), h < D.length → nth y h < nth D h → ((cth (kth K h) (nth y h).toNat).sum).toNat ≤ k → False := by
    intro k
    induction k with
    | zero => ?_
    | succ k ih => ?_
    all_goals
      intro h hh hlt hk
      have hny : readyL N y h = false := by
        cases e : readyL N y h with
        | false => rfl
        | true => exact absurd ⟨hh, hlt, e⟩ (st h)
      have p0 := b.lo h
      simp only [readyL, List.all_eq_false] at hny
      obtain ⟨x, hx, e⟩ := hny
      obtain ⟨f0, f1, t0, t1, ne, s0, s1, r0, r1⟩ := c.P.notes x hx
      have e' : x.t = (h : Int) ∧ x.r = nth y h + 1 ∧ nth y x.f.toNat < x.s := by
        simpa [readyOk] using e
      obtain ⟨e1, e2, e3⟩ := e'
      have pf := b.lo x.f.toNat
      have m1 := fun g => c.note hx g
      have m2 := fun g => c.mono (h := x.f.toNat) (by omega) g (x.s.toNat - 1 - (nth y x.f.toNat).toNat) (nth y x.f.toNat).toNat (by omega)
      have ei : (nth y x.f.toNat).toNat + (x.s.toNat - 1 - (nth y x.f.toNat).toNat) = x.s.toNat - 1 := by omega
      rw [ei] at m2
      have et : x.t.toNat = h := by omega
      have er : x.r.toNat - 1 = (nth y h).toNat := by omega
      rw [et, er] at m1
      have le : ∀ g, kn K x.f.toNat (nth y x.f.toNat).toNat g ≤ kn K h (nth y h).toNat g := fun g => Int.le_trans (m2 g) (m1 g)
      have in1 := c.in (h := h) (i := (nth y h).toNat) hh (by omega)
      have in2 := c.in (h := x.f.toNat) (i := (nth y x.f.toNat).toNat) (by omega) (by omega)
      have l1 := c.F h _ (cth_mem in1)
      have l2 := c.F x.f.toNat _ (cth_mem in2)
      have pos2 : ∀ g, 0 ≤ nth (cth (kth K x.f.toNat) (nth y x.f.toNat).toNat) g := c.I.pos _ _ in2
      have sle := sum_le _ _ (by rw [l2, l1]) le
      have s0' : 0 ≤ (cth (kth K x.f.toNat) (nth y x.f.toNat).toNat).sum := by
        have := sum_le [0, 0, 0, 0] _ (by rw [l2]; rfl) (fun i => by have := pos2 i; have z : nth [0, 0, 0, 0] i = 0 := nth_zero' 4 i; omega)
        simpa using this
      by_cases eq : (cth (kth K h) (nth y h).toNat).sum ≤ (cth (kth K x.f.toNat) (nth y x.f.toNat).toNat).sum
      · have e4 := sum_eq _ _ (by rw [l2, l1]) le eq
        rw [← Bool.not_eq_true] at hb
        apply hb
        simp only [badAll, List.any_eq_true, List.mem_range'_1, badRow, Bool.or_eq_true, Bool.not_eq_true', decide_eq_false_iff_not, badIn, Bool.and_eq_true, decide_eq_true_eq]
        refine ⟨h, by omega, (nth y h).toNat, by omega, .inr ⟨x.f.toNat, by omega, by omega, ?_⟩⟩
        rw [← e4]; exact cth_mem in2
      · first
          | exact ih x.f.toNat (by omega) (by omega) (by omega)
          | omega
  have e : y = D := ext_nth b.len fun i => by
    have h1 := b.hi i
    rcases Nat.lt_or_ge i D.length with h2 | h2
    · rcases Int.lt_or_eq_of_le h1 with h3 | h3
      · exact absurd (none _ i h2 h3 (Nat.le_refl _)) id
      · exact h3
    · rw [nth_out h2, nth_out (by have := b.len; omega)]
  rw [e] at r; exact r
end
end Go.Proofs.Ytdkmepjedjclkaa

/-
  THE PLAIN LAW (2): the program's consistent cuts are the reference's. Conditions: none.
-/
namespace Go.Proofs.Ytdkmepjedjclkaa
open Go.AM
open Go.Proofs.Try (prog)
set_option linter.all false
set_option maxRecDepth 10000
section
variable {D : List Int} {N : List Note} {K : List (List (List Int))}
def In (K : List (List (List Int))) (c : List Int) (n h : Nat) : Prop := ∀ g, h ≤ g → g < n → 0 < nth c g → ∀ q, kn K g ((nth c g).toNat - 1) q ≤ nth c q
theorem forthR_ge (F : ∀ h, Four (kth K h)) {c : List Int} {n : Nat} (hi : ∀ h, h < n → nth c h ≤ (kth K h).length) : ∀ (k h : Nat) (out : List Int), h + k ≤ n → out.length = 4 → ∀ q, nth out q ≤ nth (forthR K c k h out) q
  | 0, _, _, _, ho, _ => Int.le_refl _
  | k + 1, h, out, hk, ho, q => by
    simp only [forthR]
    by_cases h2 : 0 < nth c h
    · have h3 := hi h (by omega)
      have h4 : (clk K h ((nth c h).toNat - 1)).length = 4 := F h _ (cth_mem (by omega))
      rw [if_pos h2]
      have h5 := forthR_ge F hi k (h + 1) (zmax out (clk K h ((nth c h).toNat - 1))) (by omega) (zmax_len ho h4) q
      rw [nth_zmax (by omega)] at h5
      omega
    · rw [if_neg h2]; exact forthR_ge F hi k (h + 1) _ (by omega) ho q
theorem forthR_iff (F : ∀ h, Four (kth K h)) {c : List Int} {n : Nat} (hc : c.length = 4) (hi : ∀ h, h < n → nth c h ≤ (kth K h).length) : ∀ (k h : Nat), h + k = n → (forthR K c k h c = c ↔ In K c n h)
  | 0, h, hk => ⟨fun _ g h1 h2 => by omega, fun _ => rfl⟩
  | k + 1, h, hk => by
    simp only [forthR]
    have ih := forthR_iff F hc hi k (h + 1) (by omega)
    by_cases h2 : 0 < nth c h
    · have h3 := hi h (by omega)
      have h4 : (clk K h ((nth c h).toNat - 1)).length = 4 := F h _ (cth_mem (by omega))
      rw [if_pos h2]
      have hz := fun q => nth_zmax (a := c) (b := clk K h ((nth c h).toNat - 1)) (by omega) q
      have hzl : (zmax c (clk K h ((nth c h).toNat - 1))).length = 4 := zmax_len hc h4
      constructor
      · intro e
        have ge := forthR_ge F hi k (h + 1) _ (by omega) hzl
        rw [e] at ge
        have ez : zmax c (clk K h ((nth c h).toNat - 1)) = c := ext_nth (by omega) fun q => by have := ge q; have := hz q; omega
        rw [ez] at e
        intro g g1 g2 g3 q
        rcases Nat.lt_or_ge h g with h5 | h5
        · exact ih.1 e g h5 g2 g3 q
        · have : g = h := by omega
          subst this
          have := hz q; rw [ez] at this
          show nth (clk K g _) q ≤ _
          omega
      · intro a
        have ez : zmax c (clk K h ((nth c h).toNat - 1)) = c := ext_nth (by omega) fun q => by
          have := a h (Nat.le_refl _) (by omega) h2 q
          rw [hz]
          show max (nth c q) (kn K h _ q) = _
          omega
        rw [ez]
        exact ih.2 fun g g1 g2 => a g (by omega) g2
    · rw [if_neg h2, ih]
      constructor
      · intro a g g1 g2 g3
        rcases Nat.lt_or_ge h g with h5 | h5
        · exact a g h5 g2 g3
        · have : g = h := by omega
          subst this; exact absurd g3 h2
      · intro a g g1 g2; exact a g (by omega) g2
theorem nth_take {l : List Int} {n i : Nat} (h : i < n) : nth (l.take n) i = nth l i := by simp [nth, List.getD, List.getElem?_take, h]
theorem conR_iff {c : List Int} : conR N c = true ↔ ∀ x ∈ N, x.r ≤ nth c x.t.toNat → x.s ≤ nth c x.f.toNat := by
  simp only [conR, List.all_eq_true, noteOk]
  constructor
  · intro h x hx hr
    have := h x hx
    simp [hr] at this; exact this
  · intro h x hx
    by_cases q : x.r ≤ nth c x.t.toNat
    · have := h x hx q
      simp [q]; omega
    · simp [q]
theorem in_iff (k : Clocks D N K) {c : List Int} (hc : IsCut D.length (pad D) c) : forthL K D.length c = c ↔ conR N (c.take D.length) = true := by
  have hD : ∀ h, nth c h ≤ nth D h := fun h => by have := hc.hi h; rw [nth_pad] at this; exact this
  have hi : ∀ h, h < D.length → nth c h ≤ (kth K h).length := fun h hh => by rw [k.I.rows h hh]; exact hD h
  rw [forthL, forthR_iff k.F hc.len hi _ 0 (by omega), conR_iff]
  constructor
  · intro a x hx hr
    obtain ⟨f0, f1, t0, t1, ne, s0, s1, r0, r1⟩ := k.P.notes x hx
    rw [nth_take (by omega)] at hr ⊢
    have h1 := a x.t.toNat (by omega) (by omega) (by omega) x.f.toNat
    have h2 := k.mono (h := x.t.toNat) (by omega) x.f.toNat ((nth c x.t.toNat).toNat - x.r.toNat) (x.r.toNat - 1) (by have := hD x.t.toNat; omega)
    rw [show x.r.toNat - 1 + ((nth c x.t.toNat).toNat - x.r.toNat) = (nth c x.t.toNat).toNat - 1 by omega] at h2
    have h3 := k.note hx x.f.toNat
    have h4 := k.I.unit x.f.toNat (x.s.toNat - 1) (k.in (by omega) (by omega))
    have h4' : ((x.s.toNat - 1 : Nat) : Int) + 1 ≤ kn K x.f.toNat (x.s.toNat - 1) x.f.toNat := h4
    omega
  · intro a g _ hg hpos q
    let V : Nat → Nat → Nat → Int := fun h i q => if (i : Int) < nth c h then nth c q else nth D q
    have hV : ∀ h i q, V h i q = if (i : Int) < nth c h then nth c q else nth D q := fun _ _ _ => rfl
    have S : Super D N V := by
      refine ⟨fun h i h1 => ?_, fun h i g => ?_, fun h i g h1 => ?_, fun x hx g => ?_⟩
      · rw [hV]; split <;> omega
      · rw [hV]; split
        · exact hc.lo g
        · exact k.P.L.lo g
      · rw [hV, hV]
        have := hD g
        split <;> split <;> omega
      · obtain ⟨f0, f1, t0, t1, ne, s0, s1, r0, r1⟩ := k.P.notes x hx
        have h1 := a x hx
        rw [nth_take (by omega), nth_take (by omega)] at h1
        rw [hV, hV]
        have := hD g
        split <;> split <;> omega
    have h1 := k.I.low V S g ((nth c g).toNat - 1) (k.in hg (by have := hD g; omega)) q
    rw [hV, if_pos (by omega)] at h1
    exact h1
theorem enumR_take {D4 : List Int} : ∀ (k h : Nat) (c : List Int), ∀ x ∈ enumR D4 k h c, x.take h = c.take h ∧ x.length = c.length
  | 0, h, c, x, hx => by simp [enumR] at hx; subst hx; exact ⟨rfl, rfl⟩
  | k + 1, h, c, x, hx => by
    simp only [enumR, List.mem_flatMap, List.mem_range] at hx
    obtain ⟨i, hi, hx⟩ := hx
    obtain ⟨a, b⟩ := enumR_take k (h + 1) _ x hx
    refine ⟨?_, by simpa using b⟩
    have := congrArg (List.take h) a
    rw [List.take_take, List.take_take, Nat.min_eq_left (by omega)] at this
    rw [this, List.take_set_of_le (Nat.le_refl h)]
theorem enumR_tuples {D4 : List Int} : ∀ (E : List Int) (h : Nat) (c : List Int), h + E.length ≤ c.length → (∀ i, i < E.length → nth D4 (h + i) = nth E i) →
    (enumR D4 E.length h c).map (fun x => (x.drop h).take E.length) = tuplesL E
  | [], h, c, _, _ => by simp [enumR, tuplesL]
  | d :: E, h, c, hl, hE => by
    have h0 := hE 0 (by simp)
    simp only [Nat.add_zero, nth_cons0] at h0
    simp only [List.length_cons, enumR, tuplesL, List.map_flatMap, h0]
    congr 1
    funext i
    have ih := enumR_tuples E (h + 1) (c.set h (i : Int)) (by simp at hl ⊢; omega) (fun j hj => by have := hE (j + 1) (by simpa using hj); rw [nth_cons1] at this; rw [← this]; congr 1; omega)
    rw [← ih, List.map_map]
    refine List.map_congr_left fun x hx => ?_
    obtain ⟨a, b⟩ := enumR_take _ _ _ x hx
    have hx : h < x.length := by rw [b]; simp at hl ⊢; omega
    have e : x[h] = (i : Int) := by
      have := congrArg (fun l : List Int => l[h]?) a
      simp only [List.getElem?_take, Nat.lt_succ_self, if_true] at this
      rw [List.getElem?_eq_getElem hx] at this
      simp at hl
      rw [List.getElem?_set_self (by omega)] at this
      simpa using this
    simp only [Function.comp]
    rw [List.drop_eq_getElem_cons hx, List.take_succ_cons, e]
theorem allL_eq (k : Clocks D N K) : (allL (pad D) K D.length).map (fun c => c.take D.length) = cutsL D N := by
  have h4 := k.P.L.n4
  have e := enumR_tuples (D4 := pad D) D 0 [0, 0, 0, 0] (by simp; omega) (fun i _ => by rw [Nat.zero_add, nth_pad])
  simp only [List.drop_zero] at e
  rw [cutsL, ← e, allL, List.filter_map]
  congr 1
  refine List.filter_congr fun c hc => ?_
  have hz : IsCut D.length (pad D) [0, 0, 0, 0] := ⟨rfl, fun h => by have : nth [0, 0, 0, 0] h = 0 := nth_zero' 4 h; omega, fun h => by have : nth [0, 0, 0, 0] h = 0 := nth_zero' 4 h; have := k.P.L.lo h; rw [nth_pad]; omega⟩
  have hcut := enumR_cut (D := pad D) (fun h => by rw [nth_pad]; exact k.P.L.lo h) _ _ _ hz c hc
  have := in_iff k hcut
  simp only [Function.comp]
  cases hq : conR N (c.take D.length) with
  | true => simp [this.2 hq]
  | false => simp; intro h; rw [this.1 h] at hq; cases hq
end
end Go.Proofs.Ytdkmepjedjclkaa

/-
  BODIES OF FUNCTIONS OF THE PROGRAM AS SMALL OPERATIONS (written by gen.py; checked by the kernel against the program). Conditions: none.
-/
namespace Go.Proofs.Ytdkmepjedjclkaa
open Go.AM
open Go.Proofs.Try (prog)
set_option maxRecDepth 100000
set_option linter.all false
end Go.Proofs.Ytdkmepjedjclkaa

/-
  At, AND WHAT THE LAWS CALL. Conditions: none.
-/
namespace Go.Proofs.Ytdkmepjedjclkaa
open Go.AM
open Go.Proofs.Try (prog)
set_option linter.all false
set_option maxRecDepth 100000
theorem okV_story {D : List Int} {N : List Note} {K : List (List (List Int))} (P : Pre D N) (I : Inv D N K) (h4 : K.length = 4) (F : ∀ h, Four (kth K h)) (few : ∀ h, (kth K h).length ≤ 6) :
    IsStory (.fptr (.int .i64 D.length :: (ints (pad D) ++ vals4 K))) D.length (pad D) K := by
  have hs : ∀ h, IsSl ints (valK K h) (kth K h) := fun h => by
    by_cases e : kth K h = []
    · exact .inl ⟨by simp [valK, e], e⟩
    · exact .inr ⟨false, by simp [valK, e]⟩
  refine ⟨⟨vals4 K, rfl, rfl, fun h hh => ?_⟩, pad_len P.L.n4, P.L.n4, P.L.n1, F, few, fun h hh => by rw [nth_pad]; exact I.rows h hh, fun h hh => by rw [nth_pad]; exact nth_out hh, fun h => by rw [nth_pad]; exact P.L.lo h⟩
  match h, hh with
  | 0, _ => exact hs 0
  | 1, _ => exact hs 1
  | 2, _ => exact hs 2
  | 3, _ => exact hs 3
theorem IsStory.closed {v : AV} {n : Nat} {D : List Int} {K : List (List (List Int))} (s : IsStory v n D K) : v.closed = true := by obtain ⟨V, rfl, _⟩ := s.V; rfl
theorem IsStory.one {v : AV} {n : Nat} {D : List Int} {K : List (List (List Int))} (s : IsStory v n D K) : v.one = true := by obtain ⟨V, rfl, _⟩ := s.V; rfl
theorem pure_any {f : Nat} {a : List AV} {X : Option Res} {v : AV} {m0 : Mem} (h : ∀ m, denC prog ann f a m = X.bind fun r => some (r.1, m)) (e : denC prog ann f a m0 = some (v, m0)) : ∀ m, denC prog ann f a m = some (v, m) := by
  intro m
  rw [h] at e ⊢
  obtain ⟨q, h3, h4⟩ := Option.bind_eq_some_iff.1 e
  rw [h3]
  simp at h4 ⊢
  exact h4
theorem ValidS.pre {D : List Int} {N : List Note} (v : ValidS D N) : Pre D N := ⟨v.lims, v.notes⟩
theorem Pre.valid {D : List Int} {N : List Note} (P : Pre D N) (r : Reach D N D) : ValidS D N := ⟨P.L.n1, P.L.n4, P.L.lo, P.L.hi, P.L.N24, P.notes, r⟩
inductive IsRead (D : List Int) (N : List Note) : AV → Prop where
  | ok {sv : AV} {K : List (List (List Int))} (v : ValidS D N) (k : Clocks D N K) (s : IsStory sv D.length (pad D) K) : IsRead D N (.tup [sv, .bool true])
  | no (h : ¬ ValidS D N) : IsRead D N (.tup [.nilp, .bool false])
theorem readV_spec {v : AV} {D : List Int} {N : List Note} (hs : IsTale v D N) (hl : D.length < 100000) (hn : N.length < 100000) : ∃ r, IsRead D N r ∧ ∀ m, denC prog ann 61 [v] m = some (r, m) := by
  obtain ⟨r, h, e⟩ := read_spec hs hl hn
  refine ⟨r, ?_, e⟩
  rcases h with ⟨P, K, I, C, h4, F, few, rfl⟩ | ⟨h, rfl⟩
  · have k : Clocks D N K := ⟨P, I, C, F⟩
    cases hb : badAll K D.length 0 with
    | true =>
      refine .no fun v => ?_
      rw [good_of_reach k v.all] at hb; cases hb
    | false => exact .ok (P.valid (reach_of_good k hb)) k (okV_story P I h4 F few)
  · exact .no fun v => h v.pre
@[simp] theorem lives_pure : (ann 22).pure = true := by kernel_rfl
structure AtRes (D : List Int) (N : List Note) (rank : Int) (v : AV) (e : Int) : Prop where
  bad : ¬ ValidS D N → v = .nils ∧ e = 1
  none : ValidS D N → (rank < 0 ∨ (cutsL D N).length ≤ rank) → v = .nils ∧ e = 5
  ok : ValidS D N → 0 ≤ rank → rank < (cutsL D N).length → IsInts v ((cutsL D N).getD rank.toNat []) ∧ e = 0
end Go.Proofs.Ytdkmepjedjclkaa

/-
  BODIES OF FUNCTIONS OF THE PROGRAM AS SMALL OPERATIONS (written by gen.py; checked by the kernel against the program). Conditions: none.
-/
namespace Go.Proofs.Ytdkmepjedjclkaa
open Go.AM
open Go.Proofs.Try (prog)
set_option maxRecDepth 100000
set_option linter.all false
namespace watch_Consistent
noncomputable section
variable (K : List Item) (s : St)
def b : Code := (Try.f30.body).getD .skip
theorem hf : prog.funcs[30]? = some Try.f30 := by kernel_rfl
def r0 := findReg b 0
def r1 := findReg b 1
def r2 := findReg b 2
def i0 := findCond b 0
def i0t := thenOf i0
def i0e := elseOf i0
def r3 := findReg b 3
def r4 := findReg b 4
def r5 := findReg b 5
def i1 := findCond b 1
def i1t := thenOf i1
def i1e := elseOf i1
def r6 := findReg b 6
def r7 := findReg b 7
theorem b_eq : den prog ann 30 (.code b :: K) s = den prog ann 30 (.code r0 :: .code r1 :: .code r2 :: .code i0 :: .code r4 :: .code r5 :: .code i1 :: .code r7 :: .code .ret :: K) s := den_flat hf (l := [r0, r1, r2, i0, r4, r5, i1, r7, .ret]) (by kernel_rfl) K s
theorem r0_eq : den prog ann 30 (.code r0 :: K) s = mreg prog ann 30 none [] none [] [qA 2 frozenPtr 0,qF 4 fun s => some (.bool false),qF 5 fun s => some (.int .i64 0)] K s := (den_reg hf _ K s).trans (by kernel_rfl)
theorem r1_eq : den prog ann 30 (.code r1 :: K) s = mreg prog ann 30 none [] none [] [qA 10 (loadF true 2) 2,⟨some 11, none, .c 0 (fun s => (.fn 61 [] [])) fun s => [(s.get 10)]⟩,qC 9 11,qF 12 fun s => extA (s.get 9) 0,qF 13 fun s => extA (s.get 9) 1,qC 6 12,qC 7 13] K s := (den_reg hf _ K s).trans (by kernel_rfl)
theorem r2_eq : den prog ann 30 (.code r2 :: K) s = mreg prog ann 30 none [] none [] [qC 14 7,qA 15 (unA .not) 14] K s := (den_reg hf _ K s).trans (by kernel_rfl)
theorem i0_eq : den prog ann 30 (.code i0 :: K) s = ifV prog ann 30 15 i0t i0e K s (s.get 15) := den_if hf (by kernel_rfl) K s
theorem i0t_eq : den prog ann 30 (.code i0t :: K) s = den prog ann 30 (.code r3 :: .code .ret :: K) s := den_flat hf (l := [r3, .ret]) (by kernel_rfl) K s
theorem r3_eq : den prog ann 30 (.code r3 :: K) s = mreg prog ann 30 none [] none [] [qF 4 fun s => some (.bool false),qF 5 fun s => some (.int .i64 1)] K s := (den_reg hf _ K s).trans (by kernel_rfl)
theorem i0e_eq : den prog ann 30 (.code i0e :: K) s = den prog ann 30 (K) s := den_flat hf (l := []) (by kernel_rfl) K s
theorem r4_eq : den prog ann 30 (.code r4 :: K) s = mreg prog ann 30 none [] none [8] [qC 17 6,qC 18 1,⟨some 19, none, .c 0 (fun s => (.fn 71 [] [])) fun s => [(s.get 17), (s.get 18)]⟩,qC 16 19,qF 20 fun s => extA (s.get 16) 0,qF 21 fun s => extA (s.get 16) 1,⟨some 8, none, .w false none fun s => newPtr s.m [.int .i64 0, .int .i64 0, .int .i64 0, .int .i64 0]⟩,⟨none, none, .w false none fun s => stA true 4 s.m (s.get 8) (s.get 20)⟩,qC 7 21] K s := (den_reg hf _ K s).trans (by kernel_rfl)
theorem r5_eq : den prog ann 30 (.code r5 :: K) s = mreg prog ann 30 none [] none [] [qC 22 7,qA 23 (unA .not) 22] K s := (den_reg hf _ K s).trans (by kernel_rfl)
theorem i1_eq : den prog ann 30 (.code i1 :: K) s = ifV prog ann 30 23 i1t i1e K s (s.get 23) := den_if hf (by kernel_rfl) K s
theorem i1t_eq : den prog ann 30 (.code i1t :: K) s = den prog ann 30 (.code r6 :: .code .ret :: K) s := den_flat hf (l := [r6, .ret]) (by kernel_rfl) K s
theorem r6_eq : den prog ann 30 (.code r6 :: K) s = mreg prog ann 30 none [] none [] [qF 4 fun s => some (.bool false),qF 5 fun s => some (.int .i64 2)] K s := (den_reg hf _ K s).trans (by kernel_rfl)
theorem i1e_eq : den prog ann 30 (.code i1e :: K) s = den prog ann 30 (K) s := den_flat hf (l := []) (by kernel_rfl) K s
theorem r7_eq : den prog ann 30 (.code r7 :: K) s = mreg prog ann 30 none [] none [] [qC 24 6,qA 25 (loadF true 4) 8,⟨some 26, none, .c 0 (fun s => (.fn 72 [] [])) fun s => [(s.get 24), (s.get 25)]⟩,qC 4 26,qF 5 fun s => some (.int .i64 0)] K s := (den_reg hf _ K s).trans (by kernel_rfl)
theorem ret_eq : den prog ann 30 (.code .ret :: K) s = finM true [fun s => some (s.get 4), fun s => some (s.get 5)] s := (den_ret hf K s).trans (by kernel_rfl)
theorem nil_eq (s : St) : den prog ann 30 [] s = finM true [fun s => some (s.get 4), fun s => some (s.get 5)] s := (den_nil hf s).trans (by kernel_rfl)
theorem inBlock_eq (id : Nat) (K : List Item) (s : St) : den prog ann 30 (.inBlock id :: K) s = den prog ann 30 K s := den_inBlock hf id K s
theorem exit_eq (id : Nat) (K : List Item) (s : St) : den prog ann 30 (.code (.exit id) :: K) s = exitV prog ann 30 (exitTo id K) s := den_exitV hf id K s
theorem call_eq (v0 v1 : AV) (m : Mem) (h : closedL [v0, v1] = true) : denC prog ann 30 [v0, v1] m = (den prog ann 30 [.code b] ⟨[(0, v0), (1, v1)], 27, Mem.empty⟩).bind fun r => some (r.1, m) := (denC_pure hf (b := b) (by kernel_rfl) (by kernel_rfl) (by kernel_rfl) h m).trans (by kernel_rfl)
theorem pure_eq : (ann 30).pure = true := by kernel_rfl
attribute [simp] b_eq r0_eq r1_eq r2_eq i0_eq i0t_eq r3_eq i0e_eq r4_eq r5_eq i1_eq i1t_eq r6_eq i1e_eq r7_eq ret_eq nil_eq inBlock_eq exit_eq pure_eq
end
end watch_Consistent
namespace watch_Rank
noncomputable section
variable (K : List Item) (s : St)
def b : Code := (Try.f45.body).getD .skip
theorem hf : prog.funcs[45]? = some Try.f45 := by kernel_rfl
def r0 := findReg b 0
def r1 := findReg b 1
def r2 := findReg b 2
def i0 := findCond b 0
def i0t := thenOf i0
def i0e := elseOf i0
def r3 := findReg b 3
def r4 := findReg b 4
def r5 := findReg b 5
def i1 := findCond b 1
def i1t := thenOf i1
def i1e := elseOf i1
def r6 := findReg b 6
def r7 := findReg b 7
def r8 := findReg b 8
def i2 := findCond b 2
def i2t := thenOf i2
def i2e := elseOf i2
def r9 := findReg b 9
def r10 := findReg b 10
theorem b_eq : den prog ann 45 (.code b :: K) s = den prog ann 45 (.code r0 :: .code r1 :: .code r2 :: .code i0 :: .code r4 :: .code r5 :: .code i1 :: .code r7 :: .code r8 :: .code i2 :: .code r10 :: .code .ret :: K) s := den_flat hf (l := [r0, r1, r2, i0, r4, r5, i1, r7, r8, i2, r10, .ret]) (by kernel_rfl) K s
theorem r0_eq : den prog ann 45 (.code r0 :: K) s = mreg prog ann 45 none [] none [] [qA 2 frozenPtr 0,qF 4 fun s => some (.int .i64 0),qF 5 fun s => some (.int .i64 0)] K s := (den_reg hf _ K s).trans (by kernel_rfl)
theorem r1_eq : den prog ann 45 (.code r1 :: K) s = mreg prog ann 45 none [] none [] [qA 11 (loadF true 2) 2,⟨some 12, none, .c 0 (fun s => (.fn 61 [] [])) fun s => [(s.get 11)]⟩,qC 10 12,qF 13 fun s => extA (s.get 10) 0,qF 14 fun s => extA (s.get 10) 1,qC 6 13,qC 7 14] K s := (den_reg hf _ K s).trans (by kernel_rfl)
theorem r2_eq : den prog ann 45 (.code r2 :: K) s = mreg prog ann 45 none [] none [] [qC 15 7,qA 16 (unA .not) 15] K s := (den_reg hf _ K s).trans (by kernel_rfl)
theorem i0_eq : den prog ann 45 (.code i0 :: K) s = ifV prog ann 45 16 i0t i0e K s (s.get 16) := den_if hf (by kernel_rfl) K s
theorem i0t_eq : den prog ann 45 (.code i0t :: K) s = den prog ann 45 (.code r3 :: .code .ret :: K) s := den_flat hf (l := [r3, .ret]) (by kernel_rfl) K s
theorem r3_eq : den prog ann 45 (.code r3 :: K) s = mreg prog ann 45 none [] none [] [qF 4 fun s => some (.int .i64 0),qF 5 fun s => some (.int .i64 1)] K s := (den_reg hf _ K s).trans (by kernel_rfl)
theorem i0e_eq : den prog ann 45 (.code i0e :: K) s = den prog ann 45 (K) s := den_flat hf (l := []) (by kernel_rfl) K s
theorem r4_eq : den prog ann 45 (.code r4 :: K) s = mreg prog ann 45 none [] none [8] [qC 18 6,qC 19 1,⟨some 20, none, .c 0 (fun s => (.fn 71 [] [])) fun s => [(s.get 18), (s.get 19)]⟩,qC 17 20,qF 21 fun s => extA (s.get 17) 0,qF 22 fun s => extA (s.get 17) 1,⟨some 8, none, .w false none fun s => newPtr s.m [.int .i64 0, .int .i64 0, .int .i64 0, .int .i64 0]⟩,⟨none, none, .w false none fun s => stA true 4 s.m (s.get 8) (s.get 21)⟩,qC 7 22] K s := (den_reg hf _ K s).trans (by kernel_rfl)
theorem r5_eq : den prog ann 45 (.code r5 :: K) s = mreg prog ann 45 none [] none [] [qC 23 7,qA 24 (unA .not) 23] K s := (den_reg hf _ K s).trans (by kernel_rfl)
theorem i1_eq : den prog ann 45 (.code i1 :: K) s = ifV prog ann 45 24 i1t i1e K s (s.get 24) := den_if hf (by kernel_rfl) K s
theorem i1t_eq : den prog ann 45 (.code i1t :: K) s = den prog ann 45 (.code r6 :: .code .ret :: K) s := den_flat hf (l := [r6, .ret]) (by kernel_rfl) K s
theorem r6_eq : den prog ann 45 (.code r6 :: K) s = mreg prog ann 45 none [] none [] [qF 4 fun s => some (.int .i64 0),qF 5 fun s => some (.int .i64 2)] K s := (den_reg hf _ K s).trans (by kernel_rfl)
theorem i1e_eq : den prog ann 45 (.code i1e :: K) s = den prog ann 45 (K) s := den_flat hf (l := []) (by kernel_rfl) K s
theorem r7_draw : drawOk (fun g => (ann g).pure) (modeOf (ann 45) (idOf r7)) (frzOf (ann 45) (idOf r7)) (opsOf r7) = true := drawOk_of (an := [0, 1, 0, 7, 15]) (by kernel_rfl) (by kernel_rfl)
theorem r7_eq : den prog ann 45 (.code r7 :: K) s = mreg prog ann 45 none [] (some 5) [] [qC 25 6,⟨some 26, none, .c 0 (fun s => (.fn 62 [] [])) fun s => [(s.get 25)]⟩,qA 27 (loadF true 4) 8,⟨some 28, none, .c 0 (fun s => (.fn 81 [] [])) fun s => [(s.get 26), (s.get 27)]⟩,qC 9 28] K s := (den_regD hf r7_draw K s).trans (by kernel_rfl)
theorem r8_eq : den prog ann 45 (.code r8 :: K) s = mreg prog ann 45 none [] none [] [qC 29 9,qF 30 fun s => binA prog .lss 3 (s.get 29) (.int .i64 0)] K s := (den_reg hf _ K s).trans (by kernel_rfl)
theorem i2_eq : den prog ann 45 (.code i2 :: K) s = ifV prog ann 45 30 i2t i2e K s (s.get 30) := den_if hf (by kernel_rfl) K s
theorem i2t_eq : den prog ann 45 (.code i2t :: K) s = den prog ann 45 (.code r9 :: .code .ret :: K) s := den_flat hf (l := [r9, .ret]) (by kernel_rfl) K s
theorem r9_eq : den prog ann 45 (.code r9 :: K) s = mreg prog ann 45 none [] none [] [qF 4 fun s => some (.int .i64 0),qF 5 fun s => some (.int .i64 5)] K s := (den_reg hf _ K s).trans (by kernel_rfl)
theorem i2e_eq : den prog ann 45 (.code i2e :: K) s = den prog ann 45 (K) s := den_flat hf (l := []) (by kernel_rfl) K s
theorem r10_eq : den prog ann 45 (.code r10 :: K) s = mreg prog ann 45 none [] none [] [qC 31 9,qC 4 31,qF 5 fun s => some (.int .i64 0)] K s := (den_reg hf _ K s).trans (by kernel_rfl)
theorem ret_eq : den prog ann 45 (.code .ret :: K) s = finM true [fun s => some (s.get 4), fun s => some (s.get 5)] s := (den_ret hf K s).trans (by kernel_rfl)
theorem nil_eq (s : St) : den prog ann 45 [] s = finM true [fun s => some (s.get 4), fun s => some (s.get 5)] s := (den_nil hf s).trans (by kernel_rfl)
theorem inBlock_eq (id : Nat) (K : List Item) (s : St) : den prog ann 45 (.inBlock id :: K) s = den prog ann 45 K s := den_inBlock hf id K s
theorem exit_eq (id : Nat) (K : List Item) (s : St) : den prog ann 45 (.code (.exit id) :: K) s = exitV prog ann 45 (exitTo id K) s := den_exitV hf id K s
theorem call_eq (v0 v1 : AV) (m : Mem) (h : closedL [v0, v1] = true) : denC prog ann 45 [v0, v1] m = (den prog ann 45 [.code b] ⟨[(0, v0), (1, v1)], 32, Mem.empty⟩).bind fun r => some (r.1, m) := (denC_pure hf (b := b) (by kernel_rfl) (by kernel_rfl) (by kernel_rfl) h m).trans (by kernel_rfl)
theorem pure_eq : (ann 45).pure = true := by kernel_rfl
attribute [simp] b_eq r0_eq r1_eq r2_eq i0_eq i0t_eq r3_eq i0e_eq r4_eq r5_eq i1_eq i1t_eq r6_eq i1e_eq r7_eq r8_eq i2_eq i2t_eq r9_eq i2e_eq r10_eq ret_eq nil_eq inBlock_eq exit_eq pure_eq
end
end watch_Rank
namespace watch_story_cutOf
noncomputable section
variable (K : List Item) (s : St)
def b : Code := (Try.f71.body).getD .skip
theorem hf : prog.funcs[71]? = some Try.f71 := by kernel_rfl
def r0 := findReg b 0
def r1 := findReg b 1
def r2 := findReg b 2
def i0 := findCond b 0
def i0t := thenOf i0
def i0e := elseOf i0
def r3 := findReg b 3
def r4 := findReg b 4
def r5 := findReg b 5
def k0 := findBlk b 0
def l0 := loopOf k0
def L0 (x0 x4 x6 x20 x21 : AV) (m : Mem) (K : List Item) : Option Res := den prog ann 71 (.code l0 :: .inLoop l0 :: .inBlock 0 :: K) ⟨[(0, x0), (4, x4), (6, x6), (20, x20), (21, x21)], 40, m⟩
def r6 := findReg b 6
def i1 := findCond b 1
def i1t := thenOf i1
def i1e := elseOf i1
def k1 := findBlk b 1
def r7 := findReg b 7
def r8 := findReg b 8
def i2 := findCond b 2
def i2t := thenOf i2
def i2e := elseOf i2
def r9 := findReg b 9
def r10 := findReg b 10
def r11 := findReg b 11
theorem b_eq : den prog ann 71 (.code b :: K) s = den prog ann 71 (.code r0 :: .code r1 :: .code r2 :: .code i0 :: .code r4 :: .code r5 :: .code k0 :: .code r11 :: .code .ret :: K) s := den_flat hf (l := [r0, r1, r2, i0, r4, r5, k0, r11, .ret]) (by kernel_rfl) K s
theorem r0_eq : den prog ann 71 (.code r0 :: K) s = mreg prog ann 71 none [] none [] [⟨some 4, none, .w false none fun s => newPtr s.m [.int .i64 0, .int .i64 0, .int .i64 0, .int .i64 0]⟩,qF 5 fun s => some (.bool false)] K s := (den_reg hf _ K s).trans (by kernel_rfl)
theorem r1_eq : den prog ann 71 (.code r1 :: K) s = mreg prog ann 71 none [] none [] [⟨some 6, none, .w false none fun s => newPtr s.m [.int .i64 0, .int .i64 0, .int .i64 0, .int .i64 0]⟩] K s := (den_reg hf _ K s).trans (by kernel_rfl)
theorem r2_eq : den prog ann 71 (.code r2 :: K) s = mreg prog ann 71 none [] none [] [qC 9 1,qA 10 lenSl 9,qC 11 0,qA 12 nilA 11,qA 13 (fieldA 0) 12,qA 14 (loadF false 1) 13,qB 15 (binA prog .neq 3) 10 14] K s := (den_reg hf _ K s).trans (by kernel_rfl)
theorem i0_eq : den prog ann 71 (.code i0 :: K) s = ifV prog ann 71 15 i0t i0e K s (s.get 15) := den_if hf (by kernel_rfl) K s
theorem i0t_eq : den prog ann 71 (.code i0t :: K) s = den prog ann 71 (.code r3 :: .code .ret :: K) s := den_flat hf (l := [r3, .ret]) (by kernel_rfl) K s
theorem r3_eq : den prog ann 71 (.code r3 :: K) s = mreg prog ann 71 none [] none [] [qF 16 fun s => loadA true 4 s.m (s.get 6),⟨none, none, .w false none fun s => stA true 4 s.m (s.get 4) (s.get 16)⟩,qF 5 fun s => some (.bool false)] K s := (den_reg hf _ K s).trans (by kernel_rfl)
theorem i0e_eq : den prog ann 71 (.code i0e :: K) s = den prog ann 71 (K) s := den_flat hf (l := []) (by kernel_rfl) K s
theorem r4_eq : den prog ann 71 (.code r4 :: K) s = mreg prog ann 71 none [] none [] [qF 17 fun s => sliceArr 4 1 (s.get 6) none none,qC 18 1,⟨some 19, none, .w false none fun s => copyA 1 s.m (s.get 17) (s.get 18)⟩] K s := (den_reg hf _ K s).trans (by kernel_rfl)
theorem r5_eq : den prog ann 71 (.code r5 :: K) s = mreg prog ann 71 none [] none [] [qF 20 fun s => loadA true 4 s.m (s.get 6),qF 21 fun s => some (.int .i64 0)] K s := (den_reg hf _ K s).trans (by kernel_rfl)
theorem k0_eq (K : List Item) (t : List (Nat × AV)) (m : Mem) : den prog ann 71 (.code k0 :: K) ⟨t, 40, m⟩ = L0 (get t 0) (get t 4) (get t 6) (get t 20) (get t 21) m K := den_loop_enter hf (b := l0) (id := 6) (l := [0, 4, 6, 20, 21]) (by kernel_rfl) (by kernel_rfl) (by kernel_rfl) K _
theorem l0_eq (K : List Item) (t : List (Nat × AV)) (m : Mem) : den prog ann 71 (.inLoop l0 :: .inBlock 0 :: K) ⟨t, 40, m⟩ = L0 (get t 0) (get t 4) (get t 6) (get t 20) (get t 21) m K := den_loop_again hf (id := 6) (l := [0, 4, 6, 20, 21]) (by kernel_rfl) (by kernel_rfl) (.inBlock 0 :: K) _
theorem L0_eq (x0 x4 x6 x20 x21 : AV) (m : Mem) (K : List Item) : L0 x0 x4 x6 x20 x21 m K = den prog ann 71 (.code r6 :: .code i1 :: .code k1 :: .code r10 :: .inLoop l0 :: .inBlock 0 :: K) ⟨[(0, x0), (4, x4), (6, x6), (20, x20), (21, x21)], 40, m⟩ := den_flat hf (l := [r6, i1, k1, r10]) (by kernel_rfl) _ _
theorem r6_eq : den prog ann 71 (.code r6 :: K) s = mreg prog ann 71 (some [0, 4, 6, 20, 21]) [] none [] [qF 22 fun s => binA prog .lss 3 (s.get 21) (.int .i64 4)] K s := (den_reg hf _ K s).trans (by kernel_rfl)
theorem i1_eq : den prog ann 71 (.code i1 :: K) s = ifV prog ann 71 22 i1t i1e K s (s.get 22) := den_if hf (by kernel_rfl) K s
theorem i1t_eq : den prog ann 71 (.code i1t :: K) s = den prog ann 71 (K) s := den_flat hf (l := []) (by kernel_rfl) K s
theorem i1e_eq : den prog ann 71 (.code i1e :: K) s = den prog ann 71 (.code (.exit 0) :: K) s := den_flat hf (l := [(.exit 0)]) (by kernel_rfl) K s
theorem k1_eq : den prog ann 71 (.code k1 :: K) s = den prog ann 71 (.code r7 :: .code r8 :: .code i2 :: .inBlock 1 :: K) s := den_blk hf (b := blkOf k1) (l := [r7, r8, i2]) (by kernel_rfl) (by kernel_rfl) K s
theorem r7_eq : den prog ann 71 (.code r7 :: K) s = mreg prog ann 71 none [] none [] [qC 23 21,qB 24 (idxAgg 4 1 false) 20 21,qC 7 23,qC 8 24] K s := (den_reg hf _ K s).trans (by kernel_rfl)
theorem r8_eq : den prog ann 71 (.code r8 :: K) s = mreg prog ann 71 none [] none [] [qC 25 8,qF 26 fun s => binA prog .lss 3 (s.get 25) (.int .i64 0),qC 27 26,⟨some 28, some (27, false), .v fun s => some (s.get 8)⟩,⟨some 29, some (27, false), .v fun s => some (s.get 0)⟩,⟨some 30, some (27, false), .v fun s => some (s.get 7)⟩,⟨some 31, some (27, false), .v fun s => nilA (s.get 29)⟩,⟨some 32, some (27, false), .v fun s => fieldA 1 (s.get 31)⟩,⟨some 33, some (27, false), .v fun s => idxArr 4 1 (s.get 32) (s.get 30)⟩,⟨some 34, some (27, false), .v fun s => loadF false 1 (s.get 33)⟩,⟨some 35, some (27, false), .v fun s => binA prog .gtr 3 (s.get 28) (s.get 34)⟩,qF 36 fun s => pickA (s.get 27) (.bool true) (s.get 35)] K s := (den_reg hf _ K s).trans (by kernel_rfl)
theorem i2_eq : den prog ann 71 (.code i2 :: K) s = ifV prog ann 71 36 i2t i2e K s (s.get 36) := den_if hf (by kernel_rfl) K s
theorem i2t_eq : den prog ann 71 (.code i2t :: K) s = den prog ann 71 (.code r9 :: .code .ret :: K) s := den_flat hf (l := [r9, .ret]) (by kernel_rfl) K s
theorem r9_eq : den prog ann 71 (.code r9 :: K) s = mreg prog ann 71 none [] none [] [qF 37 fun s => loadA true 4 s.m (s.get 6),⟨none, none, .w false none fun s => stA true 4 s.m (s.get 4) (s.get 37)⟩,qF 5 fun s => some (.bool false)] K s := (den_reg hf _ K s).trans (by kernel_rfl)
theorem i2e_eq : den prog ann 71 (.code i2e :: K) s = den prog ann 71 (K) s := den_flat hf (l := []) (by kernel_rfl) K s
theorem r10_eq : den prog ann 71 (.code r10 :: K) s = mreg prog ann 71 (some [0, 4, 6, 20, 21]) [] none [] [qF 38 fun s => binA prog .add 3 (s.get 21) (.int .i64 1),qC 21 38] K s := (den_reg hf _ K s).trans (by kernel_rfl)
theorem r11_eq : den prog ann 71 (.code r11 :: K) s = mreg prog ann 71 (some [4, 6]) [] none [] [qF 39 fun s => loadA true 4 s.m (s.get 6),⟨none, none, .w false none fun s => stA true 4 s.m (s.get 4) (s.get 39)⟩,qF 5 fun s => some (.bool true)] K s := (den_reg hf _ K s).trans (by kernel_rfl)
theorem ret_eq : den prog ann 71 (.code .ret :: K) s = finM true [fun s => loadA true 4 s.m (s.get 4), fun s => some (s.get 5)] s := (den_ret hf K s).trans (by kernel_rfl)
theorem nil_eq (s : St) : den prog ann 71 [] s = finM true [fun s => loadA true 4 s.m (s.get 4), fun s => some (s.get 5)] s := (den_nil hf s).trans (by kernel_rfl)
theorem inBlock_eq (id : Nat) (K : List Item) (s : St) : den prog ann 71 (.inBlock id :: K) s = den prog ann 71 K s := den_inBlock hf id K s
theorem exit_eq (id : Nat) (K : List Item) (s : St) : den prog ann 71 (.code (.exit id) :: K) s = exitV prog ann 71 (exitTo id K) s := den_exitV hf id K s
theorem call_eq (v0 v1 : AV) (m : Mem) (h : closedL [v0, v1] = true) : denC prog ann 71 [v0, v1] m = (den prog ann 71 [.code b] ⟨[(0, v0), (1, v1)], 40, Mem.empty⟩).bind fun r => some (r.1, m) := (denC_pure hf (b := b) (by kernel_rfl) (by kernel_rfl) (by kernel_rfl) h m).trans (by kernel_rfl)
theorem pure_eq : (ann 71).pure = true := by kernel_rfl
attribute [simp] b_eq r0_eq r1_eq r2_eq i0_eq i0t_eq r3_eq i0e_eq r4_eq r5_eq k0_eq l0_eq r6_eq i1_eq i1t_eq i1e_eq k1_eq r7_eq r8_eq i2_eq i2t_eq r9_eq i2e_eq r10_eq r11_eq ret_eq nil_eq inBlock_eq exit_eq pure_eq
end
end watch_story_cutOf
end Go.Proofs.Ytdkmepjedjclkaa

/-
  BODIES OF FUNCTIONS OF THE PROGRAM AS SMALL OPERATIONS (written by gen.py; checked by the kernel against the program). Conditions: none.
-/
namespace Go.Proofs.Ytdkmepjedjclkaa
open Go.AM
open Go.Proofs.Try (prog)
set_option maxRecDepth 100000
set_option linter.all false
end Go.Proofs.Ytdkmepjedjclkaa

/-
  CUTS AS ARGUMENTS: what is a cut, for the reference and for the program. Conditions: none.
-/
namespace Go.Proofs.Ytdkmepjedjclkaa
open Go.AM
open Go.Proofs.Try (prog)
set_option linter.all false
set_option maxRecDepth 100000
def boxB (l D : List Int) (k i : Nat) : Bool := (List.range' i k).all fun h => decide (0 ≤ nth l h) && decide (nth l h ≤ nth D h)
theorem boxB_succ (l D : List Int) (k i : Nat) : boxB l D (k + 1) i = ((decide (0 ≤ nth l i) && decide (nth l i ≤ nth D i)) && boxB l D k (i + 1)) := by
  simp only [boxB, List.range'_succ, List.all_cons]
structure CutL (D l : List Int) : Prop where
  len : l.length = D.length
  lo : ∀ h, 0 ≤ nth l h
  hi : ∀ h, nth l h ≤ nth D h
theorem boxB_iff {l D : List Int} : ∀ (k i : Nat), boxB l D k i = true ↔ ∀ h, i ≤ h → h < i + k → 0 ≤ nth l h ∧ nth l h ≤ nth D h := by
  intro k i
  simp only [boxB, List.all_eq_true, List.mem_range'_1, Bool.and_eq_true, decide_eq_true_eq]
  exact ⟨fun h g a b => h g ⟨a, b⟩, fun h g a => h g a.1 a.2⟩
def cutB (D l : List Int) : Bool := decide (l.length = D.length) && boxB l D D.length 0
theorem cutB_iff {D l : List Int} : cutB D l = true ↔ CutL D l := by
  simp only [cutB, Bool.and_eq_true, decide_eq_true_eq, boxB_iff]
  constructor
  · rintro ⟨a, b⟩
    have z : ∀ h, 0 ≤ nth l h ∧ nth l h ≤ nth D h := fun h => by
      rcases Nat.lt_or_ge h D.length with h1 | h1
      · exact b h (by omega) (by omega)
      · rw [nth_out h1, nth_out (by omega)]; omega
    exact ⟨a, fun h => (z h).1, fun h => (z h).2⟩
  · rintro ⟨a, b, c⟩
    exact ⟨a, fun h _ _ => ⟨b h, c h⟩⟩
theorem cutOf_loop {V : List AV} {n : Nat} {D c : List Int} (hV : V.length = 4) (hD4 : D.length = 4) (hc : c.length = 4) : ∀ (k i nx : Nat), i + k = 4 →
    watch_story_cutOf.L0 (.fptr (.int .i64 n :: (ints D ++ V))) (.ptr 0 0 4) (.ptr 1 0 4) (.agg (ints c)) (.int .i64 i) ⟨upd (upd Mem.empty.h 0 (some (.cells (ints [0, 0, 0, 0])))) 1 (some (.cells (ints c))), nx⟩ [.code watch_story_cutOf.r11, .code .ret] =
      some (.tup [.agg (ints c), .bool (boxB c D k i)], Mem.empty) := by
  intro k
  induction k with
  | zero =>
    intro i nx h1
    have e : i = 4 := by omega
    subst e
    rw [watch_story_cutOf.L0_eq]
    have ht : c.take 4 = c := List.take_of_length_le (by omega)
    simp [boxB, hc, ht]
  | succ k ih =>
    intro i nx h1
    have h3 : i < 4 := by omega
    have h3' : (i : Int) < 4 := by omega
    have h4 : i < c.length := by omega
    have h5 : i < D.length := by omega
    have hDV : (ints D ++ V)[i]? = some (.int .i64 (nth D i)) := by rw [List.getElem?_append_left (by simpa using h5), ints_nth h5]
    have hw : IntKind.wrap .i64 ((i : Int) + 1) = (i : Int) + 1 := wrap_id (by omega) (by omega)
    have hi := fun nx => ih (i + 1) nx (by omega)
    simp at hi
    have ht : c.take 4 = c := List.take_of_length_le (by omega)
    rw [watch_story_cutOf.L0_eq, boxB_succ]
    by_cases q1 : 0 ≤ nth c i
    · have q1' : ¬ nth c i < 0 := by omega
      by_cases q2 : nth c i ≤ nth D i
      · have q2' : ¬ nth D i < nth c i := by omega
        simp [h3, h3', h4, h5, q1, q1', q2, q2', hw, hi, hc, hD4, hV, hDV]
      · have q2' : nth D i < nth c i := by omega
        simp [h3, h3', h4, h5, q1, q1', q2, q2', hc, hD4, hV, ht, hDV]
    · have q1' : nth c i < 0 := by omega
      simp [h3, h3', h4, h5, q1, q1', hc, hD4, hV, ht]
theorem pad_self {l : List Int} {n : Nat} (hn : n ≤ 4) (h : l.length = n) : (pad l).take n = l := by
  subst h
  simp [pad]
theorem boxB_pad {D l : List Int} (h : l.length = D.length) (h4 : D.length ≤ 4) : boxB (pad l) (pad D) 4 0 = boxB l D D.length 0 := by
  cases hq : boxB l D D.length 0 with
  | true =>
    have h1 := (cutB_iff (D := D) (l := l)).1 (by simp [cutB, h, hq])
    rw [boxB_iff]
    intro g _ _
    rw [nth_pad, nth_pad]
    exact ⟨h1.lo g, h1.hi g⟩
  | false =>
    cases hr : boxB (pad l) (pad D) 4 0 with
    | false => rfl
    | true =>
      rw [boxB_iff] at hr
      rw [← Bool.not_eq_true, boxB_iff] at hq
      refine absurd (fun g a b => ?_) hq
      have := hr g (by omega) (by omega)
      rw [nth_pad, nth_pad] at this
      exact this
theorem cutOf_spec {sv vl : AV} {D l : List Int} {K : List (List (List Int))} (s : IsStory sv D.length (pad D) K) (hv : IsInts vl l) (hl : l.length < 1000000) :
    ∃ c, (cutB D l = true → c = pad l) ∧ c.length = 4 ∧ ∀ m, denC prog ann 71 [sv, vl] m = some (.tup [.agg (ints c), .bool (cutB D l)], m) := by
  obtain ⟨V, rfl, hV, _⟩ := s.V
  have h4 := s.n4
  have hD4 := s.D4
  by_cases he : l.length = D.length
  · refine ⟨pad l, fun _ => rfl, pad_len (by omega), fun m => ?_⟩
    rw [watch_story_cutOf.call_eq _ _ _ (by simp [hv.closed])]
    have hc : (pad l).length = 4 := pad_len (by omega)
    have hb : cutB D l = boxB (pad l) (pad D) 4 0 := by rw [boxB_pad he h4]; simp [cutB, he]
    have := fun nx => cutOf_loop (n := D.length) (V := V) hV hD4 hc 4 0 nx (by omega)
    simp at this
    have hsrc := hv.src
    have hst := isStr_ints hv
    have hlen := hv.len
    have hcl := hv.closed
    clear hv s
    rw [hb]
    clear hb
    generalize pad D = E at this
    generalize D.length = n at he this h4
    subst he
    rcases l with _ | ⟨a, _ | ⟨b, _ | ⟨c, _ | ⟨d, _ | ⟨e, l⟩⟩⟩⟩⟩
    all_goals first
      | (simp at h4; done)
      | (simp [pad] at this ⊢
         simp [hlen, sliceArr, bnds, bnd, copyA, hsrc, hst, Mem.set, splice, this]; done)
  · refine ⟨[0, 0, 0, 0], fun h => absurd (cutB_iff.1 h).len he, rfl, fun m => ?_⟩
    rw [watch_story_cutOf.call_eq _ _ _ (by simp [hv.closed])]
    have hne : ¬ (l.length : Int) = D.length := by omega
    simp [hv.len, hne, cutB, he]
end Go.Proofs.Ytdkmepjedjclkaa

/-
  THE PROGRAM's Back, Forth, Consistent, Rank. Conditions: none.
-/
namespace Go.Proofs.Ytdkmepjedjclkaa
open Go.AM
open Go.Proofs.Try (prog)
set_option linter.all false
set_option maxRecDepth 100000
def bk (K : List (List (List Int))) (c : List Int) (h : Nat) : Nat → Nat
  | 0 => 0
  | j + 1 => if zmax (clk K h j) c = c then j + 1 else bk K c h j
theorem bk_le (K : List (List (List Int))) (c : List Int) (h : Nat) : ∀ j, bk K c h j ≤ j
  | 0 => Nat.le_refl _
  | j + 1 => by rw [bk]; split; exact Nat.le_refl _; have := bk_le K c h j; omega
theorem pad_cut {D l : List Int} (h4 : D.length ≤ 4) (h : CutL D l) : IsCut D.length (pad D) (pad l) := by
  refine ⟨pad_len (by have := h.len; omega), fun g => by rw [nth_pad]; exact h.lo g, fun g => by rw [nth_pad, nth_pad]; exact h.hi g⟩
structure ConsRes (D : List Int) (N : List Note) (l : List Int) (b : Bool) (e : Int) : Prop where
  bad : ¬ ValidS D N → b = false ∧ e = 1
  form : ValidS D N → cutB D l = false → b = false ∧ e = 2
  ok : ValidS D N → cutB D l = true → b = conR N l ∧ e = 0
theorem cons_eq {D l : List Int} {N : List Note} {K : List (List (List Int))} (k : Clocks D N K) (h : CutL D l) : decide (forthL K D.length (pad l) = pad l) = conR N l := by
  have := in_iff k (pad_cut k.P.L.n4 h)
  rw [pad_self k.P.L.n4 h.len] at this
  cases hq : conR N l with
  | true => simp [this.2 hq]
  | false => simp; intro h; rw [this.1 h] at hq; cases hq
theorem consistentV_spec {v vl : AV} {D l : List Int} {N : List Note} (hs : IsTale v D N) (hl : D.length < 100000) (hn : N.length < 100000) (hv : IsInts vl l) (hll : l.length < 1000000) :
    ∃ b e, ConsRes D N l b e ∧ ∀ m, denC prog ann 30 [v, vl] m = some (.tup [.bool b, .int .i64 e], m) := by
  have hs' := hs
  obtain ⟨r, hr, er⟩ := readV_spec hs hl hn
  obtain ⟨vD, vN, rfl, h1, h2⟩ := hs.ex
  have hcl : closedL [.agg [vD, vN], vl] = true := by simp [h1.closed, h2.closed, hv.closed]
  cases hr with
  | no h =>
    refine ⟨false, 1, ⟨fun _ => ⟨rfl, rfl⟩, fun v => absurd v h, fun v => absurd v h⟩, fun m => ?_⟩
    rw [watch_Consistent.call_eq _ _ _ hcl]
    simp [h1.one, h2.one, h1.closed, h2.closed, er]
  | @ok sv K val k s =>
    obtain ⟨c, hc, hc4, ec⟩ := cutOf_spec s hv hll
    cases hq : cutB D l with
    | false =>
      rw [hq] at ec
      refine ⟨false, 2, ⟨fun h => absurd val h, fun _ _ => ⟨rfl, rfl⟩, fun _ h => (by rw [hq] at h; cases h)⟩, fun m => ?_⟩
      rw [watch_Consistent.call_eq _ _ _ hcl]
      simp [h1.one, h2.one, h1.closed, h2.closed, er, ec, s.closed, s.one, hv.closed, hc4]
    | true =>
      have hcut := cutB_iff.1 hq
      have hic := pad_cut k.P.L.n4 hcut
      have hce := hc hq
      subst hce
      rw [hq] at ec
      have ht : (pad l).take 4 = pad l := List.take_of_length_le (by have := hic.len; omega)
      refine ⟨conR N l, 0, ⟨fun h => absurd val h, fun _ h => (by rw [hq] at h; cases h), fun _ _ => ⟨rfl, rfl⟩⟩, fun m => ?_⟩
      rw [watch_Consistent.call_eq _ _ _ hcl]
      have hx := fun m => consistent_spec s hic m
      rw [cons_eq k hcut] at hx
      simp [h1.one, h2.one, h1.closed, h2.closed, er, ec, s.closed, s.one, hv.closed, hx, hic.len, ht]
def rankOf (D : List Int) (N : List Note) (l : List Int) : Int := match (cutsL D N).findIdx? (fun x => l == x) with | some j => (j : Int) | none => -1
theorem findIdx_map {α β : Type} (f : α → β) (p : α → Bool) (q : β → Bool) : ∀ (l : List α), (∀ a ∈ l, p a = q (f a)) → l.findIdx? p = (l.map f).findIdx? q
  | [], _ => rfl
  | a :: l, h => by
    rw [List.map_cons, List.findIdx?_cons, List.findIdx?_cons, h a (by simp), findIdx_map f p q l (fun b hb => h b (by simp [hb]))]
theorem cut_pad {n : Nat} {D x : List Int} (hn : n ≤ 4) (hz : ∀ h, n ≤ h → nth D h = 0) (h : IsCut n D x) : pad (x.take n) = x := by
  have hl := h.len
  refine ext_nth (by rw [pad_len (by simp; omega), hl]) fun g => ?_
  rw [nth_pad]
  rcases Nat.lt_or_ge g n with h1 | h1
  · exact nth_take h1
  · have h2 := h.lo g; have h3 := h.hi g; have h4 := hz g h1
    rw [nth_out (by simp; omega)]; omega
theorem rank_eq {sv : AV} {D l : List Int} {N : List Note} {K : List (List (List Int))} (k : Clocks D N K) (s : IsStory sv D.length (pad D) K) (h : CutL D l) :
    (match (allL (pad D) K D.length).findIdx? (fun d => pad l == d) with | some j => (j : Int) | none => -1) = rankOf D N l := by
  rw [rankOf, ← allL_eq k, ← findIdx_map (fun c : List Int => c.take D.length) (fun d => pad l == d) (fun x => l == x)]
  intro a ha
  have hic := enumR_cut s.pos D.length 0 _ (zero_cut s) a (List.mem_filter.1 ha).1
  have h4 := k.P.L.n4
  by_cases e : l = a.take D.length
  · have : pad l = a := by rw [e]; exact cut_pad h4 s.zero hic
    rw [show (pad l == a) = true from by rw [this]; exact beq_self_eq_true a, show (l == a.take D.length) = true from by rw [← e]; exact beq_self_eq_true l]
  · have : pad l ≠ a := fun e2 => e (by rw [← e2, pad_self h4 h.len])
    rw [show (pad l == a) = false from beq_eq_false_iff_ne.2 this, show (l == a.take D.length) = false from beq_eq_false_iff_ne.2 e]
structure RankRes (D : List Int) (N : List Note) (l : List Int) (r : Int) (e : Int) : Prop where
  bad : ¬ ValidS D N → r = 0 ∧ e = 1
  form : ValidS D N → cutB D l = false → r = 0 ∧ e = 2
  none : ValidS D N → cutB D l = true → rankOf D N l < 0 → r = 0 ∧ e = 5
  ok : ValidS D N → cutB D l = true → 0 ≤ rankOf D N l → r = rankOf D N l ∧ e = 0
theorem allV {sv : AV} {D : List Int} {K : List (List (List Int))} (s : IsStory sv D.length (pad D) K) : ∃ av, (∀ m, denC prog ann 62 [sv] m = some (av, m)) ∧ IsSl ints av (allL (pad D) K D.length) := by
  obtain ⟨av, ea, ia⟩ := all_spec s Mem.empty
  exact ⟨av, pure_any (fun m => watch_story_all.call_eq _ m (by simp [s.closed])) ea, ia⟩
theorem rankV_spec {v vl : AV} {D l : List Int} {N : List Note} (hs : IsTale v D N) (hl : D.length < 100000) (hn : N.length < 100000) (hv : IsInts vl l) (hll : l.length < 1000000) :
    ∃ r e, RankRes D N l r e ∧ ∀ m, denC prog ann 45 [v, vl] m = some (.tup [.int .i64 r, .int .i64 e], m) := by
  have hs' := hs
  obtain ⟨r, hr, er⟩ := readV_spec hs hl hn
  obtain ⟨vD, vN, rfl, h1, h2⟩ := hs.ex
  have hcl : closedL [.agg [vD, vN], vl] = true := by simp [h1.closed, h2.closed, hv.closed]
  cases hr with
  | no h =>
    refine ⟨0, 1, ⟨fun _ => ⟨rfl, rfl⟩, fun v => absurd v h, fun v => absurd v h, fun v => absurd v h⟩, fun m => ?_⟩
    rw [watch_Rank.call_eq _ _ _ hcl]
    simp [h1.one, h2.one, h1.closed, h2.closed, er]
  | @ok sv K val k s =>
    obtain ⟨c, hc, hc4, ec⟩ := cutOf_spec s hv hll
    cases hq : cutB D l with
    | false =>
      rw [hq] at ec
      refine ⟨0, 2, ⟨fun h => absurd val h, fun _ _ => ⟨rfl, rfl⟩, fun _ h => (by rw [hq] at h; cases h), fun _ h => (by rw [hq] at h; cases h)⟩, fun m => ?_⟩
      rw [watch_Rank.call_eq _ _ _ hcl]
      simp [h1.one, h2.one, h1.closed, h2.closed, er, ec, s.closed, s.one, hv.closed, hc4]
    | true =>
      have hcut := cutB_iff.1 hq
      have hic := pad_cut k.P.L.n4 hcut
      have hce := hc hq
      subst hce
      rw [hq] at ec
      have ht : (pad l).take 4 = pad l := List.take_of_length_le (by have := hic.len; omega)
      obtain ⟨av, ea, ia⟩ := allV s
      have hx := fun m => index_spec ia (allL_four s) hic.len (by have := allL_len s; omega) m
      have hrk := rank_eq k s hcut
      generalize hR : rankOf D N l = R at hrk
      have hx' : ∀ m, denC prog ann 81 [av, .agg (ints (pad l))] m = some (.int .i64 R, m) := fun m => by rw [hx m]; rw [← hrk]; rfl
      clear hx
      by_cases q : R < 0
      · refine ⟨0, 5, ⟨fun h => absurd val h, fun _ h => (by rw [hq] at h; cases h), fun _ _ _ => ⟨rfl, rfl⟩, fun _ _ h => by omega⟩, fun m => ?_⟩
        rw [watch_Rank.call_eq _ _ _ hcl]
        simp [h1.one, h2.one, h1.closed, h2.closed, er, ec, s.closed, s.one, hv.closed, hx', hic.len, ht, ea, ia.closed, q]
      · refine ⟨R, 0, ⟨fun h => absurd val h, fun _ h => (by rw [hq] at h; cases h), fun _ _ h => by omega, fun _ _ _ => ⟨hR.symm, rfl⟩⟩, fun m => ?_⟩
        rw [watch_Rank.call_eq _ _ _ hcl]
        simp [h1.one, h2.one, h1.closed, h2.closed, er, ec, s.closed, s.one, hv.closed, hx', hic.len, ht, ea, ia.closed, q]
inductive MoveRes (move : List (List (List Int)) → Nat → List Int → List Int) (D : List Int) (N : List Note) (l : List Int) : AV → Int → Prop where
  | bad (h : ¬ ValidS D N) : MoveRes move D N l .nils 1
  | form (v : ValidS D N) (h : cutB D l = false) : MoveRes move D N l .nils 2
  | ok {K : List (List (List Int))} {r : AV} (v : ValidS D N) (h : cutB D l = true) (k : Clocks D N K) (hr : IsInts r ((move K D.length (pad l)).take D.length)) : MoveRes move D N l r 0
end Go.Proofs.Ytdkmepjedjclkaa

/-
  THE REFERENCE's Meet, Join, Below, First, Last, Back, Forth. Conditions: none.
-/
namespace Go.Proofs.Ytdkmepjedjclkaa
open Go.AM
open Go.Proofs.Try (prog)
set_option linter.all false
set_option maxRecDepth 100000
def belowB (x y : List Int) : Bool := decide (zmin x y = x)
end Go.Proofs.Ytdkmepjedjclkaa

/-
  THE REFERENCE's First, Last, Back, Forth. Conditions: none.
-/
namespace Go.Proofs.Ytdkmepjedjclkaa
open Go.AM
open Go.Proofs.Try (prog)
set_option linter.all false
set_option maxRecDepth 100000
theorem tuplesL_row : ∀ {E : List Int}, ∀ x ∈ tuplesL E, x.length = E.length
  | [], x, hx => by simp [tuplesL] at hx; subst hx; rfl
  | d :: E, x, hx => by
    simp only [tuplesL, List.mem_flatMap, List.mem_map] at hx
    obtain ⟨j, _, y, hy, rfl⟩ := hx
    simp [tuplesL_row y hy]
theorem cutsL_row {D : List Int} {N : List Note} {x : List Int} (hx : x ∈ cutsL D N) : x.length = D.length := tuplesL_row x (List.mem_filter.1 hx).1
def firstL : List (List Int) → List Int
  | [] => []
  | x :: l => l.foldl zmin x
def lastL : List (List Int) → List Int
  | [] => []
  | x :: l => l.foldl zmax x
end Go.Proofs.Ytdkmepjedjclkaa

/-
  THE PLAIN LAW (3): Back and Forth are what the reference says. Conditions: none.
-/
namespace Go.Proofs.Ytdkmepjedjclkaa
open Go.AM
open Go.Proofs.Try (prog)
set_option linter.all false
set_option maxRecDepth 10000
theorem zmax_le {a b : List Int} (h : a.length = b.length) : zmax a b = b ↔ ∀ g, nth a g ≤ nth b g := by
  constructor
  · intro e g
    have := nth_zmax h g
    rw [e] at this; omega
  · intro e
    refine ext_nth (by simp [zmax, h]) fun g => ?_
    rw [nth_zmax h]; have := e g; omega
theorem nth_zmin {a b : List Int} (hl : a.length = b.length) (g : Nat) : nth (zmin a b) g = min (nth a g) (nth b g) := by
  simp only [nth, List.getD, zmin, List.getElem?_zipWith]
  rcases Nat.lt_or_ge g a.length with h | h
  · simp [List.getElem?_eq_getElem h, List.getElem?_eq_getElem (show g < b.length by omega)]
  · simp [List.getElem?_eq_none h, List.getElem?_eq_none (show b.length ≤ g by omega)]
section
variable {D : List Int} {N : List Note} {K : List (List (List Int))}
theorem Clocks.clk4 (c : Clocks D N K) {h i : Nat} (hh : h < D.length) (hi : (i : Int) < nth D h) : (clk K h i).length = 4 := c.F h _ (cth_mem (c.in hh hi))
theorem Clocks.self (c : Clocks D N K) (r : Reach D N D) {h i : Nat} (hh : h < D.length) (hi : (i : Int) < nth D h) : kn K h i h = (i : Int) + 1 := by
  obtain ⟨V, v⟩ := sched c.P r
  have S : Super D N V := by
    refine ⟨fun h i hi => by rw [v.self h i hi]; omega, v.lo, fun h i g hi => v.own h i g hi, fun x hx g => v.note x hx (c.P.notes x hx).r1 g⟩
  have a := c.I.low V S h i (c.in hh hi) h
  rw [v.self h i hi] at a
  have b := c.I.unit h i (c.in hh hi)
  show nth _ _ = _
  omega
theorem Clocks.leD (c : Clocks D N K) {h i : Nat} (hh : h < D.length) (hi : (i : Int) < nth D h) (g : Nat) : kn K h i g ≤ nth D g :=
  c.I.low (fun _ _ g => nth D g) ⟨fun h i h1 => by omega, fun _ _ g => c.P.L.lo g, fun _ _ _ _ => Int.le_refl _, fun _ _ _ => Int.le_refl _⟩ h i (c.in hh hi) g
theorem bk_max (K : List (List (List Int))) (c : List Int) (h : Nat) {i : Nat} (hi : zmax (clk K h i) c = c) : ∀ j, i < j → i + 1 ≤ bk K c h j
  | 0, h1 => by omega
  | j + 1, h1 => by
    rw [bk]
    split
    · omega
    · rename_i q
      rcases Nat.lt_or_ge i j with h2 | h2
      · exact bk_max K c h hi j h2
      · have : i = j := by omega
        subst this; exact absurd hi q
theorem bk_at (K : List (List (List Int))) (c : List Int) (h : Nat) : ∀ j, 0 < bk K c h j → zmax (clk K h (bk K c h j - 1)) c = c
  | 0, h1 => by simp [bk] at h1
  | j + 1, h1 => by
    rw [bk] at h1 ⊢
    split
    · rename_i q; exact q
    · rename_i q
      rw [if_neg q] at h1
      exact bk_at K c h j h1
theorem Clocks.inD (c : Clocks D N K) {h i : Nat} (hi : (i : Int) < nth D h) : h < D.length := by
  rcases Nat.lt_or_ge h D.length with h1 | h1
  · exact h1
  · rw [nth_out h1] at hi; omega
theorem Clocks.trans (c : Clocks D N K) {h i q j : Nat} (hh : h < D.length) (hi : (i : Int) < nth D h) (hj : (j : Int) < kn K h i q) (g : Nat) : kn K q j g ≤ kn K h i g := by
  have hjD : (j : Int) < nth D q := by have := c.leD hh hi q; omega
  have hq := c.inD hjD
  have S : Super D N (fun h i q => (bk K (clk K h i) q (nth D q).toNat : Nat)) := by
    have mono : ∀ {h i h' i' : Nat}, (clk K h i).length = 4 → (clk K h' i').length = 4 → (∀ g, kn K h i g ≤ kn K h' i' g) → ∀ q, bk K (clk K h i) q (nth D q).toNat ≤ bk K (clk K h' i') q (nth D q).toNat := by
      intro h i h' i' l1 l2 le q
      rcases Nat.eq_zero_or_pos (bk K (clk K h i) q (nth D q).toNat) with e | e
      · omega
      · have a := bk_at K (clk K h i) q _ e
        have b := bk_le K (clk K h i) q (nth D q).toNat
        have hqi : ((bk K (clk K h i) q (nth D q).toNat - 1 : Nat) : Int) < nth D q := by have := c.P.L.lo q; omega
        have l3 := c.clk4 (c.inD hqi) hqi
        rw [zmax_le (by omega)] at a
        have := bk_max K (clk K h' i') q (i := bk K (clk K h i) q (nth D q).toNat - 1) ((zmax_le (by omega)).2 fun g => Int.le_trans (a g) (le g)) (nth D q).toNat (by omega)
        omega
    refine ⟨fun h i h1 => ?_, fun _ _ _ => by omega, fun h i g h1 => ?_, fun x hx g => ?_⟩
    · have l1 := c.clk4 (c.inD h1) h1
      have := bk_max K (clk K h i) h (i := i) ((zmax_le rfl).2 fun _ => Int.le_refl _) (nth D h).toNat (by omega)
      show (i : Int) + 1 ≤ ((bk K (clk K h i) h (nth D h).toNat : Nat) : Int)
      omega
    · have hh := c.inD h1
      have := mono (c.clk4 hh (i := i) (by omega)) (c.clk4 hh h1) (c.own hh h1) g
      exact Int.ofNat_le.2 this
    · obtain ⟨f0, f1, t0, t1, ne, s0, s1, r0, r1⟩ := c.P.notes x hx
      have := mono (c.clk4 (h := x.f.toNat) (i := x.s.toNat - 1) (by omega) (by omega)) (c.clk4 (h := x.t.toNat) (i := x.r.toNat - 1) (by omega) (by omega)) (c.note hx) g
      exact Int.ofNat_le.2 this
  have low := c.I.low _ S h i (c.in hh hi) q
  have low' : kn K h i q ≤ (bk K (clk K h i) q (nth D q).toNat : Nat) := low
  have a := bk_at K (clk K h i) q (nth D q).toNat (by omega)
  have b := bk_le K (clk K h i) q (nth D q).toNat
  have l1 := c.clk4 hh hi
  have hqi : ((bk K (clk K h i) q (nth D q).toNat - 1 : Nat) : Int) < nth D q := by omega
  rw [zmax_le (by rw [c.clk4 hq hqi, l1])] at a
  have m := c.mono hq g (bk K (clk K h i) q (nth D q).toNat - 1 - j) j (by omega)
  rw [show j + (bk K (clk K h i) q (nth D q).toNat - 1 - j) = bk K (clk K h i) q (nth D q).toNat - 1 by omega] at m
  exact Int.le_trans m (a g)
theorem mem_tuples : ∀ {E x : List Int}, (∀ d ∈ E, 0 ≤ d) → (x ∈ tuplesL E ↔ CutL E x)
  | [], x, _ => by
    simp only [tuplesL, List.mem_singleton]
    constructor
    · rintro rfl; exact ⟨rfl, fun h => by simp [nth], fun h => by simp [nth]⟩
    · intro h; exact List.length_eq_zero_iff.1 h.len
  | d :: E, x, hp => by
    simp only [tuplesL, List.mem_flatMap, List.mem_map, List.mem_range]
    have hd := hp d (by simp)
    constructor
    · rintro ⟨i, hi, y, hy, rfl⟩
      have h := (mem_tuples (fun e he => hp e (by simp [he]))).1 hy
      refine ⟨by simp [h.len], fun g => ?_, fun g => ?_⟩
      · cases g with
        | zero => rw [nth_cons0]; omega
        | succ g => rw [nth_cons1]; exact h.lo g
      · cases g with
        | zero => rw [nth_cons0, nth_cons0]; omega
        | succ g => rw [nth_cons1, nth_cons1]; exact h.hi g
    · intro h
      cases x with
      | nil => have := h.len; simp at this
      | cons a y =>
        have h0 := h.lo 0
        have h1 := h.hi 0
        rw [nth_cons0] at h0 h1
        rw [nth_cons0] at h1
        refine ⟨a.toNat, by omega, y, (mem_tuples (fun e he => hp e (by simp [he]))).2 ⟨by have := h.len; simpa using this, fun g => by have := h.lo (g + 1); rwa [nth_cons1] at this, fun g => by have := h.hi (g + 1); rwa [nth_cons1, nth_cons1] at this⟩, by rw [show ((a.toNat : Nat) : Int) = a by omega]⟩
theorem mem_cuts (L : Lims D N) {x : List Int} : x ∈ cutsL D N ↔ CutL D x ∧ conR N x = true := by
  rw [cutsL, List.mem_filter, mem_tuples (fun d hd => (L.all d hd).1)]
end
end Go.Proofs.Ytdkmepjedjclkaa

/-
  THE PLAIN LAW (4): Back and Forth. Conditions: none.
-/
namespace Go.Proofs.Ytdkmepjedjclkaa
open Go.AM
open Go.Proofs.Try (prog)
set_option linter.all false
set_option maxRecDepth 10000
section
variable {D : List Int} {N : List Note} {K : List (List (List Int))}
theorem zeros_cut (L : Lims D N) (P : Pre D N) : List.replicate D.length 0 ∈ cutsL D N := by
  refine (mem_cuts L).2 ⟨⟨by simp, fun h => by rw [nth_zero']; omega, fun h => by rw [nth_zero']; exact L.lo h⟩, ?_⟩
  rw [conR_iff]
  intro x hx hr
  have := (P.notes x hx).r0
  rw [nth_zero'] at hr; omega
theorem take_out {c : List Int} {n g : Nat} (h : n ≤ g) : nth (c.take n) g = 0 := nth_out (by simp; omega)
end
end Go.Proofs.Ytdkmepjedjclkaa

/-
  A STORY MADE OF ARBITRARY NUMBERS (3): it is valid. Conditions: none.
-/
namespace Go.Proofs.Ytdkmepjedjclkaa
open Go.AM
open Go.Proofs.Try (prog)
set_option linter.all false
set_option maxRecDepth 100000
end Go.Proofs.Ytdkmepjedjclkaa

/-
  BODIES OF FUNCTIONS OF THE PROGRAM AS SMALL OPERATIONS (written by gen.py; checked by the kernel against the program). Conditions: none.
-/
namespace Go.Proofs.Ytdkmepjedjclkaa
open Go.AM
open Go.Proofs.Try (prog)
set_option maxRecDepth 100000
set_option linter.all false
end Go.Proofs.Ytdkmepjedjclkaa

/-
  CUTS OF A STORY THAT WAS MADE; Back and Forth of a valid story. Conditions: none.
-/
namespace Go.Proofs.Ytdkmepjedjclkaa
open Go.AM
open Go.Proofs.Try (prog)
set_option linter.all false
set_option maxRecDepth 100000
set_option maxHeartbeats 4000000
theorem u5 : prog.underlying 5 = some (.int .u8) := by kernel_rfl
theorem dat5 {d : Nat} {cs : List AV} (h : Dat prog (d + 1) 5 cs) : ∃ n, cs = [.int .u8 n] ∧ Byte n := by
  simp only [Dat, u5] at h
  obtain ⟨n, rfl, hw⟩ := h
  refine ⟨n, rfl, ?_⟩
  simp only [Lit.wf, Bool.and_eq_true, decide_eq_true_eq] at hw
  have e1 : IntKind.min .u8 = 0 := by decide
  have e2 : IntKind.max .u8 = 255 := by decide
  rw [e1, e2] at hw
  exact hw
def bl (D : List Int) (N : List Note) (l : List Int) : List Int := lastL ((cutsL D N).filter fun x => belowB x l)
def fl (D : List Int) (N : List Note) (l : List Int) : List Int := firstL ((cutsL D N).filter fun x => belowB l x)
section
variable {v vl : AV} {D l : List Int} {N : List Note}
theorem consOk (hs : IsTale v D N) (val : ValidS D N) (hv : IsInts vl l) (hc : CutL D l) (m : Mem) : denC prog ann 30 [v, vl] m = some (.tup [.bool (conR N l), .int .i64 0], m) := by
  have h4 := val.n4
  have hN := val.N24
  obtain ⟨b, e, h1, h2⟩ := consistentV_spec hs (by omega) (by omega) hv (by have := hc.len; omega)
  obtain ⟨rfl, rfl⟩ := h1.ok val (cutB_iff.2 hc)
  exact h2 m
end
end Go.Proofs.Ytdkmepjedjclkaa

/-
  THE PLAIN LAW (5): the reference's clocks settle deed by deed, and are the program's. Conditions: none.
-/
namespace Go.Proofs.Ytdkmepjedjclkaa
open Go.AM
open Go.Proofs.Try (prog)
set_option linter.all false
set_option maxRecDepth 10000
section
variable {D : List Int} {N : List Note} {K : List (List (List Int))}
structure RInv (D : List Int) (N : List Note) (C : List (List (List Int))) : Prop where
  len : C.length = D.length
  rows : ∀ h, h < D.length → ((kth C h).length : Int) = nth D h
  wid : ∀ h, ∀ c ∈ kth C h, c.length = D.length
  low : ∀ V, Super D N V → ∀ h i, i < (kth C h).length → ∀ g, kn C h i g ≤ V h i g
  unit : ∀ (h i : Nat), i < (kth C h).length → (i : Int) + 1 ≤ kn C h i h
  pos : ∀ h i, i < (kth C h).length → ∀ g, 0 ≤ kn C h i g
def Ge (C C' : List (List (List Int))) : Prop := ∀ h i q, kn C h i q ≤ kn C' h i q
theorem Ge.refl (C : List (List (List Int))) : Ge C C := fun _ _ _ => Int.le_refl _
theorem Ge.trans {A B C : List (List (List Int))} (h : Ge A B) (k : Ge B C) : Ge A C := fun a b c => Int.le_trans (h a b c) (k a b c)
theorem kn_grow {C : List (List (List Int))} {h i n : Nat} {c : List Int} (hh : h < C.length) (hi : i < (kth C h).length) (hw : (cth (kth C h) i).length = n) (hc : c.length = n) (g j q : Nat) : kn (growK C h i c) g j q = if g = h ∧ j = i then max (kn C h i q) (nth c q) else kn C g j q := by
  show nth (cth (kth (growK C h i c) g) j) q = _
  rw [growK, kth_set hh]
  by_cases e : g = h
  · subst e
    simp only [if_true, true_and]
    by_cases e2 : j = i
    · subst e2
      rw [if_pos rfl, ← nth_zmax (by omega)]
      congr 1
      simp [cth, List.getD, List.getElem?_set, hi]
    · rw [if_neg e2]
      have : ¬ i = j := fun x => e2 x.symm
      show nth _ _ = nth _ _
      congr 1
      simp [cth, List.getD, List.getElem?_set, this]
  · simp [e]
theorem RInv.grow {C : List (List (List Int))} (I : RInv D N C) {h i : Nat} (hh : h < D.length) (hi : i < (kth C h).length) {c : List Int} (hc : c.length = D.length) (hl : ∀ V, Super D N V → ∀ g, nth c g ≤ V h i g) : RInv D N (growK C h i c) ∧ Ge C (growK C h i c) ∧ ∀ q, nth c q ≤ kn (growK C h i c) h i q := by
  have hhC : h < C.length := by rw [I.len]; exact hh
  have hw := I.wid h _ (cth_mem hi)
  have e := kn_grow (n := D.length) hhC hi hw hc
  have hk := fun g => kth_set (K := C) (h := h) (g := g) (r := (kth C h).set i (zmax (cth (kth C h) i) c)) hhC
  have hkl : ∀ g, (kth (growK C h i c) g).length = (kth C g).length := by
    intro g; rw [growK, hk]; split
    · rename_i e; subst e; simp
    · rfl
  refine ⟨⟨by simp [growK, I.len], fun g hg => by rw [hkl]; exact I.rows g hg, fun g d hd => ?_, fun V hV g j hj q => ?_, fun g j hj => ?_, fun g j hj q => ?_⟩, fun g j q => ?_, fun q => ?_⟩
  · rw [growK, hk] at hd
    split at hd
    · rcases List.mem_or_eq_of_mem_set hd with h1 | h1
      · exact I.wid h d h1
      · rw [h1]; simp [zmax, hw, hc]
    · exact I.wid g d hd
  · rw [hkl] at hj
    rw [e]; split
    · rename_i e2; obtain ⟨rfl, rfl⟩ := e2
      have := I.low V hV g j hj q; have := hl V hV q; omega
    · exact I.low V hV g j hj q
  · rw [hkl] at hj
    rw [e]; split
    · rename_i e2; obtain ⟨rfl, rfl⟩ := e2
      have := I.unit g j hj; omega
    · exact I.unit g j hj
  · rw [hkl] at hj
    rw [e]; split
    · rename_i e2; obtain ⟨rfl, rfl⟩ := e2
      have := I.pos g j hj q; omega
    · exact I.pos g j hj q
  · rw [e]; split
    · rename_i e2; obtain ⟨rfl, rfl⟩ := e2; omega
    · exact Int.le_refl _
  · rw [e, if_pos ⟨rfl, rfl⟩]; omega
structure Round (D : List Int) (N : List Note) (C C' : List (List (List Int))) : Prop where
  inv : RInv D N C'
  ge : Ge C C'
  own : ∀ (h i : Nat), h < D.length → (i : Int) + 1 < nth D h → ∀ q, kn C h i q ≤ kn C' h (i + 1) q
  note : ∀ x ∈ N, ∀ q, kn C x.f.toNat (x.s.toNat - 1) q ≤ kn C' x.t.toNat (x.r.toNat - 1) q
end
end Go.Proofs.Ytdkmepjedjclkaa

/-
  WatchCuts RETURNS TRUE. Conditions: none.
-/
namespace Go.Proofs.Ytdkmepjedjclkaa
open Go.AM
open Go.Proofs.Try (prog)
set_option linter.all false
set_option maxRecDepth 100000
theorem u4 : prog.underlying 4 = some .bool := by kernel_rfl
theorem rank_con {D l : List Int} {N : List Note} (L : Lims D N) (h : CutL D l) : conR N l = decide (0 ≤ rankOf D N l) := by
  have hm : l ∈ cutsL D N ↔ conR N l = true := by rw [mem_cuts L]; exact ⟨fun x => x.2, fun x => ⟨h, x⟩⟩
  cases hq : List.findIdx? (fun x => l == x) (cutsL D N) with
  | none =>
    have : rankOf D N l = -1 := by rw [rankOf, hq]
    rw [this]
    rw [List.findIdx?_eq_none_iff] at hq
    cases hc : conR N l with
    | false => rfl
    | true => have := hq l (hm.2 hc); simp at this
  | some j =>
    have e : rankOf D N l = j := by rw [rankOf, hq]
    rw [e]
    rw [List.findIdx?_eq_some_iff_getElem] at hq
    obtain ⟨hj, h1, _⟩ := hq
    have : l = (cutsL D N)[j] := by simpa using h1
    have hc := hm.1 (by rw [this]; exact List.getElem_mem hj)
    rw [hc]
    simp
end Go.Proofs.Ytdkmepjedjclkaa

/-
  BODIES OF FUNCTIONS OF THE PROGRAM AS SMALL OPERATIONS (written by gen.py; checked by the kernel against the program). Conditions: none.
-/
namespace Go.Proofs.Ytdkmepjedjclkaa
open Go.AM
open Go.Proofs.Try (prog)
set_option maxRecDepth 100000
set_option linter.all false
end Go.Proofs.Ytdkmepjedjclkaa

/-
  Before, AND WHAT A DEED IS. Conditions: none.
-/
namespace Go.Proofs.Ytdkmepjedjclkaa
open Go.AM
open Go.Proofs.Try (prog)
set_option linter.all false
set_option maxRecDepth 100000
set_option maxHeartbeats 4000000
inductive BefRes (D : List Int) (N : List Note) (a b c d : Int) : Bool → Int → Prop where
  | bad (h : ¬ ValidS D N) : BefRes D N a b c d false 1
  | form (v : ValidS D N) (h : (deedOk D a b && deedOk D c d) = false) : BefRes D N a b c d false 2
  | ok {K : List (List (List Int))} (v : ValidS D N) (h : deedOk D a b = true) (h' : deedOk D c d = true) (k : Clocks D N K) : BefRes D N a b c d (!decide ([a, b] = [c, d]) && decide (b ≤ kn K c.toNat (d.toNat - 1) a.toNat)) 0
end Go.Proofs.Ytdkmepjedjclkaa

/-
  THE REFERENCE's CLOCKS IN MEMORY (1): a row of single deeds. Conditions: none.
-/
namespace Go.Proofs.Ytdkmepjedjclkaa
open Go.AM
open Go.Proofs.Try (prog)
set_option linter.all false
set_option maxRecDepth 100000
set_option maxHeartbeats 4000000
def rowV (D : List Int) (rids : Nat → Nat) (h : Nat) : AV := .sl (rids h) 1 0 (nth D h).toNat (nth D h).toNat
def rowsV (D : List Int) (rids : Nat → Nat) (k : Nat) : List AV := (List.range k).map (rowV D rids)
end Go.Proofs.Ytdkmepjedjclkaa

/-
  THE REFERENCE's CLOCKS IN MEMORY (2): all rows. Conditions: none.
-/
namespace Go.Proofs.Ytdkmepjedjclkaa
open Go.AM
open Go.Proofs.Try (prog)
set_option linter.all false
set_option maxRecDepth 100000
set_option maxHeartbeats 4000000
structure CAt (m : Mem) (oid : Nat) (rids : Nat → Nat) (D : List Int) (C : List (List (List Int))) : Prop where
  o : m.h oid = some (.cells (rowsV D rids C.length))
  r : ∀ h, h < C.length → m.h (rids h) = some (.cells (flatC rowC (kth C h)))
  ol : oid < m.nx
  rl : ∀ h, h < C.length → rids h < m.nx
  ne : ∀ h, h < C.length → oid ≠ rids h
  inj : ∀ g h, g < C.length → h < C.length → rids g = rids h → g = h
end Go.Proofs.Ytdkmepjedjclkaa

/-
  THE REFERENCE's CLOCKS IN MEMORY (3): at the outset. Conditions: none.
-/
namespace Go.Proofs.Ytdkmepjedjclkaa
open Go.AM
open Go.Proofs.Try (prog)
set_option linter.all false
set_option maxRecDepth 100000
end Go.Proofs.Ytdkmepjedjclkaa

/-
  THE REFERENCE's CLOCKS IN MEMORY (4): the rounds, as growth. Conditions: none.
-/
namespace Go.Proofs.Ytdkmepjedjclkaa
open Go.AM
open Go.Proofs.Try (prog)
set_option linter.all false
set_option maxRecDepth 100000
set_option maxHeartbeats 4000000
theorem updNe {h : Nat → Option AObj} {i j : Nat} {o : Option AObj} (e : j ≠ i) : upd h i o j = h j := by simp [upd, show (j == i) = false from beq_eq_false_iff_ne.2 e]
theorem flatC_row (R : List (List Int)) : flatC rowC R = R.map fun c => .fsl false c.length (ints c) := by
  induction R with
  | nil => rfl
  | cons a R ih => rw [flatC_cons, ih]; rfl
theorem flatC_row_set (R : List (List Int)) (i : Nat) (x : List Int) : (flatC rowC R).set i (.fsl false x.length (ints x)) = flatC rowC (R.set i x) := by
  rw [flatC_row, flatC_row, List.map_set]
theorem flatC_row_get {R : List (List Int)} {i : Nat} (hi : i < R.length) : (flatC rowC R)[i]? = some (.fsl false (cth R i).length (ints (cth R i))) := by
  rw [flatC_row, List.getElem?_map, cth_eq hi]; rfl
theorem flatC_row_len (R : List (List Int)) : (flatC rowC R).length = R.length := by rw [flatC_row]; simp
@[simp] theorem rowsV_getElem (D : List Int) (rids : Nat → Nat) {k h : Nat} (hh : h < (rowsV D rids k).length) : (rowsV D rids k)[h] = rowV D rids h := by simp [rowsV]
@[simp] theorem flatC_row_getElem {R : List (List Int)} {i : Nat} (hi : i < (flatC rowC R).length) : (flatC rowC R)[i] = .fsl false (cth R i).length (ints (cth R i)) := by
  have h := flatC_row_get (R := R) (i := i) (by rwa [flatC_row_len] at hi)
  rw [List.getElem?_eq_getElem hi] at h
  simpa using h
theorem kth_grow {C : List (List (List Int))} {h i : Nat} {c : List Int} (hh : h < C.length) (g : Nat) : kth (growK C h i c) g = if g = h then (kth C h).set i (zmax (cth (kth C h) i) c) else kth C g := by rw [growK, kth_set hh]
theorem growK_len {C : List (List (List Int))} {h i : Nat} {c : List Int} : (growK C h i c).length = C.length := by simp [growK]
theorem CAt.grow {m : Mem} {oid : Nat} {rids : Nat → Nat} {D : List Int} {C : List (List (List Int))} (k : CAt m oid rids D C) {h i n' : Nat} {c : List Int} (hh : h < C.length) (hn : m.nx ≤ n') :
    CAt ⟨upd m.h (rids h) (some (.cells ((flatC rowC (kth C h)).set i (.fsl false (zmax (cth (kth C h) i) c).length (ints (zmax (cth (kth C h) i) c)))))), n'⟩ oid rids D (growK C h i c) := by
  refine ⟨?_, fun g hg => ?_, Nat.lt_of_lt_of_le k.ol hn, fun g hg => ?_, fun g hg => ?_, fun g g' hg hg' e => ?_⟩
  · rw [growK_len]
    show upd m.h (rids h) _ oid = _
    rw [updNe (k.ne h hh)]; exact k.o
  · rw [growK_len] at hg
    rw [kth_grow hh, flatC_row_set]
    show upd m.h (rids h) _ (rids g) = _
    by_cases e : g = h
    · subst e; simp
    · rw [updNe (fun x => e (k.inj g h hg hh x)), if_neg e]; exact k.r g hg
  · rw [growK_len] at hg; exact Nat.lt_of_lt_of_le (k.rl g hg) hn
  · rw [growK_len] at hg; exact k.ne g hg
  · rw [growK_len] at hg hg'; exact k.inj g g' hg hg' e
theorem CAt.more {m : Mem} {oid : Nat} {rids : Nat → Nat} {D : List Int} {C : List (List (List Int))} (k : CAt m oid rids D C) {m' : Mem} (hm : ∀ id, id < m.nx → m'.h id = m.h id) (hn : m.nx ≤ m'.nx) : CAt m' oid rids D C :=
  ⟨by rw [hm _ k.ol]; exact k.o, fun h hh => by rw [hm _ (k.rl h hh)]; exact k.r h hh, Nat.lt_of_lt_of_le k.ol hn, fun h hh => Nat.lt_of_lt_of_le (k.rl h hh) hn, k.ne, k.inj⟩
structure Part (D : List Int) (N : List Note) (C C' : List (List (List Int))) (S : Nat → Nat → Prop) : Prop where
  inv : RInv D N C'
  ge : Ge C C'
  own : ∀ (h i : Nat), h < D.length → S h (i + 1) → (i : Int) + 1 < nth D h → ∀ q, kn C h i q ≤ kn C' h (i + 1) q
  note : ∀ x ∈ N, S x.t.toNat (x.r.toNat - 1) → ∀ q, kn C x.f.toNat (x.s.toNat - 1) q ≤ kn C' x.t.toNat (x.r.toNat - 1) q
section
variable {D : List Int} {N : List Note} {A B C : List (List (List Int))} {S T : Nat → Nat → Prop}
theorem Part.refl (I : RInv D N C) (h : ∀ g i, S g i → False) : Part D N C C S := ⟨I, Ge.refl C, fun g i _ s => (h _ _ s).elim, fun x _ s => (h _ _ s).elim⟩
theorem Part.trans {U : Nat → Nat → Prop} (a : Part D N A B S) (b : Part D N B C T) (h : ∀ g i, U g i → S g i ∨ T g i) : Part D N A C U := by
  refine ⟨b.inv, a.ge.trans b.ge, fun g i hg u hi q => ?_, fun x hx u q => ?_⟩
  · rcases h _ _ u with s | t
    · exact Int.le_trans (a.own g i hg s hi q) (b.ge _ _ q)
    · exact Int.le_trans (a.ge _ _ q) (b.own g i hg t hi q)
  · rcases h _ _ u with s | t
    · exact Int.le_trans (a.note x hx s q) (b.ge _ _ q)
    · exact Int.le_trans (a.ge _ _ q) (b.note x hx t q)
end
end Go.Proofs.Ytdkmepjedjclkaa

/-
  THE REFERENCE's CLOCKS IN MEMORY (5): a deed takes in what it receives. Conditions: none.
-/
namespace Go.Proofs.Ytdkmepjedjclkaa
open Go.AM
open Go.Proofs.Try (prog)
set_option linter.all false
set_option maxRecDepth 100000
set_option maxHeartbeats 4000000
end Go.Proofs.Ytdkmepjedjclkaa

/-
  THE REFERENCE's CLOCKS IN MEMORY (6): hands, rounds, and what is handed back. Conditions: none.
-/
namespace Go.Proofs.Ytdkmepjedjclkaa
open Go.AM
open Go.Proofs.Try (prog)
set_option linter.all false
set_option maxRecDepth 100000
set_option maxHeartbeats 4000000
def clkC (R : List (List Int)) : List AV := [.fsl false R.length (flatC rowC R)]
def clkV (C : List (List (List Int))) : AV := .fsl false C.length (flatC clkC C)
end Go.Proofs.Ytdkmepjedjclkaa

/-
  WatchBefore RETURNS TRUE. Conditions: none.
-/
namespace Go.Proofs.Ytdkmepjedjclkaa
open Go.AM
open Go.Proofs.Try (prog)
set_option linter.all false
set_option maxRecDepth 100000
set_option maxHeartbeats 4000000
@[simp] theorem clkV_closed (C : List (List (List Int))) : (clkV C).closed = true := rfl
@[simp] theorem clkV_one (C : List (List (List Int))) : (clkV C).one = true := rfl
@[simp] theorem clkV_cells (C : List (List (List Int))) : (clkV C).cells = [clkV C] := rfl
@[simp] theorem clkV_deep (C : List (List (List Int))) (h : Nat → Option AObj) (d : Nat) : deep h (d + 1) (clkV C) = some (clkV C) := rfl
end Go.Proofs.Ytdkmepjedjclkaa

/-
  watch.Clocks: ITS ROWS IN MEMORY. Conditions: none.
-/
namespace Go.Proofs.Ytdkmepjedjclkaa
open Go.AM
open Go.Proofs.Try (prog)
set_option linter.all false
set_option maxRecDepth 100000
set_option maxHeartbeats 4000000
def slR (ids : Nat → Nat) (R : List (List (List Int))) (g : Nat) : AV := if kth R g = [] then .nils else .sl (ids g) 1 0 (kth R g).length (kth R g).length
def outR (ids : Nat → Nat) (R : List (List (List Int))) (n : Nat) : List AV := (List.range n).map (slR ids R)
@[simp] theorem outR_getElem (ids : Nat → Nat) (R : List (List (List Int))) {n h : Nat} (hh : h < (outR ids R n).length) : (outR ids R n)[h] = slR ids R h := by simp [outR]
structure WAt (m : Mem) (oid : Nat) (ids : Nat → Nat) (n : Nat) (R : List (List (List Int))) : Prop where
  o : m.h oid = some (.cells (outR ids R n))
  r : ∀ h, kth R h ≠ [] → m.h (ids h) = some (.cells (flatC rowC (kth R h)))
  ol : oid < m.nx
  rl : ∀ h, kth R h ≠ [] → ids h < m.nx
  ne : ∀ h, kth R h ≠ [] → oid ≠ ids h
  inj : ∀ g h, kth R g ≠ [] → kth R h ≠ [] → ids g = ids h → g = h
def pushR (R : List (List (List Int))) (h : Nat) (x : List Int) : List (List (List Int)) := R.set h (kth R h ++ [x])
theorem kth_push {R : List (List (List Int))} {h : Nat} {x : List Int} (hh : h < R.length) (g : Nat) : kth (pushR R h x) g = if g = h then kth R h ++ [x] else kth R g := by rw [pushR, kth_set hh]
theorem outR_set {ids : Nat → Nat} {R : List (List (List Int))} {n h : Nat} {x : List Int} (hh : h < R.length) (hn : h < n) {ids' : Nat → Nat} (hi : ∀ g, g ≠ h → ids' g = ids g) :
    (outR ids R n).set h (.sl (ids' h) 1 0 ((kth R h).length + 1) ((kth R h).length + 1)) = outR ids' (pushR R h x) n := by
  refine List.ext_getElem (by simp [outR]) fun g h1 h2 => ?_
  rw [List.getElem_set]
  have hg : g < n := by simpa [outR] using h2
  by_cases e : h = g
  · subst e
    rw [if_pos rfl, outR_getElem]
    simp [slR, kth_push hh]
  · rw [if_neg e, outR_getElem, outR_getElem]
    have e' : ¬ g = h := fun x => e x.symm
    simp [slR, kth_push hh, e', hi g e']
theorem WAt.push {m m' : Mem} {oid : Nat} {ids : Nat → Nat} {n : Nat} {R : List (List (List Int))} (w : WAt m oid ids n R) {h : Nat} (hh : h < R.length) (hn : h < n) {x : List Int} {ids' : Nat → Nat} (hi : ∀ g, g ≠ h → ids' g = ids g)
    (h1 : m'.h oid = some (.cells ((outR ids R n).set h (.sl (ids' h) 1 0 ((kth R h).length + 1) ((kth R h).length + 1)))))
    (h2 : m'.h (ids' h) = some (.cells (flatC rowC (kth R h ++ [x]))))
    (h3 : ∀ id, id < m.nx → id ≠ oid → id ≠ ids' h → m'.h id = m.h id) (h4 : m.nx ≤ m'.nx) (h5 : ids' h < m'.nx) (h6 : oid ≠ ids' h) (h7 : ∀ g, g ≠ h → kth R g ≠ [] → ids g ≠ ids' h) : WAt m' oid ids' n (pushR R h x) := by
  refine ⟨by rw [h1, outR_set (ids' := ids') hh hn hi], fun g hg => ?_, Nat.lt_of_lt_of_le w.ol h4, fun g hg => ?_, fun g hg => ?_, fun g g' hg hg' e => ?_⟩
  · by_cases e : g = h
    · subst e; rw [kth_push hh, if_pos rfl]; exact h2
    · rw [kth_push hh, if_neg e] at hg ⊢
      rw [hi g e, h3 _ (w.rl g hg) (fun x => w.ne g hg x.symm) (h7 g e hg)]; exact w.r g hg
  · by_cases e : g = h
    · subst e; exact h5
    · rw [kth_push hh, if_neg e] at hg
      rw [hi g e]; exact Nat.lt_of_lt_of_le (w.rl g hg) h4
  · by_cases e : g = h
    · subst e; exact h6
    · rw [kth_push hh, if_neg e] at hg
      rw [hi g e]; exact w.ne g hg
  · by_cases e1 : g = h
    · by_cases e2 : g' = h
      · omega
      · rw [kth_push hh, if_neg e2] at hg'
        rw [e1, hi g' e2] at e; exact absurd e.symm (h7 g' e2 hg')
    · rw [kth_push hh, if_neg e1] at hg
      by_cases e2 : g' = h
      · rw [e2, hi g e1] at e; exact absurd e (h7 g e1 hg)
      · rw [kth_push hh, if_neg e2] at hg'
        rw [hi g e1, hi g' e2] at e; exact w.inj g g' hg hg' e
def rowsN (K : List (List (List Int))) (n h : Nat) : List (List Int) := (kth K h).map fun c => c.take n
end Go.Proofs.Ytdkmepjedjclkaa

/-
  watch.Clocks: WHAT IT COMPUTES. Conditions: none.
-/
namespace Go.Proofs.Ytdkmepjedjclkaa
open Go.AM
open Go.Proofs.Try (prog)
set_option linter.all false
set_option maxRecDepth 100000
set_option maxHeartbeats 4000000
end Go.Proofs.Ytdkmepjedjclkaa

/-
  watch.Clocks: WHAT IT HANDS BACK. Conditions: none.
-/
namespace Go.Proofs.Ytdkmepjedjclkaa
open Go.AM
open Go.Proofs.Try (prog)
set_option linter.all false
set_option maxRecDepth 100000
set_option maxHeartbeats 4000000
def slotV (K : List (List (List Int))) (n h : Nat) : AV := if rowsN K n h = [] then .nils else .fsl false (rowsN K n h).length (flatC rowC (rowsN K n h))
def wclkV (K : List (List (List Int))) (n : Nat) : AV := .fsl false n ((List.range n).map (slotV K n))
@[simp] theorem wclk_closed (K : List (List (List Int))) (n : Nat) : (wclkV K n).closed = true := rfl
@[simp] theorem wclk_one (K : List (List (List Int))) (n : Nat) : (wclkV K n).one = true := rfl
@[simp] theorem wclk_cells (K : List (List (List Int))) (n : Nat) : (wclkV K n).cells = [wclkV K n] := rfl
@[simp] theorem wclk_deep (K : List (List (List Int))) (n : Nat) (h : Nat → Option AObj) (d : Nat) : deep h (d + 1) (wclkV K n) = some (wclkV K n) := rfl
@[simp] theorem wclk_len (K : List (List (List Int))) (n : Nat) : lenSl (wclkV K n) = some (.int .i64 n) := rfl
@[simp] theorem wclk_frz (K : List (List (List Int))) (n : Nat) (m : Mem) : frzV (wclkV K n) m = some (wclkV K n, m) := rfl
inductive ClkRes (D : List Int) (N : List Note) : AV → Int → Prop where
  | bad (h : ¬ ValidS D N) : ClkRes D N .nils 1
  | ok {K : List (List (List Int))} (v : ValidS D N) (k : Clocks D N K) : ClkRes D N (wclkV K D.length) 0
end Go.Proofs.Ytdkmepjedjclkaa

/-
  SLICES WHOSE ELEMENTS ARE THEMSELVES SLICES, AS VALUES. Conditions: none.
-/
namespace Go.AM
set_option linter.all false
def cAt (cs : List AV) (i : Nat) : AV := cs.getD i .undef
theorem cAt_eq {cs : List AV} {i : Nat} (h : i < cs.length) : cs[i]? = some (cAt cs i) := by
  rw [List.getElem?_eq_getElem h]; simp [cAt, List.getD, List.getElem?_eq_getElem h]
theorem cAt_load {cs : List AV} {i : Nat} (h : i < cs.length) : loadF false 1 (.fptr (cs.drop i)) = some (cAt cs i) := by
  simp [List.head?_drop, cAt_eq h]
def gth {α : Type} [Inhabited α] (l : List α) (i : Nat) : α := l.getD i default
structure IsVec {α : Type} [Inhabited α] (R : AV → α → Prop) (v : AV) (cs : List AV) (l : List α) : Prop where
  n : cs.length = l.length
  rel : ∀ i, i < l.length → R (cAt cs i) (gth l i)
  cl : closedL cs = true
  v : (v = .nils ∧ l = []) ∨ ∃ ex, v = .fsl ex l.length cs
section
variable {α : Type} [Inhabited α] {R : AV → α → Prop} {v : AV} {cs : List AV} {l : List α}
theorem IsVec.closed (h : IsVec R v cs l) : v.closed = true := by rcases h.v with ⟨rfl, _⟩ | ⟨_, rfl⟩ <;> rfl
theorem IsVec.one (h : IsVec R v cs l) : v.one = true := by rcases h.v with ⟨rfl, _⟩ | ⟨_, rfl⟩ <;> rfl
theorem IsVec.cells (h : IsVec R v cs l) : v.cells = [v] := by rcases h.v with ⟨rfl, _⟩ | ⟨_, rfl⟩ <;> rfl
theorem IsVec.len (h : IsVec R v cs l) : lenSl v = some (.int .i64 l.length) := by rcases h.v with ⟨rfl, rfl⟩ | ⟨_, rfl⟩ <;> simp
theorem IsVec.deep (h : IsVec R v cs l) (hp : Nat → Option AObj) (d : Nat) : AM.deep hp (d + 1) v = some v := by rcases h.v with ⟨rfl, _⟩ | ⟨_, rfl⟩ <;> rfl
theorem IsVec.frz (h : IsVec R v cs l) (m : Mem) : frzV v m = some (v, m) := by rcases h.v with ⟨rfl, _⟩ | ⟨_, rfl⟩ <;> rfl
theorem IsVec.idx (h : IsVec R v cs l) {i : Nat} (hi : i < l.length) (k : IntKind) : idxSl 1 v (.int k (i : Int)) = some (.fptr (cs.drop i)) := by
  rcases h.v with ⟨rfl, rfl⟩ | ⟨_, rfl⟩
  · simp at hi
  · simp [hi]
theorem IsVec.load (h : IsVec R v cs l) {i : Nat} (hi : i < l.length) : loadF false 1 (.fptr (cs.drop i)) = some (cAt cs i) := cAt_load (by rw [h.n]; exact hi)
theorem IsVec.at (h : IsVec R v cs l) {i : Nat} (hi : i < l.length) : R (cAt cs i) (gth l i) := h.rel i hi
end
def bnth (l : List Bool) (i : Nat) : Bool := l.getD i false
end Go.AM

/-
  BODIES OF FUNCTIONS OF THE PROGRAM AS SMALL OPERATIONS (written by gen.py; checked by the kernel against the program). Conditions: none.
-/
namespace Go.Proofs.Ytdkmepjedjclkaa
open Go.AM
open Go.Proofs.Try (prog)
set_option maxRecDepth 100000
set_option linter.all false
end Go.Proofs.Ytdkmepjedjclkaa

/-
  FLAGS: WHAT THE HANDS SAY. Conditions: none.
-/
namespace Go.Proofs.Ytdkmepjedjclkaa
open Go.AM
open Go.Proofs.Try (prog)
set_option linter.all false
set_option maxRecDepth 100000
set_option maxHeartbeats 4000000
def yesR (F : List (List Bool)) (c : List Int) (k h : Nat) : Bool := (List.range' h k).all fun h => bnth (gth F h) (nth c h).toNat
def yesB (F : List (List Bool)) (c : List Int) : Bool := yesR F c F.length 0
structure FlagsOk (D : List Int) (F : List (List Bool)) : Prop where
  n : F.length = D.length
  w : ∀ h, h < D.length → ((gth F h).length : Int) = nth D h + 1
inductive FlagsRes (D : List Int) (N : List Note) (F : List (List Bool)) (vF : AV) : AV → Int → Prop where
  | bad (h : ¬ ValidS D N) : FlagsRes D N F vF (.agg [.nilp, .nils]) 1
  | form (v : ValidS D N) (h : ¬ FlagsOk D F) : FlagsRes D N F vF (.agg [.nilp, .nils]) 2
  | ok {sv : AV} {K : List (List (List Int))} (v : ValidS D N) (h : FlagsOk D F) (k : Clocks D N K) (s : IsStory sv D.length (pad D) K) : FlagsRes D N F vF (.agg [sv, vF]) 0
end Go.Proofs.Ytdkmepjedjclkaa

/-
  FLAGS: WHAT ALL CUTS AT WHICH ALL HANDS SAY YES BECOME. Conditions: none.
-/
namespace Go.Proofs.Ytdkmepjedjclkaa
open Go.AM
open Go.Proofs.Try (prog)
set_option linter.all false
set_option maxRecDepth 100000
set_option maxHeartbeats 4000000
structure IsOp (fb : Nat) (op : List Int → List Int → List Int) : Prop where
  pure : (ann fb).pure = true
  call : ∀ a b : List Int, a.length = 4 → b.length = 4 → ∀ m, denC prog ann fb [.agg (ints a), .agg (ints b)] m = some (.agg (ints (op a b)), m)
  len : ∀ a b : List Int, a.length = 4 → b.length = 4 → (op a b).length = 4
section
variable {fb : Nat} {op : List Int → List Int → List Int} {sv vF : AV} {n : Nat} {D4 : List Int} {K : List (List (List Int))}
theorem IsStory.frz (s : IsStory sv n D4 K) (m : Mem) : frzV sv m = some (sv, m) := by obtain ⟨V, rfl, _⟩ := s.V; rfl
def outX (oid : Nat) (acc : List (List Int)) : AV := if acc = [] then .nils else .sl oid 4 0 acc.length (acc.length * 4)
def OutX (m : Mem) (oid : Nat) (acc : List (List Int)) : Prop := acc ≠ [] → m.h oid = some (.cells (flatC ints acc)) ∧ oid < m.nx
end
end Go.Proofs.Ytdkmepjedjclkaa

/-
  FLAGS: First AND Last; THE REFERENCE's. Conditions: none.
-/
namespace Go.Proofs.Ytdkmepjedjclkaa
open Go.AM
open Go.Proofs.Try (prog)
set_option linter.all false
set_option maxRecDepth 100000
set_option maxHeartbeats 4000000
def yesL (D : List Int) (N : List Note) (F : List (List Bool)) : List (List Int) := (cutsL D N).filter (yesB F)
def foldL (op : List Int → List Int → List Int) : List (List Int) → List Int
  | [] => []
  | x :: l => (x :: l).foldl op x
inductive EndsRes (op : List Int → List Int → List Int) (D : List Int) (N : List Note) (F : List (List Bool)) : AV → Int → Prop where
  | bad (h : ¬ ValidS D N) : EndsRes op D N F .nils 1
  | form (v : ValidS D N) (h : ¬ FlagsOk D F) : EndsRes op D N F .nils 2
  | none (v : ValidS D N) (h : FlagsOk D F) (e : yesL D N F = []) : EndsRes op D N F .nils 5
  | ok {x : AV} (v : ValidS D N) (h : FlagsOk D F) (e : yesL D N F ≠ []) (i : IsInts x (foldL op (yesL D N F))) : EndsRes op D N F x 0
end Go.Proofs.Ytdkmepjedjclkaa

/-
  MAPS KEYED BY CUTS. Conditions: none.
-/
namespace Go.Proofs.Ytdkmepjedjclkaa
open Go.AM
open Go.Proofs.Try (prog)
set_option linter.all false
set_option maxRecDepth 100000
theorem keyEq99 {a b : List Int} (ha : a.length = 4) (hb : b.length = 4) : keyEq prog 99 (.agg (ints a)) (.agg (ints b)) = some (decide (a = b)) := by
  have h := eqCs_ints 4 a b ha hb
  simp only [List.replicate] at h
  simp [keyEq, flat99, ha, hb, h]
theorem keyT99 {a : List Int} (ha : a.length = 4) : keyT prog 99 (.agg (ints a)) = true := by
  obtain ⟨a0, a1, a2, a3, rfl⟩ := four ha
  simp [keyT, flat99, scL, scV, und3]
abbrev Ents := List (List Int × AV)
def keysL (L : Ents) : List AV := L.map fun e => .agg (ints e.1)
def valsL (L : Ents) : List AV := L.map (·.2)
def lkL : Ents → List Int → Option AV
  | [], _ => none
  | e :: L, c => if e.1 = c then some e.2 else lkL L c
def setL : Ents → List Int → AV → Ents
  | [], c, v => [(c, v)]
  | e :: L, c, v => if e.1 = c then (c, v) :: L else e :: setL L c v
def Keys4 (L : Ents) : Prop := ∀ e ∈ L, e.1.length = 4
theorem findK99 : ∀ {L : Ents} {c : List Int}, Keys4 L → c.length = 4 → findK prog 99 (.agg (ints c)) (keysL L) (valsL L) = some (lkL L c)
  | [], c, _, _ => rfl
  | e :: L, c, h, hc => by
    have ih := findK99 (L := L) (c := c) (fun x hx => h x (by simp [hx])) hc
    have he : e.1.length = 4 := h e (by simp)
    simp only [keysL, valsL, List.map_cons, findK, keyEq99 hc he, Option.bind_some]
    simp only [keysL, valsL] at ih
    by_cases q : e.1 = c
    · simp [q, lkL]
    · have q' : ¬ c = e.1 := fun x => q x.symm
      simp [q, q', lkL, ih]
theorem setK99 : ∀ {L : Ents} {c : List Int} {v : AV}, Keys4 L → c.length = 4 → setK prog 99 (.agg (ints c)) v (keysL L) (valsL L) = some (keysL (setL L c v), valsL (setL L c v))
  | [], c, v, _, _ => rfl
  | e :: L, c, v, h, hc => by
    have ih := setK99 (L := L) (c := c) (v := v) (fun x hx => h x (by simp [hx])) hc
    have he : e.1.length = 4 := h e (by simp)
    simp only [keysL, valsL, List.map_cons, setK, keyEq99 hc he, Option.bind_some]
    simp only [keysL, valsL] at ih
    by_cases q : e.1 = c
    · simp [q, setL]
    · have q' : ¬ c = e.1 := fun x => q x.symm
      simp [q, q', setL, ih]
theorem setL_keys4 : ∀ {L : Ents} {c : List Int} {v : AV}, Keys4 L → c.length = 4 → Keys4 (setL L c v)
  | [], c, v, _, hc => fun e he => by simp [setL] at he; rw [he]; exact hc
  | x :: L, c, v, h, hc => fun e he => by
    rw [setL] at he
    split at he
    · rcases List.mem_cons.1 he with rfl | he
      · exact hc
      · exact h e (by simp [he])
    · rcases List.mem_cons.1 he with rfl | he
      · exact h e (by simp)
      · exact setL_keys4 (fun y hy => h y (by simp [hy])) hc e he
theorem lk_set : ∀ (L : Ents) (c : List Int) (v : AV) (d : List Int), lkL (setL L c v) d = if c = d then some v else lkL L d
  | [], c, v, d => by simp [setL, lkL]
  | e :: L, c, v, d => by
    rw [setL]
    by_cases q : e.1 = c
    · rw [if_pos q, lkL, lkL]
      by_cases q2 : c = d
      · rw [if_pos q2, if_pos q2]
      · rw [if_neg q2, if_neg q2, if_neg (by rw [q]; exact q2)]
    · rw [if_neg q, lkL, lkL, lk_set L c v d]
      by_cases q2 : e.1 = d
      · rw [if_pos q2, if_pos q2, if_neg (fun x => q (q2.trans x.symm))]
      · rw [if_neg q2, if_neg q2]
theorem keysL_closed : ∀ L : Ents, closedL (keysL L) = true
  | [] => rfl
  | e :: L => by
    have := keysL_closed L
    simp only [keysL] at this
    simp [keysL, this]
def mapV (L : Ents) : AV := .fmap (keysL L) (valsL L)
theorem lookM99 {L : Ents} {c : List Int} {m : Mem} {id g : Nat} (hm : m.h id = some (.map g (keysL L) (valsL L))) (h : Keys4 L) (hc : c.length = 4) (z : AV) (ok : Bool) : lookP prog m 99 z (.map id) (.agg (ints c)) ok = some (match lkL L c with
    | some v => bif ok then .tup [v, .bool true] else v
    | none => bif ok then .tup [z, .bool false] else z) := by
  simp only [lookP, keyT99 hc, cond_true, lookA, hm, findK99 h hc, Option.bind_some]
  cases lkL L c <;> rfl
theorem upd99 {L : Ents} {c : List Int} {m : Mem} {id g : Nat} {v : AV} (hm : m.h id = some (.map g (keysL L) (valsL L))) (h : Keys4 L) (hc : c.length = 4) : updM prog m 99 (.map id) (.agg (ints c)) v = some (.tup [], m.set id (some (.map (g + 1) (keysL (setL L c v)) (valsL (setL L c v))))) := by
  simp only [updM, updP, keyT99 hc, cond_true, hm, setK99 h hc, Option.bind_some, Option.map_some]
end Go.Proofs.Ytdkmepjedjclkaa

/-
  BODIES OF FUNCTIONS OF THE PROGRAM AS SMALL OPERATIONS (written by gen.py; checked by the kernel against the program). Conditions: none.
-/
namespace Go.Proofs.Ytdkmepjedjclkaa
open Go.AM
open Go.Proofs.Try (prog)
set_option maxRecDepth 100000
set_option linter.all false
end Go.Proofs.Ytdkmepjedjclkaa

/-
  SETS OF CUTS; Possibly. Conditions: none.
-/
namespace Go.Proofs.Ytdkmepjedjclkaa
open Go.AM
open Go.Proofs.Try (prog)
set_option linter.all false
set_option maxRecDepth 100000
set_option maxHeartbeats 4000000
def setE (rows : List (List Int)) (E : Ents) : Ents := rows.foldl (fun E r => setL E (pad r) (.bool true)) E
def TrueE (E : Ents) : Prop := ∀ e ∈ E, e.2 = .bool true
inductive SetRes (D : List Int) (N : List Note) (L : List (List Int)) : AV → AV → Int → Prop where
  | bad (h : ¬ ValidS D N) : SetRes D N L .nilp .nilm 1
  | long (v : ValidS D N) (h : 2500 < L.length) : SetRes D N L .nilp .nilm 3
  | form (v : ValidS D N) (h : L.length ≤ 2500) (h2 : L.all (cutB D) = false) : SetRes D N L .nilp .nilm 2
  | ok {sv : AV} {K : List (List (List Int))} (v : ValidS D N) (h : L.length ≤ 2500) (h2 : L.all (cutB D) = true) (k : Clocks D N K) (s : IsStory sv D.length (pad D) K) : SetRes D N L sv (mapV (setE L [])) 0
end Go.Proofs.Ytdkmepjedjclkaa

/-
  Possibly: WHAT IT HANDS BACK. Conditions: none.
-/
namespace Go.Proofs.Ytdkmepjedjclkaa
open Go.AM
open Go.Proofs.Try (prog)
set_option linter.all false
set_option maxRecDepth 100000
set_option maxHeartbeats 4000000
def inE (E : Ents) (c : List Int) : Bool := (lkL E c).isSome
inductive PosRes (D : List Int) (N : List Note) (L : List (List Int)) : AV → Int → Prop where
  | bad (h : ¬ ValidS D N) : PosRes D N L .nils 1
  | long (v : ValidS D N) (h : 2500 < L.length) : PosRes D N L .nils 3
  | form (v : ValidS D N) (h : L.length ≤ 2500) (h2 : L.all (cutB D) = false) : PosRes D N L .nils 2
  | none (v : ValidS D N) (h : L.length ≤ 2500) (h2 : L.all (cutB D) = true) (e : (cutsL D N).find? (fun c => decide (c ∈ L)) = none) : PosRes D N L .nils 5
  | ok {x : AV} {c : List Int} (v : ValidS D N) (h : L.length ≤ 2500) (h2 : L.all (cutB D) = true) (e : (cutsL D N).find? (fun c => decide (c ∈ L)) = some c) (i : IsInts x c) : PosRes D N L x 0
end Go.Proofs.Ytdkmepjedjclkaa
