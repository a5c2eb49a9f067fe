/-
  THE PLAIN LAW (5): the reference's clocks settle deed by deed, and are the program's. Conditions: none.
-/
import Derived.Test.YtdkmepjedjclkaaKMove
set_option linter.all false
namespace Go.Proofs.Ytdkmepjedjclkaa
open Go.AM
open Go.Proofs.Try (prog)
set_option linter.all false
set_option maxRecDepth 10000

section
variable {D : List Int} {N : List Note} {K : List (List (List Int))}
theorem kn_pos (c : Clocks D N K) (h i q : Nat) : 0 ≤ kn K h i q := by
  rcases Nat.lt_or_ge i (kth K h).length with h1 | h1
  · exact c.I.pos h i h1 q
  · have : cth (kth K h) i = [] := by simp [cth, List.getD, List.getElem?_eq_none h1]
    show 0 ≤ nth (cth (kth K h) i) q
    rw [this]; simp [nth]
/-- The program's clocks are themselves such clocks. -/
theorem Clocks.super (c : Clocks D N K) : Super D N (fun h i q => kn K h i q) :=
  ⟨fun h i hi => c.I.unit h i (c.in (c.inD hi) hi), kn_pos c, fun h i g hi => c.own (c.inD hi) hi g, fun x hx g => c.note hx g⟩

/-- A clock is no more than what must be before its deed. -/
theorem kn_le (c : Clocks D N K) {h i : Nat} (hi : (i : Int) < nth D h) {B : Nat → Int} (b0 : (i : Int) + 1 ≤ B h) (bp : ∀ q, 0 ≤ B q) (bo : 0 < i → ∀ q, kn K h (i - 1) q ≤ B q)
    (bn : ∀ x ∈ N, x.t.toNat = h → x.r.toNat - 1 = i → ∀ q, kn K x.f.toNat (x.s.toNat - 1) q ≤ B q) (q : Nat) : kn K h i q ≤ B q := by
  let V : Nat → Nat → Nat → Int := fun h' i' q => if h' = h ∧ i' = i then min (kn K h i q) (B q) else kn K h' i' q
  have hV : ∀ h' i' q, V h' i' q = if h' = h ∧ i' = i then min (kn K h i q) (B q) else kn K h' i' q := fun _ _ _ => rfl
  have S : Super D N V := by
    refine ⟨fun h' i' h1 => ?_, fun h' i' q => ?_, fun h' i' q h1 => ?_, fun x hx q => ?_⟩
    · have u : (i' : Int) + 1 ≤ kn K h' i' h' := c.I.unit h' i' (c.in (c.inD h1) h1)
      rw [hV]; split
      · rename_i e; obtain ⟨rfl, rfl⟩ := e; omega
      · exact u
    · have p1 := kn_pos c h' i' q
      have p2 := kn_pos c h i q
      have p3 := bp q
      rw [hV]; split <;> omega
    · have o := c.own (c.inD h1) h1 q
      rw [hV, hV]
      by_cases e1 : h' = h ∧ i' = i
      · obtain ⟨rfl, rfl⟩ := e1
        rw [if_pos ⟨rfl, rfl⟩, if_neg (by omega)]; omega
      · rw [if_neg e1]
        by_cases e2 : h' = h ∧ i' + 1 = i
        · rw [if_pos e2]
          obtain ⟨rfl, e3⟩ := e2
          have := bo (by omega) q
          rw [show i - 1 = i' by omega] at this
          rw [← e3]
          omega
        · rw [if_neg e2]; exact o
    · obtain ⟨f0, f1, t0, t1, ne, s0, s1, r0, r1⟩ := c.P.notes x hx
      have o := c.note hx q
      rw [hV, hV]
      by_cases e1 : x.f.toNat = h ∧ x.s.toNat - 1 = i
      · rw [if_pos e1, if_neg (by omega)]
        rw [e1.1, e1.2] at o
        omega
      · rw [if_neg e1]
        by_cases e2 : x.t.toNat = h ∧ x.r.toNat - 1 = i
        · rw [if_pos e2]
          have := bn x hx e2.1 e2.2 q
          rw [e2.1, e2.2] at o
          omega
        · rw [if_neg e2]; exact o
  have low := c.I.low V S h i (c.in (c.inD hi) hi) q
  rw [hV, if_pos ⟨rfl, rfl⟩] at low
  show nth _ _ ≤ _
  omega

/-- What is known of the reference's clocks while they grow. -/
structure RInv (D : List Int) (N : List Note) (C : List (List (List Int))) : Prop where
  len : C.length = D.length
  rows : ∀ h, h < D.length → ((kth C h).length : Int) = nth D h
  wid : ∀ h, ∀ c ∈ kth C h, c.length = D.length
  low : ∀ V, Super D N V → ∀ h i, i < (kth C h).length → ∀ g, kn C h i g ≤ V h i g
  unit : ∀ (h i : Nat), i < (kth C h).length → (i : Int) + 1 ≤ kn C h i h
  pos : ∀ h i, i < (kth C h).length → ∀ g, 0 ≤ kn C h i g

def Ge (C C' : List (List (List Int))) : Prop := ∀ h i q, kn C h i q ≤ kn C' h i q
theorem Ge.refl (C : List (List (List Int))) : Ge C C := fun _ _ _ => Int.le_refl _
theorem Ge.trans {A B C : List (List (List Int))} (h : Ge A B) (k : Ge B C) : Ge A C := fun a b c => Int.le_trans (h a b c) (k a b c)

theorem kn_grow {C : List (List (List Int))} {h i n : Nat} {c : List Int} (hh : h < C.length) (hi : i < (kth C h).length) (hw : (cth (kth C h) i).length = n) (hc : c.length = n) (g j q : Nat) : kn (growK C h i c) g j q = if g = h ∧ j = i then max (kn C h i q) (nth c q) else kn C g j q := by
  show nth (cth (kth (growK C h i c) g) j) q = _
  rw [growK, kth_set hh]
  by_cases e : g = h
  · subst e
    simp only [if_true, true_and]
    by_cases e2 : j = i
    · subst e2
      rw [if_pos rfl, ← nth_zmax (by omega)]
      congr 1
      simp [cth, List.getD, List.getElem?_set, hi]
    · rw [if_neg e2]
      have : ¬ i = j := fun x => e2 x.symm
      show nth _ _ = nth _ _
      congr 1
      simp [cth, List.getD, List.getElem?_set, this]
  · simp [e]

theorem RInv.grow {C : List (List (List Int))} (I : RInv D N C) {h i : Nat} (hh : h < D.length) (hi : i < (kth C h).length) {c : List Int} (hc : c.length = D.length) (hl : ∀ V, Super D N V → ∀ g, nth c g ≤ V h i g) : RInv D N (growK C h i c) ∧ Ge C (growK C h i c) ∧ ∀ q, nth c q ≤ kn (growK C h i c) h i q := by
  have hhC : h < C.length := by rw [I.len]; exact hh
  have hw := I.wid h _ (cth_mem hi)
  have e := kn_grow (n := D.length) hhC hi hw hc
  have hk := fun g => kth_set (K := C) (h := h) (g := g) (r := (kth C h).set i (zmax (cth (kth C h) i) c)) hhC
  have hkl : ∀ g, (kth (growK C h i c) g).length = (kth C g).length := by
    intro g; rw [growK, hk]; split
    · rename_i e; subst e; simp
    · rfl
  refine ⟨⟨by simp [growK, I.len], fun g hg => by rw [hkl]; exact I.rows g hg, fun g d hd => ?_, fun V hV g j hj q => ?_, fun g j hj => ?_, fun g j hj q => ?_⟩, fun g j q => ?_, fun q => ?_⟩
  · rw [growK, hk] at hd
    split at hd
    · rcases List.mem_or_eq_of_mem_set hd with h1 | h1
      · exact I.wid h d h1
      · rw [h1]; simp [zmax, hw, hc]
    · exact I.wid g d hd
  · rw [hkl] at hj
    rw [e]; split
    · rename_i e2; obtain ⟨rfl, rfl⟩ := e2
      have := I.low V hV g j hj q; have := hl V hV q; omega
    · exact I.low V hV g j hj q
  · rw [hkl] at hj
    rw [e]; split
    · rename_i e2; obtain ⟨rfl, rfl⟩ := e2
      have := I.unit g j hj; omega
    · exact I.unit g j hj
  · rw [hkl] at hj
    rw [e]; split
    · rename_i e2; obtain ⟨rfl, rfl⟩ := e2
      have := I.pos g j hj q; omega
    · exact I.pos g j hj q
  · rw [e]; split
    · rename_i e2; obtain ⟨rfl, rfl⟩ := e2; omega
    · exact Int.le_refl _
  · rw [e, if_pos ⟨rfl, rfl⟩]; omega

/-- A round: all has grown, and holds what came before it at the round's begin. -/
structure Round (D : List Int) (N : List Note) (C C' : List (List (List Int))) : Prop where
  inv : RInv D N C'
  ge : Ge C C'
  own : ∀ (h i : Nat), h < D.length → (i : Int) + 1 < nth D h → ∀ q, kn C h i q ≤ kn C' h (i + 1) q
  note : ∀ x ∈ N, ∀ q, kn C x.f.toNat (x.s.toNat - 1) q ≤ kn C' x.t.toNat (x.r.toNat - 1) q

def Settled (K C : List (List (List Int))) (x : List Int) : Prop := ∀ (h i : Nat), (i : Int) < nth x h → ∀ q, kn K h i q ≤ kn C h i q

theorem round_step (c : Clocks D N K) {C C' : List (List (List Int))} (R : Round D N C C') {x : List Int} (r : Reach D N x) {h0 : Nat} (s : Step D N x h0) (st : Settled K C x) : Settled K C' (x.set h0 (nth x h0 + 1)) := by
  have box := r.box c.P.L.lo
  obtain ⟨s1, s2, s3⟩ := s
  have p0 := box.lo h0
  intro h i hi q
  rw [nth_set] at hi
  by_cases e : h0 = h ∧ h0 < x.length
  · rw [if_pos e] at hi
    obtain ⟨rfl, _⟩ := e
    rcases Int.lt_or_le (i : Int) (nth x h0) with h1 | h1
    · exact Int.le_trans (st h0 i h1 q) (R.ge h0 i q)
    · have hiD : (i : Int) < nth D h0 := by omega
      have hin : i < (kth C' h0).length := by have := R.inv.rows h0 s1; omega
      refine kn_le c hiD (B := fun q => kn C' h0 i q) (R.inv.unit h0 i hin) (R.inv.pos h0 i hin) (fun hpos q => ?_) (fun y hy ht hr q => ?_) q
      · have a := st h0 (i - 1) (by omega) q
        have b := R.own h0 (i - 1) s1 (by omega) q
        rw [show i - 1 + 1 = i by omega] at b
        exact Int.le_trans a b
      · obtain ⟨f0, f1, t0, t1, ne, s0, s1', r0, r1⟩ := c.P.notes y hy
        simp only [readyL, List.all_eq_true] at s3
        have h3 := s3 y hy
        have e3 : y.t = (h0 : Int) := by omega
        have e4 : y.r = nth x h0 + 1 := by omega
        simp [readyOk, e3, e4] at h3
        have a := st y.f.toNat (y.s.toNat - 1) (by omega) q
        have b := R.note y hy q
        rw [ht, hr] at b
        exact Int.le_trans a b
  · rw [if_neg e] at hi
    exact Int.le_trans (st h i hi q) (R.ge h i q)

/-- After a round one deed more has settled. -/
theorem round_next (c : Clocks D N K) (rD : Reach D N D) {C C' : List (List (List Int))} (R : Round D N C C') {x : List Int} (r : Reach D N x) (st : Settled K C x) : ∃ y, Reach D N y ∧ Settled K C' y ∧ (x.sum < D.sum → x.sum + 1 ≤ y.sum) ∧ x.sum ≤ y.sum := by
  have box := r.box c.P.L.lo
  by_cases hst : Stuck D N x
  · have e : x = D := ext_nth box.len fun i => Int.le_antisymm (box.hi i) (stuck_most box.len hst rD c.P.L.lo box.lo i)
    refine ⟨x, r, fun h i hi q => Int.le_trans (st h i hi q) (R.ge h i q), fun h => by rw [e] at h; omega, Int.le_refl _⟩
  · have : ∃ h, Step D N x h := Classical.byContradiction fun hh => hst fun h s => hh ⟨h, s⟩
    obtain ⟨h, s⟩ := this
    have hs := s.1
    have := sum_set x h (nth x h + 1) (by have := box.len; omega)
    exact ⟨_, Reach.step r s, round_step c R r s st, fun _ => by omega, by omega⟩

theorem settled_all (c : Clocks D N K) (rD : Reach D N D) {C : List (List (List Int))} {x : List Int} (r : Reach D N x) (st : Settled K C x) (hs : D.sum ≤ x.sum) : Settled K C D := by
  have box := r.box c.P.L.lo
  have e := sum_eq x D box.len box.hi hs
  rw [e] at st; exact st

/-- Settled clocks are the program's. -/
theorem settled_eq (c : Clocks D N K) {C : List (List (List Int))} (I : RInv D N C) (st : Settled K C D) {h i : Nat} (hi : (i : Int) < nth D h) (q : Nat) : kn C h i q = kn K h i q := by
  have hh := c.inD hi
  have := I.rows h hh
  exact Int.le_antisymm (I.low _ c.super h i (by omega) q) (st h i hi q)
end
end Go.Proofs.Ytdkmepjedjclkaa
