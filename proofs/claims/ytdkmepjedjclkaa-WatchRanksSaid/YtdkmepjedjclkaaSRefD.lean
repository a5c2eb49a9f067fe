/-
  WHAT THE REFERENCE's Valid COMPUTES: within the limits, and all deeds can be done one by one. Conditions: none.
-/
import Derived.Test.YtdkmepjedjclkaaSRefC
namespace Go.Proofs.Ytdkmepjedjclkaa
open Go.AM
open Go.Proofs.Try (prog)
set_option linter.all false
set_option maxRecDepth 10000

/-- A hand may do its next deed. -/
def Step (D : List Int) (N : List Note) (done : List Int) (h : Nat) : Prop := h < D.length ∧ nth done h < nth D h ∧ readyL N done h = true
/-- What can be done, deed by deed. -/
inductive Reach (D : List Int) (N : List Note) : List Int → Prop where
  | zero : Reach D N (List.replicate D.length 0)
  | step {done : List Int} {h : Nat} : Reach D N done → Step D N done h → Reach D N (done.set h (nth done h + 1))

theorem Reach.box {D : List Int} {N : List Note} (lo : ∀ i, 0 ≤ nth D i) {done : List Int} (r : Reach D N done) : InBox D done := by
  induction r with
  | zero =>
    have hz : ∀ i, nth (List.replicate D.length 0) i = 0 := fun i => by
      simp only [nth, List.getD, List.getElem?_replicate]; split <;> rfl
    exact ⟨by simp, fun i => by rw [hz]; omega, fun i => by rw [hz]; exact lo i⟩
  | @step done h r s ih =>
    obtain ⟨s1, s2, _⟩ := s
    have hl := ih.len
    refine ⟨by simp [hl], fun i => ?_, fun i => ?_⟩
    · by_cases e : h = i
      · subst e
        have : nth (done.set h (nth done h + 1)) h = nth done h + 1 := by simp [nth, List.getD, List.getElem?_set, show h < done.length by omega]
        have := ih.lo h; omega
      · have : nth (done.set h (nth done h + 1)) i = nth done i := by simp [nth, List.getD, List.getElem?_set, e]
        have := ih.lo i; omega
    · by_cases e : h = i
      · subst e
        have : nth (done.set h (nth done h + 1)) h = nth done h + 1 := by simp [nth, List.getD, List.getElem?_set, show h < done.length by omega]
        omega
      · have : nth (done.set h (nth done h + 1)) i = nth done i := by simp [nth, List.getD, List.getElem?_set, e]
        have := ih.hi i; omega

def Stuck (D : List Int) (N : List Note) (done : List Int) : Prop := ∀ h, ¬ Step D N done h

/-- Where nothing more can be done, all is done that can be. -/
theorem stuck_most {D : List Int} {N : List Note} {done x : List Int} (hd : done.length = D.length) (st : Stuck D N done) (r : Reach D N x) (lo : ∀ i, 0 ≤ nth D i) (hn : ∀ i, 0 ≤ nth done i) : ∀ i, nth x i ≤ nth done i := by
  induction r with
  | zero => intro i; have : nth (List.replicate D.length 0) i = 0 := by { simp only [nth, List.getD, List.getElem?_replicate]; split <;> rfl }; have := hn i; omega
  | @step x h r s ih =>
    obtain ⟨s1, s2, s3⟩ := s
    have hl := (Reach.box lo r).len
    intro i
    by_cases e : h = i
    · subst e
      have e1 : nth (x.set h (nth x h + 1)) h = nth x h + 1 := by simp [nth, List.getD, List.getElem?_set, show h < x.length by omega]
      rw [e1]
      have h1 := ih h
      rcases Int.lt_or_eq_of_le h1 with h2 | h2
      · omega
      · exfalso
        refine st h ⟨s1, by omega, ?_⟩
        simp only [readyL, List.all_eq_true] at s3 ⊢
        intro y hy
        have := s3 y hy
        simp only [readyOk] at this ⊢
        rw [← h2]
        have h3 := ih y.f.toNat
        by_cases q1 : y.t = h <;> by_cases q2 : y.r = nth x h + 1 <;> simp [q1, q2] at this ⊢
        omega
    · have : nth (x.set h (nth x h + 1)) i = nth x i := by simp [nth, List.getD, List.getElem?_set, e]
      rw [this]; exact ih i

theorem ext_nth {a b : List Int} (hl : a.length = b.length) (h : ∀ i, nth a i = nth b i) : a = b := by
  refine List.ext_getElem hl fun i h1 h2 => ?_
  rw [nth_get h1, nth_get h2]; exact h i

/-- A message of the story. -/
structure NoteIn (D : List Int) (x : Note) : Prop where
  f0 : 0 ≤ x.f
  f1 : x.f < D.length
  t0 : 0 ≤ x.t
  t1 : x.t < D.length
  ne : x.f ≠ x.t
  s0 : 1 ≤ x.s
  s1 : x.s ≤ nth D x.f.toNat
  r0 : 1 ≤ x.r
  r1 : x.r ≤ nth D x.t.toNat

/-- A story is valid. -/
structure ValidS (D : List Int) (N : List Note) : Prop where
  n1 : 1 ≤ D.length
  n4 : D.length ≤ 4
  lo : ∀ i, 0 ≤ nth D i
  hi : ∀ i, nth D i ≤ 6
  N24 : N.length ≤ 24
  notes : ∀ x ∈ N, NoteIn D x
  all : Reach D N D

theorem ValidS.lims {D : List Int} {N : List Note} (v : ValidS D N) : Lims D N := ⟨v.n1, v.n4, v.lo, v.hi, v.N24, fun x hx => ⟨(v.notes x hx).f0, (v.notes x hx).f1, (v.notes x hx).t0, (v.notes x hx).t1⟩⟩

/-! ### The walk: deeds are done, sweep after sweep -/
theorem sum_set : ∀ (l : List Int) (i : Nat) (a : Int), i < l.length → (l.set i a).sum = l.sum - nth l i + a
  | x :: l, 0, a, _ => by simp [nth_cons0]; omega
  | x :: l, i + 1, a, h => by
    have := sum_set l i a (by simpa using h)
    simp only [List.set_cons_succ, List.sum_cons, nth_cons1, this]; omega
theorem sum_le : ∀ (a b : List Int), a.length = b.length → (∀ i, nth a i ≤ nth b i) → a.sum ≤ b.sum
  | [], [], _, _ => by simp
  | x :: a, y :: b, hl, h => by
    have h0 := h 0
    have := sum_le a b (by simpa using hl) (fun i => by simpa [nth_cons1] using h (i + 1))
    simp only [nth_cons0] at h0
    simp only [List.sum_cons]; omega

theorem sweep_loop {vD vN : AV} {D : List Int} {N : List Note} (hD : IsInts vD D) (hN : IsSl noteC vN N) (L : Lims D N) {id : Nat} {done0 : List Int} : ∀ (k h : Nat) (done : List Int) (mv : Bool) (m : Mem), h + k = D.length → Reach D N done →
    m.h id = some (.cells (ints done)) → ((mv = false ∧ done = done0 ∧ ∀ g, g < h → ¬ Step D N done0 g) ∨ (mv = true ∧ done0.sum < done.sum)) →
    ∃ done' mv' m', r09_Valid.L6 (.fptr [vD, vN]) (.sl id 1 0 D.length D.length) (.bool mv) (.int .i64 h) m [.inBlock 5, .inLoop r09_Valid.l4, .inBlock 4, .code r09_Valid.r24, .code .ret] =
        r09_Valid.L4 (.fptr [vD, vN]) (.sl id 1 0 D.length D.length) (.bool mv') m' [.code r09_Valid.r24, .code .ret] ∧ Reach D N done' ∧ m'.h id = some (.cells (ints done')) ∧
        ((mv' = false ∧ done' = done0 ∧ Stuck D N done0) ∨ (mv' = true ∧ done0.sum < done'.sum)) := by
  intro k
  induction k with
  | zero =>
    intro h done mv m hk hr hm hp
    have e : h = D.length := by omega
    subst e
    refine ⟨done, mv, m, ?_, hr, hm, hp.imp (fun ⟨a, b, c⟩ => ⟨a, b, fun g hg => c g hg.1 hg⟩) (fun h => h)⟩
    rw [r09_Valid.L6_eq]
    simp
  | succ k ih =>
    intro h done mv m hk hr hm hp
    have hh : h < D.length := by omega
    have hb := hr.box L.lo
    have hl := hb.len
    have b1 := hb.lo h; have b2 := hb.hi h; have b3 := L.hi h
    have hn4 := L.n4
    have htale : IsTale (.agg [vD, vN]) D N := ⟨vD, vN, rfl, hD, hN⟩
    have hrd := ready_spec htale (vd := .fsl false D.length (ints done)) (done := done) (.inr ⟨false, by rw [hl]⟩) (by have := L.N24; omega) (h := h) (by omega) (by omega) b1 (fun x hx => by rw [hl]; exact L.notes x hx) Mem.empty
    have hw : IntKind.wrap .i64 ((h : Int) + 1) = (h : Int) + 1 := wrap_id (by omega) (by omega)
    have hw2 : IntKind.wrap .i64 (nth done h + 1) = nth done h + 1 := wrap_id (by omega) (by omega)
    have htk : (ints done).take D.length = ints done := List.take_of_length_le (by simp; omega)
    rw [r09_Valid.L6_eq]
    by_cases q1 : nth done h < nth D h
    · by_cases q2 : readyL N done h = true
      · -- done
        have st : Step D N done h := ⟨hh, q1, q2⟩
        have := ih (h + 1) (done.set h (nth done h + 1)) true ⟨upd m.h id (some (.cells (ints (done.set h (nth done h + 1))))), m.nx + 16⟩ (by omega) (hr.step st) (by simp) (.inr ⟨rfl, by
          rw [sum_set _ _ _ (by omega)]
          rcases hp with ⟨_, e, _⟩ | ⟨_, e⟩
          · subst e; omega
          · omega⟩)
        obtain ⟨done', mv', m', e, r⟩ := this
        refine ⟨done', mv', m', ?_, r⟩
        rw [← e]
        simp [hh, hm, hl, hD.idx hh, ints_head hh, q1, hD.closed, hN.closed, hD.deep m.h 4, hN.deep m.h 4, htk, hrd, AV.flat, AV.flat1, q2, hw, hw2]
      · have q2' : readyL N done h = false := by simpa using q2
        have := ih (h + 1) done mv ⟨m.h, m.nx + 16⟩ (by omega) hr (by simpa using hm) (by
          rcases hp with ⟨a, b, c⟩ | hp
          · refine .inl ⟨a, b, fun g hg => ?_⟩
            by_cases e : g = h
            · subst e; subst b; intro st; rw [st.2.2] at q2'; cases q2'
            · exact c g (by omega)
          · exact .inr hp)
        obtain ⟨done', mv', m', e, r⟩ := this
        refine ⟨done', mv', m', ?_, r⟩
        rw [← e]
        simp [hh, hm, hl, hD.idx hh, ints_head hh, q1, hD.closed, hN.closed, hD.deep m.h 4, hN.deep m.h 4, htk, hrd, AV.flat, AV.flat1, q2', hw, hw2]
    · have := ih (h + 1) done mv ⟨m.h, m.nx + 16⟩ (by omega) hr (by simpa using hm) (by
          rcases hp with ⟨a, b, c⟩ | hp
          · refine .inl ⟨a, b, fun g hg => ?_⟩
            by_cases e : g = h
            · subst e; subst b; intro st; exact q1 st.2.1
            · exact c g (by omega)
          · exact .inr hp)
      obtain ⟨done', mv', m', e, r⟩ := this
      refine ⟨done', mv', m', ?_, r⟩
      rw [← e]
      simp [hh, hm, hl, hD.idx hh, ints_head hh, q1, hw]

theorem sim_loop {vD vN : AV} {D : List Int} {N : List Note} (hD : IsInts vD D) (hN : IsSl noteC vN N) (L : Lims D N) {id : Nat} : ∀ (n : Nat) (done : List Int) (mv : Bool) (m : Mem), (D.sum - done.sum).toNat ≤ n → Reach D N done →
    m.h id = some (.cells (ints done)) → (mv = false → Stuck D N done) →
    ∃ fin, Reach D N fin ∧ Stuck D N fin ∧ r09_Valid.L4 (.fptr [vD, vN]) (.sl id 1 0 D.length D.length) (.bool mv) m [.code r09_Valid.r24, .code .ret] = some (.bool (decide (fin = D)), Mem.empty) := by
  -- the last test
  have last : ∀ (done : List Int) (m : Mem), Reach D N done → m.h id = some (.cells (ints done)) → r09_Valid.L4 (.fptr [vD, vN]) (.sl id 1 0 D.length D.length) (.bool false) m [.code r09_Valid.r24, .code .ret] = some (.bool (decide (done = D)), Mem.empty) := by
    intro done m hr hm
    have hl := (hr.box L.lo).len
    have hn4 := L.n4
    have htk : (ints done).take D.length = ints done := List.take_of_length_le (by simp; omega)
    have hs := same_spec (va := .fsl false D.length (ints done)) (a := done) (.inr ⟨false, by rw [hl]⟩) hD (by omega) (by omega) Mem.empty
    rw [r09_Valid.L4_eq]
    simp [hm, hl, htk, hD.deep m.h 5, hs, AV.flat, AV.flat1]
  -- one sweep
  have sweep : ∀ (done : List Int) (m : Mem), Reach D N done → m.h id = some (.cells (ints done)) → ∃ done' mv' m', r09_Valid.L4 (.fptr [vD, vN]) (.sl id 1 0 D.length D.length) (.bool true) m [.code r09_Valid.r24, .code .ret] =
        r09_Valid.L4 (.fptr [vD, vN]) (.sl id 1 0 D.length D.length) (.bool mv') m' [.code r09_Valid.r24, .code .ret] ∧ Reach D N done' ∧ m'.h id = some (.cells (ints done')) ∧
        ((mv' = false ∧ done' = done ∧ Stuck D N done) ∨ (mv' = true ∧ done.sum < done'.sum)) := by
    intro done m hr hm
    obtain ⟨done', mv', m', e, r⟩ := sweep_loop hD hN L (id := id) (done0 := done) D.length 0 done false m (by omega) hr hm (.inl ⟨rfl, rfl, fun g hg => by omega⟩)
    refine ⟨done', mv', m', ?_, r⟩
    rw [← e, r09_Valid.L4_eq]
    simp
  intro n
  induction n with
  | zero =>
    intro done mv m hn hr hm hst
    cases mv with
    | false => exact ⟨done, hr, hst rfl, last done m hr hm⟩
    | true =>
      obtain ⟨done', mv', m', e, r1, r2, r3⟩ := sweep done m hr hm
      rcases r3 with ⟨rfl, rfl, h3⟩ | ⟨rfl, h3⟩
      · exact ⟨_, r1, h3, by rw [e]; exact last _ m' r1 r2⟩
      · exfalso
        have hb := r1.box L.lo
        have := sum_le done' D hb.len hb.hi
        omega
  | succ n ih =>
    intro done mv m hn hr hm hst
    cases mv with
    | false => exact ⟨done, hr, hst rfl, last done m hr hm⟩
    | true =>
      obtain ⟨done', mv', m', e, r1, r2, r3⟩ := sweep done m hr hm
      rcases r3 with ⟨rfl, rfl, h3⟩ | ⟨rfl, h3⟩
      · exact ⟨_, r1, h3, by rw [e]; exact last _ m' r1 r2⟩
      · obtain ⟨fin, f1, f2, f3⟩ := ih done' true m' (by omega) r1 r2 (fun h => by cases h)
        exact ⟨fin, f1, f2, by rw [e]; exact f3⟩
end Go.Proofs.Ytdkmepjedjclkaa
