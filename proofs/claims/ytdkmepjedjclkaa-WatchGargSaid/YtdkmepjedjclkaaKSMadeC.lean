/-
  A STORY MADE OF ARBITRARY NUMBERS (3): it is valid. Conditions: none.
-/
import Derived.Test.YtdkmepjedjclkaaKSMadeB
import Derived.Test.YtdkmepjedjclkaaKMove
set_option linter.all false
namespace Go.Proofs.Ytdkmepjedjclkaa
open Go.AM
open Go.Proofs.Try (prog)
set_option linter.all false
set_option maxRecDepth 100000

theorem made_notes {a vT : AV} {hh : Int} {ds D : List Int} {T : List (List Int)} (t : IsTaleN a hh ds vT T) : ∀ (k i : Nat) (vN : AV) (N : List Note) (m : Mem), i + k = T.length → SN m D vN N →
    ∃ v N', IsTale v D N' ∧ ValidS D N' ∧ N'.length ≤ 12 ∧ l09_Tale_made.L2 (.fptr (.int .u8 hh :: (u8s ds ++ [vT]))) (.ptr 0 0 2) (.ptr 1 0 2) (.int .i64 i) m [.code l09_Tale_made.r16, .code .ret] = some (v, Mem.empty) := by
  have fin : ∀ (i : Nat) (vN : AV) (N : List Note) (m : Mem), SN m D vN N → (T.length ≤ i ∨ 12 ≤ N.length) → l09_Tale_made.L2 (.fptr (.int .u8 hh :: (u8s ds ++ [vT]))) (.ptr 0 0 2) (.ptr 1 0 2) (.int .i64 i) m [.code l09_Tale_made.r16, .code .ret] = some (.agg [.fsl false D.length (ints D), vN], Mem.empty) := by
    intro i vN N m s hend
    obtain ⟨id, s1, s2, s3, s4⟩ := s.s
    obtain ⟨d0, d1, d2, d3, rfl⟩ := four t.d4
    have e0 : (id == 0) = false := beq_eq_false_iff_ne.2 (by omega)
    have ht : (ints D).take D.length = ints D := List.take_of_length_le (by simp)
    simp at ht
    rw [l09_Tale_made.L2_eq]
    by_cases hi : i < T.length
    · have h12 : ¬ (N.length : Int) < 12 := by omega
      simp [t.vT.len, hi, s1, s2, s.n.len, h12, s.n.one, s.n.deep, s.r, e0]
      done
    · have hi' : ¬ (i : Int) < T.length := by omega
      simp [t.vT.len, hi, s1, s2, s.n.len, s.n.one, s.n.deep, s.r, e0]
      done
  intro k
  induction k with
  | zero =>
    intro i vN N m h1 s
    exact ⟨_, N, ⟨_, _, rfl, IsInts.fsl false D, s.n⟩, s.v, s.few, fin i vN N m s (.inl (by omega))⟩
  | succ k ih =>
    intro i vN N m h1 s
    by_cases h12 : N.length < 12
    · obtain ⟨vN', N', m', s', e⟩ := made_step t (i := i) (by omega) h12 s
      obtain ⟨v, N2, j1, j2, j3, j4⟩ := ih (i + 1) vN' N' m' (by omega) s'
      simp only [Int.natCast_add, Int.cast_ofNat_Int] at j4
      exact ⟨v, N2, j1, j2, j3, by rw [e, j4]⟩
    · exact ⟨_, N, ⟨_, _, rfl, IsInts.fsl false D, s.n⟩, s.v, s.few, fin i vN N m s (.inr (by omega))⟩

theorem reach_nil {D : List Int} (L : Lims D []) : Reach D [] D := by
  obtain ⟨y, r, st⟩ := stuck_exists L _ _ (Reach.zero (D := D) (N := [])) (Nat.le_refl _)
  have b := r.box L.lo
  have e : y = D := ext_nth b.len fun i => by
    have h1 := b.hi i
    rcases Nat.lt_or_ge i D.length with h2 | h2
    · rcases Int.lt_or_eq_of_le h1 with h3 | h3
      · exact absurd ⟨h2, h3, rfl⟩ (st i)
      · exact h3
    · rw [nth_out h2, nth_out (by have := b.len; omega)]
  rw [e] at r; exact r

theorem made_spec {a vT : AV} {hh : Int} {ds : List Int} {T : List (List Int)} (t : IsTaleN a hh ds vT T) : ∃ v D N, IsTale v D N ∧ ValidS D N ∧ N.length ≤ 12 ∧ ∀ m, denC prog ann 23 [a] m = some (v, m) := by
  have hb := t.hB
  have hm4 : 0 ≤ hh.tmod 4 := Int.tmod_nonneg 4 hb.1
  have hm4' : hh.tmod 4 < 4 := Int.tmod_lt_of_pos hh (by omega)
  obtain ⟨D, m1, i1, i2, i3, i4⟩ := made_deeds t (hh.tmod 4 + 1).toNat 0 [] ⟨upd (upd Mem.empty.h 0 (some (.cells [.nils, .nils]))) 1 (some (.cells [.nils, .nils])), 2⟩ (by omega) rfl ⟨by simp, by simp, .inl ⟨rfl, by simp⟩⟩ (fun g => by simp [nth])
  have L : Lims D [] := ⟨by omega, by omega, fun i => (i3 i).1, fun i => (i3 i).2, by simp, fun x hx => by cases hx⟩
  have V : ValidS D [] := ⟨L.n1, L.n4, L.lo, L.hi, L.N24, (fun x hx => by cases hx), reach_nil L⟩
  have s : SN m1 D .nils [] := by
    rcases i2.s with ⟨h1, _⟩ | ⟨id, h1, h2, h3, h4, h5⟩
    · rw [h1] at i1; simp at i1; omega
    · exact ⟨i2.r, ⟨id, h2, h3, h4, h5⟩, .inl ⟨rfl, rfl⟩, V, by simp⟩
  obtain ⟨v, N, j1, j2, j3, j4⟩ := made_notes t T.length 0 .nils [] m1 (by omega) s
  refine ⟨v, D, N, j1, j2, j3, fun m => ?_⟩
  have hcl : a.closed = true := by rw [t.eq]; simp [t.vT.closed]
  have h5 : ds.length = 4 := t.d4
  rw [l09_Tale_made.call_eq _ _ (by simp [hcl])]
  simp only [Int.cast_ofNat_Int, Int.natCast_zero] at i4 j4
  rw [t.eq] at hcl ⊢
  simp [h5, t.vT.one, t.vT.closed, i4, j4]
  done
end Go.Proofs.Ytdkmepjedjclkaa
