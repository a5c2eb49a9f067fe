/-
  watch.Clocks: WHAT IT COMPUTES. Conditions: none.
-/
import Derived.Test.YtdkmepjedjclkaaKSWClkA
set_option linter.all false
namespace Go.Proofs.Ytdkmepjedjclkaa
open Go.AM
open Go.Proofs.Try (prog)
set_option linter.all false
set_option maxRecDepth 100000
set_option maxHeartbeats 4000000

theorem wrow_loop {V : List AV} {n : Nat} {D : List Int} {K : List (List (List Int))} (hV : V.length = 4) (hS : ∀ h, h < 4 → IsSl ints (vth V h) (kth K h)) (s : IsStory (.fptr (.int .i64 n :: (ints D ++ V))) n D K) {oid : Nat} {h : Nat} (hh : h < n) (Kc : List Item) : ∀ (k i : Nat) (m : Mem) (ids : Nat → Nat), i + k = (kth K h).length → WAt m oid ids n (partR K n h i) →
    ∃ m' ids', WAt m' oid ids' n (partR K n (h + 1) 0) ∧
      watch_Clocks.L2 (.fptr (.int .i64 n :: (ints D ++ V))) (.sl oid 1 0 n n) (.int .i64 h) (.int .i64 n) (.int .i64 h) (vth V h) (.int .i64 (kth K h).length) (.int .i64 i) m (.inBlock 1 :: .code watch_Clocks.r13 :: .inLoop watch_Clocks.l0 :: .inBlock 0 :: Kc) =
        watch_Clocks.L0 (.fptr (.int .i64 n :: (ints D ++ V))) (.sl oid 1 0 n n) (.int .i64 n) (.int .i64 ((h : Int) + 1)) m' Kc := by
  have hn4 := s.n4
  have hwh : IntKind.wrap .i64 ((h : Int) + 1) = (h : Int) + 1 := wrap_id (by omega) (by omega)
  intro k
  induction k with
  | zero =>
    intro i m ids h1 w
    have e : i = (kth K h).length := by omega
    refine ⟨m, ids, by rw [← partR_next (i := i) (by omega)]; exact w, ?_⟩
    rw [watch_Clocks.L2_eq]
    simp [e, hwh]
    done
  | succ k ih =>
    intro i m ids h1 w
    have hi : i < (kth K h).length := by omega
    have hf := s.few h
    have hw : IntKind.wrap .i64 ((i : Int) + 1) = (i : Int) + 1 := wrap_id (by omega) (by omega)
    have hc4 : (cth (kth K h) i).length = 4 := s.four h _ (cth_mem hi)
    have hidx := (hS h (by omega)).idx (s.four h).cells hi .i64
    have hld := load_cut (s.four h) hi
    have hlist := list_fix s hc4
    have hpl := partR_len K n h i
    have hrow : kth (partR K n h i) h = (rowsN K n h).take i := by rw [partR_kth K h i hh, if_neg (by omega), if_pos rfl]
    have hlr : ((rowsN K n h).take i).length = i := by simp [rowsN]; omega
    have hol := w.ol
    have ho := w.o
    have htk : ((cth (kth K h) i).take n).length = n := by simp [hc4]; omega
    have hn1 := s.n1
    have htk4 : (cth (kth K h) i).take 4 = cth (kth K h) i := List.take_of_length_le (by omega)
    by_cases q : i = 0
    · have he : kth (partR K n h i) h = [] := by rw [hrow, q]; simp
      let ids' : Nat → Nat := fun g => if g = h then m.nx + 1 + 10 else ids g
      have r0 : ids' h = m.nx + 1 + 10 := if_pos rfl
      have r1 : ∀ g, g ≠ h → ids' g = ids g := fun g hg => if_neg hg
      have w1 : WAt ⟨upd (upd (upd m.h m.nx none) (m.nx + 1 + 10) (some (.cells [.fsl false n (ints ((cth (kth K h) i).take n))]))) oid (some (.cells ((outR ids (partR K n h i) n).set h (.sl (m.nx + 1 + 10) 1 0 1 1)))), m.nx + 1 + 13⟩ oid ids' n (pushR (partR K n h i) h ((cth (kth K h) i).take n)) := by
        refine w.push (by omega) hh (ids' := ids') r1 ?_ ?_ (fun id a b c => ?_) (by show m.nx ≤ m.nx + 1 + 13; omega) (by rw [r0]; show m.nx + 1 + 10 < m.nx + 1 + 13; omega) (by rw [r0]; omega) (fun g hg hne => by rw [r0]; have := w.rl g hne; omega)
        · rw [r0, he]; simp
        · rw [r0, he]
          show upd _ oid _ (m.nx + 1 + 10) = _
          rw [updNe (by omega)]
          simp [rowC, flatC, htk]
        · rw [r0] at c
          show upd _ oid _ id = _
          rw [updNe b, updNe c, updNe (by omega)]
      rw [partR_push hh hi] at w1
      obtain ⟨m', ids2, j1, j2⟩ := ih (i + 1) _ ids' (by omega) w1
      refine ⟨m', ids2, j1, ?_⟩
      simp only [Int.natCast_add, Int.cast_ofNat_Int] at j2
      rw [← j2, watch_Clocks.L2_eq]
      have e1 : (oid == m.nx) = false := beq_eq_false_iff_ne.2 (by omega)
      have e2 : (oid == m.nx + 1 + 10) = false := beq_eq_false_iff_ne.2 (by omega)
      have hs : slR ids (partR K n h i) h = .nils := by simp [slR, he]
      subst q
      simp only [List.drop_zero, Int.ofNat_zero, Int.cast_ofNat_Int] at hidx hld ⊢
      simp [hi, hidx, hld, htk4, hc4, hw, hlist, ho, outR_len, e1, e2, hs, hh]
      done
    · have hne : kth (partR K n h i) h ≠ [] := by rw [hrow]; intro e; rw [e] at hlr; simp at hlr; omega
      have hrl := w.rl h hne
      have hno := w.ne h hne
      have hr := w.r h hne
      have w1 : WAt ⟨upd (upd (upd m.h m.nx none) (ids h) (some (.cells (flatC rowC ((rowsN K n h).take i) ++ [.fsl false n (ints ((cth (kth K h) i).take n))])))) oid (some (.cells ((outR ids (partR K n h i) n).set h (.sl (ids h) 1 0 (i + 1) (i + 1))))), m.nx + 1 + 13⟩ oid ids n (pushR (partR K n h i) h ((cth (kth K h) i).take n)) := by
        refine w.push (by omega) hh (ids' := ids) (fun _ _ => rfl) ?_ ?_ (fun id a b c => ?_) (by show m.nx ≤ m.nx + 1 + 13; omega) (by show ids h < m.nx + 1 + 13; omega) hno (fun g hg hne' e => hg (w.inj g h hne' hne e))
        · rw [hrow, hlr]; simp
        · rw [hrow]
          show upd _ oid _ (ids h) = _
          rw [updNe (fun x => hno x.symm)]
          simp [flatC_append, flatC_one, rowC, htk]
        · show upd _ oid _ id = _
          rw [updNe b, updNe c, updNe (by omega)]
      rw [partR_push hh hi] at w1
      obtain ⟨m', ids2, j1, j2⟩ := ih (i + 1) _ ids (by omega) w1
      refine ⟨m', ids2, j1, ?_⟩
      simp only [Int.natCast_add, Int.cast_ofNat_Int] at j2
      rw [← j2, watch_Clocks.L2_eq]
      have e1 : (oid == m.nx) = false := beq_eq_false_iff_ne.2 (by omega)
      have e2 : (ids h == m.nx) = false := beq_eq_false_iff_ne.2 (by omega)
      have e3 : (oid == ids h) = false := beq_eq_false_iff_ne.2 hno
      have hs : slR ids (partR K n h i) h = .sl (ids h) 1 0 i i := by
        have hne' := hne
        rw [hrow] at hne'
        simp only [slR, hrow, if_neg hne', hlr]
      rw [hrow] at hr
      have hfl : (flatC rowC ((rowsN K n h).take i)).length = i := by rw [flatC_row_len, hlr]
      simp [hi, hidx, hld, htk4, hc4, hw, hlist, ho, outR_len, e1, e2, e3, hs, hh, hr, hfl, show i ≤ 4611686018427387903 by omega, show (i + 1) * 24 ≤ 70368744177664 by omega]
      done
end Go.Proofs.Ytdkmepjedjclkaa
