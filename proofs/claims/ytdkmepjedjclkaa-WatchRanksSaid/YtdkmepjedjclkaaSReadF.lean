/-
  THE PROGRAM READS A STORY (6): what read hands back. Conditions: none.
-/
import Derived.Test.YtdkmepjedjclkaaSReadE
namespace Go.Proofs.Ytdkmepjedjclkaa
open Go.AM
open Go.Proofs.Try (prog)
set_option linter.all false
set_option maxRecDepth 10000

def pad (D : List Int) : List Int := D ++ List.replicate (4 - D.length) 0
theorem pad_len {D : List Int} (h : D.length ≤ 4) : (pad D).length = 4 := by simp [pad]; omega
theorem nth_pad (D : List Int) (h : Nat) : nth (pad D) h = nth D h := by
  simp only [nth, pad, List.getD]
  rcases Nat.lt_or_ge h D.length with h1 | h1
  · rw [List.getElem?_append_left h1]
  · rw [List.getElem?_append_right h1, List.getElem?_eq_none h1, List.getElem?_replicate]
    split <;> rfl

theorem unit_inv {D : List Int} {N : List Note} (P : Pre D N) : Inv D N (unitK D D.length) := by
  have n4 := P.L.n4
  have hk : ∀ h, h < D.length → kth (unitK D D.length) h = units h (nth D h).toNat := fun h hh => by rw [kth_unitK, if_pos ⟨by omega, hh⟩]
  have hk0 : ∀ h, D.length ≤ h → kth (unitK D D.length) h = [] := fun h hh => by rw [kth_unitK, if_neg (by omega)]
  have hc : ∀ h i, i < (nth D h).toNat → cth (units h (nth D h).toNat) i = unitC h i := by
    intro h i hi
    simp [cth, units, List.getD, List.getElem?_map, List.getElem?_range hi]
  have hn : ∀ h i g, nth (unitC h i) g = if g = h ∧ h < 4 then (i : Int) + 1 else 0 := by
    intro h i g
    simp only [unitC, nth_set]
    have z : nth [0, 0, 0, 0] g = 0 := by match g with | 0 | 1 | 2 | 3 => rfl | _ + 4 => rfl
    rw [z]
    by_cases e : h = g
    · subst e; simp
    · have : ¬ g = h := fun x => e x.symm
      simp [e, this]
  refine ⟨fun h hh => by rw [hk h hh]; have := P.L.lo h; simp [units]; omega, hk0, fun V hV h i hi g => ?_, fun h i hi => ?_, fun h i hi g => ?_⟩
  all_goals
    rcases Nat.lt_or_ge h D.length with hh | hh
    · rw [hk h hh] at hi ⊢
      have hi' : i < (nth D h).toNat := by simpa [units] using hi
      rw [hc h i hi', hn]
      first
        | (split
           · rename_i e; rw [e.1]; exact hV.unit h i (by omega)
           · exact hV.pos h i g)
        | (rw [if_pos ⟨rfl, by omega⟩]; omega)
        | (split <;> omega)
    · rw [hk0 h hh] at hi; simp at hi

theorem unit_four (D : List Int) (k h : Nat) : Four (kth (unitK D k) h) := by
  rw [kth_unitK]
  split
  · intro c hc
    simp only [units, List.mem_map] at hc
    obtain ⟨i, _, rfl⟩ := hc
    simp [unitC]
  · intro c hc; cases hc

/-- From the first clock on. -/
theorem read_tail {vD vN : AV} {D : List Int} {N : List Note} (hD : IsInts vD D) (hN : IsSl noteC vN N) (P : Pre D N) {sid : Nat} {ids : Nat → Nat} {m : Mem} (s : SAt m sid ids D.length (pad D) (unitK D 0)) :
    ∃ K', Inv D N K' ∧ Closed D N K' ∧ K'.length = 4 ∧ (∀ h, Four (kth K' h)) ∧ (∀ h, (kth K' h).length ≤ 6) ∧
      watch_read.L0 (.fptr [vD, vN]) (.fptr [.int .i64 D.length]) (.sptr [.ptr sid 0 9]) (.fn 94 [] [.fptr [.int .i64 D.length], .fptr [vD, vN]]) vN (.int .i64 N.length) (.int .i64 N.length) m
        (.code watch_read.r13 :: .code watch_read.k2 :: tK) = if badAll K' D.length 0 then failR else okR D.length (pad D) K' := by
  obtain ⟨m1, ids1, s1, e1⟩ := unit_loop hD P.L.lo P.L.hi P.L.n4 (vN := vN) D.length 0 m ids (by omega) s
  have hslt := s1.slt
  have I := unit_inv P
  have M : MAt ⟨upd m1.h m1.nx (some (.cells [.bool true])), m1.nx + 1⟩ sid ids1 D.length (pad D) (unitK D D.length) m1.nx true :=
    ⟨s1.mono (by simp) (fun id hid => by have : (id == m1.nx) = false := by { simp; omega }; simp [this]), by simp [unitK], by simp, by simp, by omega, fun h a b => by have := s1.lt h a b; omega⟩
  obtain ⟨K', i1, i2, i3, i4, i5, i6⟩ := fix_loop hD hN P _ m1.nx _ _ true (Nat.le_refl _) M I (fun h => by cases h)
  refine ⟨K', i1, i2, i3, i4, i5, ?_⟩
  rw [← i6]
  have x1 : watch_read.L2 (.fptr [vD, vN]) (.fptr [.int .i64 D.length]) (.sptr [.ptr sid 0 9]) (.int .i64 D.length) (.int .i64 D.length) m1 tK =
      watch_read.L6 (.fptr [vD, vN]) (.fptr [.int .i64 D.length]) (.sptr [.ptr sid 0 9]) (.ptr m1.nx 0 1) ⟨upd m1.h m1.nx (some (.cells [.bool true])), m1.nx + 1⟩ [.code watch_read.r43, .code watch_read.k14, .code watch_read.r59, .code .ret] := by
    rw [watch_read.L2_eq]
    simp [tK]
  rw [← x1, ← e1, watch_read.L0_eq]
  simp [tK]

theorem isStr_ints {v : AV} {l : List Int} (h : IsInts v l) : v.isStr = false := by rcases h with ⟨rfl, _⟩ | ⟨_, rfl⟩ <;> rfl

/-- The story before its first clock. -/
noncomputable def firstM (D : List Int) : Mem := ⟨upd (upd (upd Mem.empty.h 0 none) 1 (some (.cells (.int .i64 D.length :: (ints (pad D) ++ [.nils, .nils, .nils, .nils]))))) 2 none, 10⟩
theorem first_at {D : List Int} (h : D.length ≤ 4) : SAt (firstM D) 1 (fun _ => 0) D.length (pad D) (unitK D 0) := by
  have e : ∀ g, kth (unitK D 0) g = [] := fun g => by rw [kth_unitK]; simp
  refine ⟨⟨[.nils, .nils, .nils, .nils], rfl, rfl, fun g hg => ?_⟩, pad_len h, fun g _ hne => absurd (e g) hne, by simp [firstM], fun g _ hne => absurd (e g) hne, fun g _ hne => absurd (e g) hne, fun g _ _ _ hne => absurd (e g) hne, unit_four D 0, fun g => by rw [e]; simp⟩
  simp only [slK, e, if_true]
  match g, hg with | 0, _ => rfl | 1, _ => rfl | 2, _ => rfl | 3, _ => rfl
def failV : AV := .tup [.nilp, .bool false]
def okV (D : List Int) (K : List (List (List Int))) : AV := .tup [.fptr (.int .i64 D.length :: (ints (pad D) ++ vals4 K)), .bool true]
/-- What read hands back. -/
def ReadRes (D : List Int) (N : List Note) (r : AV) : Prop :=
  (Pre D N ∧ ∃ K', Inv D N K' ∧ Closed D N K' ∧ K'.length = 4 ∧ (∀ h, Four (kth K' h)) ∧ (∀ h, (kth K' h).length ≤ 6) ∧ r = if badAll K' D.length 0 then failV else okV D K') ∨ (¬ Pre D N ∧ r = failV)

theorem read_spec {v : AV} {D : List Int} {N : List Note} (hs : IsTale v D N) (hl : D.length < 100000) (hn : N.length < 100000) : ∃ r, ReadRes D N r ∧ ∀ m, denC prog ann 61 [v] m = some (r, m) := by
  obtain ⟨vD, vN, rfl, hD, hN⟩ := hs.ex
  have hcl : closedL [AV.agg [vD, vN]] = true := by simp [hD.closed, hN.closed]
  cases D with
  | nil =>
    refine ⟨failV, .inr ⟨fun P => by have := P.L.n1; simp at this, rfl⟩, fun m => ?_⟩
    rw [watch_read.call_eq _ _ hcl]
    simp [hD.one, hN.one, hD.closed, hN.closed, hD.len, failV]
  | cons x l =>
    have hmin := min_spec hD (by simp at hl; omega)
    have hmax := max_spec hD (by simp at hl; omega)
    obtain ⟨a1, a2, a3⟩ := foldl_min l x
    obtain ⟨b1, b2, b3⟩ := foldl_max l x
    have hn1 : ¬ ((l.length : Int) + 1 < 1) := by omega
    by_cases q1 : (4 : Int) < (l.length : Int) + 1
    · refine ⟨failV, .inr ⟨fun P => by have := P.L.n4; simp at this; omega, rfl⟩, fun m => ?_⟩
      rw [watch_read.call_eq _ _ hcl]
      simp [hD.one, hN.one, hD.closed, hN.closed, hD.len, hn1, q1, failV]
    · by_cases q2 : (24 : Int) < N.length
      · refine ⟨failV, .inr ⟨fun P => by have := P.L.N24; omega, rfl⟩, fun m => ?_⟩
        rw [watch_read.call_eq _ _ hcl]
        simp [hD.one, hN.one, hD.closed, hN.closed, hD.len, hN.len, hn1, q1, q2, failV]
      · by_cases q3 : l.foldl min x < 0
        · refine ⟨failV, .inr ⟨fun P => ?_, rfl⟩, fun m => ?_⟩
          · have : ∃ d ∈ x :: l, d < 0 := by
              rcases a3 with e | e
              · exact ⟨x, by simp, by omega⟩
              · exact ⟨_, List.mem_cons_of_mem _ e, q3⟩
            obtain ⟨d, hd, hneg⟩ := this
            have := (P.L.all d hd).1
            omega
          · rw [watch_read.call_eq _ _ hcl]
            simp [hD.one, hN.one, hD.closed, hN.closed, hD.len, hN.len, hn1, q1, q2, hmin, q3, failV]
        · by_cases q4 : 6 < l.foldl max x
          · refine ⟨failV, .inr ⟨fun P => ?_, rfl⟩, fun m => ?_⟩
            · have : ∃ d ∈ x :: l, 6 < d := by
                rcases b3 with e | e
                · exact ⟨x, by simp, by omega⟩
                · exact ⟨_, List.mem_cons_of_mem _ e, q4⟩
              obtain ⟨d, hd, hneg⟩ := this
              have := (P.L.all d hd).2
              omega
            · rw [watch_read.call_eq _ _ hcl]
              simp [hD.one, hN.one, hD.closed, hN.closed, hD.len, hN.len, hn1, q1, q2, hmin, hmax, q3, q4, failV]
          · -- within the limits
            have hd6 : ∀ d ∈ x :: l, 0 ≤ d ∧ d ≤ 6 := by
              intro d hd
              rcases List.mem_cons.1 hd with rfl | hd
              · omega
              · have := a2 d hd; have := b2 d hd; omega
            have hlen : (x :: l).length ≤ 4 := by simp; omega
            have hN24 : N.length ≤ 24 := by omega
            have key : ∀ m, denC prog ann 61 [.agg [vD, vN]] m =
                (watch_read.L0 (.fptr [vD, vN]) (.fptr [.int .i64 (x :: l).length]) (.sptr [.ptr 1 0 9]) (.fn 94 [] [.fptr [.int .i64 (x :: l).length], .fptr [vD, vN]]) vN (.int .i64 N.length) (.int .i64 0) (firstM (x :: l)) (.code watch_read.r13 :: .code watch_read.k2 :: tK)).bind fun r => some (r.1, m) := by
              clear a1 a2 a3 b1 b2 b3 hd6
              generalize l.foldl min x = lo at hmin q3
              generalize l.foldl max x = hi at hmax q4
              intro m
              rw [watch_read.call_eq _ _ hcl]
              rcases l with _ | ⟨b, _ | ⟨c, _ | ⟨d, _ | ⟨e, l⟩⟩⟩⟩
              all_goals first
                | (simp at hlen; done)
                | (simp [hD.one, hN.one, hD.closed, hN.closed, hD.len, hN.len, hn1, q1, q2, hmin, hmax, q3, q4, tK, sliceArr, bnds, bnd, copyA, hD.src, isStr_ints hD, Mem.set, firstM, pad, ints, splice]; done)
            have s := first_at hlen
            have L : ¬ Pre (x :: l) N → ReadRes (x :: l) N failV := fun h => .inr ⟨h, rfl⟩
            obtain ⟨n1, n2⟩ := notes_loop hD hN (by omega) (by omega) (.code watch_read.r13 :: .code watch_read.k2 :: tK) N.length 0 (firstM (x :: l)) (by omega) (by omega) s
            simp only [List.drop_zero, Int.cast_ofNat_Int, Int.ofNat_zero] at n1 n2
            cases hq : N.all (noteP (x :: l)) with
            | false =>
              refine ⟨failV, L fun P => ?_, fun m => ?_⟩
              · rw [List.all_eq_false] at hq
                obtain ⟨y, hy, h⟩ := hq
                exact h (noteP_iff.2 (P.notes y hy))
              · rw [key, n2 hq]; rfl
            | true =>
              have P : Pre (x :: l) N := by
                have hb : ∀ i, 0 ≤ nth (x :: l) i ∧ nth (x :: l) i ≤ 6 := by
                  intro i
                  rcases Nat.lt_or_ge i (x :: l).length with h | h
                  · have e : nth (x :: l) i = (x :: l)[i] := by simp [nth, List.getD, List.getElem?_eq_getElem h]
                    rw [e]; exact hd6 _ (List.getElem_mem h)
                  · have e : nth (x :: l) i = 0 := by simp only [nth, List.getD, List.getElem?_eq_none h]; rfl
                    rw [e]; omega
                have hb2 : ∀ y ∈ N, NoteIn (x :: l) y := fun y hy => noteP_iff.1 (List.all_eq_true.1 hq y hy)
                exact ⟨⟨by simp, hlen, fun i => (hb i).1, fun i => (hb i).2, hN24, fun y hy => ⟨(hb2 y hy).f0, (hb2 y hy).f1, (hb2 y hy).t0, (hb2 y hy).t1⟩⟩, hb2⟩
              obtain ⟨m1, s1, e1⟩ := n1 hq
              obtain ⟨K', i1, i2, i3, i4, i5, i6⟩ := read_tail hD hN P s1
              refine ⟨_, .inl ⟨P, K', i1, i2, i3, i4, i5, rfl⟩, fun m => ?_⟩
              rw [key, e1, i6]
              split <;> rfl
end Go.Proofs.Ytdkmepjedjclkaa
