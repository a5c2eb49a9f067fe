/-
  THE PROGRAM READS A STORY (2): clocks grow. Conditions: none.
-/
import Derived.Test.YtdkmepjedjclkaaSReadA
namespace Go.Proofs.Ytdkmepjedjclkaa
open Go.AM
open Go.Proofs.Try (prog)
set_option linter.all false
set_option maxRecDepth 10000

/-- A clock takes another one in. -/
def growK (K : List (List (List Int))) (h i : Nat) (c : List Int) : List (List (List Int)) := K.set h ((kth K h).set i (zmax (cth (kth K h) i) c))
def grows (K : List (List (List Int))) (h i : Nat) (c : List Int) : Bool := !decide (zmax (cth (kth K h) i) c = cth (kth K h) i)

theorem kth_set {K : List (List (List Int))} {h g : Nat} {r : List (List Int)} (hh : h < K.length) : kth (K.set h r) g = if g = h then r else kth K g := by
  simp only [kth, List.getD, List.getElem?_set]
  by_cases e : h = g
  · subst e; simp [hh]
  · have : ¬ g = h := fun x => e x.symm
    simp [e, this]

theorem set_same {α : Type} {l : List α} {i : Nat} {a : α} (h : l[i]? = some a) : l.set i a = l := by
  obtain ⟨h1, rfl⟩ := List.getElem?_eq_some_iff.1 h
  simp

theorem kth_some {K : List (List (List Int))} {h : Nat} (hh : h < K.length) : K[h]? = some (kth K h) := by
  rw [List.getElem?_eq_getElem hh]; simp [kth, List.getD, List.getElem?_eq_getElem hh]

theorem growK_same {K : List (List (List Int))} {h i : Nat} {c : List Int} (hh : h < K.length) (hi : i < (kth K h).length) (hg : grows K h i c = false) : growK K h i c = K := by
  have e : zmax (cth (kth K h) i) c = cth (kth K h) i := by simpa [grows] using hg
  unfold growK
  rw [e, set_same (cth_eq hi), set_same (kth_some hh)]

/-- A story under way, and whether clocks still grow. -/
structure MAt (m : Mem) (sid : Nat) (ids : Nat → Nat) (n : Nat) (D : List Int) (K : List (List (List Int))) (mid : Nat) (mv : Bool) : Prop where
  s : SAt m sid ids n D K
  K4 : K.length = 4
  more : m.h mid = some (.cells [.bool mv])
  mlt : mid < m.nx
  ms : mid ≠ sid
  mi : ∀ h, h < 4 → kth K h ≠ [] → mid ≠ ids h

theorem MAt.mono {m m' : Mem} {sid : Nat} {ids : Nat → Nat} {n : Nat} {D : List Int} {K : List (List (List Int))} {mid : Nat} {mv : Bool} (s : MAt m sid ids n D K mid mv) (hnx : m.nx ≤ m'.nx) (hh : ∀ id, id < m.nx → m'.h id = m.h id) : MAt m' sid ids n D K mid mv :=
  ⟨s.s.mono hnx hh, s.K4, by rw [hh _ s.mlt]; exact s.more, Nat.lt_of_lt_of_le s.mlt hnx, s.ms, s.mi⟩

theorem nth4 {c : List Int} {h : Nat} (hc : c.length = 4) (hh : h < 4) : h < c.length := by omega

theorem grow_run {m : Mem} {sid : Nat} {ids : Nat → Nat} {n : Nat} {D : List Int} {K : List (List (List Int))} {mid : Nat} {mv : Bool} (s : MAt m sid ids n D K mid mv) {h i : Nat} (hh : h < 4) (hi : i < (kth K h).length) {c : List Int} (hc : c.length = 4) :
    ∃ m', denC prog ann 95 [.int .i64 h, .int .i64 i, .agg (ints c), .sptr [.ptr sid 0 9], .ptr mid 0 1] m = some (.tup [], m') ∧ MAt m' sid ids n D (growK K h i c) mid (mv || grows K h i c) ∧ m.nx ≤ m'.nx := by
  obtain ⟨V, v1, v2, v3, v4⟩ := s.s.at
  simp only [List.length_cons, List.length_append, ints_len] at v4
  have v3' := v3 h hh
  obtain ⟨c1, c2⟩ := s.s.clock hh hi
  have hne : kth K h ≠ [] := fun e => by rw [e] at hi; simp at hi
  have hc0 : (cth (kth K h) i).length = 4 := s.s.four h _ (cth_mem hi)
  have hj := join_spec hc0 hc Mem.empty
  have hz := zmax_len hc0 hc
  have hcm := s.s.cl h hh hne
  have hfl : (flatC ints (kth K h)).length = (kth K h).length * 4 := flatC_len (s.s.four h).cells
  have hlt := s.s.lt h hh hne
  have hslt := s.s.slt
  have hidsid := s.s.ne h hh hne
  have hmlt := s.mlt
  have n1 : (sid == m.nx + 11) = false := by simp; omega
  have n2 : (ids h == m.nx + 11) = false := by simp; omega
  have n3 : (mid == m.nx + 11) = false := by simp; omega
  have ht4 : c.take 4 = c := List.take_of_length_le (by omega)
  have hz4 : (zmax (cth (kth K h) i) c).take 4 = zmax (cth (kth K h) i) c := List.take_of_length_le (by omega)
  have hc04 : (cth (kth K h) i).take 4 = cth (kth K h) i := List.take_of_length_le (by omega)
  rw [watch_read_2.call_eq]
  rw [c1] at v3'
  by_cases hg : zmax (cth (kth K h) i) c = cth (kth K h) i
  · -- nothing new
    have hgr : grows K h i c = false := by simp [grows, hg]
    rw [growK_same (by rw [s.K4]; exact hh) hi hgr, hgr, Bool.or_false]
    refine ⟨⟨upd m.h (m.nx + 11) none, m.nx + 13 + 11⟩, ?_, s.mono (by simp; omega) (fun id hid => by have : (id == m.nx + 11) = false := by { simp; omega }; simp [this]), by simp; omega⟩
    simp [ht4, hc04, hc, v1, v4, v3', hh, hi, c2, hj, hc0, hz, hz4, n1, n2, hg, neq99 hc0 hc0, hc0]
  · have hgr : grows K h i c = true := by simp [grows, hg]
    rw [hgr, Bool.or_true]
    have hs := flatC_set (f := ints) (k := 4) (l := kth K h) (i := i) (a := zmax (cth (kth K h) i) c) (s.s.four h).cells (by simp [hz]) hi
    simp [hz] at hs
    have hmi := s.mi h hh hne
    have hms := s.ms
    have n4 : (mid == ids h) = false := by simpa using hmi
    have n5 : (sid == ids h) = false := by simpa using (fun e => hidsid e.symm)
    have n6 : (ids h == mid) = false := by simpa using (fun e => hmi e.symm)
    have n7 : (sid == mid) = false := by simpa using (fun e => hms e.symm)
    have hb : i * 4 + 4 ≤ (kth K h).length * 4 := by omega
    have htd : ((flatC ints (kth K h)).drop (i * 4)).take 4 = ints (cth (kth K h) i) := by
      rw [flatC_drop i (s.s.four h).cells, flatC_at (cth_eq hi)]; exact List.take_left' (by simp [hc0])
    refine ⟨⟨upd (upd (upd m.h (m.nx + 11) none) (ids h) (some (.cells (flatC ints ((kth K h).set i (zmax (cth (kth K h) i) c)))))) mid (some (.cells [.bool true])), m.nx + 13 + 11 + 11⟩, ?_, ?_, by simp; omega⟩
    · simp [ht4, hc, v1, v4, v3', hh, hi, c2, hj, hc0, hz, hz4, n1, n2, n3, n4, hg, neq99 hz hc0, hcm, hfl, hs, hb, htd, s.more]
    · obtain ⟨V, w1, w2, w3⟩ := s.s.st
      have hk := fun g => kth_set (K := K) (h := h) (g := g) (r := (kth K h).set i (zmax (cth (kth K h) i) c)) (by rw [s.K4]; exact hh)
      have hkn : ∀ g, kth (growK K h i c) g = [] ↔ kth K g = [] := by
        intro g
        rw [growK, hk]
        split
        · rename_i e; subst e; simp
        · rfl
      have hkl : ∀ g, (kth (growK K h i c) g).length = (kth K g).length := by
        intro g
        rw [growK, hk]
        split
        · rename_i e; subst e; simp
        · rfl
      have hsl : ∀ g, slK ids (growK K h i c) g = slK ids K g := by
        intro g; simp only [slK, hkl, hkn]
      refine ⟨⟨⟨V, ?_, w2, fun g hg' => by rw [hsl]; exact w3 g hg'⟩, s.s.D4, fun g hg' hne' => ?_, by simp; omega, fun g hg' hne' => ?_, fun g hg' hne' => s.s.ne g hg' (by rwa [ne_eq, hkn] at hne'), fun g g' a b c' d' => s.s.inj g g' a b (by rwa [ne_eq, hkn] at c') (by rwa [ne_eq, hkn] at d'), fun g => ?_, fun g => by rw [hkl]; exact s.s.few g⟩, by simp [growK, s.K4], by simp, by simp; omega, s.ms, fun g hg' hne' => s.mi g hg' (by rwa [ne_eq, hkn] at hne')⟩
      · simp [n1, n5, n7, w1]
      · rw [ne_eq, hkn] at hne'
        have m1 : (ids g == mid) = false := by simpa using (fun e => s.mi g hg' hne' e.symm)
        by_cases e : g = h
        · subst e
          simp only [growK, hk, if_true]
          simp [m1]
        · have m2 : (ids g == ids h) = false := by simpa using (fun e' => e (s.s.inj g h hg' hh hne' hne e'))
          have m3 : (ids g == m.nx + 11) = false := by have := s.s.lt g hg' hne'; simp; omega
          have : kth (growK K h i c) g = kth K g := by rw [growK, hk, if_neg e]
          rw [this]
          simp [m1, m2, m3, s.s.cl g hg' hne']
      · rw [ne_eq, hkn] at hne'
        have := s.s.lt g hg' hne'
        simp; omega
      · rw [growK, hk]
        split
        · intro x hx
          rcases List.mem_or_eq_of_mem_set hx with hx | rfl
          · exact s.s.four h x hx
          · exact hz
        · exact s.s.four g
end Go.Proofs.Ytdkmepjedjclkaa
