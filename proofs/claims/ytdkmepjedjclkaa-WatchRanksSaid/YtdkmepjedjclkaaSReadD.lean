/-
  THE PROGRAM READS A STORY (4): the whole of it. Conditions: none.
-/
import Derived.Test.YtdkmepjedjclkaaSReadC
namespace Go.Proofs.Ytdkmepjedjclkaa
open Go.AM
open Go.Proofs.Try (prog)
set_option linter.all false
set_option maxRecDepth 10000

/-! ### Deeds alone -/
def unitC (h i : Nat) : List Int := [0, 0, 0, 0].set h ((i : Int) + 1)
def units (h k : Nat) : List (List Int) := (List.range k).map (unitC h)

noncomputable def tK : List Item := [.code watch_read.r24, .code watch_read.k6, .code watch_read.r43, .code watch_read.k14, .code watch_read.r59, .code .ret]

theorem SAt.push {m m' : Mem} {sid : Nat} {ids : Nat → Nat} {n : Nat} {D : List Int} {K : List (List (List Int))} (s : SAt m sid ids n D K) (hK : K.length = 4) {h : Nat} (hh : h < 4) {c : List Int} (hc : c.length = 4) (hl : (kth K h).length < 6) {V : List AV}
    (hV : m.h sid = some (.cells (.int .i64 n :: (ints D ++ V)))) (j : Nat) (hj : (kth K h = [] ∧ m.nx ≤ j ∧ j < m'.nx) ∨ (kth K h ≠ [] ∧ j = ids h)) (hnx : m.nx ≤ m'.nx)
    (h1 : m'.h sid = some (.cells ((AV.int .i64 (n : Int) :: (ints D ++ V)).set (5 + h) (.sl j 4 0 ((kth K h).length + 1) ((kth K h).length * 4 + 4))))) (h2 : m'.h j = some (.cells (flatC ints (kth K h ++ [c]))))
    (h3 : ∀ id, id < m.nx → id ≠ sid → id ≠ j → m'.h id = m.h id) : SAt m' sid (fun g => if g = h then j else ids g) n D (K.set h (kth K h ++ [c])) := by
  have hk := fun g => kth_set (K := K) (h := h) (g := g) (r := kth K h ++ [c]) (by omega)
  obtain ⟨V0, w1, w2, w3⟩ := s.st
  have eV : V0 = V := by
    rw [hV] at w1
    simpa using w1.symm
  subst eV
  have hjs : j ≠ sid := by
    rcases hj with ⟨_, a, _⟩ | ⟨a, e⟩
    · have := s.slt; omega
    · rw [e]; exact s.ne h hh a
  have hjl : j < m'.nx := by
    rcases hj with ⟨_, _, a⟩ | ⟨a, e⟩
    · exact a
    · rw [e]; exact Nat.lt_of_lt_of_le (s.lt h hh a) hnx
  have hjg : ∀ g, g < 4 → kth K g ≠ [] → g ≠ h → ids g ≠ j := by
    intro g hg hne e
    rcases hj with ⟨_, a, _⟩ | ⟨a, e2⟩
    · have := s.lt g hg hne; omega
    · rw [e2]; exact fun e3 => e (s.inj g h hg hh hne a e3)
  have es : (AV.int .i64 (n : Int) :: (ints D ++ V0)).set (5 + h) (.sl j 4 0 ((kth K h).length + 1) ((kth K h).length * 4 + 4)) = .int .i64 n :: (ints D ++ V0.set h (.sl j 4 0 ((kth K h).length + 1) ((kth K h).length * 4 + 4))) := by
    rw [show 5 + h = (4 + h) + 1 by omega, List.set_cons_succ, List.set_append_right _ _ (by simp [s.D4])]
    simp [s.D4]
  rw [es] at h1
  refine ⟨⟨_, h1, by simp [w2], fun g hg => ?_⟩, s.D4, fun g hg hne => ?_, Nat.lt_of_lt_of_le s.slt hnx, fun g hg hne => ?_, fun g hg hne => ?_, fun g g' hg hg' hne hne' e => ?_, fun g => ?_, fun g => ?_⟩
  · simp only [slK, hk]
    by_cases e : g = h
    · subst e
      simp [vth, List.getD, List.getElem?_set, show g < V0.length by omega, Nat.add_mul]
    · have e' : ¬ h = g := fun x => e x.symm
      have := w3 g hg
      simp only [slK] at this
      simp only [e, if_false, ← this]
      simp [vth, List.getD, List.getElem?_set, e']
  · simp only [hk] at hne ⊢
    by_cases e : g = h
    · subst e; simpa using h2
    · simp only [e, if_false] at hne ⊢
      rw [h3 _ (s.lt g hg hne) (s.ne g hg hne) (hjg g hg hne e)]
      exact s.cl g hg hne
  · simp only [hk] at hne
    by_cases e : g = h
    · subst e; simpa using hjl
    · simp only [e, if_false] at hne ⊢
      exact Nat.lt_of_lt_of_le (s.lt g hg hne) hnx
  · simp only [hk] at hne
    by_cases e : g = h
    · subst e; simpa using hjs
    · simp only [e, if_false] at hne ⊢
      exact s.ne g hg hne
  · simp only [hk] at hne hne'
    by_cases e1 : g = h
    · by_cases e2 : g' = h
      · rw [e1, e2]
      · simp only [e1, e2, if_true, if_false] at e hne'
        exact absurd e.symm (hjg g' hg' hne' e2)
    · by_cases e2 : g' = h
      · simp only [e1, e2, if_true, if_false] at e hne
        exact absurd e (hjg g hg hne e1)
      · simp only [e1, e2, if_false] at e hne hne'
        exact s.inj g g' hg hg' hne hne' e
  · rw [hk]
    split
    · intro x hx
      rcases List.mem_append.1 hx with hx | hx
      · exact s.four h x hx
      · simp at hx; rw [hx]; exact hc
    · exact s.four g
  · rw [hk]
    split
    · simp; omega
    · exact s.few g

theorem push_loop {vD vN : AV} {D D4 : List Int} (hD : IsInts vD D) (lo : ∀ i, 0 ≤ nth D i) (h6 : ∀ i, nth D i ≤ 6) (n4 : D.length ≤ 4) {sid : Nat} {h : Nat} (hh : h < D.length) : ∀ (k i : Nat) (m : Mem) (ids : Nat → Nat) (K : List (List (List Int))), i + k = (nth D h).toNat → K.length = 4 → SAt m sid ids D.length D4 K → kth K h = units h i →
    ∃ m' ids', SAt m' sid ids' D.length D4 (K.set h (units h (nth D h).toNat)) ∧
      watch_read.L4 (.fptr [vD, vN]) (.fptr [.int .i64 D.length]) (.sptr [.ptr sid 0 9]) (.int .i64 h) (.int .i64 D.length) (.int .i64 h) (.int .i64 (nth D h)) (.int .i64 i) m (.inBlock 3 :: .code watch_read.r23 :: .inLoop watch_read.l2 :: .inBlock 2 :: tK) =
        watch_read.L2 (.fptr [vD, vN]) (.fptr [.int .i64 D.length]) (.sptr [.ptr sid 0 9]) (.int .i64 D.length) (.int .i64 ((h : Int) + 1)) m' tK := by
  have hwh : IntKind.wrap .i64 ((h : Int) + 1) = (h : Int) + 1 := wrap_id (by omega) (by omega)
  have hlo := lo h
  have hhi := h6 h
  intro k
  induction k with
  | zero =>
    intro i m ids K hk hK s hu
    have e : K.set h (units h (nth D h).toNat) = K := by
      rw [show (nth D h).toNat = i by omega, ← hu]; exact set_same (kth_some (by omega))
    refine ⟨m, ids, by rw [e]; exact s, ?_⟩
    rw [watch_read.L4_eq]
    have : ¬ (i : Int) < nth D h := by omega
    simp [this, hwh, tK]
  | succ k ih =>
    intro i m ids K hk hK s hu
    have hh4 : h < 4 := by omega
    have hi : (i : Int) < nth D h := by omega
    have hwi : IntKind.wrap .i64 ((i : Int) + 1) = (i : Int) + 1 := wrap_id (by omega) (by omega)
    obtain ⟨V, v1, v2, v3, v4⟩ := s.at
    simp only [List.length_cons, List.length_append, ints_len] at v4
    have v3' := v3 h hh4
    have hlen : (kth K h).length = i := by rw [hu]; simp [units]
    have hlt := s.slt
    have n1 : (sid == m.nx) = false := by simp; omega
    have hkk := fun g => kth_set (K := K) (h := h) (g := g) (r := kth K h ++ [unitC h i]) (by omega)
    have huc : (unitC h i).length = 4 := by simp [unitC]
    have huK : kth K h ++ [unitC h i] = units h (i + 1) := by rw [hu]; simp [units, List.range_succ]
    have hset : (K.set h (kth K h ++ [unitC h i])).set h (units h (nth D h).toNat) = K.set h (units h (nth D h).toNat) := by simp
    have huci : [AV.int .i64 0, .int .i64 0, .int .i64 0, .int .i64 0].set h (.int .i64 ((i : Int) + 1)) = ints (unitC h i) := by
      have := ints_set [0, 0, 0, 0] h ((i : Int) + 1)
      simpa [unitC] using this
    have hut : (unitC h i).take 4 = unitC h i := List.take_of_length_le (by omega)
    have hud : (unitC h i).drop 4 = [] := List.drop_of_length_le (by omega)
    have hw105 : IntKind.wrap .i64 ((i : Int) + 1) = (i : Int) + 1 := hwi
    have fin : ∀ (m1 : Mem) (ids1 : Nat → Nat), SAt m1 sid ids1 D.length D4 (K.set h (kth K h ++ [unitC h i])) → watch_read.L4 (.fptr [vD, vN]) (.fptr [.int .i64 D.length]) (.sptr [.ptr sid 0 9]) (.int .i64 h) (.int .i64 D.length) (.int .i64 h) (.int .i64 (nth D h)) (.int .i64 i) m (.inBlock 3 :: .code watch_read.r23 :: .inLoop watch_read.l2 :: .inBlock 2 :: tK) =
        watch_read.L4 (.fptr [vD, vN]) (.fptr [.int .i64 D.length]) (.sptr [.ptr sid 0 9]) (.int .i64 h) (.int .i64 D.length) (.int .i64 h) (.int .i64 (nth D h)) (.int .i64 ((i + 1 : Nat) : Int)) m1 (.inBlock 3 :: .code watch_read.r23 :: .inLoop watch_read.l2 :: .inBlock 2 :: tK) →
        ∃ m' ids', SAt m' sid ids' D.length D4 (K.set h (units h (nth D h).toNat)) ∧
      watch_read.L4 (.fptr [vD, vN]) (.fptr [.int .i64 D.length]) (.sptr [.ptr sid 0 9]) (.int .i64 h) (.int .i64 D.length) (.int .i64 h) (.int .i64 (nth D h)) (.int .i64 i) m (.inBlock 3 :: .code watch_read.r23 :: .inLoop watch_read.l2 :: .inBlock 2 :: tK) =
        watch_read.L2 (.fptr [vD, vN]) (.fptr [.int .i64 D.length]) (.sptr [.ptr sid 0 9]) (.int .i64 D.length) (.int .i64 ((h : Int) + 1)) m' tK := by
      intro m1 ids1 s1 e
      obtain ⟨m', ids', a1, a2⟩ := ih (i + 1) m1 ids1 (K.set h (kth K h ++ [unitC h i])) (by omega) (by simp [hK]) s1 (by rw [hkk]; simp [huK])
      rw [hset] at a1
      exact ⟨m', ids', a1, by rw [e, a2]⟩
    have hfl : (flatC ints (kth K h)).length = (kth K h).length * 4 := flatC_len (s.four h).cells
    by_cases he : kth K h = []
    · -- the first one
      have hi0 : i = 0 := by rw [he] at hlen; simpa using hlen.symm
      have n2 : (sid == m.nx + 11) = false := by simp; omega
      have n3 : (m.nx == sid) = false := by simp; omega
      have n4 : (m.nx + 11 == sid) = false := by simp; omega
      refine fin ⟨upd (upd (upd m.h m.nx (some (.cells (ints (unitC h i))))) (m.nx + 11) (some (.cells (ints (unitC h i))))) sid (some (.cells ((AV.int .i64 (D.length : Int) :: (ints D4 ++ V)).set (5 + h) (.sl (m.nx + 11) 4 0 1 4)))), m.nx + 1 + 15⟩ _
        (s.push hK hh4 huc (by omega) v1 (m.nx + 11) (.inl ⟨he, by omega, by simp⟩) (by simp; omega) (by simp [he]) (by simp [he, n4, flatC_one]) (fun id a b c => by
          have q1 : (id == sid) = false := by simpa using b
          have q2 : (id == m.nx + 11) = false := by simpa using c
          have q3 : (id == m.nx) = false := by simp; omega
          simp [q1, q2, q3])) ?_
      rw [watch_read.L4_eq]
      have hsl : slK ids K h = .nils := by simp [slK, he]
      rw [hsl] at v3'
      have v3g : ∀ (p : 5 + h < (AV.int .i64 (D.length : Int) :: (ints D4 ++ V)).length), (AV.int .i64 (D.length : Int) :: (ints D4 ++ V))[5 + h] = .nils := fun p => by
        have := v3'
        rw [List.getElem?_eq_getElem p] at this
        exact Option.some.inj this
      simp [v3g, hi, hwi, hh4, v1, v4, v3', huci, hut, hud, huc, n1, n2, n3, n4, tK, show 5 + h < 9 by omega, Nat.add_assoc]
    · have hid := s.lt h hh4 he
      have hne := s.ne h hh4 he
      have n2 : (ids h == m.nx) = false := by simp; omega
      have n3 : (ids h == sid) = false := by simpa using hne
      have n4 : (sid == ids h) = false := by simpa using (fun e => hne e.symm)
      refine fin ⟨upd (upd (upd m.h m.nx (some (.cells (ints (unitC h i))))) (ids h) (some (.cells (flatC ints (kth K h ++ [unitC h i]))))) sid (some (.cells ((AV.int .i64 (D.length : Int) :: (ints D4 ++ V)).set (5 + h) (.sl (ids h) 4 0 ((kth K h).length + 1) ((kth K h).length * 4 + 4))))), m.nx + 1 + 15⟩ _
        (s.push hK hh4 huc (by omega) v1 (ids h) (.inr ⟨he, rfl⟩) (by simp; omega) (by simp) (by simp [n3]) (fun id a b c => by
          have q1 : (id == sid) = false := by simpa using b
          have q2 : (id == ids h) = false := by simpa using c
          have q3 : (id == m.nx) = false := by simp; omega
          simp [q1, q2, q3])) ?_
      rw [watch_read.L4_eq]
      have hsl : slK ids K h = .sl (ids h) 4 0 (kth K h).length ((kth K h).length * 4) := by simp [slK, he]
      rw [hsl] at v3'
      have v3g : ∀ (p : 5 + h < (AV.int .i64 (D.length : Int) :: (ints D4 ++ V)).length), (AV.int .i64 (D.length : Int) :: (ints D4 ++ V))[5 + h] = .sl (ids h) 4 0 (kth K h).length ((kth K h).length * 4) := fun p => by
        have := v3'
        rw [List.getElem?_eq_getElem p] at this
        exact Option.some.inj this
      simp [v3g, hi, hwi, hh4, v1, v4, v3', huci, hut, hud, huc, n1, n2, n3, n4, s.cl h hh4 he, hfl, show (kth K h).length ≤ 4611686018427387903 by omega, show ((kth K h).length + 1) * 32 ≤ 70368744177664 by omega, flatC_append, flatC_one, tK, show 5 + h < 9 by omega]

/-- The clocks before any message is looked at. -/
def unitK (D : List Int) (h : Nat) : List (List (List Int)) := (List.range 4).map fun g => if g < h then units g (nth D g).toNat else []

theorem kth_unitK (D : List Int) (h g : Nat) : kth (unitK D h) g = if g < 4 ∧ g < h then units g (nth D g).toNat else [] := by
  simp only [kth, unitK, List.getD, List.getElem?_map]
  by_cases e : g < 4
  · rw [List.getElem?_range e]; simp [e]
  · rw [List.getElem?_eq_none (by simp; omega)]; simp [e]

theorem unitK_set (D : List Int) {h : Nat} (hh : h < 4) : (unitK D h).set h (units h (nth D h).toNat) = unitK D (h + 1) := by
  refine List.ext_getElem (by simp [unitK]) fun g h1 h2 => ?_
  have hg : g < 4 := by simpa [unitK] using h2
  rw [List.getElem_set]
  simp only [unitK, List.getElem_map, List.getElem_range]
  by_cases e : h = g
  · subst e; simp
  · have : g < h + 1 ↔ g < h := by omega
    simp [e, this]

theorem unit_loop {vD vN : AV} {D D4 : List Int} (hD : IsInts vD D) (lo : ∀ i, 0 ≤ nth D i) (h6 : ∀ i, nth D i ≤ 6) (n4 : D.length ≤ 4) {sid : Nat} : ∀ (k h : Nat) (m : Mem) (ids : Nat → Nat), h + k = D.length → SAt m sid ids D.length D4 (unitK D h) →
    ∃ m' ids', SAt m' sid ids' D.length D4 (unitK D D.length) ∧
      watch_read.L2 (.fptr [vD, vN]) (.fptr [.int .i64 D.length]) (.sptr [.ptr sid 0 9]) (.int .i64 D.length) (.int .i64 h) m tK =
        watch_read.L2 (.fptr [vD, vN]) (.fptr [.int .i64 D.length]) (.sptr [.ptr sid 0 9]) (.int .i64 D.length) (.int .i64 D.length) m' tK := by
  intro k
  induction k with
  | zero =>
    intro h m ids hk s
    have e : h = D.length := by omega
    subst e
    exact ⟨m, ids, s, rfl⟩
  | succ k ih =>
    intro h m ids hk s
    have hh : h < D.length := by omega
    obtain ⟨m1, ids1, s1, e1⟩ := push_loop hD lo h6 n4 (vN := vN) hh _ 0 m ids (unitK D h) (Nat.zero_add _) (by simp [unitK]) s (by rw [kth_unitK]; simp [units])
    rw [unitK_set D (by omega)] at s1
    obtain ⟨m', ids', s', e'⟩ := ih (h + 1) m1 ids1 (by omega) s1
    refine ⟨m', ids', s', ?_⟩
    rw [← e', watch_read.L2_eq]
    simp at e1
    simp [hh, hD.idx hh, ints_head hh, e1]
end Go.Proofs.Ytdkmepjedjclkaa
