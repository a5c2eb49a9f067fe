/-
  THE PROGRAM READS A STORY (4): the whole of it. Conditions: none.
-/
import Derived.Test.YtdkmepjedjclkaaK03
import Derived.Test.YtdkmepjedjclkaaKAmH
set_option linter.all false
namespace Go.Proofs.Ytdkmepjedjclkaa
open Go.AM
open Go.Proofs.Try (prog)
set_option linter.all false
set_option maxRecDepth 10000

/-! ### Deeds alone -/
def unitC (h i : Nat) : List Int := [0, 0, 0, 0].set h ((i : Int) + 1)
def units (h k : Nat) : List (List Int) := (List.range k).map (unitC h)

noncomputable def tK : List Item := [.code watch_read.r24, .code watch_read.k6, .code watch_read.r43, .code watch_read.k14, .code watch_read.r59, .code .ret]

theorem SAt.push {m m' : Mem} {sid : Nat} {ids : Nat → Nat} {n : Nat} {D : List Int} {K : List (List (List Int))} (s : SAt m sid ids n D K) (hK : K.length = 4) {h : Nat} (hh : h < 4) {c : List Int} (hc : c.length = 4) (hl : (kth K h).length < 6) {V : List AV}
    (hV : m.h sid = some (.cells (.int .i64 n :: (ints D ++ V)))) (j : Nat) (hj : (kth K h = [] ∧ m.nx ≤ j ∧ j < m'.nx) ∨ (kth K h ≠ [] ∧ j = ids h)) (hnx : m.nx ≤ m'.nx)
    (h1 : m'.h sid = some (.cells ((AV.int .i64 (n : Int) :: (ints D ++ V)).set (5 + h) (.sl j 4 0 ((kth K h).length + 1) ((kth K h).length * 4 + 4))))) (h2 : m'.h j = some (.cells (flatC ints (kth K h ++ [c]))))
    (h3 : ∀ id, id < m.nx → id ≠ sid → id ≠ j → m'.h id = m.h id) : SAt m' sid (fun g => if g = h then j else ids g) n D (K.set h (kth K h ++ [c])) := by
  have hk := fun g => kth_set (K := K) (h := h) (g := g) (r := kth K h ++ [c]) (by omega)
  obtain ⟨V0, w1, w2, w3⟩ := s.st
  have eV : V0 = V := by
    rw [hV] at w1
    simpa using w1.symm
  subst eV
  have hjs : j ≠ sid := by
    rcases hj with ⟨_, a, _⟩ | ⟨a, e⟩
    · have := s.slt; omega
    · rw [e]; exact s.ne h hh a
  have hjl : j < m'.nx := by
    rcases hj with ⟨_, _, a⟩ | ⟨a, e⟩
    · exact a
    · rw [e]; exact Nat.lt_of_lt_of_le (s.lt h hh a) hnx
  have hjg : ∀ g, g < 4 → kth K g ≠ [] → g ≠ h → ids g ≠ j := by
    intro g hg hne e
    rcases hj with ⟨_, a, _⟩ | ⟨a, e2⟩
    · have := s.lt g hg hne; omega
    · rw [e2]; exact fun e3 => e (s.inj g h hg hh hne a e3)
  have es : (AV.int .i64 (n : Int) :: (ints D ++ V0)).set (5 + h) (.sl j 4 0 ((kth K h).length + 1) ((kth K h).length * 4 + 4)) = .int .i64 n :: (ints D ++ V0.set h (.sl j 4 0 ((kth K h).length + 1) ((kth K h).length * 4 + 4))) := by
    rw [show 5 + h = (4 + h) + 1 by omega, List.set_cons_succ, List.set_append_right _ _ (by simp [s.D4])]
    simp [s.D4]
  rw [es] at h1
  refine ⟨⟨_, h1, by simp [w2], fun g hg => ?_⟩, s.D4, fun g hg hne => ?_, Nat.lt_of_lt_of_le s.slt hnx, fun g hg hne => ?_, fun g hg hne => ?_, fun g g' hg hg' hne hne' e => ?_, fun g => ?_, fun g => ?_⟩
  · simp only [slK, hk]
    by_cases e : g = h
    · subst e
      simp [vth, List.getD, List.getElem?_set, show g < V0.length by omega, Nat.add_mul]
    · have e' : ¬ h = g := fun x => e x.symm
      have := w3 g hg
      simp only [slK] at this
      simp only [e, if_false, ← this]
      simp [vth, List.getD, List.getElem?_set, e']
  · simp only [hk] at hne ⊢
    by_cases e : g = h
    · subst e; simpa using h2
    · simp only [e, if_false] at hne ⊢
      rw [h3 _ (s.lt g hg hne) (s.ne g hg hne) (hjg g hg hne e)]
      exact s.cl g hg hne
  · simp only [hk] at hne
    by_cases e : g = h
    · subst e; simpa using hjl
    · simp only [e, if_false] at hne ⊢
      exact Nat.lt_of_lt_of_le (s.lt g hg hne) hnx
  · simp only [hk] at hne
    by_cases e : g = h
    · subst e; simpa using hjs
    · simp only [e, if_false] at hne ⊢
      exact s.ne g hg hne
  · simp only [hk] at hne hne'
    by_cases e1 : g = h
    · by_cases e2 : g' = h
      · rw [e1, e2]
      · simp only [e1, e2, if_true, if_false] at e hne'
        exact absurd e.symm (hjg g' hg' hne' e2)
    · by_cases e2 : g' = h
      · simp only [e1, e2, if_true, if_false] at e hne
        exact absurd e (hjg g hg hne e1)
      · simp only [e1, e2, if_false] at e hne hne'
        exact s.inj g g' hg hg' hne hne' e
  · rw [hk]
    split
    · intro x hx
      rcases List.mem_append.1 hx with hx | hx
      · exact s.four h x hx
      · simp at hx; rw [hx]; exact hc
    · exact s.four g
  · rw [hk]
    split
    · simp; omega
    · exact s.few g

theorem push_loop {vD vN : AV} {D D4 : List Int} (hD : IsInts vD D) (lo : ∀ i, 0 ≤ nth D i) (h6 : ∀ i, nth D i ≤ 6) (n4 : D.length ≤ 4) {sid : Nat} {h : Nat} (hh : h < D.length) : ∀ (k i : Nat) (m : Mem) (ids : Nat → Nat) (K : List (List (List Int))), i + k = (nth D h).toNat → K.length = 4 → SAt m sid ids D.length D4 K → kth K h = units h i →
    ∃ m' ids', SAt m' sid ids' D.length D4 (K.set h (units h (nth D h).toNat)) ∧
      watch_read.L4 (.fptr [vD, vN]) (.fptr [.int .i64 D.length]) (.sptr [.ptr sid 0 9]) (.int .i64 h) (.int .i64 D.length) (.int .i64 h) (.int .i64 (nth D h)) (.int .i64 i) m (.inBlock 3 :: .code watch_read.r23 :: .inLoop watch_read.l2 :: .inBlock 2 :: tK) =
        watch_read.L2 (.fptr [vD, vN]) (.fptr [.int .i64 D.length]) (.sptr [.ptr sid 0 9]) (.int .i64 D.length) (.int .i64 ((h : Int) + 1)) m' tK := by
  have hwh : IntKind.wrap .i64 ((h : Int) + 1) = (h : Int) + 1 := wrap_id (by omega) (by omega)
  have hlo := lo h
  have hhi := h6 h
  intro k
  induction k with
  | zero =>
    intro i m ids K hk hK s hu
    have e : K.set h (units h (nth D h).toNat) = K := by
      rw [show (nth D h).toNat = i by omega, ← hu]; exact set_same (kth_some (by omega))
    refine ⟨m, ids, by rw [e]; exact s, ?_⟩
    rw [watch_read.L4_eq]
    have : ¬ (i : Int) < nth D h := by omega
    simp [this, hwh, tK]
  | succ k ih =>
    intro i m ids K hk hK s hu
    have hh4 : h < 4 := by omega
    have hi : (i : Int) < nth D h := by omega
    have hwi : IntKind.wrap .i64 ((i : Int) + 1) = (i : Int) + 1 := wrap_id (by omega) (by omega)
    obtain ⟨V, v1, v2, v3, v4⟩ := s.at
    simp only [List.length_cons, List.length_append, ints_len] at v4
    have v3' := v3 h hh4
    have hlen : (kth K h).length = i := by rw [hu]; simp [units]
    have hlt := s.slt
    have n1 : (sid == m.nx) = false := by simp; omega
    have hkk := fun g => kth_set (K := K) (h := h) (g := g) (r := kth K h ++ [unitC h i]) (by omega)
    have huc : (unitC h i).length = 4 := by simp [unitC]
    have huK : kth K h ++ [unitC h i] = units h (i + 1) := by rw [hu]; simp [units, List.range_succ]
    have hset : (K.set h (kth K h ++ [unitC h i])).set h (units h (nth D h).toNat) = K.set h (units h (nth D h).toNat) := by simp
    have huci : [AV.int .i64 0, .int .i64 0, .int .i64 0, .int .i64 0].set h (.int .i64 ((i : Int) + 1)) = ints (unitC h i) := by
      have := ints_set [0, 0, 0, 0] h ((i : Int) + 1)
      simpa [unitC] using this
    have hut : (unitC h i).take 4 = unitC h i := List.take_of_length_le (by omega)
    have hud : (unitC h i).drop 4 = [] := List.drop_of_length_le (by omega)
    have hw105 : IntKind.wrap .i64 ((i : Int) + 1) = (i : Int) + 1 := hwi
    have fin : ∀ (m1 : Mem) (ids1 : Nat → Nat), SAt m1 sid ids1 D.length D4 (K.set h (kth K h ++ [unitC h i])) → watch_read.L4 (.fptr [vD, vN]) (.fptr [.int .i64 D.length]) (.sptr [.ptr sid 0 9]) (.int .i64 h) (.int .i64 D.length) (.int .i64 h) (.int .i64 (nth D h)) (.int .i64 i) m (.inBlock 3 :: .code watch_read.r23 :: .inLoop watch_read.l2 :: .inBlock 2 :: tK) =
        watch_read.L4 (.fptr [vD, vN]) (.fptr [.int .i64 D.length]) (.sptr [.ptr sid 0 9]) (.int .i64 h) (.int .i64 D.length) (.int .i64 h) (.int .i64 (nth D h)) (.int .i64 ((i + 1 : Nat) : Int)) m1 (.inBlock 3 :: .code watch_read.r23 :: .inLoop watch_read.l2 :: .inBlock 2 :: tK) →
        ∃ m' ids', SAt m' sid ids' D.length D4 (K.set h (units h (nth D h).toNat)) ∧
      watch_read.L4 (.fptr [vD, vN]) (.fptr [.int .i64 D.length]) (.sptr [.ptr sid 0 9]) (.int .i64 h) (.int .i64 D.length) (.int .i64 h) (.int .i64 (nth D h)) (.int .i64 i) m (.inBlock 3 :: .code watch_read.r23 :: .inLoop watch_read.l2 :: .inBlock 2 :: tK) =
        watch_read.L2 (.fptr [vD, vN]) (.fptr [.int .i64 D.length]) (.sptr [.ptr sid 0 9]) (.int .i64 D.length) (.int .i64 ((h : Int) + 1)) m' tK := by
      intro m1 ids1 s1 e
      obtain ⟨m', ids', a1, a2⟩ := ih (i + 1) m1 ids1 (K.set h (kth K h ++ [unitC h i])) (by omega) (by simp [hK]) s1 (by rw [hkk]; simp [huK])
      rw [hset] at a1
      exact ⟨m', ids', a1, by rw [e, a2]⟩
    have hfl : (flatC ints (kth K h)).length = (kth K h).length * 4 := flatC_len (s.four h).cells
    by_cases he : kth K h = []
    · -- the first one
      have hi0 : i = 0 := by rw [he] at hlen; simpa using hlen.symm
      have n2 : (sid == m.nx + 11) = false := by simp; omega
      have n3 : (m.nx == sid) = false := by simp; omega
      have n4 : (m.nx + 11 == sid) = false := by simp; omega
      refine fin ⟨upd (upd (upd m.h m.nx (some (.cells (ints (unitC h i))))) (m.nx + 11) (some (.cells (ints (unitC h i))))) sid (some (.cells ((AV.int .i64 (D.length : Int) :: (ints D4 ++ V)).set (5 + h) (.sl (m.nx + 11) 4 0 1 4)))), m.nx + 1 + 15⟩ _
        (s.push hK hh4 huc (by omega) v1 (m.nx + 11) (.inl ⟨he, by omega, by simp⟩) (by simp; omega) (by simp [he]) (by simp [he, n4, flatC_one]) (fun id a b c => by
          have q1 : (id == sid) = false := by simpa using b
          have q2 : (id == m.nx + 11) = false := by simpa using c
          have q3 : (id == m.nx) = false := by simp; omega
          simp [q1, q2, q3])) ?_
      rw [watch_read.L4_eq]
      have hsl : slK ids K h = .nils := by simp [slK, he]
      rw [hsl] at v3'
      have v3g : ∀ (p : 5 + h < (AV.int .i64 (D.length : Int) :: (ints D4 ++ V)).length), (AV.int .i64 (D.length : Int) :: (ints D4 ++ V))[5 + h] = .nils := fun p => by
        have := v3'
        rw [List.getElem?_eq_getElem p] at this
        exact Option.some.inj this
      simp [v3g, hi, hwi, hh4, v1, v4, v3', huci, hut, hud, huc, n1, n2, n3, n4, tK, show 5 + h < 9 by omega, Nat.add_assoc]
    · have hid := s.lt h hh4 he
      have hne := s.ne h hh4 he
      have n2 : (ids h == m.nx) = false := by simp; omega
      have n3 : (ids h == sid) = false := by simpa using hne
      have n4 : (sid == ids h) = false := by simpa using (fun e => hne e.symm)
      refine fin ⟨upd (upd (upd m.h m.nx (some (.cells (ints (unitC h i))))) (ids h) (some (.cells (flatC ints (kth K h ++ [unitC h i]))))) sid (some (.cells ((AV.int .i64 (D.length : Int) :: (ints D4 ++ V)).set (5 + h) (.sl (ids h) 4 0 ((kth K h).length + 1) ((kth K h).length * 4 + 4))))), m.nx + 1 + 15⟩ _
        (s.push hK hh4 huc (by omega) v1 (ids h) (.inr ⟨he, rfl⟩) (by simp; omega) (by simp) (by simp [n3]) (fun id a b c => by
          have q1 : (id == sid) = false := by simpa using b
          have q2 : (id == ids h) = false := by simpa using c
          have q3 : (id == m.nx) = false := by simp; omega
          simp [q1, q2, q3])) ?_
      rw [watch_read.L4_eq]
      have hsl : slK ids K h = .sl (ids h) 4 0 (kth K h).length ((kth K h).length * 4) := by simp [slK, he]
      rw [hsl] at v3'
      have v3g : ∀ (p : 5 + h < (AV.int .i64 (D.length : Int) :: (ints D4 ++ V)).length), (AV.int .i64 (D.length : Int) :: (ints D4 ++ V))[5 + h] = .sl (ids h) 4 0 (kth K h).length ((kth K h).length * 4) := fun p => by
        have := v3'
        rw [List.getElem?_eq_getElem p] at this
        exact Option.some.inj this
      simp [v3g, hi, hwi, hh4, v1, v4, v3', huci, hut, hud, huc, n1, n2, n3, n4, s.cl h hh4 he, hfl, show (kth K h).length ≤ 4611686018427387903 by omega, show ((kth K h).length + 1) * 32 ≤ 70368744177664 by omega, flatC_append, flatC_one, tK, show 5 + h < 9 by omega]

/-- The clocks before any message is looked at. -/
def unitK (D : List Int) (h : Nat) : List (List (List Int)) := (List.range 4).map fun g => if g < h then units g (nth D g).toNat else []

theorem kth_unitK (D : List Int) (h g : Nat) : kth (unitK D h) g = if g < 4 ∧ g < h then units g (nth D g).toNat else [] := by
  simp only [kth, unitK, List.getD, List.getElem?_map]
  by_cases e : g < 4
  · rw [List.getElem?_range e]; simp [e]
  · rw [List.getElem?_eq_none (by simp; omega)]; simp [e]

theorem unitK_set (D : List Int) {h : Nat} (hh : h < 4) : (unitK D h).set h (units h (nth D h).toNat) = unitK D (h + 1) := by
  refine List.ext_getElem (by simp [unitK]) fun g h1 h2 => ?_
  have hg : g < 4 := by simpa [unitK] using h2
  rw [List.getElem_set]
  simp only [unitK, List.getElem_map, List.getElem_range]
  by_cases e : h = g
  · subst e; simp
  · have : g < h + 1 ↔ g < h := by omega
    simp [e, this]

theorem unit_loop {vD vN : AV} {D D4 : List Int} (hD : IsInts vD D) (lo : ∀ i, 0 ≤ nth D i) (h6 : ∀ i, nth D i ≤ 6) (n4 : D.length ≤ 4) {sid : Nat} : ∀ (k h : Nat) (m : Mem) (ids : Nat → Nat), h + k = D.length → SAt m sid ids D.length D4 (unitK D h) →
    ∃ m' ids', SAt m' sid ids' D.length D4 (unitK D D.length) ∧
      watch_read.L2 (.fptr [vD, vN]) (.fptr [.int .i64 D.length]) (.sptr [.ptr sid 0 9]) (.int .i64 D.length) (.int .i64 h) m tK =
        watch_read.L2 (.fptr [vD, vN]) (.fptr [.int .i64 D.length]) (.sptr [.ptr sid 0 9]) (.int .i64 D.length) (.int .i64 D.length) m' tK := by
  intro k
  induction k with
  | zero =>
    intro h m ids hk s
    have e : h = D.length := by omega
    subst e
    exact ⟨m, ids, s, rfl⟩
  | succ k ih =>
    intro h m ids hk s
    have hh : h < D.length := by omega
    obtain ⟨m1, ids1, s1, e1⟩ := push_loop hD lo h6 n4 (vN := vN) hh _ 0 m ids (unitK D h) (Nat.zero_add _) (by simp [unitK]) s (by rw [kth_unitK]; simp [units])
    rw [unitK_set D (by omega)] at s1
    obtain ⟨m', ids', s', e'⟩ := ih (h + 1) m1 ids1 (by omega) s1
    refine ⟨m', ids', s', ?_⟩
    rw [← e', watch_read.L2_eq]
    simp at e1
    simp [hh, hD.idx hh, ints_head hh, e1]
end Go.Proofs.Ytdkmepjedjclkaa

/-
  THE PROGRAM READS A STORY (5): the tests ahead. Conditions: none.
-/
namespace Go.Proofs.Ytdkmepjedjclkaa
open Go.AM
open Go.Proofs.Try (prog)
set_option linter.all false
set_option maxRecDepth 10000

theorem min_loop {v : AV} {l : List Int} (h : IsInts v l) (hl : l.length < 1000000) : ∀ (k i : Nat) (x : Int) (m : Mem), l.length - i ≤ k → i ≤ l.length →
    slices_Min_int.L0 v (.int .i64 x) (.int .i64 i) m [.code slices_Min_int.r8, .code .ret] = some (.int .i64 ((l.drop i).foldl min x), Mem.empty) := by
  intro k
  induction k with
  | zero =>
    intro i x m h1 h2
    have e : i = l.length := by omega
    subst e
    rw [slices_Min_int.L0_eq]
    simp [h.len]
  | succ k ih =>
    intro i x m h1 h2
    by_cases h3 : i < l.length
    · have hw : IntKind.wrap .i64 ((i : Int) + 1) = (i : Int) + 1 := wrap_id (by omega) (by omega)
      have hi := fun x m => ih (i + 1) x m (by omega) (by omega)
      simp at hi
      rw [slices_Min_int.L0_eq, drop_nth h3]
      simp [h.len, h3, h.idx h3, ints_head h3, hw, hi]
    · have e : i = l.length := by omega
      subst e
      rw [slices_Min_int.L0_eq]
      simp [h.len]
theorem max_loop {v : AV} {l : List Int} (h : IsInts v l) (hl : l.length < 1000000) : ∀ (k i : Nat) (x : Int) (m : Mem), l.length - i ≤ k → i ≤ l.length →
    slices_Max_int.L0 v (.int .i64 x) (.int .i64 i) m [.code slices_Max_int.r8, .code .ret] = some (.int .i64 ((l.drop i).foldl max x), Mem.empty) := by
  intro k
  induction k with
  | zero =>
    intro i x m h1 h2
    have e : i = l.length := by omega
    subst e
    rw [slices_Max_int.L0_eq]
    simp [h.len]
  | succ k ih =>
    intro i x m h1 h2
    by_cases h3 : i < l.length
    · have hw : IntKind.wrap .i64 ((i : Int) + 1) = (i : Int) + 1 := wrap_id (by omega) (by omega)
      have hi := fun x m => ih (i + 1) x m (by omega) (by omega)
      simp at hi
      rw [slices_Max_int.L0_eq, drop_nth h3]
      simp [h.len, h3, h.idx h3, ints_head h3, hw, hi]
    · have e : i = l.length := by omega
      subst e
      rw [slices_Max_int.L0_eq]
      simp [h.len]

theorem min_spec {v : AV} {x : Int} {l : List Int} (h : IsInts v (x :: l)) (hl : l.length < 100000) (m : Mem) : denC prog ann 92 [v] m = some (.int .i64 (l.foldl min x), m) := by
  rw [slices_Min_int.call_eq _ _ (by simp [h.closed])]
  have := min_loop h (by simp; omega) _ 1 x Mem.empty (Nat.le_refl _) (by simp)
  simp at this
  have hn : ¬ ((l.length : Int) + 1 < 1) := by omega
  have h0 := h.idx (i := 0) (by simp) .i64
  simp at h0
  simp [h.len, hn, h0, this]
theorem max_spec {v : AV} {x : Int} {l : List Int} (h : IsInts v (x :: l)) (hl : l.length < 100000) (m : Mem) : denC prog ann 93 [v] m = some (.int .i64 (l.foldl max x), m) := by
  rw [slices_Max_int.call_eq _ _ (by simp [h.closed])]
  have := max_loop h (by simp; omega) _ 1 x Mem.empty (Nat.le_refl _) (by simp)
  simp at this
  have hn : ¬ ((l.length : Int) + 1 < 1) := by omega
  have h0 := h.idx (i := 0) (by simp) .i64
  simp at h0
  simp [h.len, hn, h0, this]
theorem foldl_min : ∀ (l : List Int) (x : Int), l.foldl min x ≤ x ∧ (∀ y ∈ l, l.foldl min x ≤ y) ∧ (l.foldl min x = x ∨ l.foldl min x ∈ l)
  | [], x => ⟨Int.le_refl _, (fun _ h => by cases h), .inl rfl⟩
  | y :: l, x => by
    obtain ⟨h1, h2, h3⟩ := foldl_min l (min x y)
    simp only [List.foldl_cons]
    refine ⟨by omega, fun z hz => ?_, ?_⟩
    · rcases List.mem_cons.1 hz with rfl | hz
      · omega
      · exact h2 z hz
    · rcases h3 with h3 | h3
      · rw [h3]
        by_cases e : x ≤ y
        · left; omega
        · right; have : min x y = y := by omega
          rw [this]; simp
      · right; simp [h3]
theorem foldl_max : ∀ (l : List Int) (x : Int), x ≤ l.foldl max x ∧ (∀ y ∈ l, y ≤ l.foldl max x) ∧ (l.foldl max x = x ∨ l.foldl max x ∈ l)
  | [], x => ⟨Int.le_refl _, (fun _ h => by cases h), .inl rfl⟩
  | y :: l, x => by
    obtain ⟨h1, h2, h3⟩ := foldl_max l (max x y)
    simp only [List.foldl_cons]
    refine ⟨by omega, fun z hz => ?_, ?_⟩
    · rcases List.mem_cons.1 hz with rfl | hz
      · omega
      · exact h2 z hz
    · rcases h3 with h3 | h3
      · rw [h3]
        by_cases e : y ≤ x
        · left; omega
        · right; have : max x y = y := by omega
          rw [this]; simp
      · right; simp [h3]

/-- Is there such a deed? -/
def deedOk (D : List Int) (h i : Int) : Bool := ((decide (0 ≤ h) && decide (h < D.length)) && decide (1 ≤ i)) && decide (i ≤ nth D h.toNat)
theorem deed_spec {vD vN : AV} {D : List Int} (hD : IsInts vD D) (hl : D.length < 1000000) (h i : Int) (m : Mem) : denC prog ann 94 [.int .i64 h, .int .i64 i, .fptr [.int .i64 D.length], .fptr [vD, vN]] m = some (.bool (deedOk D h i), m) := by
  rw [watch_read_1.call_eq]
  by_cases q1 : 0 ≤ h
  · by_cases q2 : h < D.length
    · by_cases q3 : 1 ≤ i
      · simp [q1, q2, q3, hD.idxI q1 q2, ints_headI q1 q2, deedOk]
      · simp [q1, q2, q3, deedOk]
    · simp [q1, q2, deedOk]
  · simp [q1, deedOk]

def noteP (D : List Int) (x : Note) : Bool := (deedOk D x.f x.s && deedOk D x.t x.r) && !decide (x.f = x.t)
theorem noteP_iff {D : List Int} {x : Note} : noteP D x = true ↔ NoteIn D x := by
  simp only [noteP, deedOk, Bool.and_eq_true, decide_eq_true_eq, Bool.not_eq_true', decide_eq_false_iff_not]
  constructor
  · rintro ⟨⟨⟨⟨⟨a, b⟩, c⟩, d⟩, ⟨⟨e, f⟩, g⟩, h⟩, i⟩
    exact ⟨a, b, e, f, i, c, d, g, h⟩
  · rintro ⟨a, b, c, d, e, f, g, h, i⟩
    exact ⟨⟨⟨⟨⟨a, b⟩, f⟩, g⟩, ⟨⟨c, d⟩, h⟩, i⟩, e⟩

theorem notes_loop {vD vN : AV} {D D4 : List Int} {N : List Note} (hD : IsInts vD D) (hN : IsSl noteC vN N) (hl : D.length < 1000000) (hn : N.length < 1000000) {sid : Nat} {ids : Nat → Nat} {K : List (List (List Int))} (Kc : List Item) : ∀ (k i : Nat) (m : Mem), N.length - i ≤ k → i ≤ N.length → SAt m sid ids D.length D4 K →
    ((N.drop i).all (noteP D) = true → ∃ m', SAt m' sid ids D.length D4 K ∧ watch_read.L0 (.fptr [vD, vN]) (.fptr [.int .i64 D.length]) (.sptr [.ptr sid 0 9]) (.fn 94 [] [.fptr [.int .i64 D.length], .fptr [vD, vN]]) vN (.int .i64 N.length) (.int .i64 i) m Kc =
      watch_read.L0 (.fptr [vD, vN]) (.fptr [.int .i64 D.length]) (.sptr [.ptr sid 0 9]) (.fn 94 [] [.fptr [.int .i64 D.length], .fptr [vD, vN]]) vN (.int .i64 N.length) (.int .i64 N.length) m' Kc) ∧
    ((N.drop i).all (noteP D) = false → watch_read.L0 (.fptr [vD, vN]) (.fptr [.int .i64 D.length]) (.sptr [.ptr sid 0 9]) (.fn 94 [] [.fptr [.int .i64 D.length], .fptr [vD, vN]]) vN (.int .i64 N.length) (.int .i64 i) m Kc = failR) := by
  intro k
  induction k with
  | zero =>
    intro i m h1 h2 s
    have e : i = N.length := by omega
    subst e
    exact ⟨fun _ => ⟨m, s, rfl⟩, fun h => by simp at h⟩
  | succ k ih =>
    intro i m h1 h2 s
    by_cases h3 : i < N.length
    · have hw : IntKind.wrap .i64 ((i : Int) + 1) = (i : Int) + 1 := wrap_id (by omega) (by omega)
      have s1 : SAt ⟨upd m.h m.nx none, m.nx + 1⟩ sid ids D.length D4 K := s.mono (by simp) (fun id hid => by have : (id == m.nx) = false := by { simp; omega }; simp [this])
      obtain ⟨i1, i2⟩ := ih (i + 1) ⟨upd m.h m.nx none, m.nx + 1⟩ (by omega) (by omega) s1
      simp only [Int.natCast_add, Int.cast_ofNat_Int] at i1 i2
      rw [drop_nt h3, List.all_cons]
      have step : watch_read.L0 (.fptr [vD, vN]) (.fptr [.int .i64 D.length]) (.sptr [.ptr sid 0 9]) (.fn 94 [] [.fptr [.int .i64 D.length], .fptr [vD, vN]]) vN (.int .i64 N.length) (.int .i64 i) m Kc =
          if noteP D (nt N i) then watch_read.L0 (.fptr [vD, vN]) (.fptr [.int .i64 D.length]) (.sptr [.ptr sid 0 9]) (.fn 94 [] [.fptr [.int .i64 D.length], .fptr [vD, vN]]) vN (.int .i64 N.length) (.int .i64 ((i : Int) + 1)) ⟨upd m.h m.nx none, m.nx + 1⟩ Kc else failR := by
        rw [watch_read.L0_eq]
        by_cases q1 : deedOk D (nt N i).f (nt N i).s = true
        · by_cases q2 : deedOk D (nt N i).t (nt N i).r = true
          · by_cases q3 : (nt N i).f = (nt N i).t
            · have q1' := q1
              rw [q3] at q1'
              simp [h3, hN.idx (noteC_len N) h3, load_note h3, noteC, deed_spec hD hl, q1, q1', q2, q3, noteP, failR]
            · simp [h3, hN.idx (noteC_len N) h3, load_note h3, noteC, deed_spec hD hl, q1, q2, q3, noteP, hw]
          · have q2' : deedOk D (nt N i).t (nt N i).r = false := by simpa using q2
            simp [h3, hN.idx (noteC_len N) h3, load_note h3, noteC, deed_spec hD hl, q1, q2', noteP, failR]
        · have q1' : deedOk D (nt N i).f (nt N i).s = false := by simpa using q1
          simp [h3, hN.idx (noteC_len N) h3, load_note h3, noteC, deed_spec hD hl, q1', noteP, failR]
      rw [step]
      cases hq : noteP D (nt N i) with
      | true => simp only [Bool.true_and, if_true]; exact ⟨i1, i2⟩
      | false => simp
    · have e : i = N.length := by omega
      subst e
      exact ⟨fun _ => ⟨m, s, rfl⟩, fun h => by simp at h⟩
end Go.Proofs.Ytdkmepjedjclkaa

/-
  THE PROGRAM READS A STORY (6): what read hands back. Conditions: none.
-/
namespace Go.Proofs.Ytdkmepjedjclkaa
open Go.AM
open Go.Proofs.Try (prog)
set_option linter.all false
set_option maxRecDepth 10000

def pad (D : List Int) : List Int := D ++ List.replicate (4 - D.length) 0
theorem pad_len {D : List Int} (h : D.length ≤ 4) : (pad D).length = 4 := by simp [pad]; omega
theorem nth_pad (D : List Int) (h : Nat) : nth (pad D) h = nth D h := by
  simp only [nth, pad, List.getD]
  rcases Nat.lt_or_ge h D.length with h1 | h1
  · rw [List.getElem?_append_left h1]
  · rw [List.getElem?_append_right h1, List.getElem?_eq_none h1, List.getElem?_replicate]
    split <;> rfl

theorem unit_inv {D : List Int} {N : List Note} (P : Pre D N) : Inv D N (unitK D D.length) := by
  have n4 := P.L.n4
  have hk : ∀ h, h < D.length → kth (unitK D D.length) h = units h (nth D h).toNat := fun h hh => by rw [kth_unitK, if_pos ⟨by omega, hh⟩]
  have hk0 : ∀ h, D.length ≤ h → kth (unitK D D.length) h = [] := fun h hh => by rw [kth_unitK, if_neg (by omega)]
  have hc : ∀ h i, i < (nth D h).toNat → cth (units h (nth D h).toNat) i = unitC h i := by
    intro h i hi
    simp [cth, units, List.getD, List.getElem?_map, List.getElem?_range hi]
  have hn : ∀ h i g, nth (unitC h i) g = if g = h ∧ h < 4 then (i : Int) + 1 else 0 := by
    intro h i g
    simp only [unitC, nth_set]
    have z : nth [0, 0, 0, 0] g = 0 := by match g with | 0 | 1 | 2 | 3 => rfl | _ + 4 => rfl
    rw [z]
    by_cases e : h = g
    · subst e; simp
    · have : ¬ g = h := fun x => e x.symm
      simp [e, this]
  refine ⟨fun h hh => by rw [hk h hh]; have := P.L.lo h; simp [units]; omega, hk0, fun V hV h i hi g => ?_, fun h i hi => ?_, fun h i hi g => ?_⟩
  all_goals
    rcases Nat.lt_or_ge h D.length with hh | hh
    · rw [hk h hh] at hi ⊢
      have hi' : i < (nth D h).toNat := by simpa [units] using hi
      rw [hc h i hi', hn]
      first
        | (split
           · rename_i e; rw [e.1]; exact hV.unit h i (by omega)
           · exact hV.pos h i g)
        | (rw [if_pos ⟨rfl, by omega⟩]; omega)
        | (split <;> omega)
    · rw [hk0 h hh] at hi; simp at hi

theorem unit_four (D : List Int) (k h : Nat) : Four (kth (unitK D k) h) := by
  rw [kth_unitK]
  split
  · intro c hc
    simp only [units, List.mem_map] at hc
    obtain ⟨i, _, rfl⟩ := hc
    simp [unitC]
  · intro c hc; cases hc

/-- From the first clock on. -/
theorem read_tail {vD vN : AV} {D : List Int} {N : List Note} (hD : IsInts vD D) (hN : IsSl noteC vN N) (P : Pre D N) {sid : Nat} {ids : Nat → Nat} {m : Mem} (s : SAt m sid ids D.length (pad D) (unitK D 0)) :
    ∃ K', Inv D N K' ∧ Closed D N K' ∧ K'.length = 4 ∧ (∀ h, Four (kth K' h)) ∧ (∀ h, (kth K' h).length ≤ 6) ∧
      watch_read.L0 (.fptr [vD, vN]) (.fptr [.int .i64 D.length]) (.sptr [.ptr sid 0 9]) (.fn 94 [] [.fptr [.int .i64 D.length], .fptr [vD, vN]]) vN (.int .i64 N.length) (.int .i64 N.length) m
        (.code watch_read.r13 :: .code watch_read.k2 :: tK) = if badAll K' D.length 0 then failR else okR D.length (pad D) K' := by
  obtain ⟨m1, ids1, s1, e1⟩ := unit_loop hD P.L.lo P.L.hi P.L.n4 (vN := vN) D.length 0 m ids (by omega) s
  have hslt := s1.slt
  have I := unit_inv P
  have M : MAt ⟨upd m1.h m1.nx (some (.cells [.bool true])), m1.nx + 1⟩ sid ids1 D.length (pad D) (unitK D D.length) m1.nx true :=
    ⟨s1.mono (by simp) (fun id hid => by have : (id == m1.nx) = false := by { simp; omega }; simp [this]), by simp [unitK], by simp, by simp, by omega, fun h a b => by have := s1.lt h a b; omega⟩
  obtain ⟨K', i1, i2, i3, i4, i5, i6⟩ := fix_loop hD hN P _ m1.nx _ _ true (Nat.le_refl _) M I (fun h => by cases h)
  refine ⟨K', i1, i2, i3, i4, i5, ?_⟩
  rw [← i6]
  have x1 : watch_read.L2 (.fptr [vD, vN]) (.fptr [.int .i64 D.length]) (.sptr [.ptr sid 0 9]) (.int .i64 D.length) (.int .i64 D.length) m1 tK =
      watch_read.L6 (.fptr [vD, vN]) (.fptr [.int .i64 D.length]) (.sptr [.ptr sid 0 9]) (.ptr m1.nx 0 1) ⟨upd m1.h m1.nx (some (.cells [.bool true])), m1.nx + 1⟩ [.code watch_read.r43, .code watch_read.k14, .code watch_read.r59, .code .ret] := by
    rw [watch_read.L2_eq]
    simp [tK]
  rw [← x1, ← e1, watch_read.L0_eq]
  simp [tK]

theorem isStr_ints {v : AV} {l : List Int} (h : IsInts v l) : v.isStr = false := by rcases h with ⟨rfl, _⟩ | ⟨_, rfl⟩ <;> rfl

/-- The story before its first clock. -/
noncomputable def firstM (D : List Int) : Mem := ⟨upd (upd (upd Mem.empty.h 0 none) 1 (some (.cells (.int .i64 D.length :: (ints (pad D) ++ [.nils, .nils, .nils, .nils]))))) 2 none, 10⟩
theorem first_at {D : List Int} (h : D.length ≤ 4) : SAt (firstM D) 1 (fun _ => 0) D.length (pad D) (unitK D 0) := by
  have e : ∀ g, kth (unitK D 0) g = [] := fun g => by rw [kth_unitK]; simp
  refine ⟨⟨[.nils, .nils, .nils, .nils], rfl, rfl, fun g hg => ?_⟩, pad_len h, fun g _ hne => absurd (e g) hne, by simp [firstM], fun g _ hne => absurd (e g) hne, fun g _ hne => absurd (e g) hne, fun g _ _ _ hne => absurd (e g) hne, unit_four D 0, fun g => by rw [e]; simp⟩
  simp only [slK, e, if_true]
  match g, hg with | 0, _ => rfl | 1, _ => rfl | 2, _ => rfl | 3, _ => rfl
def failV : AV := .tup [.nilp, .bool false]
def okV (D : List Int) (K : List (List (List Int))) : AV := .tup [.fptr (.int .i64 D.length :: (ints (pad D) ++ vals4 K)), .bool true]
/-- What read hands back. -/
def ReadRes (D : List Int) (N : List Note) (r : AV) : Prop :=
  (Pre D N ∧ ∃ K', Inv D N K' ∧ Closed D N K' ∧ K'.length = 4 ∧ (∀ h, Four (kth K' h)) ∧ (∀ h, (kth K' h).length ≤ 6) ∧ r = if badAll K' D.length 0 then failV else okV D K') ∨ (¬ Pre D N ∧ r = failV)

theorem read_spec {v : AV} {D : List Int} {N : List Note} (hs : IsTale v D N) (hl : D.length < 100000) (hn : N.length < 100000) : ∃ r, ReadRes D N r ∧ ∀ m, denC prog ann 61 [v] m = some (r, m) := by
  obtain ⟨vD, vN, rfl, hD, hN⟩ := hs.ex
  have hcl : closedL [AV.agg [vD, vN]] = true := by simp [hD.closed, hN.closed]
  cases D with
  | nil =>
    refine ⟨failV, .inr ⟨fun P => by have := P.L.n1; simp at this, rfl⟩, fun m => ?_⟩
    rw [watch_read.call_eq _ _ hcl]
    simp [hD.one, hN.one, hD.closed, hN.closed, hD.len, failV]
  | cons x l =>
    have hmin := min_spec hD (by simp at hl; omega)
    have hmax := max_spec hD (by simp at hl; omega)
    obtain ⟨a1, a2, a3⟩ := foldl_min l x
    obtain ⟨b1, b2, b3⟩ := foldl_max l x
    have hn1 : ¬ ((l.length : Int) + 1 < 1) := by omega
    by_cases q1 : (4 : Int) < (l.length : Int) + 1
    · refine ⟨failV, .inr ⟨fun P => by have := P.L.n4; simp at this; omega, rfl⟩, fun m => ?_⟩
      rw [watch_read.call_eq _ _ hcl]
      simp [hD.one, hN.one, hD.closed, hN.closed, hD.len, hn1, q1, failV]
    · by_cases q2 : (24 : Int) < N.length
      · refine ⟨failV, .inr ⟨fun P => by have := P.L.N24; omega, rfl⟩, fun m => ?_⟩
        rw [watch_read.call_eq _ _ hcl]
        simp [hD.one, hN.one, hD.closed, hN.closed, hD.len, hN.len, hn1, q1, q2, failV]
      · by_cases q3 : l.foldl min x < 0
        · refine ⟨failV, .inr ⟨fun P => ?_, rfl⟩, fun m => ?_⟩
          · have : ∃ d ∈ x :: l, d < 0 := by
              rcases a3 with e | e
              · exact ⟨x, by simp, by omega⟩
              · exact ⟨_, List.mem_cons_of_mem _ e, q3⟩
            obtain ⟨d, hd, hneg⟩ := this
            have := (P.L.all d hd).1
            omega
          · rw [watch_read.call_eq _ _ hcl]
            simp [hD.one, hN.one, hD.closed, hN.closed, hD.len, hN.len, hn1, q1, q2, hmin, q3, failV]
        · by_cases q4 : 6 < l.foldl max x
          · refine ⟨failV, .inr ⟨fun P => ?_, rfl⟩, fun m => ?_⟩
            · have : ∃ d ∈ x :: l, 6 < d := by
                rcases b3 with e | e
                · exact ⟨x, by simp, by omega⟩
                · exact ⟨_, List.mem_cons_of_mem _ e, q4⟩
              obtain ⟨d, hd, hneg⟩ := this
              have := (P.L.all d hd).2
              omega
            · rw [watch_read.call_eq _ _ hcl]
              simp [hD.one, hN.one, hD.closed, hN.closed, hD.len, hN.len, hn1, q1, q2, hmin, hmax, q3, q4, failV]
          · -- within the limits
            have hd6 : ∀ d ∈ x :: l, 0 ≤ d ∧ d ≤ 6 := by
              intro d hd
              rcases List.mem_cons.1 hd with rfl | hd
              · omega
              · have := a2 d hd; have := b2 d hd; omega
            have hlen : (x :: l).length ≤ 4 := by simp; omega
            have hN24 : N.length ≤ 24 := by omega
            have key : ∀ m, denC prog ann 61 [.agg [vD, vN]] m =
                (watch_read.L0 (.fptr [vD, vN]) (.fptr [.int .i64 (x :: l).length]) (.sptr [.ptr 1 0 9]) (.fn 94 [] [.fptr [.int .i64 (x :: l).length], .fptr [vD, vN]]) vN (.int .i64 N.length) (.int .i64 0) (firstM (x :: l)) (.code watch_read.r13 :: .code watch_read.k2 :: tK)).bind fun r => some (r.1, m) := by
              clear a1 a2 a3 b1 b2 b3 hd6
              generalize l.foldl min x = lo at hmin q3
              generalize l.foldl max x = hi at hmax q4
              intro m
              rw [watch_read.call_eq _ _ hcl]
              rcases l with _ | ⟨b, _ | ⟨c, _ | ⟨d, _ | ⟨e, l⟩⟩⟩⟩
              all_goals first
                | (simp at hlen; done)
                | (simp [hD.one, hN.one, hD.closed, hN.closed, hD.len, hN.len, hn1, q1, q2, hmin, hmax, q3, q4, tK, sliceArr, bnds, bnd, copyA, hD.src, isStr_ints hD, Mem.set, firstM, pad, ints, splice]; done)
            have s := first_at hlen
            have L : ¬ Pre (x :: l) N → ReadRes (x :: l) N failV := fun h => .inr ⟨h, rfl⟩
            obtain ⟨n1, n2⟩ := notes_loop hD hN (by omega) (by omega) (.code watch_read.r13 :: .code watch_read.k2 :: tK) N.length 0 (firstM (x :: l)) (by omega) (by omega) s
            simp only [List.drop_zero, Int.cast_ofNat_Int, Int.ofNat_zero] at n1 n2
            cases hq : N.all (noteP (x :: l)) with
            | false =>
              refine ⟨failV, L fun P => ?_, fun m => ?_⟩
              · rw [List.all_eq_false] at hq
                obtain ⟨y, hy, h⟩ := hq
                exact h (noteP_iff.2 (P.notes y hy))
              · rw [key, n2 hq]; rfl
            | true =>
              have P : Pre (x :: l) N := by
                have hb : ∀ i, 0 ≤ nth (x :: l) i ∧ nth (x :: l) i ≤ 6 := by
                  intro i
                  rcases Nat.lt_or_ge i (x :: l).length with h | h
                  · have e : nth (x :: l) i = (x :: l)[i] := by simp [nth, List.getD, List.getElem?_eq_getElem h]
                    rw [e]; exact hd6 _ (List.getElem_mem h)
                  · have e : nth (x :: l) i = 0 := by simp only [nth, List.getD, List.getElem?_eq_none h]; rfl
                    rw [e]; omega
                have hb2 : ∀ y ∈ N, NoteIn (x :: l) y := fun y hy => noteP_iff.1 (List.all_eq_true.1 hq y hy)
                exact ⟨⟨by simp, hlen, fun i => (hb i).1, fun i => (hb i).2, hN24, fun y hy => ⟨(hb2 y hy).f0, (hb2 y hy).f1, (hb2 y hy).t0, (hb2 y hy).t1⟩⟩, hb2⟩
              obtain ⟨m1, s1, e1⟩ := n1 hq
              obtain ⟨K', i1, i2, i3, i4, i5, i6⟩ := read_tail hD hN P s1
              refine ⟨_, .inl ⟨P, K', i1, i2, i3, i4, i5, rfl⟩, fun m => ?_⟩
              rw [key, e1, i6]
              split <;> rfl
end Go.Proofs.Ytdkmepjedjclkaa

/-
  THE PLAIN LAW: the program's clocks and the reference's. Conditions: none.
-/
namespace Go.Proofs.Ytdkmepjedjclkaa
open Go.AM
open Go.Proofs.Try (prog)
set_option linter.all false
set_option maxRecDepth 10000

/-- A number of a clock. -/
abbrev kn (K : List (List (List Int))) (h i g : Nat) : Int := nth (cth (kth K h) i) g

theorem grows_le {K : List (List (List Int))} {h i : Nat} {c : List Int} (hc : c.length = 4) (h4 : (cth (kth K h) i).length = 4) (hg : grows K h i c = false) (g : Nat) : nth c g ≤ kn K h i g := by
  have e : zmax (cth (kth K h) i) c = cth (kth K h) i := by simpa [grows] using hg
  have := nth_zmax (a := cth (kth K h) i) (b := c) (by omega) g
  rw [e] at this
  show nth c g ≤ nth (cth (kth K h) i) g
  omega

structure Clocks (D : List Int) (N : List Note) (K : List (List (List Int))) : Prop where
  P : Pre D N
  I : Inv D N K
  C : Closed D N K
  F : ∀ h, Four (kth K h)

section
variable {D : List Int} {N : List Note} {K : List (List (List Int))}
theorem Clocks.in (c : Clocks D N K) {h i : Nat} (hh : h < D.length) (hi : (i : Int) < nth D h) : i < (kth K h).length := by
  have := c.I.rows h hh; omega
theorem Clocks.own (c : Clocks D N K) {h i : Nat} (hh : h < D.length) (hi : (i : Int) + 1 < nth D h) (g : Nat) : kn K h i g ≤ kn K h (i + 1) g := by
  have a := c.in hh (i := i) (by omega)
  have b := c.in hh (i := i + 1) (by omega)
  have := c.C.1 h (i + 1) hh (by omega) (by omega)
  exact grows_le (c.F h _ (cth_mem a)) (c.F h _ (cth_mem b)) (by simpa [okOwn] using this) g
theorem Clocks.mono (c : Clocks D N K) {h : Nat} (hh : h < D.length) (g : Nat) : ∀ (d i : Nat), ((i + d : Nat) : Int) < nth D h → kn K h i g ≤ kn K h (i + d) g
  | 0, i, _ => Int.le_refl _
  | d + 1, i, hi => by
    have := c.mono hh g d i (by omega)
    have := c.own hh (i := i + d) (by omega) g
    rw [show i + (d + 1) = i + d + 1 by omega]; omega
theorem Clocks.note (c : Clocks D N K) {x : Note} (hx : x ∈ N) (g : Nat) : kn K x.f.toNat (x.s.toNat - 1) g ≤ kn K x.t.toNat (x.r.toNat - 1) g := by
  have q := c.P.notes x hx
  obtain ⟨f0, f1, t0, t1, ne, s0, s1, r0, r1⟩ := q
  have a := c.in (h := x.f.toNat) (i := x.s.toNat - 1) (by omega) (by omega)
  have b := c.in (h := x.t.toNat) (i := x.r.toNat - 1) (by omega) (by omega)
  exact grows_le (c.F _ _ (cth_mem a)) (c.F _ _ (cth_mem b)) (c.C.2 x hx) g

/-! ### Valid: no two deeds have one clock -/
theorem nth_zero' (n i : Nat) : nth (List.replicate n 0) i = 0 := by
  simp only [nth, List.getD, List.getElem?_replicate]; split <;> rfl

/-- The order in which the deeds were done, as clocks. -/
structure Sched (N : List Note) (n : Nat) (x : List Int) (V : Nat → Nat → Nat → Int) : Prop where
  len : x.length = n
  pos : ∀ h, 0 ≤ nth x h
  self : ∀ (h i : Nat), (i : Int) < nth x h → V h i h = (i : Int) + 1
  lo : ∀ h i g, 0 ≤ V h i g
  hi : ∀ (h i g : Nat), (i : Int) < nth x h → V h i g ≤ nth x g
  own : ∀ (h i g : Nat), (i : Int) + 1 < nth x h → V h i g ≤ V h (i + 1) g
  sent : ∀ y ∈ N, y.r ≤ nth x y.t.toNat → y.s ≤ nth x y.f.toNat
  note : ∀ y ∈ N, y.r ≤ nth x y.t.toNat → ∀ g, V y.f.toNat (y.s.toNat - 1) g ≤ V y.t.toNat (y.r.toNat - 1) g
  diff : ∀ h g, h ≠ g → ∀ (i j : Nat), (i : Int) < nth x h → (j : Int) < nth x g → ¬ ((i : Int) + 1 ≤ V g j h ∧ (j : Int) + 1 ≤ V h i g)

theorem sched {D : List Int} {N : List Note} (P : Pre D N) {x : List Int} (r : Reach D N x) : ∃ V, Sched N D.length x V := by
  induction r with
  | zero =>
    refine ⟨fun _ _ _ => 0, by simp, ?_, ?_, fun _ _ _ => Int.le_refl _, ?_, ?_, ?_, ?_, ?_⟩
    · intro h; rw [nth_zero']; omega
    · intro h i hi; rw [nth_zero'] at hi; omega
    · intro h i g hi; rw [nth_zero'] at hi; omega
    · intro h i g hi; exact Int.le_refl _
    · intro y hy hr
      have := (P.notes y hy).r0
      rw [nth_zero'] at hr; omega
    · intro y hy hr; exact fun _ => Int.le_refl _
    · intro h g _ i j hi; rw [nth_zero'] at hi; omega
  | @step x h0 r s ih =>
    obtain ⟨V, v⟩ := ih
    obtain ⟨s1, s2, s3⟩ := s
    have hl := v.len
    have hx : ∀ g, nth (x.set h0 (nth x h0 + 1)) g = if h0 = g then nth x h0 + 1 else nth x g := by
      intro g
      rw [nth_set]
      by_cases e : h0 = g
      · simp [e, show g < x.length by omega]
      · simp [e]
    generalize hx' : x.set h0 (nth x h0 + 1) = x' at hx
    have hle : ∀ g, nth x g ≤ nth x' g := by
      intro g; rw [hx]; split
      · rename_i e; subst e; omega
      · omega
    have hl' : x'.length = D.length := by rw [← hx']; simpa using hl
    have p0 := v.pos h0
    obtain ⟨a, ha⟩ : ∃ a : Nat, nth x h0 = a := ⟨(nth x h0).toNat, by omega⟩
    let W : Nat → Nat → Nat → Int := fun h i g => if h = h0 ∧ i = a then nth x' g else V h i g
    have hW : ∀ h i g, W h i g = if h = h0 ∧ i = a then nth x' g else V h i g := fun _ _ _ => rfl
    have old : ∀ (h i : Nat), (i : Int) < nth x h → ¬ (h = h0 ∧ i = a) := by
      rintro h i hi ⟨rfl, rfl⟩; omega
    have new : ∀ (h i : Nat), (i : Int) < nth x' h → (i : Int) < nth x h ∨ (h = h0 ∧ i = a) := by
      intro h i hi
      rw [hx] at hi
      split at hi
      · rename_i e; subst e
        by_cases e2 : i = a
        · exact .inr ⟨rfl, e2⟩
        · left; omega
      · exact .inl hi
    have oldN : ∀ y ∈ N, y.r ≤ nth x' y.t.toNat → y.r ≤ nth x y.t.toNat ∨ (y.t.toNat = h0 ∧ y.r = (a : Int) + 1 ∧ y.s ≤ nth x y.f.toNat) := by
      intro y hy hr
      obtain ⟨f0, f1, t0, t1, ne, s0, s1, r0, r1⟩ := P.notes y hy
      rw [hx] at hr
      split at hr
      · rename_i e
        by_cases e2 : y.r ≤ nth x y.t.toNat
        · exact .inl e2
        · right
          rw [← e] at e2
          refine ⟨e.symm, by omega, ?_⟩
          simp only [readyL, List.all_eq_true] at s3
          have := s3 y hy
          have e3 : y.t = (h0 : Int) := by omega
          have e4 : y.r = nth x h0 + 1 := by omega
          simp [readyOk, e3, e4] at this
          exact this
      · exact .inl hr
    refine ⟨W, hl', ?_, ?_, ?_, ?_, ?_, ?_, ?_, ?_⟩
    · intro h; have := v.pos h; have := hle h; omega
    · intro h i hi
      rw [hW]
      rcases new h i hi with h1 | ⟨h1, h2⟩
      · rw [if_neg (old h i h1)]; exact v.self h i h1
      · rw [if_pos ⟨h1, h2⟩, h1, hx, if_pos rfl]; omega
    · intro h i g
      rw [hW]; split
      · have := v.pos g; have := hle g; omega
      · exact v.lo h i g
    · intro h i g hi
      rw [hW]
      rcases new h i hi with h1 | ⟨h1, h2⟩
      · rw [if_neg (old h i h1)]; have := v.hi h i g h1; have := hle g; omega
      · rw [if_pos ⟨h1, h2⟩]; exact Int.le_refl _
    · intro h i g hi
      have hi0 : (i : Int) < nth x h := by
        rcases new h (i + 1) (by omega) with h1 | ⟨h1, h2⟩
        · omega
        · subst h1; omega
      rw [hW, if_neg (old h i hi0), hW]
      split
      · have := v.hi h i g hi0; have := hle g; omega
      · rename_i e
        rcases new h (i + 1) (by omega) with h1 | h1
        · exact v.own h i g (by omega)
        · exact absurd h1 e
    · intro y hy hr
      have := hle y.f.toNat
      rcases oldN y hy hr with h1 | ⟨_, _, h1⟩
      · have := v.sent y hy h1; omega
      · omega
    · intro y hy hr g
      obtain ⟨f0, f1, t0, t1, ne, s0, s1, r0, r1⟩ := P.notes y hy
      rcases oldN y hy hr with h1 | ⟨h1, h2, h3⟩
      · have h4 := v.sent y hy h1
        rw [hW, if_neg (old _ _ (by omega)), hW, if_neg (old _ _ (by omega))]
        exact v.note y hy h1 g
      · rw [hW, if_neg (old _ _ (by omega)), hW, if_pos ⟨h1, by omega⟩]
        have := v.hi y.f.toNat (y.s.toNat - 1) g (by omega)
        have := hle g; omega
    · intro h g hne i j hi hj
      rw [hW, hW]
      rcases new h i hi with h1 | ⟨h1, h2⟩
      · rw [if_neg (old h i h1)]
        rcases new g j hj with k1 | ⟨k1, k2⟩
        · rw [if_neg (old g j k1)]; exact v.diff h g hne i j h1 k1
        · have := v.hi h i g h1
          subst k1; omega
      · rcases new g j hj with k1 | ⟨k1, k2⟩
        · rw [if_neg (old g j k1)]
          have := v.hi g j h k1
          subst h1; omega
        · omega

theorem good_of_reach (c : Clocks D N K) (r : Reach D N D) : badAll K D.length 0 = false := by
  obtain ⟨V, v⟩ := sched c.P r
  have S : Super D N V := by
    refine ⟨fun h i hi => by rw [v.self h i hi]; omega, v.lo, fun h i g hi => v.own h i g hi, fun x hx g => v.note x hx (c.P.notes x hx).r1 g⟩
  have low : ∀ (h i : Nat), h < D.length → (i : Int) < nth D h → ∀ g, kn K h i g ≤ V h i g := fun h i hh hi g => c.I.low V S h i (c.in hh hi) g
  have self : ∀ (h i : Nat), h < D.length → (i : Int) < nth D h → kn K h i h = (i : Int) + 1 := by
    intro h i hh hi
    have := low h i hh hi h
    rw [v.self h i hi] at this
    have := c.I.unit h i (c.in hh hi)
    show nth _ _ = _
    simp only [kn] at *; omega
  cases hb : badAll K D.length 0 with
  | false => rfl
  | true =>
    exfalso
    simp only [badAll, List.any_eq_true, List.mem_range'_1, badRow, Bool.or_eq_true, Bool.not_eq_true', decide_eq_false_iff_not, badIn, Bool.and_eq_true, decide_eq_true_eq] at hb
    obtain ⟨h, hh, i, hi, hb⟩ := hb
    have hh' : h < D.length := by omega
    have hrow := c.I.rows h hh'
    have hi' : (i : Int) < nth D h := by omega
    rcases hb with hb | ⟨g, hg, hne, hm⟩
    · exact hb (self h i hh' hi')
    · have hg' : g < D.length := by omega
      have hrow2 := c.I.rows g hg'
      obtain ⟨j, hj, e⟩ := List.getElem_of_mem hm
      have hj' : (j : Int) < nth D g := by omega
      have e2 : cth (kth K g) j = cth (kth K h) i := by rw [← e]; simp [cth, List.getD, List.getElem?_eq_getElem hj]
      refine v.diff h g (fun x => hne x.symm) i j hi' hj' ⟨?_, ?_⟩
      · have a := self h i hh' hi'
        have b := low g j hg' hj' h
        simp only [kn] at a b; rw [e2] at b; omega
      · have a := self g j hg' hj'
        have b := low h i hh' hi' g
        simp only [kn] at a b; rw [← e2] at b; omega

theorem stuck_exists (L : Lims D N) : ∀ (k : Nat) (x : List Int), Reach D N x → (D.sum - x.sum).toNat ≤ k → ∃ y, Reach D N y ∧ Stuck D N y := by
  intro k
  induction k with
  | zero =>
    intro x r hk
    refine ⟨x, r, fun h s => ?_⟩
    have r2 := Reach.step r s
    have b := r.box L.lo
    have b2 := r2.box L.lo
    have hs := s.1
    have := sum_set x h (nth x h + 1) (by have := b.len; omega)
    have := sum_le _ _ b2.len b2.hi
    omega
  | succ k ih =>
    intro x r hk
    by_cases hst : Stuck D N x
    · exact ⟨x, r, hst⟩
    · have : ∃ h, Step D N x h := Classical.byContradiction fun hh => hst fun h s => hh ⟨h, s⟩
      obtain ⟨h, s⟩ := this
      have b := r.box L.lo
      have hs := s.1
      have := sum_set x h (nth x h + 1) (by have := b.len; omega)
      exact ih _ (Reach.step r s) (by omega)

theorem sum_eq : ∀ (a b : List Int), a.length = b.length → (∀ i, nth a i ≤ nth b i) → b.sum ≤ a.sum → a = b
  | [], [], _, _, _ => rfl
  | x :: a, y :: b, hl, h, hs => by
    have h0 := h 0
    have ht : ∀ i, nth a i ≤ nth b i := fun i => by simpa [nth_cons1] using h (i + 1)
    have := sum_le a b (by simpa using hl) ht
    simp only [nth_cons0] at h0
    simp only [List.sum_cons] at hs
    have e1 : x = y := by omega
    rw [e1, sum_eq a b (by simpa using hl) ht (by omega)]

theorem reach_of_good (c : Clocks D N K) (hb : badAll K D.length 0 = false) : Reach D N D := by
  obtain ⟨y, r, st⟩ := stuck_exists c.P.L _ _ (Reach.zero (D := D) (N := N)) (Nat.le_refl _)
  have b := r.box c.P.L.lo
  have none : ∀ (k h : Nat), h < D.length → nth y h < nth D h → ((cth (kth K h) (nth y h).toNat).sum).toNat ≤ k → False := by
    intro k
    induction k with
    | zero => ?_
    | succ k ih => ?_
    all_goals
      intro h hh hlt hk
      have hny : readyL N y h = false := by
        cases e : readyL N y h with
        | false => rfl
        | true => exact absurd ⟨hh, hlt, e⟩ (st h)
      have p0 := b.lo h
      simp only [readyL, List.all_eq_false] at hny
      obtain ⟨x, hx, e⟩ := hny
      obtain ⟨f0, f1, t0, t1, ne, s0, s1, r0, r1⟩ := c.P.notes x hx
      have e' : x.t = (h : Int) ∧ x.r = nth y h + 1 ∧ nth y x.f.toNat < x.s := by
        simpa [readyOk] using e
      obtain ⟨e1, e2, e3⟩ := e'
      have pf := b.lo x.f.toNat
      have m1 := fun g => c.note hx g
      have m2 := fun g => c.mono (h := x.f.toNat) (by omega) g (x.s.toNat - 1 - (nth y x.f.toNat).toNat) (nth y x.f.toNat).toNat (by omega)
      have ei : (nth y x.f.toNat).toNat + (x.s.toNat - 1 - (nth y x.f.toNat).toNat) = x.s.toNat - 1 := by omega
      rw [ei] at m2
      have et : x.t.toNat = h := by omega
      have er : x.r.toNat - 1 = (nth y h).toNat := by omega
      rw [et, er] at m1
      have le : ∀ g, kn K x.f.toNat (nth y x.f.toNat).toNat g ≤ kn K h (nth y h).toNat g := fun g => Int.le_trans (m2 g) (m1 g)
      have in1 := c.in (h := h) (i := (nth y h).toNat) hh (by omega)
      have in2 := c.in (h := x.f.toNat) (i := (nth y x.f.toNat).toNat) (by omega) (by omega)
      have l1 := c.F h _ (cth_mem in1)
      have l2 := c.F x.f.toNat _ (cth_mem in2)
      have pos2 : ∀ g, 0 ≤ nth (cth (kth K x.f.toNat) (nth y x.f.toNat).toNat) g := c.I.pos _ _ in2
      have sle := sum_le _ _ (by rw [l2, l1]) le
      have s0' : 0 ≤ (cth (kth K x.f.toNat) (nth y x.f.toNat).toNat).sum := by
        have := sum_le [0, 0, 0, 0] _ (by rw [l2]; rfl) (fun i => by have := pos2 i; have z : nth [0, 0, 0, 0] i = 0 := nth_zero' 4 i; omega)
        simpa using this
      by_cases eq : (cth (kth K h) (nth y h).toNat).sum ≤ (cth (kth K x.f.toNat) (nth y x.f.toNat).toNat).sum
      · have e4 := sum_eq _ _ (by rw [l2, l1]) le eq
        rw [← Bool.not_eq_true] at hb
        apply hb
        simp only [badAll, List.any_eq_true, List.mem_range'_1, badRow, Bool.or_eq_true, Bool.not_eq_true', decide_eq_false_iff_not, badIn, Bool.and_eq_true, decide_eq_true_eq]
        refine ⟨h, by omega, (nth y h).toNat, by omega, .inr ⟨x.f.toNat, by omega, by omega, ?_⟩⟩
        rw [← e4]; exact cth_mem in2
      · first
          | exact ih x.f.toNat (by omega) (by omega) (by omega)
          | omega
  have e : y = D := ext_nth b.len fun i => by
    have h1 := b.hi i
    rcases Nat.lt_or_ge i D.length with h2 | h2
    · rcases Int.lt_or_eq_of_le h1 with h3 | h3
      · exact absurd (none _ i h2 h3 (Nat.le_refl _)) id
      · exact h3
    · rw [nth_out h2, nth_out (by have := b.len; omega)]
  rw [e] at r; exact r
end
end Go.Proofs.Ytdkmepjedjclkaa

/-
  THE PLAIN LAW (2): the program's consistent cuts are the reference's. Conditions: none.
-/
namespace Go.Proofs.Ytdkmepjedjclkaa
open Go.AM
open Go.Proofs.Try (prog)
set_option linter.all false
set_option maxRecDepth 10000

section
variable {D : List Int} {N : List Note} {K : List (List (List Int))}

/-- No clock of the cut's last deeds goes beyond the cut. -/
def In (K : List (List (List Int))) (c : List Int) (n h : Nat) : Prop := ∀ g, h ≤ g → g < n → 0 < nth c g → ∀ q, kn K g ((nth c g).toNat - 1) q ≤ nth c q

theorem forthR_ge (F : ∀ h, Four (kth K h)) {c : List Int} {n : Nat} (hi : ∀ h, h < n → nth c h ≤ (kth K h).length) : ∀ (k h : Nat) (out : List Int), h + k ≤ n → out.length = 4 → ∀ q, nth out q ≤ nth (forthR K c k h out) q
  | 0, _, _, _, ho, _ => Int.le_refl _
  | k + 1, h, out, hk, ho, q => by
    simp only [forthR]
    by_cases h2 : 0 < nth c h
    · have h3 := hi h (by omega)
      have h4 : (clk K h ((nth c h).toNat - 1)).length = 4 := F h _ (cth_mem (by omega))
      rw [if_pos h2]
      have h5 := forthR_ge F hi k (h + 1) (zmax out (clk K h ((nth c h).toNat - 1))) (by omega) (zmax_len ho h4) q
      rw [nth_zmax (by omega)] at h5
      omega
    · rw [if_neg h2]; exact forthR_ge F hi k (h + 1) _ (by omega) ho q

theorem forthR_iff (F : ∀ h, Four (kth K h)) {c : List Int} {n : Nat} (hc : c.length = 4) (hi : ∀ h, h < n → nth c h ≤ (kth K h).length) : ∀ (k h : Nat), h + k = n → (forthR K c k h c = c ↔ In K c n h)
  | 0, h, hk => ⟨fun _ g h1 h2 => by omega, fun _ => rfl⟩
  | k + 1, h, hk => by
    simp only [forthR]
    have ih := forthR_iff F hc hi k (h + 1) (by omega)
    by_cases h2 : 0 < nth c h
    · have h3 := hi h (by omega)
      have h4 : (clk K h ((nth c h).toNat - 1)).length = 4 := F h _ (cth_mem (by omega))
      rw [if_pos h2]
      have hz := fun q => nth_zmax (a := c) (b := clk K h ((nth c h).toNat - 1)) (by omega) q
      have hzl : (zmax c (clk K h ((nth c h).toNat - 1))).length = 4 := zmax_len hc h4
      constructor
      · intro e
        have ge := forthR_ge F hi k (h + 1) _ (by omega) hzl
        rw [e] at ge
        have ez : zmax c (clk K h ((nth c h).toNat - 1)) = c := ext_nth (by omega) fun q => by have := ge q; have := hz q; omega
        rw [ez] at e
        intro g g1 g2 g3 q
        rcases Nat.lt_or_ge h g with h5 | h5
        · exact ih.1 e g h5 g2 g3 q
        · have : g = h := by omega
          subst this
          have := hz q; rw [ez] at this
          show nth (clk K g _) q ≤ _
          omega
      · intro a
        have ez : zmax c (clk K h ((nth c h).toNat - 1)) = c := ext_nth (by omega) fun q => by
          have := a h (Nat.le_refl _) (by omega) h2 q
          rw [hz]
          show max (nth c q) (kn K h _ q) = _
          omega
        rw [ez]
        exact ih.2 fun g g1 g2 => a g (by omega) g2
    · rw [if_neg h2, ih]
      constructor
      · intro a g g1 g2 g3
        rcases Nat.lt_or_ge h g with h5 | h5
        · exact a g h5 g2 g3
        · have : g = h := by omega
          subst this; exact absurd g3 h2
      · intro a g g1 g2; exact a g (by omega) g2

theorem nth_take {l : List Int} {n i : Nat} (h : i < n) : nth (l.take n) i = nth l i := by simp [nth, List.getD, List.getElem?_take, h]

theorem conR_iff {c : List Int} : conR N c = true ↔ ∀ x ∈ N, x.r ≤ nth c x.t.toNat → x.s ≤ nth c x.f.toNat := by
  simp only [conR, List.all_eq_true, noteOk]
  constructor
  · intro h x hx hr
    have := h x hx
    simp [hr] at this; exact this
  · intro h x hx
    by_cases q : x.r ≤ nth c x.t.toNat
    · have := h x hx q
      simp [q]; omega
    · simp [q]

theorem in_iff (k : Clocks D N K) {c : List Int} (hc : IsCut D.length (pad D) c) : forthL K D.length c = c ↔ conR N (c.take D.length) = true := by
  have hD : ∀ h, nth c h ≤ nth D h := fun h => by have := hc.hi h; rw [nth_pad] at this; exact this
  have hi : ∀ h, h < D.length → nth c h ≤ (kth K h).length := fun h hh => by rw [k.I.rows h hh]; exact hD h
  rw [forthL, forthR_iff k.F hc.len hi _ 0 (by omega), conR_iff]
  constructor
  · intro a x hx hr
    obtain ⟨f0, f1, t0, t1, ne, s0, s1, r0, r1⟩ := k.P.notes x hx
    rw [nth_take (by omega)] at hr ⊢
    have h1 := a x.t.toNat (by omega) (by omega) (by omega) x.f.toNat
    have h2 := k.mono (h := x.t.toNat) (by omega) x.f.toNat ((nth c x.t.toNat).toNat - x.r.toNat) (x.r.toNat - 1) (by have := hD x.t.toNat; omega)
    rw [show x.r.toNat - 1 + ((nth c x.t.toNat).toNat - x.r.toNat) = (nth c x.t.toNat).toNat - 1 by omega] at h2
    have h3 := k.note hx x.f.toNat
    have h4 := k.I.unit x.f.toNat (x.s.toNat - 1) (k.in (by omega) (by omega))
    have h4' : ((x.s.toNat - 1 : Nat) : Int) + 1 ≤ kn K x.f.toNat (x.s.toNat - 1) x.f.toNat := h4
    omega
  · intro a g _ hg hpos q
    let V : Nat → Nat → Nat → Int := fun h i q => if (i : Int) < nth c h then nth c q else nth D q
    have hV : ∀ h i q, V h i q = if (i : Int) < nth c h then nth c q else nth D q := fun _ _ _ => rfl
    have S : Super D N V := by
      refine ⟨fun h i h1 => ?_, fun h i g => ?_, fun h i g h1 => ?_, fun x hx g => ?_⟩
      · rw [hV]; split <;> omega
      · rw [hV]; split
        · exact hc.lo g
        · exact k.P.L.lo g
      · rw [hV, hV]
        have := hD g
        split <;> split <;> omega
      · obtain ⟨f0, f1, t0, t1, ne, s0, s1, r0, r1⟩ := k.P.notes x hx
        have h1 := a x hx
        rw [nth_take (by omega), nth_take (by omega)] at h1
        rw [hV, hV]
        have := hD g
        split <;> split <;> omega
    have h1 := k.I.low V S g ((nth c g).toNat - 1) (k.in hg (by have := hD g; omega)) q
    rw [hV, if_pos (by omega)] at h1
    exact h1

/-! ### All cuts -/
theorem enumR_take {D4 : List Int} : ∀ (k h : Nat) (c : List Int), ∀ x ∈ enumR D4 k h c, x.take h = c.take h ∧ x.length = c.length
  | 0, h, c, x, hx => by simp [enumR] at hx; subst hx; exact ⟨rfl, rfl⟩
  | k + 1, h, c, x, hx => by
    simp only [enumR, List.mem_flatMap, List.mem_range] at hx
    obtain ⟨i, hi, hx⟩ := hx
    obtain ⟨a, b⟩ := enumR_take k (h + 1) _ x hx
    refine ⟨?_, by simpa using b⟩
    have := congrArg (List.take h) a
    rw [List.take_take, List.take_take, Nat.min_eq_left (by omega)] at this
    rw [this, List.take_set_of_le (Nat.le_refl h)]

theorem enumR_tuples {D4 : List Int} : ∀ (E : List Int) (h : Nat) (c : List Int), h + E.length ≤ c.length → (∀ i, i < E.length → nth D4 (h + i) = nth E i) →
    (enumR D4 E.length h c).map (fun x => (x.drop h).take E.length) = tuplesL E
  | [], h, c, _, _ => by simp [enumR, tuplesL]
  | d :: E, h, c, hl, hE => by
    have h0 := hE 0 (by simp)
    simp only [Nat.add_zero, nth_cons0] at h0
    simp only [List.length_cons, enumR, tuplesL, List.map_flatMap, h0]
    congr 1
    funext i
    have ih := enumR_tuples E (h + 1) (c.set h (i : Int)) (by simp at hl ⊢; omega) (fun j hj => by have := hE (j + 1) (by simpa using hj); rw [nth_cons1] at this; rw [← this]; congr 1; omega)
    rw [← ih, List.map_map]
    refine List.map_congr_left fun x hx => ?_
    obtain ⟨a, b⟩ := enumR_take _ _ _ x hx
    have hx : h < x.length := by rw [b]; simp at hl ⊢; omega
    have e : x[h] = (i : Int) := by
      have := congrArg (fun l : List Int => l[h]?) a
      simp only [List.getElem?_take, Nat.lt_succ_self, if_true] at this
      rw [List.getElem?_eq_getElem hx] at this
      simp at hl
      rw [List.getElem?_set_self (by omega)] at this
      simpa using this
    simp only [Function.comp]
    rw [List.drop_eq_getElem_cons hx, List.take_succ_cons, e]

theorem allL_eq (k : Clocks D N K) : (allL (pad D) K D.length).map (fun c => c.take D.length) = cutsL D N := by
  have h4 := k.P.L.n4
  have e := enumR_tuples (D4 := pad D) D 0 [0, 0, 0, 0] (by simp; omega) (fun i _ => by rw [Nat.zero_add, nth_pad])
  simp only [List.drop_zero] at e
  rw [cutsL, ← e, allL, List.filter_map]
  congr 1
  refine List.filter_congr fun c hc => ?_
  have hz : IsCut D.length (pad D) [0, 0, 0, 0] := ⟨rfl, fun h => by have : nth [0, 0, 0, 0] h = 0 := nth_zero' 4 h; omega, fun h => by have : nth [0, 0, 0, 0] h = 0 := nth_zero' 4 h; have := k.P.L.lo h; rw [nth_pad]; omega⟩
  have hcut := enumR_cut (D := pad D) (fun h => by rw [nth_pad]; exact k.P.L.lo h) _ _ _ hz c hc
  have := in_iff k hcut
  simp only [Function.comp]
  cases hq : conR N (c.take D.length) with
  | true => simp [this.2 hq]
  | false => simp; intro h; rw [this.1 h] at hq; cases hq
end
end Go.Proofs.Ytdkmepjedjclkaa

/-
  BODIES OF FUNCTIONS OF THE PROGRAM AS SMALL OPERATIONS (written by gen.py; checked by the kernel against the program). Conditions: none.
-/
namespace Go.Proofs.Ytdkmepjedjclkaa
open Go.AM
open Go.Proofs.Try (prog)
set_option maxRecDepth 100000
set_option linter.all false



end Go.Proofs.Ytdkmepjedjclkaa

/-
  At, AND WHAT THE LAWS CALL. Conditions: none.
-/
namespace Go.Proofs.Ytdkmepjedjclkaa
open Go.AM
open Go.Proofs.Try (prog)
set_option linter.all false
set_option maxRecDepth 100000

/-! ### A story that was read -/
theorem okV_story {D : List Int} {N : List Note} {K : List (List (List Int))} (P : Pre D N) (I : Inv D N K) (h4 : K.length = 4) (F : ∀ h, Four (kth K h)) (few : ∀ h, (kth K h).length ≤ 6) :
    IsStory (.fptr (.int .i64 D.length :: (ints (pad D) ++ vals4 K))) D.length (pad D) K := by
  have hs : ∀ h, IsSl ints (valK K h) (kth K h) := fun h => by
    by_cases e : kth K h = []
    · exact .inl ⟨by simp [valK, e], e⟩
    · exact .inr ⟨false, by simp [valK, e]⟩
  refine ⟨⟨vals4 K, rfl, rfl, fun h hh => ?_⟩, pad_len P.L.n4, P.L.n4, P.L.n1, F, few, fun h hh => by rw [nth_pad]; exact I.rows h hh, fun h hh => by rw [nth_pad]; exact nth_out hh, fun h => by rw [nth_pad]; exact P.L.lo h⟩
  match h, hh with
  | 0, _ => exact hs 0
  | 1, _ => exact hs 1
  | 2, _ => exact hs 2
  | 3, _ => exact hs 3

theorem IsStory.closed {v : AV} {n : Nat} {D : List Int} {K : List (List (List Int))} (s : IsStory v n D K) : v.closed = true := by obtain ⟨V, rfl, _⟩ := s.V; rfl
theorem IsStory.one {v : AV} {n : Nat} {D : List Int} {K : List (List (List Int))} (s : IsStory v n D K) : v.one = true := by obtain ⟨V, rfl, _⟩ := s.V; rfl
/-- A pure function's answer does not hang on the memory. -/
theorem pure_any {f : Nat} {a : List AV} {X : Option Res} {v : AV} {m0 : Mem} (h : ∀ m, denC prog ann f a m = X.bind fun r => some (r.1, m)) (e : denC prog ann f a m0 = some (v, m0)) : ∀ m, denC prog ann f a m = some (v, m) := by
  intro m
  rw [h] at e ⊢
  obtain ⟨q, h3, h4⟩ := Option.bind_eq_some_iff.1 e
  rw [h3]
  simp at h4 ⊢
  exact h4
theorem ValidS.pre {D : List Int} {N : List Note} (v : ValidS D N) : Pre D N := ⟨v.lims, v.notes⟩
theorem Pre.valid {D : List Int} {N : List Note} (P : Pre D N) (r : Reach D N D) : ValidS D N := ⟨P.L.n1, P.L.n4, P.L.lo, P.L.hi, P.L.N24, P.notes, r⟩

/-- What read hands back: a story exactly where the tale is valid. -/
inductive IsRead (D : List Int) (N : List Note) : AV → Prop where
  | ok {sv : AV} {K : List (List (List Int))} (v : ValidS D N) (k : Clocks D N K) (s : IsStory sv D.length (pad D) K) : IsRead D N (.tup [sv, .bool true])
  | no (h : ¬ ValidS D N) : IsRead D N (.tup [.nilp, .bool false])

theorem readV_spec {v : AV} {D : List Int} {N : List Note} (hs : IsTale v D N) (hl : D.length < 100000) (hn : N.length < 100000) : ∃ r, IsRead D N r ∧ ∀ m, denC prog ann 61 [v] m = some (r, m) := by
  obtain ⟨r, h, e⟩ := read_spec hs hl hn
  refine ⟨r, ?_, e⟩
  rcases h with ⟨P, K, I, C, h4, F, few, rfl⟩ | ⟨h, rfl⟩
  · have k : Clocks D N K := ⟨P, I, C, F⟩
    cases hb : badAll K D.length 0 with
    | true =>
      refine .no fun v => ?_
      rw [good_of_reach k v.all] at hb; cases hb
    | false => exact .ok (P.valid (reach_of_good k hb)) k (okV_story P I h4 F few)
  · exact .no fun v => h v.pre

def isT (r : Option Res) : Bool := match r with
  | some (.bool b, _) => b
  | _ => false
theorem lives_run : isT (callN prog ann 3000 22 [] Mem.empty) = true := by kernel_rfl
@[simp] theorem lives_pure : (ann 22).pure = true := by kernel_rfl
theorem f22_at : prog.funcs[22]? = some Try.f22 := by kernel_rfl
theorem f22_some : Try.f22.body.isSome = true := by kernel_rfl
theorem lives_spec (m : Mem) : denC prog ann 22 [] m = some (.bool true, m) := by
  have hb : Try.f22.body = some (Try.f22.body.getD .skip) := by
    cases h : Try.f22.body with
    | none => have := f22_some; rw [h] at this; cases this
    | some b => rfl
  have e := fun m => denC_pure (P := prog) (A := ann) (f := 22) f22_at hb (by kernel_rfl) (by kernel_rfl) (show closedL [] = true from rfl) m
  have h := lives_run
  cases hr : callN prog ann 3000 22 [] Mem.empty with
  | none => rw [hr] at h; cases h
  | some r =>
    rw [hr] at h
    have h2 := denC_of_callN hr
    rw [e] at h2 ⊢
    obtain ⟨q, h3, h4⟩ := Option.bind_eq_some_iff.1 h2
    rw [h3]
    simp at h4
    subst h4
    match q, h with
    | (.bool true, _), _ => rfl

/-! ### At -/
/-- What At hands back. -/
structure AtRes (D : List Int) (N : List Note) (rank : Int) (v : AV) (e : Int) : Prop where
  bad : ¬ ValidS D N → v = .nils ∧ e = 1
  none : ValidS D N → (rank < 0 ∨ (cutsL D N).length ≤ rank) → v = .nils ∧ e = 5
  ok : ValidS D N → 0 ≤ rank → rank < (cutsL D N).length → IsInts v ((cutsL D N).getD rank.toNat []) ∧ e = 0

theorem at_spec {v : AV} {D : List Int} {N : List Note} (hs : IsTale v D N) (hl : D.length < 100000) (hn : N.length < 100000) (rank : Int) :
    ∃ r e, AtRes D N rank r e ∧ ∀ m, denC prog ann 18 [v, .int .i64 rank] m = some (.tup [r, .int .i64 e], m) := by
  have hs' := hs
  obtain ⟨r, hr, er⟩ := readV_spec hs hl hn
  obtain ⟨vD, vN, rfl, h1, h2⟩ := hs.ex
  have hcl : closedL [.agg [vD, vN], .int .i64 rank] = true := by simp [h1.closed, h2.closed]
  cases hr with
  | no h =>
    refine ⟨.nils, 1, ⟨fun _ => ⟨rfl, rfl⟩, fun v => absurd v h, fun v => absurd v h⟩, fun m => ?_⟩
    rw [watch_At.call_eq _ _ _ hcl]
    simp [h1.one, h2.one, h1.closed, h2.closed, er]
  | @ok sv K val k s =>
    obtain ⟨av, ea, ia⟩ : ∃ av, (∀ m, denC prog ann 62 [sv] m = some (av, m)) ∧ IsSl ints av (allL (pad D) K D.length) := by
      obtain ⟨av, ea, ia⟩ := all_spec s Mem.empty
      exact ⟨av, pure_any (fun m => watch_story_all.call_eq _ m (by simp [s.closed])) ea, ia⟩
    have hlen : (cutsL D N).length = (allL (pad D) K D.length).length := by rw [← allL_eq k, List.length_map]
    by_cases q1 : rank < 0
    · refine ⟨.nils, 5, ⟨fun h => absurd val h, fun _ _ => ⟨rfl, rfl⟩, fun _ h => by omega⟩, fun m => ?_⟩
      rw [watch_At.call_eq _ _ _ hcl]
      simp [h1.one, h2.one, h1.closed, h2.closed, er, ea, s.closed, s.one, q1, ia.len]
    · by_cases q2 : ((allL (pad D) K D.length).length : Int) ≤ rank
      · refine ⟨.nils, 5, ⟨fun h => absurd val h, fun _ _ => ⟨rfl, rfl⟩, fun _ _ h => by omega⟩, fun m => ?_⟩
        rw [watch_At.call_eq _ _ _ hcl]
        simp [h1.one, h2.one, h1.closed, h2.closed, er, ea, s.closed, s.one, q1, q2, ia.len]
      · obtain ⟨i, rfl⟩ : ∃ i : Nat, rank = i := ⟨rank.toNat, by omega⟩
        have hi : i < (allL (pad D) K D.length).length := by omega
        have h4 := allL_four s
        obtain ⟨lv, el, il⟩ : ∃ lv, (∀ m, denC prog ann 63 [sv, .agg (ints (cth (allL (pad D) K D.length) i))] m = some (lv, m)) ∧ IsInts lv ((cth (allL (pad D) K D.length) i).take D.length) := by
          obtain ⟨lv, el, il⟩ := list_spec s (h4 _ (cth_mem hi)) Mem.empty
          exact ⟨lv, pure_any (fun m => watch_story_list.call_eq _ _ m (by simp [s.closed])) el, il⟩
        refine ⟨lv, 0, ⟨fun h => absurd val h, fun _ h => by omega, fun _ _ _ => ⟨?_, rfl⟩⟩, fun m => ?_⟩
        · have : (cutsL D N).getD i [] = (cth (allL (pad D) K D.length) i).take D.length := by
            rw [← allL_eq k, List.getD, List.getElem?_map, cth_eq hi]; rfl
          show IsInts lv ((cutsL D N).getD i [])
          rw [this]; exact il
        · rw [watch_At.call_eq _ _ _ hcl]
          simp [h1.one, h2.one, h1.closed, h2.closed, il.deep, er, ea, s.closed, s.one, q1, q2, ia.len, ia.idx h4.cells hi, load_cut h4 hi, el, hi]
end Go.Proofs.Ytdkmepjedjclkaa

/-
  BODIES OF FUNCTIONS OF THE PROGRAM AS SMALL OPERATIONS (written by gen.py; checked by the kernel against the program). Conditions: none.
-/
namespace Go.Proofs.Ytdkmepjedjclkaa
open Go.AM
open Go.Proofs.Try (prog)
set_option maxRecDepth 100000
set_option linter.all false





namespace watch_story_cutOf
/-- (*pommel/watch.story).cutOf -/
noncomputable def b : Code := (Try.f71.body).getD .skip
theorem hf : prog.funcs[71]? = some Try.f71 := by kernel_rfl
noncomputable def r0 : Code := findReg b 0
noncomputable def r1 : Code := findReg b 1
noncomputable def r2 : Code := findReg b 2
noncomputable def i0 : Code := findCond b 0
noncomputable def i0t : Code := thenOf i0
noncomputable def i0e : Code := elseOf i0
noncomputable def r3 : Code := findReg b 3
noncomputable def r4 : Code := findReg b 4
noncomputable def r5 : Code := findReg b 5
noncomputable def k0 : Code := findBlk b 0
noncomputable def l0 : Code := loopOf k0
noncomputable def L0 (x0 x4 x6 x20 x21 : AV) (m : Mem) (K : List Item) : Option Res := den prog ann 71 (.code l0 :: .inLoop l0 :: .inBlock 0 :: K) ⟨[(0, x0), (4, x4), (6, x6), (20, x20), (21, x21)], 40, m⟩
noncomputable def r6 : Code := findReg b 6
noncomputable def i1 : Code := findCond b 1
noncomputable def i1t : Code := thenOf i1
noncomputable def i1e : Code := elseOf i1
noncomputable def k1 : Code := findBlk b 1
noncomputable def r7 : Code := findReg b 7
noncomputable def r8 : Code := findReg b 8
noncomputable def i2 : Code := findCond b 2
noncomputable def i2t : Code := thenOf i2
noncomputable def i2e : Code := elseOf i2
noncomputable def r9 : Code := findReg b 9
noncomputable def r10 : Code := findReg b 10
noncomputable def r11 : Code := findReg b 11
theorem b_eq (K : List Item) (s : St) : den prog ann 71 (.code b :: K) s = den prog ann 71 (.code r0 :: .code r1 :: .code r2 :: .code i0 :: .code r4 :: .code r5 :: .code k0 :: .code r11 :: .code .ret :: K) s := den_flat hf (l := [r0, r1, r2, i0, r4, r5, k0, r11, .ret]) (by kernel_rfl) K s
theorem r0_eq (K : List Item) (s : St) : den prog ann 71 (.code r0 :: K) s = mreg prog ann 71 none [] none [] [
    ⟨some 4, none, .w false none fun s => newPtr s.m [.int .i64 0, .int .i64 0, .int .i64 0, .int .i64 0]⟩,
    ⟨some 5, none, .v fun s => some (.bool false)⟩] K s := (den_reg hf _ K s).trans (by kernel_rfl)
theorem r1_eq (K : List Item) (s : St) : den prog ann 71 (.code r1 :: K) s = mreg prog ann 71 none [] none [] [
    ⟨some 6, none, .w false none fun s => newPtr s.m [.int .i64 0, .int .i64 0, .int .i64 0, .int .i64 0]⟩] K s := (den_reg hf _ K s).trans (by kernel_rfl)
theorem r2_eq (K : List Item) (s : St) : den prog ann 71 (.code r2 :: K) s = mreg prog ann 71 none [] none [] [
    ⟨some 9, none, .v fun s => some (s.get 1)⟩,
    ⟨some 10, none, .v fun s => lenSl (s.get 9)⟩,
    ⟨some 11, none, .v fun s => some (s.get 0)⟩,
    ⟨some 12, none, .v fun s => nilA (s.get 11)⟩,
    ⟨some 13, none, .v fun s => fieldA 0 (s.get 12)⟩,
    ⟨some 14, none, .v fun s => loadF false 1 (s.get 13)⟩,
    ⟨some 15, none, .v fun s => binA prog .neq 3 (s.get 10) (s.get 14)⟩] K s := (den_reg hf _ K s).trans (by kernel_rfl)
theorem i0_eq (K : List Item) (s : St) : den prog ann 71 (.code i0 :: K) s = ifV prog ann 71 15 i0t i0e K s (s.get 15) := den_if hf (by kernel_rfl) K s
theorem i0t_eq (K : List Item) (s : St) : den prog ann 71 (.code i0t :: K) s = den prog ann 71 (.code r3 :: .code .ret :: K) s := den_flat hf (l := [r3, .ret]) (by kernel_rfl) K s
theorem r3_eq (K : List Item) (s : St) : den prog ann 71 (.code r3 :: K) s = mreg prog ann 71 none [] none [] [
    ⟨some 16, none, .v fun s => loadA true 4 s.m (s.get 6)⟩,
    ⟨none, none, .w false none fun s => stA true 4 s.m (s.get 4) (s.get 16)⟩,
    ⟨some 5, none, .v fun s => some (.bool false)⟩] K s := (den_reg hf _ K s).trans (by kernel_rfl)
theorem i0e_eq (K : List Item) (s : St) : den prog ann 71 (.code i0e :: K) s = den prog ann 71 (K) s := den_flat hf (l := []) (by kernel_rfl) K s
theorem r4_eq (K : List Item) (s : St) : den prog ann 71 (.code r4 :: K) s = mreg prog ann 71 none [] none [] [
    ⟨some 17, none, .v fun s => sliceArr 4 1 (s.get 6) none none⟩,
    ⟨some 18, none, .v fun s => some (s.get 1)⟩,
    ⟨some 19, none, .w false none fun s => copyA 1 s.m (s.get 17) (s.get 18)⟩] K s := (den_reg hf _ K s).trans (by kernel_rfl)
theorem r5_eq (K : List Item) (s : St) : den prog ann 71 (.code r5 :: K) s = mreg prog ann 71 none [] none [] [
    ⟨some 20, none, .v fun s => loadA true 4 s.m (s.get 6)⟩,
    ⟨some 21, none, .v fun s => some (.int .i64 0)⟩] K s := (den_reg hf _ K s).trans (by kernel_rfl)
theorem k0_eq (K : List Item) (t : List (Nat × AV)) (m : Mem) : den prog ann 71 (.code k0 :: K) ⟨t, 40, m⟩ = L0 (get t 0) (get t 4) (get t 6) (get t 20) (get t 21) m K := den_loop_enter hf (b := l0) (id := 6) (l := [0, 4, 6, 20, 21]) (by kernel_rfl) (by kernel_rfl) (by kernel_rfl) K _
theorem l0_eq (K : List Item) (t : List (Nat × AV)) (m : Mem) : den prog ann 71 (.inLoop l0 :: .inBlock 0 :: K) ⟨t, 40, m⟩ = L0 (get t 0) (get t 4) (get t 6) (get t 20) (get t 21) m K := den_loop_again hf (id := 6) (l := [0, 4, 6, 20, 21]) (by kernel_rfl) (by kernel_rfl) (.inBlock 0 :: K) _
theorem L0_eq (x0 x4 x6 x20 x21 : AV) (m : Mem) (K : List Item) : L0 x0 x4 x6 x20 x21 m K = den prog ann 71 (.code r6 :: .code i1 :: .code k1 :: .code r10 :: .inLoop l0 :: .inBlock 0 :: K) ⟨[(0, x0), (4, x4), (6, x6), (20, x20), (21, x21)], 40, m⟩ := den_flat hf (l := [r6, i1, k1, r10]) (by kernel_rfl) _ _
theorem r6_eq (K : List Item) (s : St) : den prog ann 71 (.code r6 :: K) s = mreg prog ann 71 (some [0, 4, 6, 20, 21]) [] none [] [
    ⟨some 22, none, .v fun s => binA prog .lss 3 (s.get 21) (.int .i64 4)⟩] K s := (den_reg hf _ K s).trans (by kernel_rfl)
theorem i1_eq (K : List Item) (s : St) : den prog ann 71 (.code i1 :: K) s = ifV prog ann 71 22 i1t i1e K s (s.get 22) := den_if hf (by kernel_rfl) K s
theorem i1t_eq (K : List Item) (s : St) : den prog ann 71 (.code i1t :: K) s = den prog ann 71 (K) s := den_flat hf (l := []) (by kernel_rfl) K s
theorem i1e_eq (K : List Item) (s : St) : den prog ann 71 (.code i1e :: K) s = den prog ann 71 (.code (.exit 0) :: K) s := den_flat hf (l := [(.exit 0)]) (by kernel_rfl) K s
theorem k1_eq (K : List Item) (s : St) : den prog ann 71 (.code k1 :: K) s = den prog ann 71 (.code r7 :: .code r8 :: .code i2 :: .inBlock 1 :: K) s := den_blk hf (b := blkOf k1) (l := [r7, r8, i2]) (by kernel_rfl) (by kernel_rfl) K s
theorem r7_eq (K : List Item) (s : St) : den prog ann 71 (.code r7 :: K) s = mreg prog ann 71 none [] none [] [
    ⟨some 23, none, .v fun s => some (s.get 21)⟩,
    ⟨some 24, none, .v fun s => idxAgg 4 1 false (s.get 20) (s.get 21)⟩,
    ⟨some 7, none, .v fun s => some (s.get 23)⟩,
    ⟨some 8, none, .v fun s => some (s.get 24)⟩] K s := (den_reg hf _ K s).trans (by kernel_rfl)
theorem r8_eq (K : List Item) (s : St) : den prog ann 71 (.code r8 :: K) s = mreg prog ann 71 none [] none [] [
    ⟨some 25, none, .v fun s => some (s.get 8)⟩,
    ⟨some 26, none, .v fun s => binA prog .lss 3 (s.get 25) (.int .i64 0)⟩,
    ⟨some 27, none, .v fun s => some (s.get 26)⟩,
    ⟨some 28, some (27, false), .v fun s => some (s.get 8)⟩,
    ⟨some 29, some (27, false), .v fun s => some (s.get 0)⟩,
    ⟨some 30, some (27, false), .v fun s => some (s.get 7)⟩,
    ⟨some 31, some (27, false), .v fun s => nilA (s.get 29)⟩,
    ⟨some 32, some (27, false), .v fun s => fieldA 1 (s.get 31)⟩,
    ⟨some 33, some (27, false), .v fun s => idxArr 4 1 (s.get 32) (s.get 30)⟩,
    ⟨some 34, some (27, false), .v fun s => loadF false 1 (s.get 33)⟩,
    ⟨some 35, some (27, false), .v fun s => binA prog .gtr 3 (s.get 28) (s.get 34)⟩,
    ⟨some 36, none, .v fun s => pickA (s.get 27) (.bool true) (s.get 35)⟩] K s := (den_reg hf _ K s).trans (by kernel_rfl)
theorem i2_eq (K : List Item) (s : St) : den prog ann 71 (.code i2 :: K) s = ifV prog ann 71 36 i2t i2e K s (s.get 36) := den_if hf (by kernel_rfl) K s
theorem i2t_eq (K : List Item) (s : St) : den prog ann 71 (.code i2t :: K) s = den prog ann 71 (.code r9 :: .code .ret :: K) s := den_flat hf (l := [r9, .ret]) (by kernel_rfl) K s
theorem r9_eq (K : List Item) (s : St) : den prog ann 71 (.code r9 :: K) s = mreg prog ann 71 none [] none [] [
    ⟨some 37, none, .v fun s => loadA true 4 s.m (s.get 6)⟩,
    ⟨none, none, .w false none fun s => stA true 4 s.m (s.get 4) (s.get 37)⟩,
    ⟨some 5, none, .v fun s => some (.bool false)⟩] K s := (den_reg hf _ K s).trans (by kernel_rfl)
theorem i2e_eq (K : List Item) (s : St) : den prog ann 71 (.code i2e :: K) s = den prog ann 71 (K) s := den_flat hf (l := []) (by kernel_rfl) K s
theorem r10_eq (K : List Item) (s : St) : den prog ann 71 (.code r10 :: K) s = mreg prog ann 71 (some [0, 4, 6, 20, 21]) [] none [] [
    ⟨some 38, none, .v fun s => binA prog .add 3 (s.get 21) (.int .i64 1)⟩,
    ⟨some 21, none, .v fun s => some (s.get 38)⟩] K s := (den_reg hf _ K s).trans (by kernel_rfl)
theorem r11_eq (K : List Item) (s : St) : den prog ann 71 (.code r11 :: K) s = mreg prog ann 71 (some [4, 6]) [] none [] [
    ⟨some 39, none, .v fun s => loadA true 4 s.m (s.get 6)⟩,
    ⟨none, none, .w false none fun s => stA true 4 s.m (s.get 4) (s.get 39)⟩,
    ⟨some 5, none, .v fun s => some (.bool true)⟩] K s := (den_reg hf _ K s).trans (by kernel_rfl)
theorem ret_eq (K : List Item) (s : St) : den prog ann 71 (.code .ret :: K) s = finM true [fun s => loadA true 4 s.m (s.get 4), fun s => some (s.get 5)] s := (den_ret hf K s).trans (by kernel_rfl)
theorem nil_eq (s : St) : den prog ann 71 [] s = finM true [fun s => loadA true 4 s.m (s.get 4), fun s => some (s.get 5)] s := (den_nil hf s).trans (by kernel_rfl)
theorem inBlock_eq (id : Nat) (K : List Item) (s : St) : den prog ann 71 (.inBlock id :: K) s = den prog ann 71 K s := den_inBlock hf id K s
theorem exit_eq (id : Nat) (K : List Item) (s : St) : den prog ann 71 (.code (.exit id) :: K) s = exitV prog ann 71 (exitTo id K) s := den_exitV hf id K s
theorem call_eq (v0 v1 : AV) (m : Mem) (h : closedL [v0, v1] = true) : denC prog ann 71 [v0, v1] m = (den prog ann 71 [.code b] ⟨[(0, v0), (1, v1)], 40, Mem.empty⟩).bind fun r => some (r.1, m) := (denC_pure hf (b := b) (by kernel_rfl) (by kernel_rfl) (by kernel_rfl) h m).trans (by kernel_rfl)
theorem pure_eq : (ann 71).pure = true := by kernel_rfl
attribute [simp] b_eq r0_eq r1_eq r2_eq i0_eq i0t_eq r3_eq i0e_eq r4_eq r5_eq k0_eq l0_eq r6_eq i1_eq i1t_eq i1e_eq k1_eq r7_eq r8_eq i2_eq i2t_eq r9_eq i2e_eq r10_eq r11_eq ret_eq nil_eq inBlock_eq exit_eq pure_eq
end watch_story_cutOf


end Go.Proofs.Ytdkmepjedjclkaa

/-
  BODIES OF FUNCTIONS OF THE PROGRAM AS SMALL OPERATIONS (written by gen.py; checked by the kernel against the program). Conditions: none.
-/
namespace Go.Proofs.Ytdkmepjedjclkaa
open Go.AM
open Go.Proofs.Try (prog)
set_option maxRecDepth 100000
set_option linter.all false





end Go.Proofs.Ytdkmepjedjclkaa

/-
  CUTS AS ARGUMENTS: what is a cut, for the reference and for the program. Conditions: none.
-/
namespace Go.Proofs.Ytdkmepjedjclkaa
open Go.AM
open Go.Proofs.Try (prog)
set_option linter.all false
set_option maxRecDepth 100000

def boxB (l D : List Int) (k i : Nat) : Bool := (List.range' i k).all fun h => decide (0 ≤ nth l h) && decide (nth l h ≤ nth D h)
theorem boxB_succ (l D : List Int) (k i : Nat) : boxB l D (k + 1) i = ((decide (0 ≤ nth l i) && decide (nth l i ≤ nth D i)) && boxB l D k (i + 1)) := by
  simp only [boxB, List.range'_succ, List.all_cons]
/-- A list that is a cut of the deeds. -/
structure CutL (D l : List Int) : Prop where
  len : l.length = D.length
  lo : ∀ h, 0 ≤ nth l h
  hi : ∀ h, nth l h ≤ nth D h
theorem boxB_iff {l D : List Int} : ∀ (k i : Nat), boxB l D k i = true ↔ ∀ h, i ≤ h → h < i + k → 0 ≤ nth l h ∧ nth l h ≤ nth D h := by
  intro k i
  simp only [boxB, List.all_eq_true, List.mem_range'_1, Bool.and_eq_true, decide_eq_true_eq]
  exact ⟨fun h g a b => h g ⟨a, b⟩, fun h g a => h g a.1 a.2⟩
def cutB (D l : List Int) : Bool := decide (l.length = D.length) && boxB l D D.length 0
theorem cutB_iff {D l : List Int} : cutB D l = true ↔ CutL D l := by
  simp only [cutB, Bool.and_eq_true, decide_eq_true_eq, boxB_iff]
  constructor
  · rintro ⟨a, b⟩
    have z : ∀ h, 0 ≤ nth l h ∧ nth l h ≤ nth D h := fun h => by
      rcases Nat.lt_or_ge h D.length with h1 | h1
      · exact b h (by omega) (by omega)
      · rw [nth_out h1, nth_out (by omega)]; omega
    exact ⟨a, fun h => (z h).1, fun h => (z h).2⟩
  · rintro ⟨a, b, c⟩
    exact ⟨a, fun h _ _ => ⟨b h, c h⟩⟩

theorem cutR_loop {vD vN vl : AV} {D l : List Int} (hD : IsInts vD D) (hv : IsInts vl l) (hl : l.length < 1000000) (he : l.length = D.length) : ∀ (k i : Nat) (m : Mem), i + k = D.length →
    r09_Cut.L0 vl (.fptr [vD, vN]) (.int .i64 i) m [.code r09_Cut.r6, .code .ret] = some (.bool (boxB l D k i), Mem.empty) := by
  intro k
  induction k with
  | zero =>
    intro i m h1
    have e : i = D.length := by omega
    subst e
    rw [r09_Cut.L0_eq]
    simp [hv.len, hD.len, he, boxB]
  | succ k ih =>
    intro i m h1
    have h3 : i < D.length := by omega
    have h4 : i < l.length := by omega
    have hw : IntKind.wrap .i64 ((i : Int) + 1) = (i : Int) + 1 := wrap_id (by omega) (by omega)
    have hi := fun m => ih (i + 1) m (by omega)
    simp only [Int.natCast_add, Int.cast_ofNat_Int] at hi
    rw [r09_Cut.L0_eq, boxB_succ]
    by_cases q1 : 0 ≤ nth l i
    · by_cases q2 : nth l i ≤ nth D i
      · simp [hv.len, hD.len, he, h3, hv.idx h4, hD.idx h3, ints_head h4, ints_head h3, in_spec, q1, q2, hw, hi]
      · simp [hv.len, hD.len, he, h3, hv.idx h4, hD.idx h3, ints_head h4, ints_head h3, in_spec, q1, q2]
    · simp [hv.len, hD.len, he, h3, hv.idx h4, hD.idx h3, ints_head h4, ints_head h3, in_spec, q1]

theorem cutR_spec {v vl : AV} {D l : List Int} {N : List Note} (hs : IsTale v D N) (hv : IsInts vl l) (hl : l.length < 1000000) (m : Mem) : denC prog ann 27 [v, vl] m = some (.bool (cutB D l), m) := by
  obtain ⟨vD, vN, rfl, hD, hN⟩ := hs.ex
  rw [r09_Cut.call_eq _ _ _ (by simp [hD.closed, hN.closed, hv.closed])]
  by_cases he : l.length = D.length
  · have := cutR_loop (vN := vN) hD hv hl he D.length 0 Mem.empty (by omega)
    simp at this
    simp [hD.one, hN.one, hD.closed, hN.closed, hv.closed, this, cutB, he]
  · have he' : ¬ (l.length : Int) = D.length := by omega
    have hz : (decide ((0 : Int) < l.length) && decide ((l.length : Int) = D.length)) = false := by simp [he']
    by_cases q : 0 < l.length
    · simp [hD.one, hN.one, hD.closed, hN.closed, hv.closed, hv.len, hD.len, r09_Cut.L0_eq, cutB, he, he', q]
    · simp [hD.one, hN.one, hD.closed, hN.closed, hv.closed, hv.len, hD.len, r09_Cut.L0_eq, cutB, he, he', q]

/-! ### The program's -/
theorem cutOf_loop {V : List AV} {n : Nat} {D c : List Int} (hV : V.length = 4) (hD4 : D.length = 4) (hc : c.length = 4) : ∀ (k i nx : Nat), i + k = 4 →
    watch_story_cutOf.L0 (.fptr (.int .i64 n :: (ints D ++ V))) (.ptr 0 0 4) (.ptr 1 0 4) (.agg (ints c)) (.int .i64 i) ⟨upd (upd Mem.empty.h 0 (some (.cells (ints [0, 0, 0, 0])))) 1 (some (.cells (ints c))), nx⟩ [.code watch_story_cutOf.r11, .code .ret] =
      some (.tup [.agg (ints c), .bool (boxB c D k i)], Mem.empty) := by
  intro k
  induction k with
  | zero =>
    intro i nx h1
    have e : i = 4 := by omega
    subst e
    rw [watch_story_cutOf.L0_eq]
    have ht : c.take 4 = c := List.take_of_length_le (by omega)
    simp [boxB, hc, ht]
  | succ k ih =>
    intro i nx h1
    have h3 : i < 4 := by omega
    have h3' : (i : Int) < 4 := by omega
    have h4 : i < c.length := by omega
    have h5 : i < D.length := by omega
    have hDV : (ints D ++ V)[i]? = some (.int .i64 (nth D i)) := by rw [List.getElem?_append_left (by simpa using h5), ints_nth h5]
    have hw : IntKind.wrap .i64 ((i : Int) + 1) = (i : Int) + 1 := wrap_id (by omega) (by omega)
    have hi := fun nx => ih (i + 1) nx (by omega)
    simp at hi
    have ht : c.take 4 = c := List.take_of_length_le (by omega)
    rw [watch_story_cutOf.L0_eq, boxB_succ]
    by_cases q1 : 0 ≤ nth c i
    · have q1' : ¬ nth c i < 0 := by omega
      by_cases q2 : nth c i ≤ nth D i
      · have q2' : ¬ nth D i < nth c i := by omega
        simp [h3, h3', h4, h5, q1, q1', q2, q2', hw, hi, hc, hD4, hV, hDV]
      · have q2' : nth D i < nth c i := by omega
        simp [h3, h3', h4, h5, q1, q1', q2, q2', hc, hD4, hV, ht, hDV]
    · have q1' : nth c i < 0 := by omega
      simp [h3, h3', h4, h5, q1, q1', hc, hD4, hV, ht]

theorem boxB_pad {D l : List Int} (h : l.length = D.length) (h4 : D.length ≤ 4) : boxB (pad l) (pad D) 4 0 = boxB l D D.length 0 := by
  cases hq : boxB l D D.length 0 with
  | true =>
    have h1 := (cutB_iff (D := D) (l := l)).1 (by simp [cutB, h, hq])
    rw [boxB_iff]
    intro g _ _
    rw [nth_pad, nth_pad]
    exact ⟨h1.lo g, h1.hi g⟩
  | false =>
    cases hr : boxB (pad l) (pad D) 4 0 with
    | false => rfl
    | true =>
      rw [boxB_iff] at hr
      rw [← Bool.not_eq_true, boxB_iff] at hq
      refine absurd (fun g a b => ?_) hq
      have := hr g (by omega) (by omega)
      rw [nth_pad, nth_pad] at this
      exact this

theorem cutOf_spec {sv vl : AV} {D l : List Int} {K : List (List (List Int))} (s : IsStory sv D.length (pad D) K) (hv : IsInts vl l) (hl : l.length < 1000000) :
    ∃ c, (cutB D l = true → c = pad l) ∧ c.length = 4 ∧ ∀ m, denC prog ann 71 [sv, vl] m = some (.tup [.agg (ints c), .bool (cutB D l)], m) := by
  obtain ⟨V, rfl, hV, _⟩ := s.V
  have h4 := s.n4
  have hD4 := s.D4
  by_cases he : l.length = D.length
  · refine ⟨pad l, fun _ => rfl, pad_len (by omega), fun m => ?_⟩
    rw [watch_story_cutOf.call_eq _ _ _ (by simp [hv.closed])]
    have hc : (pad l).length = 4 := pad_len (by omega)
    have hb : cutB D l = boxB (pad l) (pad D) 4 0 := by rw [boxB_pad he h4]; simp [cutB, he]
    have := fun nx => cutOf_loop (n := D.length) (V := V) hV hD4 hc 4 0 nx (by omega)
    simp at this
    have hsrc := hv.src
    have hst := isStr_ints hv
    have hlen := hv.len
    have hcl := hv.closed
    clear hv s
    rw [hb]
    clear hb
    generalize pad D = E at this
    generalize D.length = n at he this h4
    subst he
    rcases l with _ | ⟨a, _ | ⟨b, _ | ⟨c, _ | ⟨d, _ | ⟨e, l⟩⟩⟩⟩⟩
    all_goals first
      | (simp at h4; done)
      | (simp [pad] at this ⊢
         simp [hlen, sliceArr, bnds, bnd, copyA, hsrc, hst, Mem.set, splice, this]; done)
  · refine ⟨[0, 0, 0, 0], fun h => absurd (cutB_iff.1 h).len he, rfl, fun m => ?_⟩
    rw [watch_story_cutOf.call_eq _ _ _ (by simp [hv.closed])]
    have hne : ¬ (l.length : Int) = D.length := by omega
    simp [hv.len, hne, cutB, he]
end Go.Proofs.Ytdkmepjedjclkaa

/-
  THE PROGRAM's Back, Forth, Consistent, Rank. Conditions: none.
-/
namespace Go.Proofs.Ytdkmepjedjclkaa
open Go.AM
open Go.Proofs.Try (prog)
set_option linter.all false
set_option maxRecDepth 100000

/-- The last deed of a hand, of the first j, whose clock is not beyond a cut. -/
def bk (K : List (List (List Int))) (c : List Int) (h : Nat) : Nat → Nat
  | 0 => 0
  | j + 1 => if zmax (clk K h j) c = c then j + 1 else bk K c h j
def bkR (K : List (List (List Int))) (c : List Int) : Nat → Nat → List Int → List Int
  | 0, _, out => out
  | k + 1, h, out => bkR K c k (h + 1) (out.set h (bk K c h (nth out h).toNat : Nat))

theorem bk_le (K : List (List (List Int))) (c : List Int) (h : Nat) : ∀ j, bk K c h j ≤ j
  | 0 => Nat.le_refl _
  | j + 1 => by rw [bk]; split; exact Nat.le_refl _; have := bk_le K c h j; omega

def backL (K : List (List (List Int))) (n : Nat) (c : List Int) : List Int := bkR K c n 0 c
structure ConsRes (D : List Int) (N : List Note) (l : List Int) (b : Bool) (e : Int) : Prop where
  bad : ¬ ValidS D N → b = false ∧ e = 1
  form : ValidS D N → cutB D l = false → b = false ∧ e = 2
  ok : ValidS D N → cutB D l = true → b = conR N l ∧ e = 0

/-- Where a cut stands among the consistent ones. -/
def rankOf (D : List Int) (N : List Note) (l : List Int) : Int := match (cutsL D N).findIdx? (fun x => l == x) with | some j => (j : Int) | none => -1
structure RankRes (D : List Int) (N : List Note) (l : List Int) (r : Int) (e : Int) : Prop where
  bad : ¬ ValidS D N → r = 0 ∧ e = 1
  form : ValidS D N → cutB D l = false → r = 0 ∧ e = 2
  none : ValidS D N → cutB D l = true → rankOf D N l < 0 → r = 0 ∧ e = 5
  ok : ValidS D N → cutB D l = true → 0 ≤ rankOf D N l → r = rankOf D N l ∧ e = 0

theorem allV {sv : AV} {D : List Int} {K : List (List (List Int))} (s : IsStory sv D.length (pad D) K) : ∃ av, (∀ m, denC prog ann 62 [sv] m = some (av, m)) ∧ IsSl ints av (allL (pad D) K D.length) := by
  obtain ⟨av, ea, ia⟩ := all_spec s Mem.empty
  exact ⟨av, pure_any (fun m => watch_story_all.call_eq _ m (by simp [s.closed])) ea, ia⟩
/-! ### Back and Forth -/
/-- What Back and Forth hand back, by the program's own clocks. -/
inductive MoveRes (move : List (List (List Int)) → Nat → List Int → List Int) (D : List Int) (N : List Note) (l : List Int) : AV → Int → Prop where
  | bad (h : ¬ ValidS D N) : MoveRes move D N l .nils 1
  | form (v : ValidS D N) (h : cutB D l = false) : MoveRes move D N l .nils 2
  | ok {K : List (List (List Int))} {r : AV} (v : ValidS D N) (h : cutB D l = true) (k : Clocks D N K) (hr : IsInts r ((move K D.length (pad l)).take D.length)) : MoveRes move D N l r 0

end Go.Proofs.Ytdkmepjedjclkaa

/-
  THE REFERENCE's Meet, Join, Below, First, Last, Back, Forth. Conditions: none.
-/
namespace Go.Proofs.Ytdkmepjedjclkaa
open Go.AM
open Go.Proofs.Try (prog)
set_option linter.all false
set_option maxRecDepth 100000

def belowB (x y : List Int) : Bool := decide (zmin x y = x)
end Go.Proofs.Ytdkmepjedjclkaa

/-
  THE REFERENCE's First, Last, Back, Forth. Conditions: none.
-/
namespace Go.Proofs.Ytdkmepjedjclkaa
open Go.AM
open Go.Proofs.Try (prog)
set_option linter.all false
set_option maxRecDepth 100000
theorem tuplesL_row : ∀ {E : List Int}, ∀ x ∈ tuplesL E, x.length = E.length
  | [], x, hx => by simp [tuplesL] at hx; subst hx; rfl
  | d :: E, x, hx => by
    simp only [tuplesL, List.mem_flatMap, List.mem_map] at hx
    obtain ⟨j, _, y, hy, rfl⟩ := hx
    simp [tuplesL_row y hy]
theorem cutsL_row {D : List Int} {N : List Note} {x : List Int} (hx : x ∈ cutsL D N) : x.length = D.length := tuplesL_row x (List.mem_filter.1 hx).1

def firstL : List (List Int) → List Int
  | [] => []
  | x :: l => l.foldl zmin x
def lastL : List (List Int) → List Int
  | [] => []
  | x :: l => l.foldl zmax x
end Go.Proofs.Ytdkmepjedjclkaa

/-
  THE PLAIN LAW (3): Back and Forth are what the reference says. Conditions: none.
-/
namespace Go.Proofs.Ytdkmepjedjclkaa
open Go.AM
open Go.Proofs.Try (prog)
set_option linter.all false
set_option maxRecDepth 10000

theorem zmax_le {a b : List Int} (h : a.length = b.length) : zmax a b = b ↔ ∀ g, nth a g ≤ nth b g := by
  constructor
  · intro e g
    have := nth_zmax h g
    rw [e] at this; omega
  · intro e
    refine ext_nth (by simp [zmax, h]) fun g => ?_
    rw [nth_zmax h]; have := e g; omega
section
variable {D : List Int} {N : List Note} {K : List (List (List Int))}
theorem Clocks.clk4 (c : Clocks D N K) {h i : Nat} (hh : h < D.length) (hi : (i : Int) < nth D h) : (clk K h i).length = 4 := c.F h _ (cth_mem (c.in hh hi))
theorem Clocks.self (c : Clocks D N K) (r : Reach D N D) {h i : Nat} (hh : h < D.length) (hi : (i : Int) < nth D h) : kn K h i h = (i : Int) + 1 := by
  obtain ⟨V, v⟩ := sched c.P r
  have S : Super D N V := by
    refine ⟨fun h i hi => by rw [v.self h i hi]; omega, v.lo, fun h i g hi => v.own h i g hi, fun x hx g => v.note x hx (c.P.notes x hx).r1 g⟩
  have a := c.I.low V S h i (c.in hh hi) h
  rw [v.self h i hi] at a
  have b := c.I.unit h i (c.in hh hi)
  show nth _ _ = _
  omega
theorem Clocks.leD (c : Clocks D N K) {h i : Nat} (hh : h < D.length) (hi : (i : Int) < nth D h) (g : Nat) : kn K h i g ≤ nth D g :=
  c.I.low (fun _ _ g => nth D g) ⟨fun h i h1 => by omega, fun _ _ g => c.P.L.lo g, fun _ _ _ _ => Int.le_refl _, fun _ _ _ => Int.le_refl _⟩ h i (c.in hh hi) g

theorem bk_max (K : List (List (List Int))) (c : List Int) (h : Nat) {i : Nat} (hi : zmax (clk K h i) c = c) : ∀ j, i < j → i + 1 ≤ bk K c h j
  | 0, h1 => by omega
  | j + 1, h1 => by
    rw [bk]
    split
    · omega
    · rename_i q
      rcases Nat.lt_or_ge i j with h2 | h2
      · exact bk_max K c h hi j h2
      · have : i = j := by omega
        subst this; exact absurd hi q
theorem bk_at (K : List (List (List Int))) (c : List Int) (h : Nat) : ∀ j, 0 < bk K c h j → zmax (clk K h (bk K c h j - 1)) c = c
  | 0, h1 => by simp [bk] at h1
  | j + 1, h1 => by
    rw [bk] at h1 ⊢
    split
    · rename_i q; exact q
    · rename_i q
      rw [if_neg q] at h1
      exact bk_at K c h j h1

theorem Clocks.inD (c : Clocks D N K) {h i : Nat} (hi : (i : Int) < nth D h) : h < D.length := by
  rcases Nat.lt_or_ge h D.length with h1 | h1
  · exact h1
  · rw [nth_out h1] at hi; omega

/-- Clocks hold what comes before what they hold. -/
theorem Clocks.trans (c : Clocks D N K) {h i q j : Nat} (hh : h < D.length) (hi : (i : Int) < nth D h) (hj : (j : Int) < kn K h i q) (g : Nat) : kn K q j g ≤ kn K h i g := by
  have hjD : (j : Int) < nth D q := by have := c.leD hh hi q; omega
  have hq := c.inD hjD
  have S : Super D N (fun h i q => (bk K (clk K h i) q (nth D q).toNat : Nat)) := by
    have mono : ∀ {h i h' i' : Nat}, (clk K h i).length = 4 → (clk K h' i').length = 4 → (∀ g, kn K h i g ≤ kn K h' i' g) → ∀ q, bk K (clk K h i) q (nth D q).toNat ≤ bk K (clk K h' i') q (nth D q).toNat := by
      intro h i h' i' l1 l2 le q
      rcases Nat.eq_zero_or_pos (bk K (clk K h i) q (nth D q).toNat) with e | e
      · omega
      · have a := bk_at K (clk K h i) q _ e
        have b := bk_le K (clk K h i) q (nth D q).toNat
        have hqi : ((bk K (clk K h i) q (nth D q).toNat - 1 : Nat) : Int) < nth D q := by have := c.P.L.lo q; omega
        have l3 := c.clk4 (c.inD hqi) hqi
        rw [zmax_le (by omega)] at a
        have := bk_max K (clk K h' i') q (i := bk K (clk K h i) q (nth D q).toNat - 1) ((zmax_le (by omega)).2 fun g => Int.le_trans (a g) (le g)) (nth D q).toNat (by omega)
        omega
    refine ⟨fun h i h1 => ?_, fun _ _ _ => by omega, fun h i g h1 => ?_, fun x hx g => ?_⟩
    · have l1 := c.clk4 (c.inD h1) h1
      have := bk_max K (clk K h i) h (i := i) ((zmax_le rfl).2 fun _ => Int.le_refl _) (nth D h).toNat (by omega)
      show (i : Int) + 1 ≤ ((bk K (clk K h i) h (nth D h).toNat : Nat) : Int)
      omega
    · have hh := c.inD h1
      have := mono (c.clk4 hh (i := i) (by omega)) (c.clk4 hh h1) (c.own hh h1) g
      exact Int.ofNat_le.2 this
    · obtain ⟨f0, f1, t0, t1, ne, s0, s1, r0, r1⟩ := c.P.notes x hx
      have := mono (c.clk4 (h := x.f.toNat) (i := x.s.toNat - 1) (by omega) (by omega)) (c.clk4 (h := x.t.toNat) (i := x.r.toNat - 1) (by omega) (by omega)) (c.note hx) g
      exact Int.ofNat_le.2 this
  have low := c.I.low _ S h i (c.in hh hi) q
  have low' : kn K h i q ≤ (bk K (clk K h i) q (nth D q).toNat : Nat) := low
  have a := bk_at K (clk K h i) q (nth D q).toNat (by omega)
  have b := bk_le K (clk K h i) q (nth D q).toNat
  have l1 := c.clk4 hh hi
  have hqi : ((bk K (clk K h i) q (nth D q).toNat - 1 : Nat) : Int) < nth D q := by omega
  rw [zmax_le (by rw [c.clk4 hq hqi, l1])] at a
  have m := c.mono hq g (bk K (clk K h i) q (nth D q).toNat - 1 - j) j (by omega)
  rw [show j + (bk K (clk K h i) q (nth D q).toNat - 1 - j) = bk K (clk K h i) q (nth D q).toNat - 1 by omega] at m
  exact Int.le_trans m (a g)

/-! ### Consistent cuts as lists -/
theorem mem_tuples : ∀ {E x : List Int}, (∀ d ∈ E, 0 ≤ d) → (x ∈ tuplesL E ↔ CutL E x)
  | [], x, _ => by
    simp only [tuplesL, List.mem_singleton]
    constructor
    · rintro rfl; exact ⟨rfl, fun h => by simp [nth], fun h => by simp [nth]⟩
    · intro h; exact List.length_eq_zero_iff.1 h.len
  | d :: E, x, hp => by
    simp only [tuplesL, List.mem_flatMap, List.mem_map, List.mem_range]
    have hd := hp d (by simp)
    constructor
    · rintro ⟨i, hi, y, hy, rfl⟩
      have h := (mem_tuples (fun e he => hp e (by simp [he]))).1 hy
      refine ⟨by simp [h.len], fun g => ?_, fun g => ?_⟩
      · cases g with
        | zero => rw [nth_cons0]; omega
        | succ g => rw [nth_cons1]; exact h.lo g
      · cases g with
        | zero => rw [nth_cons0, nth_cons0]; omega
        | succ g => rw [nth_cons1, nth_cons1]; exact h.hi g
    · intro h
      cases x with
      | nil => have := h.len; simp at this
      | cons a y =>
        have h0 := h.lo 0
        have h1 := h.hi 0
        rw [nth_cons0] at h0 h1
        rw [nth_cons0] at h1
        refine ⟨a.toNat, by omega, y, (mem_tuples (fun e he => hp e (by simp [he]))).2 ⟨by have := h.len; simpa using this, fun g => by have := h.lo (g + 1); rwa [nth_cons1] at this, fun g => by have := h.hi (g + 1); rwa [nth_cons1, nth_cons1] at this⟩, by rw [show ((a.toNat : Nat) : Int) = a by omega]⟩

theorem mem_cuts (L : Lims D N) {x : List Int} : x ∈ cutsL D N ↔ CutL D x ∧ conR N x = true := by
  rw [cutsL, List.mem_filter, mem_tuples (fun d hd => (L.all d hd).1)]

end
end Go.Proofs.Ytdkmepjedjclkaa

/-
  THE PLAIN LAW (4): Back and Forth. Conditions: none.
-/
namespace Go.Proofs.Ytdkmepjedjclkaa
open Go.AM
open Go.Proofs.Try (prog)
set_option linter.all false
set_option maxRecDepth 10000

section
variable {D : List Int} {N : List Note} {K : List (List (List Int))}
theorem zeros_cut (L : Lims D N) (P : Pre D N) : List.replicate D.length 0 ∈ cutsL D N := by
  refine (mem_cuts L).2 ⟨⟨by simp, fun h => by rw [nth_zero']; omega, fun h => by rw [nth_zero']; exact L.lo h⟩, ?_⟩
  rw [conR_iff]
  intro x hx hr
  have := (P.notes x hx).r0
  rw [nth_zero'] at hr; omega
theorem deeds_cut (P : Pre D N) : D ∈ cutsL D N := by
  refine (mem_cuts P.L).2 ⟨⟨rfl, P.L.lo, fun _ => Int.le_refl _⟩, ?_⟩
  rw [conR_iff]
  exact fun x hx _ => (P.notes x hx).s1

theorem take_out {c : List Int} {n g : Nat} (h : n ≤ g) : nth (c.take n) g = 0 := nth_out (by simp; omega)

end
end Go.Proofs.Ytdkmepjedjclkaa

/-
  A STORY MADE OF ARBITRARY NUMBERS (3): it is valid. Conditions: none.
-/
namespace Go.Proofs.Ytdkmepjedjclkaa
open Go.AM
open Go.Proofs.Try (prog)
set_option linter.all false
set_option maxRecDepth 100000

theorem made_notes {a vT : AV} {hh : Int} {ds D : List Int} {T : List (List Int)} (t : IsTaleN a hh ds vT T) : ∀ (k i : Nat) (vN : AV) (N : List Note) (m : Mem), i + k = T.length → SN m D vN N →
    ∃ v N', IsTale v D N' ∧ ValidS D N' ∧ N'.length ≤ 12 ∧ l09_Tale_made.L2 (.fptr (.int .u8 hh :: (u8s ds ++ [vT]))) (.ptr 0 0 2) (.ptr 1 0 2) (.int .i64 i) m [.code l09_Tale_made.r16, .code .ret] = some (v, Mem.empty) := by
  have fin : ∀ (i : Nat) (vN : AV) (N : List Note) (m : Mem), SN m D vN N → (T.length ≤ i ∨ 12 ≤ N.length) → l09_Tale_made.L2 (.fptr (.int .u8 hh :: (u8s ds ++ [vT]))) (.ptr 0 0 2) (.ptr 1 0 2) (.int .i64 i) m [.code l09_Tale_made.r16, .code .ret] = some (.agg [.fsl false D.length (ints D), vN], Mem.empty) := by
    intro i vN N m s hend
    obtain ⟨id, s1, s2, s3, s4⟩ := s.s
    obtain ⟨d0, d1, d2, d3, rfl⟩ := four t.d4
    have e0 : (id == 0) = false := beq_eq_false_iff_ne.2 (by omega)
    have ht : (ints D).take D.length = ints D := List.take_of_length_le (by simp)
    simp at ht
    rw [l09_Tale_made.L2_eq]
    by_cases hi : i < T.length
    · have h12 : ¬ (N.length : Int) < 12 := by omega
      simp [t.vT.len, hi, s1, s2, s.n.len, h12, s.n.one, s.n.deep, s.r, e0]
      done
    · have hi' : ¬ (i : Int) < T.length := by omega
      simp [t.vT.len, hi, s1, s2, s.n.len, s.n.one, s.n.deep, s.r, e0]
      done
  intro k
  induction k with
  | zero =>
    intro i vN N m h1 s
    exact ⟨_, N, ⟨_, _, rfl, IsInts.fsl false D, s.n⟩, s.v, s.few, fin i vN N m s (.inl (by omega))⟩
  | succ k ih =>
    intro i vN N m h1 s
    by_cases h12 : N.length < 12
    · obtain ⟨vN', N', m', s', e⟩ := made_step t (i := i) (by omega) h12 s
      obtain ⟨v, N2, j1, j2, j3, j4⟩ := ih (i + 1) vN' N' m' (by omega) s'
      simp only [Int.natCast_add, Int.cast_ofNat_Int] at j4
      exact ⟨v, N2, j1, j2, j3, by rw [e, j4]⟩
    · exact ⟨_, N, ⟨_, _, rfl, IsInts.fsl false D, s.n⟩, s.v, s.few, fin i vN N m s (.inr (by omega))⟩

theorem reach_nil {D : List Int} (L : Lims D []) : Reach D [] D := by
  obtain ⟨y, r, st⟩ := stuck_exists L _ _ (Reach.zero (D := D) (N := [])) (Nat.le_refl _)
  have b := r.box L.lo
  have e : y = D := ext_nth b.len fun i => by
    have h1 := b.hi i
    rcases Nat.lt_or_ge i D.length with h2 | h2
    · rcases Int.lt_or_eq_of_le h1 with h3 | h3
      · exact absurd ⟨h2, h3, rfl⟩ (st i)
      · exact h3
    · rw [nth_out h2, nth_out (by have := b.len; omega)]
  rw [e] at r; exact r

theorem made_spec {a vT : AV} {hh : Int} {ds : List Int} {T : List (List Int)} (t : IsTaleN a hh ds vT T) : ∃ v D N, IsTale v D N ∧ ValidS D N ∧ N.length ≤ 12 ∧ ∀ m, denC prog ann 23 [a] m = some (v, m) := by
  have hb := t.hB
  have hm4 : 0 ≤ hh.tmod 4 := Int.tmod_nonneg 4 hb.1
  have hm4' : hh.tmod 4 < 4 := Int.tmod_lt_of_pos hh (by omega)
  obtain ⟨D, m1, i1, i2, i3, i4⟩ := made_deeds t (hh.tmod 4 + 1).toNat 0 [] ⟨upd (upd Mem.empty.h 0 (some (.cells [.nils, .nils]))) 1 (some (.cells [.nils, .nils])), 2⟩ (by omega) rfl ⟨by simp, by simp, .inl ⟨rfl, by simp⟩⟩ (fun g => by simp [nth])
  have L : Lims D [] := ⟨by omega, by omega, fun i => (i3 i).1, fun i => (i3 i).2, by simp, fun x hx => by cases hx⟩
  have V : ValidS D [] := ⟨L.n1, L.n4, L.lo, L.hi, L.N24, (fun x hx => by cases hx), reach_nil L⟩
  have s : SN m1 D .nils [] := by
    rcases i2.s with ⟨h1, _⟩ | ⟨id, h1, h2, h3, h4, h5⟩
    · rw [h1] at i1; simp at i1; omega
    · exact ⟨i2.r, ⟨id, h2, h3, h4, h5⟩, .inl ⟨rfl, rfl⟩, V, by simp⟩
  obtain ⟨v, N, j1, j2, j3, j4⟩ := made_notes t T.length 0 .nils [] m1 (by omega) s
  refine ⟨v, D, N, j1, j2, j3, fun m => ?_⟩
  have hcl : a.closed = true := by rw [t.eq]; simp [t.vT.closed]
  have h5 : ds.length = 4 := t.d4
  rw [l09_Tale_made.call_eq _ _ (by simp [hcl])]
  simp only [Int.cast_ofNat_Int, Int.natCast_zero] at i4 j4
  rw [t.eq] at hcl ⊢
  simp [h5, t.vT.one, t.vT.closed, i4, j4]
  done
end Go.Proofs.Ytdkmepjedjclkaa

/-
  BODIES OF FUNCTIONS OF THE PROGRAM AS SMALL OPERATIONS (written by gen.py; checked by the kernel against the program). Conditions: none.
-/
namespace Go.Proofs.Ytdkmepjedjclkaa
open Go.AM
open Go.Proofs.Try (prog)
set_option maxRecDepth 100000
set_option linter.all false

namespace l09_cutOf
/-- pommel/pommellaw09.cutOf -/
noncomputable def b : Code := (Try.f25.body).getD .skip
theorem hf : prog.funcs[25]? = some Try.f25 := by kernel_rfl
noncomputable def r0 : Code := findReg b 0
noncomputable def r1 : Code := findReg b 1
noncomputable def r2 : Code := findReg b 2
noncomputable def k0 : Code := findBlk b 0
noncomputable def l0 : Code := loopOf k0
noncomputable def L0 (x2 x3 x5 x6 : AV) (m : Mem) (K : List Item) : Option Res := den prog ann 25 (.code l0 :: .inLoop l0 :: .inBlock 0 :: K) ⟨[(2, x2), (3, x3), (5, x5), (6, x6)], 30, m⟩
noncomputable def r3 : Code := findReg b 3
noncomputable def i0 : Code := findCond b 0
noncomputable def i0t : Code := thenOf i0
noncomputable def i0e : Code := elseOf i0
noncomputable def k1 : Code := findBlk b 1
noncomputable def r5 : Code := findReg b 5
noncomputable def r4 : Code := findReg b 4
noncomputable def r6 : Code := findReg b 6
theorem b_eq (K : List Item) (s : St) : den prog ann 25 (.code b :: K) s = den prog ann 25 (.code r0 :: .code r1 :: .code r2 :: .code k0 :: .code r6 :: .code .ret :: K) s := den_flat hf (l := [r0, r1, r2, k0, r6, .ret]) (by kernel_rfl) K s
theorem r0_eq (K : List Item) (s : St) : den prog ann 25 (.code r0 :: K) s = mreg prog ann 25 none [] none [] [
    ⟨some 2, none, .v fun s => frozenPtr (s.get 0)⟩,
    ⟨some 3, none, .v fun s => frozenPtr (s.get 1)⟩,
    ⟨some 4, none, .v fun s => some (.nils)⟩] K s := (den_reg hf _ K s).trans (by kernel_rfl)
theorem r1_eq (K : List Item) (s : St) : den prog ann 25 (.code r1 :: K) s = mreg prog ann 25 none [] none [] [
    ⟨some 7, none, .w false none fun s => bslM s.m 0 (bslA 1 0 [.int .i64 0] [])⟩,
    ⟨some 5, none, .v fun s => some (s.get 7)⟩] K s := (den_reg hf _ K s).trans (by kernel_rfl)
theorem r2_eq (K : List Item) (s : St) : den prog ann 25 (.code r2 :: K) s = mreg prog ann 25 none [] none [] [
    ⟨some 6, none, .v fun s => some (.int .i64 0)⟩] K s := (den_reg hf _ K s).trans (by kernel_rfl)
theorem k0_eq (K : List Item) (t : List (Nat × AV)) (m : Mem) : den prog ann 25 (.code k0 :: K) ⟨t, 30, m⟩ = L0 (get t 2) (get t 3) (get t 5) (get t 6) m K := den_loop_enter hf (b := l0) (id := 3) (l := [2, 3, 5, 6]) (by kernel_rfl) (by kernel_rfl) (by kernel_rfl) K _
theorem l0_eq (K : List Item) (t : List (Nat × AV)) (m : Mem) : den prog ann 25 (.inLoop l0 :: .inBlock 0 :: K) ⟨t, 30, m⟩ = L0 (get t 2) (get t 3) (get t 5) (get t 6) m K := den_loop_again hf (id := 3) (l := [2, 3, 5, 6]) (by kernel_rfl) (by kernel_rfl) (.inBlock 0 :: K) _
theorem L0_eq (x2 x3 x5 x6 : AV) (m : Mem) (K : List Item) : L0 x2 x3 x5 x6 m K = den prog ann 25 (.code r3 :: .code i0 :: .code k1 :: .code r4 :: .inLoop l0 :: .inBlock 0 :: K) ⟨[(2, x2), (3, x3), (5, x5), (6, x6)], 30, m⟩ := den_flat hf (l := [r3, i0, k1, r4]) (by kernel_rfl) _ _
theorem r3_eq (K : List Item) (s : St) : den prog ann 25 (.code r3 :: K) s = mreg prog ann 25 (some [2, 3, 5, 6]) [] none [] [
    ⟨some 8, none, .v fun s => some (s.get 6)⟩,
    ⟨some 9, none, .v fun s => fieldA 0 (s.get 2)⟩,
    ⟨some 10, none, .v fun s => loadF false 1 (s.get 9)⟩,
    ⟨some 11, none, .v fun s => lenSl (s.get 10)⟩,
    ⟨some 12, none, .v fun s => binA prog .lss 3 (s.get 8) (s.get 11)⟩] K s := (den_reg hf _ K s).trans (by kernel_rfl)
theorem i0_eq (K : List Item) (s : St) : den prog ann 25 (.code i0 :: K) s = ifV prog ann 25 12 i0t i0e K s (s.get 12) := den_if hf (by kernel_rfl) K s
theorem i0t_eq (K : List Item) (s : St) : den prog ann 25 (.code i0t :: K) s = den prog ann 25 (K) s := den_flat hf (l := []) (by kernel_rfl) K s
theorem i0e_eq (K : List Item) (s : St) : den prog ann 25 (.code i0e :: K) s = den prog ann 25 (.code (.exit 0) :: K) s := den_flat hf (l := [(.exit 0)]) (by kernel_rfl) K s
theorem k1_eq (K : List Item) (s : St) : den prog ann 25 (.code k1 :: K) s = den prog ann 25 (.code r5 :: .inBlock 1 :: K) s := den_blk hf (b := blkOf k1) (l := [r5]) (by kernel_rfl) (by kernel_rfl) K s
theorem r5_draw : drawOk (fun g => (ann g).pure) (modeOf (ann 25) (idOf r5)) (frzOf (ann 25) (idOf r5)) (opsOf r5) = true := drawOk_of (an := [0, 0, 2, 6, 14, 0, 32, 0, 224, 480, 992, 2046, 4094, 8191, 16383]) (by kernel_rfl) (by kernel_rfl)
theorem r5_eq (K : List Item) (s : St) : den prog ann 25 (.code r5 :: K) s = mreg prog ann 25 none [] (some 15) [] [
    ⟨some 15, none, .v fun s => some (s.get 5)⟩,
    ⟨some 16, none, .v fun s => some (s.get 6)⟩,
    ⟨some 17, none, .v fun s => idxArr 4 1 (s.get 3) (s.get 16)⟩,
    ⟨some 18, none, .v fun s => loadF false 1 (s.get 17)⟩,
    ⟨some 19, none, .v fun s => convInt .i64 (s.get 18)⟩,
    ⟨some 20, none, .v fun s => fieldA 0 (s.get 2)⟩,
    ⟨some 21, none, .v fun s => loadF false 1 (s.get 20)⟩,
    ⟨some 22, none, .v fun s => some (s.get 6)⟩,
    ⟨some 23, none, .v fun s => idxSl 1 (s.get 21) (s.get 22)⟩,
    ⟨some 24, none, .v fun s => loadF false 1 (s.get 23)⟩,
    ⟨some 25, none, .v fun s => binA prog .add 3 (s.get 24) (.int .i64 1)⟩,
    ⟨some 26, none, .v fun s => binA prog .rem 3 (s.get 19) (s.get 25)⟩,
    ⟨some 27, none, .v fun s => bslF 1 (bslA 1 1 [.int .i64 0] [(0, (s.get 26))])⟩,
    ⟨some 28, none, .w false (some 13) fun s => appendA 1 8 s.m (s.get 15) (s.get 27)⟩,
    ⟨some 5, none, .v fun s => some (s.get 28)⟩] K s := (den_regD hf r5_draw K s).trans (by kernel_rfl)
theorem r4_eq (K : List Item) (s : St) : den prog ann 25 (.code r4 :: K) s = mreg prog ann 25 (some [2, 3, 5, 6]) [] none [] [
    ⟨some 13, none, .v fun s => some (s.get 6)⟩,
    ⟨some 14, none, .v fun s => binA prog .add 3 (s.get 13) (.int .i64 1)⟩,
    ⟨some 6, none, .v fun s => some (s.get 14)⟩] K s := (den_reg hf _ K s).trans (by kernel_rfl)
theorem r6_eq (K : List Item) (s : St) : den prog ann 25 (.code r6 :: K) s = mreg prog ann 25 (some [5]) [] none [] [
    ⟨some 29, none, .v fun s => some (s.get 5)⟩,
    ⟨some 4, none, .v fun s => some (s.get 29)⟩] K s := (den_reg hf _ K s).trans (by kernel_rfl)
theorem ret_eq (K : List Item) (s : St) : den prog ann 25 (.code .ret :: K) s = finM true [fun s => some (s.get 4)] s := (den_ret hf K s).trans (by kernel_rfl)
theorem nil_eq (s : St) : den prog ann 25 [] s = finM true [fun s => some (s.get 4)] s := (den_nil hf s).trans (by kernel_rfl)
theorem inBlock_eq (id : Nat) (K : List Item) (s : St) : den prog ann 25 (.inBlock id :: K) s = den prog ann 25 K s := den_inBlock hf id K s
theorem exit_eq (id : Nat) (K : List Item) (s : St) : den prog ann 25 (.code (.exit id) :: K) s = exitV prog ann 25 (exitTo id K) s := den_exitV hf id K s
theorem call_eq (v0 v1 : AV) (m : Mem) (h : closedL [v0, v1] = true) : denC prog ann 25 [v0, v1] m = (den prog ann 25 [.code b] ⟨[(0, v0), (1, v1)], 30, Mem.empty⟩).bind fun r => some (r.1, m) := (denC_pure hf (b := b) (by kernel_rfl) (by kernel_rfl) (by kernel_rfl) h m).trans (by kernel_rfl)
theorem pure_eq : (ann 25).pure = true := by kernel_rfl
attribute [simp] b_eq r0_eq r1_eq r2_eq k0_eq l0_eq r3_eq i0_eq i0t_eq i0e_eq k1_eq r5_eq r4_eq r6_eq ret_eq nil_eq inBlock_eq exit_eq pure_eq
end l09_cutOf

end Go.Proofs.Ytdkmepjedjclkaa
