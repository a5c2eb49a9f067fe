/-
  THE PROGRAM READS A STORY (5): the tests ahead. Conditions: none.
-/
import Derived.Test.YtdkmepjedjclkaaSReadD
namespace Go.Proofs.Ytdkmepjedjclkaa
open Go.AM
open Go.Proofs.Try (prog)
set_option linter.all false
set_option maxRecDepth 10000

theorem min_loop {v : AV} {l : List Int} (h : IsInts v l) (hl : l.length < 1000000) : ∀ (k i : Nat) (x : Int) (m : Mem), l.length - i ≤ k → i ≤ l.length →
    slices_Min_int.L0 v (.int .i64 x) (.int .i64 i) m [.code slices_Min_int.r8, .code .ret] = some (.int .i64 ((l.drop i).foldl min x), Mem.empty) := by
  intro k
  induction k with
  | zero =>
    intro i x m h1 h2
    have e : i = l.length := by omega
    subst e
    rw [slices_Min_int.L0_eq]
    simp [h.len]
  | succ k ih =>
    intro i x m h1 h2
    by_cases h3 : i < l.length
    · have hw : IntKind.wrap .i64 ((i : Int) + 1) = (i : Int) + 1 := wrap_id (by omega) (by omega)
      have hi := fun x m => ih (i + 1) x m (by omega) (by omega)
      simp at hi
      rw [slices_Min_int.L0_eq, drop_nth h3]
      simp [h.len, h3, h.idx h3, ints_head h3, hw, hi]
    · have e : i = l.length := by omega
      subst e
      rw [slices_Min_int.L0_eq]
      simp [h.len]
theorem max_loop {v : AV} {l : List Int} (h : IsInts v l) (hl : l.length < 1000000) : ∀ (k i : Nat) (x : Int) (m : Mem), l.length - i ≤ k → i ≤ l.length →
    slices_Max_int.L0 v (.int .i64 x) (.int .i64 i) m [.code slices_Max_int.r8, .code .ret] = some (.int .i64 ((l.drop i).foldl max x), Mem.empty) := by
  intro k
  induction k with
  | zero =>
    intro i x m h1 h2
    have e : i = l.length := by omega
    subst e
    rw [slices_Max_int.L0_eq]
    simp [h.len]
  | succ k ih =>
    intro i x m h1 h2
    by_cases h3 : i < l.length
    · have hw : IntKind.wrap .i64 ((i : Int) + 1) = (i : Int) + 1 := wrap_id (by omega) (by omega)
      have hi := fun x m => ih (i + 1) x m (by omega) (by omega)
      simp at hi
      rw [slices_Max_int.L0_eq, drop_nth h3]
      simp [h.len, h3, h.idx h3, ints_head h3, hw, hi]
    · have e : i = l.length := by omega
      subst e
      rw [slices_Max_int.L0_eq]
      simp [h.len]

theorem min_spec {v : AV} {x : Int} {l : List Int} (h : IsInts v (x :: l)) (hl : l.length < 100000) (m : Mem) : denC prog ann 92 [v] m = some (.int .i64 (l.foldl min x), m) := by
  rw [slices_Min_int.call_eq _ _ (by simp [h.closed])]
  have := min_loop h (by simp; omega) _ 1 x Mem.empty (Nat.le_refl _) (by simp)
  simp at this
  have hn : ¬ ((l.length : Int) + 1 < 1) := by omega
  have h0 := h.idx (i := 0) (by simp) .i64
  simp at h0
  simp [h.len, hn, h0, this]
theorem max_spec {v : AV} {x : Int} {l : List Int} (h : IsInts v (x :: l)) (hl : l.length < 100000) (m : Mem) : denC prog ann 93 [v] m = some (.int .i64 (l.foldl max x), m) := by
  rw [slices_Max_int.call_eq _ _ (by simp [h.closed])]
  have := max_loop h (by simp; omega) _ 1 x Mem.empty (Nat.le_refl _) (by simp)
  simp at this
  have hn : ¬ ((l.length : Int) + 1 < 1) := by omega
  have h0 := h.idx (i := 0) (by simp) .i64
  simp at h0
  simp [h.len, hn, h0, this]
theorem foldl_min : ∀ (l : List Int) (x : Int), l.foldl min x ≤ x ∧ (∀ y ∈ l, l.foldl min x ≤ y) ∧ (l.foldl min x = x ∨ l.foldl min x ∈ l)
  | [], x => ⟨Int.le_refl _, (fun _ h => by cases h), .inl rfl⟩
  | y :: l, x => by
    obtain ⟨h1, h2, h3⟩ := foldl_min l (min x y)
    simp only [List.foldl_cons]
    refine ⟨by omega, fun z hz => ?_, ?_⟩
    · rcases List.mem_cons.1 hz with rfl | hz
      · omega
      · exact h2 z hz
    · rcases h3 with h3 | h3
      · rw [h3]
        by_cases e : x ≤ y
        · left; omega
        · right; have : min x y = y := by omega
          rw [this]; simp
      · right; simp [h3]
theorem foldl_max : ∀ (l : List Int) (x : Int), x ≤ l.foldl max x ∧ (∀ y ∈ l, y ≤ l.foldl max x) ∧ (l.foldl max x = x ∨ l.foldl max x ∈ l)
  | [], x => ⟨Int.le_refl _, (fun _ h => by cases h), .inl rfl⟩
  | y :: l, x => by
    obtain ⟨h1, h2, h3⟩ := foldl_max l (max x y)
    simp only [List.foldl_cons]
    refine ⟨by omega, fun z hz => ?_, ?_⟩
    · rcases List.mem_cons.1 hz with rfl | hz
      · omega
      · exact h2 z hz
    · rcases h3 with h3 | h3
      · rw [h3]
        by_cases e : y ≤ x
        · left; omega
        · right; have : max x y = y := by omega
          rw [this]; simp
      · right; simp [h3]

/-- Is there such a deed? -/
def deedOk (D : List Int) (h i : Int) : Bool := ((decide (0 ≤ h) && decide (h < D.length)) && decide (1 ≤ i)) && decide (i ≤ nth D h.toNat)
theorem deed_spec {vD vN : AV} {D : List Int} (hD : IsInts vD D) (hl : D.length < 1000000) (h i : Int) (m : Mem) : denC prog ann 94 [.int .i64 h, .int .i64 i, .fptr [.int .i64 D.length], .fptr [vD, vN]] m = some (.bool (deedOk D h i), m) := by
  rw [watch_read_1.call_eq]
  by_cases q1 : 0 ≤ h
  · by_cases q2 : h < D.length
    · by_cases q3 : 1 ≤ i
      · simp [q1, q2, q3, hD.idxI q1 q2, ints_headI q1 q2, deedOk]
      · simp [q1, q2, q3, deedOk]
    · simp [q1, q2, deedOk]
  · simp [q1, deedOk]

def noteP (D : List Int) (x : Note) : Bool := (deedOk D x.f x.s && deedOk D x.t x.r) && !decide (x.f = x.t)
theorem noteP_iff {D : List Int} {x : Note} : noteP D x = true ↔ NoteIn D x := by
  simp only [noteP, deedOk, Bool.and_eq_true, decide_eq_true_eq, Bool.not_eq_true', decide_eq_false_iff_not]
  constructor
  · rintro ⟨⟨⟨⟨⟨a, b⟩, c⟩, d⟩, ⟨⟨e, f⟩, g⟩, h⟩, i⟩
    exact ⟨a, b, e, f, i, c, d, g, h⟩
  · rintro ⟨a, b, c, d, e, f, g, h, i⟩
    exact ⟨⟨⟨⟨⟨a, b⟩, f⟩, g⟩, ⟨⟨c, d⟩, h⟩, i⟩, e⟩

theorem notes_loop {vD vN : AV} {D D4 : List Int} {N : List Note} (hD : IsInts vD D) (hN : IsSl noteC vN N) (hl : D.length < 1000000) (hn : N.length < 1000000) {sid : Nat} {ids : Nat → Nat} {K : List (List (List Int))} (Kc : List Item) : ∀ (k i : Nat) (m : Mem), N.length - i ≤ k → i ≤ N.length → SAt m sid ids D.length D4 K →
    ((N.drop i).all (noteP D) = true → ∃ m', SAt m' sid ids D.length D4 K ∧ watch_read.L0 (.fptr [vD, vN]) (.fptr [.int .i64 D.length]) (.sptr [.ptr sid 0 9]) (.fn 94 [] [.fptr [.int .i64 D.length], .fptr [vD, vN]]) vN (.int .i64 N.length) (.int .i64 i) m Kc =
      watch_read.L0 (.fptr [vD, vN]) (.fptr [.int .i64 D.length]) (.sptr [.ptr sid 0 9]) (.fn 94 [] [.fptr [.int .i64 D.length], .fptr [vD, vN]]) vN (.int .i64 N.length) (.int .i64 N.length) m' Kc) ∧
    ((N.drop i).all (noteP D) = false → watch_read.L0 (.fptr [vD, vN]) (.fptr [.int .i64 D.length]) (.sptr [.ptr sid 0 9]) (.fn 94 [] [.fptr [.int .i64 D.length], .fptr [vD, vN]]) vN (.int .i64 N.length) (.int .i64 i) m Kc = failR) := by
  intro k
  induction k with
  | zero =>
    intro i m h1 h2 s
    have e : i = N.length := by omega
    subst e
    exact ⟨fun _ => ⟨m, s, rfl⟩, fun h => by simp at h⟩
  | succ k ih =>
    intro i m h1 h2 s
    by_cases h3 : i < N.length
    · have hw : IntKind.wrap .i64 ((i : Int) + 1) = (i : Int) + 1 := wrap_id (by omega) (by omega)
      have s1 : SAt ⟨upd m.h m.nx none, m.nx + 1⟩ sid ids D.length D4 K := s.mono (by simp) (fun id hid => by have : (id == m.nx) = false := by { simp; omega }; simp [this])
      obtain ⟨i1, i2⟩ := ih (i + 1) ⟨upd m.h m.nx none, m.nx + 1⟩ (by omega) (by omega) s1
      simp only [Int.natCast_add, Int.cast_ofNat_Int] at i1 i2
      rw [drop_nt h3, List.all_cons]
      have step : watch_read.L0 (.fptr [vD, vN]) (.fptr [.int .i64 D.length]) (.sptr [.ptr sid 0 9]) (.fn 94 [] [.fptr [.int .i64 D.length], .fptr [vD, vN]]) vN (.int .i64 N.length) (.int .i64 i) m Kc =
          if noteP D (nt N i) then watch_read.L0 (.fptr [vD, vN]) (.fptr [.int .i64 D.length]) (.sptr [.ptr sid 0 9]) (.fn 94 [] [.fptr [.int .i64 D.length], .fptr [vD, vN]]) vN (.int .i64 N.length) (.int .i64 ((i : Int) + 1)) ⟨upd m.h m.nx none, m.nx + 1⟩ Kc else failR := by
        rw [watch_read.L0_eq]
        by_cases q1 : deedOk D (nt N i).f (nt N i).s = true
        · by_cases q2 : deedOk D (nt N i).t (nt N i).r = true
          · by_cases q3 : (nt N i).f = (nt N i).t
            · have q1' := q1
              rw [q3] at q1'
              simp [h3, hN.idx (noteC_len N) h3, load_note h3, noteC, deed_spec hD hl, q1, q1', q2, q3, noteP, failR]
            · simp [h3, hN.idx (noteC_len N) h3, load_note h3, noteC, deed_spec hD hl, q1, q2, q3, noteP, hw]
          · have q2' : deedOk D (nt N i).t (nt N i).r = false := by simpa using q2
            simp [h3, hN.idx (noteC_len N) h3, load_note h3, noteC, deed_spec hD hl, q1, q2', noteP, failR]
        · have q1' : deedOk D (nt N i).f (nt N i).s = false := by simpa using q1
          simp [h3, hN.idx (noteC_len N) h3, load_note h3, noteC, deed_spec hD hl, q1', noteP, failR]
      rw [step]
      cases hq : noteP D (nt N i) with
      | true => simp only [Bool.true_and, if_true]; exact ⟨i1, i2⟩
      | false => simp
    · have e : i = N.length := by omega
      subst e
      exact ⟨fun _ => ⟨m, s, rfl⟩, fun h => by simp at h⟩
end Go.Proofs.Ytdkmepjedjclkaa
