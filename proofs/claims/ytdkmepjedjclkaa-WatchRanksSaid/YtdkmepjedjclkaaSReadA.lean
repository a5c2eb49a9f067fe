/-
  THE PROGRAM READS A STORY (1): how it lies in memory, and the last test. Conditions: none.
-/
import Derived.Test.YtdkmepjedjclkaaSWatchC
import Derived.Test.YtdkmepjedjclkaaSRefE
namespace Go.Proofs.Ytdkmepjedjclkaa
open Go.AM
open Go.Proofs.Try (prog)
set_option linter.all false
set_option maxRecDepth 10000

/-- The slice of a hand's clocks. -/
def slK (ids : Nat → Nat) (K : List (List (List Int))) (h : Nat) : AV := if kth K h = [] then .nils else .sl (ids h) 4 0 (kth K h).length ((kth K h).length * 4)

/-- A story under way in memory. -/
structure SAt (m : Mem) (sid : Nat) (ids : Nat → Nat) (n : Nat) (D : List Int) (K : List (List (List Int))) : Prop where
  st : ∃ V, m.h sid = some (.cells (.int .i64 n :: (ints D ++ V))) ∧ V.length = 4 ∧ ∀ h, h < 4 → vth V h = slK ids K h
  D4 : D.length = 4
  cl : ∀ h, h < 4 → kth K h ≠ [] → m.h (ids h) = some (.cells (flatC ints (kth K h)))
  slt : sid < m.nx
  lt : ∀ h, h < 4 → kth K h ≠ [] → ids h < m.nx
  ne : ∀ h, h < 4 → kth K h ≠ [] → ids h ≠ sid
  inj : ∀ g h, g < 4 → h < 4 → kth K g ≠ [] → kth K h ≠ [] → ids g = ids h → g = h
  four : ∀ h, Four (kth K h)
  few : ∀ h, (kth K h).length ≤ 6

/-- Memory that agrees on all old objects but some. -/
theorem SAt.mono {m m' : Mem} {sid : Nat} {ids : Nat → Nat} {n : Nat} {D : List Int} {K : List (List (List Int))} (s : SAt m sid ids n D K) (hnx : m.nx ≤ m'.nx) (hh : ∀ id, id < m.nx → m'.h id = m.h id) : SAt m' sid ids n D K := by
  obtain ⟨V, h1, h2, h3⟩ := s.st
  exact ⟨⟨V, by rw [hh _ s.slt]; exact h1, h2, h3⟩, s.D4, fun h a b => by rw [hh _ (s.lt h a b)]; exact s.cl h a b, Nat.lt_of_lt_of_le s.slt hnx, fun h a b => Nat.lt_of_lt_of_le (s.lt h a b) hnx, s.ne, s.inj, s.four, s.few⟩

theorem SAt.at {m : Mem} {sid : Nat} {ids : Nat → Nat} {n : Nat} {D : List Int} {K : List (List (List Int))} (s : SAt m sid ids n D K) : ∃ V, m.h sid = some (.cells (.int .i64 n :: (ints D ++ V))) ∧ V.length = 4 ∧ (∀ h, h < 4 → (AV.int .i64 (n : Int) :: (ints D ++ V))[5 + h]? = some (slK ids K h)) ∧ (AV.int .i64 (n : Int) :: (ints D ++ V)).length = 9 := by
  obtain ⟨V, h1, h2, h3⟩ := s.st
  refine ⟨V, h1, h2, fun h hh => ?_, by simp [h2, s.D4]⟩
  rw [show 5 + h = (4 + h) + 1 by omega, List.getElem?_cons_succ, List.getElem?_append_right (by simp [s.D4])]
  simp only [ints_len, s.D4, Nat.add_sub_cancel_left]
  rw [vth_eq (by omega), h3 h hh]

/-- A clock is loaded. -/
theorem SAt.clock {m : Mem} {sid : Nat} {ids : Nat → Nat} {n : Nat} {D : List Int} {K : List (List (List Int))} (s : SAt m sid ids n D K) {h i : Nat} (hh : h < 4) (hi : i < (kth K h).length) :
    slK ids K h = .sl (ids h) 4 0 (kth K h).length ((kth K h).length * 4) ∧ loadO true 4 (i * 4) ((kth K h).length * 4) (m.h (ids h)) = some (.agg (ints (cth (kth K h) i))) := by
  have hne : kth K h ≠ [] := fun e => by rw [e] at hi; simp at hi
  refine ⟨by simp [slK, hne], ?_⟩
  have hc := s.cl h hh hne
  have hl : (flatC ints (kth K h)).length = (kth K h).length * 4 := flatC_len (s.four h).cells
  have hd : (flatC ints (kth K h)).drop (i * 4) = flatC ints ((kth K h).drop i) := flatC_drop i (s.four h).cells
  have hload := load_cut (s.four h) hi
  simp only [loadF_fptr, cond_true] at hload
  rw [hc]
  simp only [loadO_cells, hl, beq_self_eq_true, cond_true, hd]
  have hb : Nat.ble (i * 4 + 4) ((kth K h).length * 4) = true := by rw [Nat.ble_eq]; omega
  rw [hb, cond_true]
  cases hq : Nat.ble 4 (flatC ints ((kth K h).drop i)).length with
  | false => rw [hq] at hload; cases hload
  | true => rw [hq] at hload; simpa using hload

/-- Is a clock among those of a hand? -/
theorem contains_call {m : Mem} {sid : Nat} {ids : Nat → Nat} {n : Nat} {D : List Int} {K : List (List (List Int))} (s : SAt m sid ids n D K) {g : Nat} (hg : g < 4) {c : List Int} (hc : c.length = 4) :
    callA (fun g => (ann g).pure) (denC prog ann) 0 m (.fn 96 [] []) [slK ids K g, .agg (ints c)] = some (.bool (decide (c ∈ kth K g)), m) := by
  have hf := s.four g
  have hw := s.few g
  by_cases e : kth K g = []
  · have := contains_spec (v := .nils) (l := []) (c := c) IsSl.nils (fun _ h => by cases h) hc (by simp) Mem.empty
    simp [slK, e, this]
  · have := contains_spec (v := .fsl false (kth K g).length (flatC ints (kth K g))) (IsSl.fsl _ _) hf hc (by omega) Mem.empty
    have hl : (flatC ints (kth K g)).length = (kth K g).length * 4 := flatC_len hf.cells
    have hd := flatC_deep m.h 4 (f := ints) (fun a => mapO_ints m.h 4 a) (kth K g)
    have ht : (flatC ints (kth K g)).take ((kth K g).length * 4) = flatC ints (kth K g) := List.take_of_length_le (by omega)
    simp [slK, e, s.cl g hg e, hl, ht, hd, this, AV.flat, AV.flat1]

/-! ### The last test -/
def badIn (K : List (List (List Int))) (n h g : Nat) (c : List Int) : Bool := (List.range' g (n - g)).any fun g => !decide (g = h) && decide (c ∈ kth K g)
def failR : Option Res := some (.tup [.nilp, .bool false], Mem.empty)

theorem chk_g {sid : Nat} {ids : Nat → Nat} {n : Nat} {D : List Int} {K : List (List (List Int))} (hn : n ≤ 4) {h i : Nat} (hi100 : i < 1000) {c : List Int} (hc : c.length = 4) (x190 : AV) (x191 : Nat) : ∀ (k g : Nat) (m : Mem), n - g ≤ k → g ≤ n → SAt m sid ids n D K →
    ∃ m', SAt m' sid ids n D K ∧ watch_read.L18 (.fptr [.int .i64 n]) (.sptr [.ptr sid 0 9]) (.int .i64 h) (.fptr (ints c)) (.int .i64 n) (.int .i64 h) x190 (.int .i64 x191) (.int .i64 i) (.int .i64 n) (.int .i64 g) m
        [.inBlock 17, .code watch_read.r57, .inLoop watch_read.l16, .inBlock 16, .inBlock 15, .code watch_read.r58, .inLoop watch_read.l14, .inBlock 14, .code watch_read.r59, .code .ret] =
      if badIn K n h g c then failR else watch_read.L16 (.fptr [.int .i64 n]) (.sptr [.ptr sid 0 9]) (.int .i64 h) (.int .i64 n) (.int .i64 h) x190 (.int .i64 x191) (.int .i64 ((i : Int) + 1)) m' [.inBlock 15, .code watch_read.r58, .inLoop watch_read.l14, .inBlock 14, .code watch_read.r59, .code .ret] := by
  have hwi : IntKind.wrap .i64 ((i : Int) + 1) = (i : Int) + 1 := wrap_id (by omega) (by omega)
  intro k
  induction k with
  | zero =>
    intro g m h1 h2 s
    have e : g = n := by omega
    subst e
    refine ⟨m, s, ?_⟩
    rw [watch_read.L18_eq]
    simp [badIn, hwi]
  | succ k ih =>
    intro g m h1 h2 s
    by_cases h3 : g < n
    · obtain ⟨V, v1, v2, v3, v4⟩ := s.at
      have hg4 : g < 4 := by omega
      have hcc := contains_call (m := ⟨m.h, m.nx + 13⟩) (s.mono (by simp) (fun _ _ => rfl)) hg4 hc
      have hcl := load_ints (r := []) hc
      simp only [List.append_nil] at hcl
      have hb : badIn K n h g c = ((!decide (g = h) && decide (c ∈ kth K g)) || badIn K n h (g + 1) c) := by
        simp only [badIn]
        rw [show n - g = (n - (g + 1)) + 1 by omega, List.range'_succ, List.any_cons]
      have hw : IntKind.wrap .i64 ((g : Int) + 1) = (g : Int) + 1 := wrap_id (by omega) (by omega)
      obtain ⟨m', i1, i2⟩ := ih (g + 1) ⟨m.h, m.nx + 13⟩ (by omega) (by omega) (s.mono (by simp) (fun _ _ => rfl))
      refine ⟨m', i1, ?_⟩
      rw [hb, watch_read.L18_eq]
      simp only [Int.natCast_add, Int.cast_ofNat_Int] at i2
      have v3' := v3 g hg4
      simp only [List.length_cons, List.length_append, ints_len] at v4
      have ht4 : c.take 4 = c := List.take_of_length_le (by omega)
      by_cases q1 : g = h
      · subst q1
        simp [h3, hw, i2]
      · have q1' : ¬ (g : Int) = h := by omega
        by_cases q2 : c ∈ kth K g
        · simp [h3, q1, q1', v1, v4, v3', hg4, hc, ht4, hcc, q2, failR]
        · simp [h3, q1, q1', v1, v4, v3', hg4, hc, ht4, hcc, q2, hw, i2]
    · have e : g = n := by omega
      subst e
      refine ⟨m, s, ?_⟩
      rw [watch_read.L18_eq]
      simp [badIn, hwi]

/-- Is a clock of a hand not what it must be, from the i-th on? -/
def badRow (K : List (List (List Int))) (n h i : Nat) : Bool := (List.range' i ((kth K h).length - i)).any fun i => !decide (nth (cth (kth K h) i) h = (i : Int) + 1) || badIn K n h 0 (cth (kth K h) i)

theorem chk_i {sid : Nat} {ids : Nat → Nat} {n : Nat} {D : List Int} {K : List (List (List Int))} (hn : n ≤ 4) {h : Nat} (hh : h < n) : ∀ (k i : Nat) (m : Mem), (kth K h).length - i ≤ k → i ≤ (kth K h).length → SAt m sid ids n D K →
    ∃ m', SAt m' sid ids n D K ∧ watch_read.L16 (.fptr [.int .i64 n]) (.sptr [.ptr sid 0 9]) (.int .i64 h) (.int .i64 n) (.int .i64 h) (slK ids K h) (.int .i64 ((kth K h).length : Nat)) (.int .i64 i) m [.inBlock 15, .code watch_read.r58, .inLoop watch_read.l14, .inBlock 14, .code watch_read.r59, .code .ret] =
      if badRow K n h i then failR else watch_read.L14 (.fptr [.int .i64 n]) (.sptr [.ptr sid 0 9]) (.int .i64 n) (.int .i64 ((h : Int) + 1)) m' [.code watch_read.r59, .code .ret] := by
  have hwh : IntKind.wrap .i64 ((h : Int) + 1) = (h : Int) + 1 := wrap_id (by omega) (by omega)
  intro k
  induction k with
  | zero =>
    intro i m h1 h2 s
    have e : i = (kth K h).length := by omega
    refine ⟨m, s, ?_⟩
    rw [watch_read.L16_eq]
    simp [badRow, e, hwh]
  | succ k ih =>
    intro i m h1 h2 s
    by_cases h3 : i < (kth K h).length
    · obtain ⟨c1, c2⟩ := s.clock (show h < 4 by omega) h3
      have hc : (cth (kth K h) i).length = 4 := s.four h _ (cth_mem h3)
      have hfew := s.few h
      have hb : badRow K n h i = ((!decide (nth (cth (kth K h) i) h = (i : Int) + 1) || badIn K n h 0 (cth (kth K h) i)) || badRow K n h (i + 1)) := by
        simp only [badRow]
        rw [show (kth K h).length - i = ((kth K h).length - (i + 1)) + 1 by omega, List.range'_succ, List.any_cons]
      have hw : IntKind.wrap .i64 ((i : Int) + 1) = (i : Int) + 1 := wrap_id (by omega) (by omega)
      have s1 : SAt ⟨upd m.h m.nx none, m.nx + 1⟩ sid ids n D K := s.mono (by simp) (fun id hid => by have : (id == m.nx) = false := by { simp; omega }; simp [this])
      obtain ⟨m1, j1, j2⟩ := chk_g hn (h := h) (i := i) (by omega) hc (slK ids K h) ((kth K h).length) n 0 ⟨upd m.h m.nx none, m.nx + 1⟩ (by omega) (by omega) s1
      obtain ⟨m', i1, i2⟩ := ih (i + 1) m1 (by omega) (by omega) j1
      refine ⟨m', i1, ?_⟩
      simp only [Int.natCast_add, Int.cast_ofNat_Int] at i2
      rw [i2] at j2
      rw [hb, watch_read.L16_eq]
      simp at j2
      have hh4 : h < (cth (kth K h) i).length := by omega
      rw [c1] at j2 ⊢
      by_cases q1 : nth (cth (kth K h) i) h = (i : Int) + 1
      · simp [h3, c2, hc, ints_head hh4, show h < 4 by omega, q1, hw, j2]
        by_cases q3 : badIn K n h 0 (cth (kth K h) i) = true <;> simp [q3]
      · simp [h3, c2, hc, ints_head hh4, show h < 4 by omega, q1, hw, failR]
    · have e : i = (kth K h).length := by omega
      refine ⟨m, s, ?_⟩
      rw [watch_read.L16_eq]
      simp [badRow, e, hwh]

def badAll (K : List (List (List Int))) (n h : Nat) : Bool := (List.range' h (n - h)).any fun h => badRow K n h 0

/-- The clocks' slices as values. -/
def valK (K : List (List (List Int))) (h : Nat) : AV := if kth K h = [] then .nils else .fsl false (kth K h).length (flatC ints (kth K h))
def vals4 (K : List (List (List Int))) : List AV := [valK K 0, valK K 1, valK K 2, valK K 3]
def okR (n : Nat) (D : List Int) (K : List (List (List Int))) : Option Res := some (.tup [.fptr (.int .i64 n :: (ints D ++ vals4 K)), .bool true], Mem.empty)

theorem deep_slK {m : Mem} {sid : Nat} {ids : Nat → Nat} {n : Nat} {D : List Int} {K : List (List (List Int))} (s : SAt m sid ids n D K) {h : Nat} (hh : h < 4) (d : Nat) : deep m.h (d + 2) (slK ids K h) = some (valK K h) := by
  by_cases e : kth K h = []
  · simp [slK, valK, e]
  · have hl : (flatC ints (kth K h)).length = (kth K h).length * 4 := flatC_len (s.four h).cells
    have hd := flatC_deep m.h d (f := ints) (fun a => mapO_ints m.h d a) (kth K h)
    have ht : (flatC ints (kth K h)).take ((kth K h).length * 4) = flatC ints (kth K h) := List.take_of_length_le (by omega)
    simp [slK, valK, e, s.cl h hh e, hl, ht, hd]

theorem chk_h {sid : Nat} {ids : Nat → Nat} {n : Nat} {D : List Int} {K : List (List (List Int))} (hn : n ≤ 4) : ∀ (k h : Nat) (m : Mem), n - h ≤ k → h ≤ n → SAt m sid ids n D K →
    watch_read.L14 (.fptr [.int .i64 n]) (.sptr [.ptr sid 0 9]) (.int .i64 n) (.int .i64 h) m [.code watch_read.r59, .code .ret] = if badAll K n h then failR else okR n D K := by
  have fin : ∀ (m : Mem), SAt m sid ids n D K → watch_read.L14 (.fptr [.int .i64 n]) (.sptr [.ptr sid 0 9]) (.int .i64 n) (.int .i64 n) m [.code watch_read.r59, .code .ret] = okR n D K := by
    intro m s
    obtain ⟨V, v1, v2, v3⟩ := s.st
    have hD4 := s.D4
    obtain ⟨a0, a1, a2, a3, rfl⟩ : ∃ a0 a1 a2 a3, V = [a0, a1, a2, a3] := by
      match V, v2 with
      | [a0, a1, a2, a3], _ => exact ⟨a0, a1, a2, a3, rfl⟩
    have e0 : a0 = slK ids K 0 := v3 0 (by omega)
    have e1 : a1 = slK ids K 1 := v3 1 (by omega)
    have e2 : a2 = slK ids K 2 := v3 2 (by omega)
    have e3 : a3 = slK ids K 3 := v3 3 (by omega)
    subst e0 e1 e2 e3
    rw [watch_read.L14_eq]
    simp [v1, hD4, mapO_append, deep_slK s (show 0 < 4 by omega) 2, deep_slK s (show 1 < 4 by omega) 2, deep_slK s (show 2 < 4 by omega) 2, deep_slK s (show 3 < 4 by omega) 2, okR, vals4]
  intro k
  induction k with
  | zero =>
    intro h m h1 h2 s
    have e : h = n := by omega
    subst e
    rw [fin m s]
    simp [badAll]
  | succ k ih =>
    intro h m h1 h2 s
    by_cases h3 : h < n
    · obtain ⟨V, v1, v2, v3, v4⟩ := s.at
      have hh4 : h < 4 := by omega
      simp only [List.length_cons, List.length_append, ints_len] at v4
      have v3' := v3 h hh4
      have hb : badAll K n h = (badRow K n h 0 || badAll K n (h + 1)) := by
        simp only [badAll]
        rw [show n - h = (n - (h + 1)) + 1 by omega, List.range'_succ, List.any_cons]
      obtain ⟨m', j1, j2⟩ := chk_i hn h3 (kth K h).length 0 m (by omega) (by omega) s
      have i2 := ih (h + 1) m' (by omega) (by omega) j1
      simp only [Int.natCast_add, Int.cast_ofNat_Int] at i2
      rw [i2] at j2
      simp at j2
      have hlen : lenSl (slK ids K h) = some (.int .i64 (kth K h).length) := by
        by_cases e : kth K h = [] <;> simp [slK, e]
      rw [hb, watch_read.L14_eq]
      simp [h3, v1, v4, v3', hh4, hlen, j2]
      by_cases q3 : badRow K n h 0 = true <;> simp [q3]
    · have e : h = n := by omega
      subst e
      rw [fin m s]
      simp [badAll]
end Go.Proofs.Ytdkmepjedjclkaa
