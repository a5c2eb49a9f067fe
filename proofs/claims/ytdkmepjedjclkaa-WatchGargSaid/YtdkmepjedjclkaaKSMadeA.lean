/-
  A STORY MADE OF ARBITRARY NUMBERS (1): the deeds. Conditions: none.
-/
import Derived.Test.YtdkmepjedjclkaaKRef
import Derived.Test.YtdkmepjedjclkaaKSDat
import Derived.Test.YtdkmepjedjclkaaKBMade
set_option linter.all false
namespace Go.Proofs.Ytdkmepjedjclkaa
open Go.AM
open Go.Proofs.Try (prog)
set_option linter.all false
set_option maxRecDepth 100000

def u8s (l : List Int) : List AV := l.map (.int .u8)
@[simp] theorem u8s_len (l : List Int) : (u8s l).length = l.length := by simp [u8s]
@[simp] theorem u8s_nil : u8s [] = [] := rfl
@[simp] theorem u8s_cons (a : Int) (l : List Int) : u8s (a :: l) = .int .u8 a :: u8s l := rfl
@[simp] theorem u8s_oneL (l : List Int) : oneL (u8s l) = true := by induction l <;> simp_all
@[simp] theorem u8s_closedL (l : List Int) : closedL (u8s l) = true := by induction l <;> simp_all
def Byte (n : Int) : Prop := 0 ≤ n ∧ n ≤ 255
theorem wrap_byte {n : Int} (h : Byte n) : IntKind.wrap .i64 n = n := wrap_id (by have := h.1; omega) (by have := h.2; omega)

/-- The numbers that a story is made of. -/
structure IsTaleN (a : AV) (hh : Int) (ds : List Int) (vT : AV) (T : List (List Int)) : Prop where
  eq : a = .agg (.int .u8 hh :: (u8s ds ++ [vT]))
  hB : Byte hh
  d4 : ds.length = 4
  dB : ∀ i, Byte (nth ds i)
  vT : IsSl u8s vT T
  t4 : ∀ x ∈ T, x.length = 4
  tB : ∀ x ∈ T, ∀ i, Byte (nth x i)
  tl : (T.length : Int) ≤ 9223372036854775807

/-- The story so far, in memory. -/
structure SM (m : Mem) (D : List Int) (vN : AV) : Prop where
  r : m.h 0 = some (.cells [.nils, .nils])
  nx : 2 ≤ m.nx
  s : (D = [] ∧ m.h 1 = some (.cells [.nils, vN])) ∨ ∃ id, D ≠ [] ∧ m.h 1 = some (.cells [.sl id 1 0 D.length D.length, vN]) ∧ m.h id = some (.cells (ints D)) ∧ 2 ≤ id ∧ id < m.nx

theorem made_deeds {a vT : AV} {hh : Int} {ds : List Int} {T : List (List Int)} (t : IsTaleN a hh ds vT T) : ∀ (k h : Nat) (D : List Int) (m : Mem), (h : Int) + k = hh.tmod 4 + 1 → D.length = h → SM m D .nils → (∀ g, 0 ≤ nth D g ∧ nth D g ≤ 6) →
    ∃ D' m', ((D'.length : Nat) : Int) = hh.tmod 4 + 1 ∧ SM m' D' .nils ∧ (∀ g, 0 ≤ nth D' g ∧ nth D' g ≤ 6) ∧
      l09_Tale_made.L0 (.fptr (.int .u8 hh :: (u8s ds ++ [vT]))) (.ptr 0 0 2) (.ptr 1 0 2) (.int .i64 h) m [.code l09_Tale_made.r6, .code l09_Tale_made.k2, .code l09_Tale_made.r16, .code .ret] = l09_Tale_made.L2 (.fptr (.int .u8 hh :: (u8s ds ++ [vT]))) (.ptr 0 0 2) (.ptr 1 0 2) (.int .i64 0) m' [.code l09_Tale_made.r16, .code .ret] := by
  intro k
  induction k with
  | zero =>
    intro h D m h1 h2 s hD
    refine ⟨D, m, by omega, s, hD, ?_⟩
    have hw0 := wrap_byte t.hB
    have h3 : ¬ (h : Int) ≤ hh.tmod 4 := by omega
    rw [l09_Tale_made.L0_eq]
    simp [hw0, h3]
    done
  | succ k ih =>
    intro h D m h1 h2 s hD
    have hb := t.hB
    have hw0 := wrap_byte t.hB
    have h3 : (h : Int) ≤ hh.tmod 4 := by omega
    have h5 : hh.tmod 4 < 4 := by rw [Int.tmod_eq_emod_of_nonneg hb.1]; omega
    have h4 : h < 4 := by omega
    have h4' : (h : Int) < 4 := by omega
    have hd4 := t.d4
    have hld : (u8s ds ++ [vT])[h]? = some (.int .u8 (nth ds h)) := by
      rw [List.getElem?_append_left (by simp; omega)]
      simp [u8s, nth_eq (show h < ds.length by omega)]
    have hw1 := wrap_byte (t.dB h)
    have hB := t.dB h
    have hm7 : 0 ≤ (nth ds h).tmod 7 ∧ (nth ds h).tmod 7 ≤ 6 := by rw [Int.tmod_eq_emod_of_nonneg hB.1]; omega
    have hw2 : IntKind.wrap .i64 ((nth ds h).tmod 7) = (nth ds h).tmod 7 := wrap_id (by omega) (by omega)
    have hwh : IntKind.wrap .i64 (hh.tmod 4) = hh.tmod 4 := wrap_id (by have := Int.tmod_nonneg 4 hb.1; omega) (by omega)
    have hwi : IntKind.wrap .i64 ((h : Int) + 1) = (h : Int) + 1 := wrap_id (by omega) (by omega)
    have hD' : ∀ g, 0 ≤ nth (D ++ [(nth ds h).tmod 7]) g ∧ nth (D ++ [(nth ds h).tmod 7]) g ≤ 6 := fun g => by
      simp only [nth, List.getD]
      rcases Nat.lt_or_ge g D.length with h1 | h1
      · rw [List.getElem?_append_left h1]; exact hD g
      · rw [List.getElem?_append_right h1]
        cases g - D.length with
        | zero => show 0 ≤ (nth ds h).tmod 7 ∧ (nth ds h).tmod 7 ≤ 6; exact hm7
        | succ n => simp
    rw [l09_Tale_made.L0_eq]
    rcases s.s with ⟨rfl, s1⟩ | ⟨id, hne, s1, s2, s3, s4⟩
    · simp at h2
      subst h2
      obtain ⟨D', m', i1, i2, i3, i4⟩ := ih 1 [(nth ds 0).tmod 7] ⟨upd (upd m.h (m.nx + 9) (some (.cells (ints [(nth ds 0).tmod 7])))) 1 (some (.cells [.sl (m.nx + 9) 1 0 1 1, .nils])), m.nx + 12⟩ (by omega) rfl ⟨by have : (0 == m.nx + 9) = false := (by simp); simp [this, s.r], by have := s.nx; show 2 ≤ m.nx + 12; omega, .inr ⟨m.nx + 9, by simp, by simp, by have := s.nx; have : (m.nx + 9 == 1) = false := (by simp); simp [this], by have := s.nx; omega, by show m.nx + 9 < m.nx + 12; omega⟩⟩ (by simpa using hD')
      refine ⟨D', m', i1, i2, i3, ?_⟩
      rw [← i4]
      have hds : (u8s ds).head?.getD vT = .int .u8 (nth ds 0) := by
        match ds, hd4 with
        | a :: l, _ => rfl
      have e1 : (1 == m.nx + 9) = false := by simp
      simp at hld hw1 hw2 hwi h3
      simp [hw0, h3, hwh, hld, hw1, hw2, s1, hds, e1]
      done
    · have e0 : (id == 0) = false := by simp; omega
      have e1 : (id == 1) = false := by simp; omega
      have e2 : (0 == id) = false := by simp; omega
      have e3 : (1 == id) = false := by simp; omega
      have hDl : D.length ≤ 4 := by omega
      have hr : ints D ++ [.int .i64 ((nth ds h).tmod 7)] = ints (D ++ [(nth ds h).tmod 7]) := by simp [ints]
      obtain ⟨D', m', i1, i2, i3, i4⟩ := ih (h + 1) (D ++ [(nth ds h).tmod 7]) ⟨upd (upd m.h id (some (.cells (ints (D ++ [(nth ds h).tmod 7]))))) 1 (some (.cells [.sl id 1 0 (D.length + 1) (D.length + 1), .nils])), m.nx + 12⟩ (by omega) (by simp [h2]) ⟨by simp [e2, s.r], by have := s.nx; show 2 ≤ m.nx + 12; omega, .inr ⟨id, by simp, by simp, by simp [e1], s3, by show id < m.nx + 12; omega⟩⟩ hD'
      refine ⟨D', m', i1, i2, i3, ?_⟩
      simp only [Int.natCast_add, Int.cast_ofNat_Int] at i4
      rw [← i4]
      simp [hw0, h3, hwh, hld, hw1, hw2, hwi, s1, s2, h4, h4', hr, e0, e1, e2, e3, show D.length ≤ 4611686018427387903 by omega, show (D.length + 1) * 8 ≤ 70368744177664 by omega]
      done
end Go.Proofs.Ytdkmepjedjclkaa
