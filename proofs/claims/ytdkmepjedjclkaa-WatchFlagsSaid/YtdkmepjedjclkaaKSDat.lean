/-
  WHAT THE LAWS' ARGUMENTS ARE: numbers, lists of numbers, stories. Conditions: none.
-/
import Derived.Test.YtdkmepjedjclkaaKAmF
import Derived.Test.YtdkmepjedjclkaaKRef
set_option linter.all false
namespace Go.Proofs.Ytdkmepjedjclkaa
open Go.AM
open Go.Proofs.Try (prog)
set_option linter.all false
set_option maxRecDepth 10000

theorem u3 : prog.underlying 3 = some (.int .i64) := by kernel_rfl
theorem u22 : prog.underlying 22 = some (.slice 3) := by kernel_rfl
theorem u23 : prog.underlying 23 = some (.slice 57) := by kernel_rfl
theorem u57 : prog.underlying 57 = some (.struct #[⟨ "From", 3, 0, false, "", "", 0⟩, ⟨ "Sent", 3, 1, false, "", "", 8⟩, ⟨ "To", 3, 2, false, "", "", 16⟩, ⟨ "Received", 3, 3, false, "", "", 24⟩]) := by kernel_rfl
theorem u25 : prog.underlying 25 = some (.struct #[⟨ "Deeds", 22, 0, false, "", "", 0⟩, ⟨ "Notes", 23, 1, false, "", "", 24⟩]) := by kernel_rfl
def I64 (n : Int) : Prop := -9223372036854775808 ≤ n ∧ n ≤ 9223372036854775807
theorem dat3 {d : Nat} {cs : List AV} (h : Dat prog (d + 1) 3 cs) : ∃ n, cs = [.int .i64 n] ∧ I64 n := by
  simp only [Dat, u3] at h
  obtain ⟨n, rfl, hw⟩ := h
  refine ⟨n, rfl, ?_⟩
  simp only [Lit.wf, Bool.and_eq_true, decide_eq_true_eq] at hw
  have e1 : IntKind.min .i64 = -9223372036854775808 := by decide
  have e2 : IntKind.max .i64 = 9223372036854775807 := by decide
  rw [e1, e2] at hw
  exact hw

theorem parts_list {α : Type} (f : α → List AV) (R : List AV → Prop) (hR : ∀ p, R p → ∃ a, p = f a) : ∀ (parts : List (List AV)), (∀ p ∈ parts, R p) → ∃ l : List α, l.length = parts.length ∧ parts.flatten = flatC f l
  | [], _ => ⟨[], rfl, rfl⟩
  | p :: ps, h => by
    obtain ⟨a, e⟩ := hR p (h p (by simp))
    obtain ⟨l, h1, h2⟩ := parts_list f R hR ps (fun q hq => h q (by simp [hq]))
    exact ⟨a :: l, by simp [h1], by rw [List.flatten_cons, flatC_cons, e, h2]⟩

theorem flatC_ints : ∀ l : List Int, flatC (fun n => [AV.int .i64 n]) l = ints l
  | [] => rfl
  | a :: l => by rw [flatC_cons, flatC_ints l]; rfl

theorem dat22 {d : Nat} {cs : List AV} (h : Dat prog (d + 2) 22 cs) : ∃ v l, cs = [v] ∧ IsInts v l ∧ (l.length : Int) ≤ 9223372036854775807 := by
  rw [Dat] at h
  simp only [u22] at h
  rcases h with rfl | ⟨parts, rfl, hl, hp⟩
  · exact ⟨.nils, [], rfl, .inl ⟨rfl, rfl⟩, by simp⟩
  · obtain ⟨l, h1, h2⟩ := parts_list (fun n : Int => [AV.int .i64 n]) (fun p => ∃ n, p = [.int .i64 n]) (fun p h => h) parts (fun p hq => by obtain ⟨n, e, _⟩ := dat3 (hp p hq).2; exact ⟨n, e⟩)
    rw [flatC_ints] at h2
    refine ⟨_, l, rfl, .inr ⟨false, by rw [h1, h2]⟩, ?_⟩
    have : maxLen = 9223372036854775807 := by decide
    omega

theorem dat57 {d : Nat} {cs : List AV} (h : Dat prog (d + 2) 57 cs) : ∃ x : Note, cs = noteC x := by
  rw [Dat] at h
  simp only [u57] at h
  obtain ⟨parts, rfl, hl, hp⟩ := h
  match parts, hl with
  | [a, b, c, e], _ =>
    obtain ⟨n0, rfl, _⟩ := dat3 (hp 0 _ _ rfl rfl).2
    obtain ⟨n1, rfl, _⟩ := dat3 (hp 1 _ _ rfl rfl).2
    obtain ⟨n2, rfl, _⟩ := dat3 (hp 2 _ _ rfl rfl).2
    obtain ⟨n3, rfl, _⟩ := dat3 (hp 3 _ _ rfl rfl).2
    exact ⟨⟨n0, n1, n2, n3⟩, rfl⟩

theorem dat23 {d : Nat} {cs : List AV} (h : Dat prog (d + 3) 23 cs) : ∃ v l, cs = [v] ∧ IsSl noteC v l ∧ (l.length : Int) ≤ 9223372036854775807 := by
  rw [Dat] at h
  simp only [u23] at h
  rcases h with rfl | ⟨parts, rfl, hl, hp⟩
  · exact ⟨.nils, [], rfl, .inl ⟨rfl, rfl⟩, by simp⟩
  · obtain ⟨l, h1, h2⟩ := parts_list noteC (fun p => ∃ x, p = noteC x) (fun p h => h) parts (fun p hq => dat57 (hp p hq).2)
    refine ⟨_, l, rfl, .inr ⟨false, by rw [h1, h2]⟩, ?_⟩
    have : maxLen = 9223372036854775807 := by decide
    omega

/-- A story as a law's argument. -/
theorem dat25 {d : Nat} {a : AV} (h : DatV prog (d + 4) 25 a) : ∃ D N, IsTale a D N ∧ (D.length : Int) ≤ 9223372036854775807 ∧ (N.length : Int) ≤ 9223372036854775807 := by
  simp only [DatV, u25] at h
  obtain ⟨cs, rfl, h⟩ := h
  rw [Dat] at h
  simp only [u25] at h
  obtain ⟨parts, rfl, hl, hp⟩ := h
  match parts, hl with
  | [a, b], _ =>
    obtain ⟨v0, D, rfl, h0, k0⟩ := dat22 (d := d + 1) (hp 0 _ _ rfl rfl).2
    obtain ⟨v1, N, rfl, h1, k1⟩ := dat23 (d := d) (hp 1 _ _ rfl rfl).2
    exact ⟨D, N, ⟨v0, v1, rfl, h0, h1⟩, k0, k1⟩

end Go.Proofs.Ytdkmepjedjclkaa
