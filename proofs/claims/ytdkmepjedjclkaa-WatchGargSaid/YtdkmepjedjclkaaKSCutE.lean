/-
  CUTS OF A STORY THAT WAS MADE; Back and Forth of a valid story. Conditions: none.
-/
import Derived.Test.YtdkmepjedjclkaaKSMadeC
import Derived.Test.YtdkmepjedjclkaaKBLawB
set_option linter.all false
namespace Go.Proofs.Ytdkmepjedjclkaa
open Go.AM
open Go.Proofs.Try (prog)
set_option linter.all false
set_option maxRecDepth 100000
set_option maxHeartbeats 4000000

/-! ### Arguments -/
theorem u5 : prog.underlying 5 = some (.int .u8) := by kernel_rfl
theorem u36 : prog.underlying 36 = some (.array 4 5) := by kernel_rfl
theorem u37 : prog.underlying 37 = some (.slice 36) := by kernel_rfl
theorem u39 : prog.underlying 39 = some (.struct #[⟨ "Hands", 5, 0, false, "", "", 0⟩, ⟨ "Deeds", 36, 1, false, "", "", 1⟩, ⟨ "Notes", 37, 5, false, "", "", 8⟩]) := by kernel_rfl
theorem dat5 {d : Nat} {cs : List AV} (h : Dat prog (d + 1) 5 cs) : ∃ n, cs = [.int .u8 n] ∧ Byte n := by
  simp only [Dat, u5] at h
  obtain ⟨n, rfl, hw⟩ := h
  refine ⟨n, rfl, ?_⟩
  simp only [Lit.wf, Bool.and_eq_true, decide_eq_true_eq] at hw
  have e1 : IntKind.min .u8 = 0 := by decide
  have e2 : IntKind.max .u8 = 255 := by decide
  rw [e1, e2] at hw
  exact hw
theorem dat36 {d : Nat} {cs : List AV} (h : Dat prog (d + 2) 36 cs) : ∃ xs : List Int, cs = u8s xs ∧ xs.length = 4 ∧ ∀ i, Byte (nth xs i) := by
  rw [Dat] at h
  simp only [u36] at h
  obtain ⟨parts, rfl, hl, hp⟩ := h
  match parts, hl with
  | [a, b, c, e], _ =>
    obtain ⟨n0, rfl, h0⟩ := dat5 (hp a (by simp)).2
    obtain ⟨n1, rfl, h1⟩ := dat5 (hp b (by simp)).2
    obtain ⟨n2, rfl, h2⟩ := dat5 (hp c (by simp)).2
    obtain ⟨n3, rfl, h3⟩ := dat5 (hp e (by simp)).2
    refine ⟨[n0, n1, n2, n3], rfl, rfl, fun i => ?_⟩
    match i with
    | 0 => exact h0
    | 1 => exact h1
    | 2 => exact h2
    | 3 => exact h3
    | _ + 4 => exact ⟨by simp [nth], by simp [nth]⟩
theorem dat37 {d : Nat} {cs : List AV} (h : Dat prog (d + 3) 37 cs) : ∃ v T, cs = [v] ∧ IsSl u8s v T ∧ (∀ x ∈ T, x.length = 4) ∧ (∀ x ∈ T, ∀ i, Byte (nth x i)) ∧ (T.length : Int) ≤ 9223372036854775807 := by
  rw [Dat] at h
  simp only [u37] at h
  rcases h with rfl | ⟨parts, rfl, hl, hp⟩
  · exact ⟨.nils, [], rfl, .inl ⟨rfl, rfl⟩, (fun x h => by cases h), (fun x h => by cases h), by simp⟩
  · have key : ∀ ps : List (List AV), (∀ p ∈ ps, Dat prog (d + 2) 36 p) → ∃ T : List (List Int), T.length = ps.length ∧ ps.flatten = flatC u8s T ∧ (∀ x ∈ T, x.length = 4) ∧ ∀ x ∈ T, ∀ i, Byte (nth x i) := by
      intro ps
      induction ps with
      | nil => exact fun _ => ⟨[], rfl, rfl, (fun x h => by cases h), fun x h => by cases h⟩
      | cons p ps ih =>
        intro h
        obtain ⟨x, e, h4, hB⟩ := dat36 (h p (by simp))
        obtain ⟨T, k1, k2, k3, k4⟩ := ih (fun q hq => h q (by simp [hq]))
        refine ⟨x :: T, by simp [k1], by rw [List.flatten_cons, flatC_cons, e, k2], fun y hy => ?_, fun y hy => ?_⟩
        · rcases List.mem_cons.1 hy with rfl | hy
          · exact h4
          · exact k3 y hy
        · rcases List.mem_cons.1 hy with rfl | hy
          · exact hB
          · exact k4 y hy
    obtain ⟨T, k1, k2, k3, k4⟩ := key parts (fun p hq => (hp p hq).2)
    refine ⟨_, T, rfl, .inr ⟨false, by rw [k1, k2]⟩, k3, k4, ?_⟩
    have : maxLen = 9223372036854775807 := by decide
    omega
theorem datV39 {d : Nat} {a : AV} (h : DatV prog (d + 4) 39 a) : ∃ hh ds vT T, IsTaleN a hh ds vT T := by
  simp only [DatV, u39] at h
  obtain ⟨cs, rfl, h⟩ := h
  rw [Dat] at h
  simp only [u39] at h
  obtain ⟨parts, rfl, hl, hp⟩ := h
  match parts, hl with
  | [a, b, c], _ =>
    obtain ⟨hh, rfl, h0⟩ := dat5 (d := d + 2) (hp 0 _ _ rfl rfl).2
    obtain ⟨ds, rfl, h1, h1'⟩ := dat36 (d := d + 1) (hp 1 _ _ rfl rfl).2
    obtain ⟨vT, T, rfl, h2, h3, h4, h5⟩ := dat37 (d := d) (hp 2 _ _ rfl rfl).2
    exact ⟨hh, ds, vT, T, ⟨by simp, h0, h1, h1', h2, h3, h4, h5⟩⟩
theorem datV36 {d : Nat} {a : AV} (h : DatV prog (d + 2) 36 a) : ∃ xs : List Int, a = .agg (u8s xs) ∧ xs.length = 4 ∧ ∀ i, Byte (nth xs i) := by
  simp only [DatV, u36] at h
  obtain ⟨cs, rfl, h⟩ := h
  obtain ⟨xs, rfl, h1, h2⟩ := dat36 h
  exact ⟨xs, rfl, h1, h2⟩

/-! ### Back and Forth of a valid story -/
def bl (D : List Int) (N : List Note) (l : List Int) : List Int := lastL ((cutsL D N).filter fun x => belowB x l)
def fl (D : List Int) (N : List Note) (l : List Int) : List Int := firstL ((cutsL D N).filter fun x => belowB l x)

section
variable {v vl : AV} {D l : List Int} {N : List Note}
end
end Go.Proofs.Ytdkmepjedjclkaa
