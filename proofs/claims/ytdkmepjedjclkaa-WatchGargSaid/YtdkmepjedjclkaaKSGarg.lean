/-
  THE PLAIN LAW (7): the cuts at which all hands say yes are closed under meet and join; the least of them comes first. Conditions: none.
-/
import Derived.Test.YtdkmepjedjclkaaKSSetB
import Derived.Test.YtdkmepjedjclkaaKTLattice
import Derived.Test.YtdkmepjedjclkaaKSLawF
set_option linter.all false
namespace Go.Proofs.Ytdkmepjedjclkaa
open Go.AM
open Go.Proofs.Try (prog)
set_option linter.all false
set_option maxRecDepth 100000

section
variable {D : List Int} {N : List Note} {F : List (List Bool)}
theorem mem_yes {c : List Int} : c ∈ yesL D N F ↔ c ∈ cutsL D N ∧ yesB F c = true := by rw [yesL, List.mem_filter]
theorem yesB_iff {c : List Int} : yesB F c = true ↔ ∀ h, h < F.length → bnth (gth F h) (nth c h).toNat = true := by
  simp only [yesB, yesR, List.all_eq_true, List.mem_range'_1]
  exact ⟨fun a h hh => a h ⟨by omega, by omega⟩, fun a h hh => a h (by omega)⟩
theorem yes_meet (L : Lims D N) {a b : List Int} (ha : a ∈ yesL D N F) (hb : b ∈ yesL D N F) : zmin a b ∈ yesL D N F := by
  obtain ⟨a1, a2⟩ := mem_yes.1 ha
  obtain ⟨b1, b2⟩ := mem_yes.1 hb
  refine mem_yes.2 ⟨meet_con L a1 b1, yesB_iff.2 fun h hh => ?_⟩
  have e := nth_zmin (a := a) (b := b) (by rw [cutsL_row a1, cutsL_row b1]) h
  have x := yesB_iff.1 a2 h hh
  have y := yesB_iff.1 b2 h hh
  rcases Int.le_total (nth a h) (nth b h) with q | q
  · rw [e, Int.min_eq_left q]; exact x
  · rw [e, Int.min_eq_right q]; exact y
theorem yes_join (L : Lims D N) {a b : List Int} (ha : a ∈ yesL D N F) (hb : b ∈ yesL D N F) : zmax a b ∈ yesL D N F := by
  obtain ⟨a1, a2⟩ := mem_yes.1 ha
  obtain ⟨b1, b2⟩ := mem_yes.1 hb
  refine mem_yes.2 ⟨join_con L a1 b1, yesB_iff.2 fun h hh => ?_⟩
  have e := nth_zmax (a := a) (b := b) (by rw [cutsL_row a1, cutsL_row b1]) h
  have x := yesB_iff.1 a2 h hh
  have y := yesB_iff.1 b2 h hh
  rcases Int.le_total (nth a h) (nth b h) with q | q
  · rw [e, Int.max_eq_right q]; exact y
  · rw [e, Int.max_eq_left q]; exact x
theorem fold_mem {op : List Int → List Int → List Int} {P : List Int → Prop} (h : ∀ a b, P a → P b → P (op a b)) : ∀ (l : List (List Int)) (x : List Int), P x → (∀ y ∈ l, P y) → P (l.foldl op x)
  | [], x, hx, _ => hx
  | y :: l, x, hx, hl => fold_mem h l _ (h x y hx (hl y (by simp))) fun z hz => hl z (by simp [hz])
theorem first_mem (L : Lims D N) (he : yesL D N F ≠ []) : firstL (yesL D N F) ∈ yesL D N F := by
  have key : ∀ Y : List (List Int), Y ≠ [] → (∀ y ∈ Y, y ∈ yesL D N F) → firstL Y ∈ yesL D N F := by
    intro Y hY hm
    cases Y with
    | nil => exact absurd rfl hY
    | cons x l => exact fold_mem (P := fun c => c ∈ yesL D N F) (fun a b ha hb => yes_meet L ha hb) l x (hm x (by simp)) fun y hy => hm y (by simp [hy])
  exact key _ he fun y hy => hy
theorem last_mem (L : Lims D N) (he : yesL D N F ≠ []) : lastL (yesL D N F) ∈ yesL D N F := by
  have key : ∀ Y : List (List Int), Y ≠ [] → (∀ y ∈ Y, y ∈ yesL D N F) → lastL Y ∈ yesL D N F := by
    intro Y hY hm
    cases Y with
    | nil => exact absurd rfl hY
    | cons x l => exact fold_mem (P := fun c => c ∈ yesL D N F) (fun a b ha hb => yes_join L ha hb) l x (hm x (by simp)) fun y hy => hm y (by simp [hy])
  exact key _ he fun y hy => hy
end

theorem lex_of_le : ∀ {a b : List Int}, a.length = b.length → (∀ g, nth a g ≤ nth b g) → lexLt b a = false
  | [], [], _, _ => rfl
  | x :: a, y :: b, hl, h => by
    have h0 : x ≤ y := h 0
    have ih := lex_of_le (a := a) (b := b) (by simpa using hl) fun g => h (g + 1)
    simp only [lexLt]
    by_cases e : y = x
    · rw [if_pos e]; exact ih
    · rw [if_neg e, decide_eq_false_iff_not]; omega
  | [], _ :: _, hl, _ => by simp at hl
  | _ :: _, [], hl, _ => by simp at hl

/-- The first of some cuts in order that holds one that is nowhere greater than the others is that one. -/
theorem head_least {Y : List (List Int)} (hs : Y.Pairwise (fun a b => lexLt a b = true)) {u : List Int} (hu : u ∈ Y) {n : Nat} (hn : ∀ y ∈ Y, y.length = n) (hl : ∀ y ∈ Y, ∀ g, nth u g ≤ nth y g) : Y.head? = some u := by
  cases Y with
  | nil => cases hu
  | cons x l =>
    rw [List.pairwise_cons] at hs
    rcases List.mem_cons.1 hu with e | e
    · rw [e]; rfl
    · have h1 := hs.1 u e
      have h2 := lex_of_le (a := u) (b := x) (by rw [hn u hu, hn x (by simp)]) (hl x (by simp))
      rw [h2] at h1; cases h1

theorem find_sub {p : List Int → Bool} : ∀ {A : List (List Int)}, A.find? p = (A.filter p).head?
  | [] => rfl
  | a :: A => by
    rw [List.find?_cons, List.filter_cons]
    cases q : p a with
    | true => rfl
    | false => exact find_sub (A := A)
theorem filter_mem {A : List (List Int)} {p : List Int → Bool} : A.filter (fun c => decide (c ∈ A.filter p)) = A.filter p := by
  refine List.filter_congr fun c hc => ?_
  by_cases q : p c = true
  · rw [q, decide_eq_true (List.mem_filter.2 ⟨hc, q⟩)]
  · rw [decide_eq_false (fun x => q (List.mem_filter.1 x).2)]
    cases h : p c with
    | true => exact absurd h q
    | false => rfl
end Go.Proofs.Ytdkmepjedjclkaa
