/-
  THE PLAIN LAW (6): the cuts stand in order; a consistent cut is the join of clocks. Conditions: none.
-/
import Derived.Test.YtdkmepjedjclkaaKSLawE
set_option linter.all false
namespace Go.Proofs.Ytdkmepjedjclkaa
open Go.AM
open Go.Proofs.Try (prog)
set_option linter.all false
set_option maxRecDepth 10000

theorem lexLt_irr : ∀ a : List Int, lexLt a a = false
  | [] => rfl
  | a :: x => by simp [lexLt, lexLt_irr x]
theorem tuples_sorted : ∀ D : List Int, (tuplesL D).Pairwise (fun a b => lexLt a b = true)
  | [] => by simp [tuplesL]
  | d :: D => by
    simp only [tuplesL]
    rw [List.pairwise_flatMap]
    refine ⟨fun i _ => ?_, ?_⟩
    · rw [List.pairwise_map]
      exact (tuples_sorted D).imp fun h => by simpa [lexLt] using h
    · refine List.pairwise_lt_range.imp fun {i j} hij a ha b hb => ?_
      simp only [List.mem_map] at ha hb
      obtain ⟨a', _, rfl⟩ := ha
      obtain ⟨b', _, rfl⟩ := hb
      have h1 : ¬ (i : Int) = j := by omega
      simp only [lexLt, h1, if_false, decide_eq_true_eq]
      omega
theorem cuts_sorted (D : List Int) (N : List Note) : (cutsL D N).Pairwise (fun a b => lexLt a b = true) := (tuples_sorted D).filter _

theorem sorted_find : ∀ {rows : List (List Int)} (h : rows.Pairwise (fun a b => lexLt a b = true)) {i : Nat} (hi : i < rows.length), rows.findIdx? (fun x => rows[i] == x) = some i
  | a :: rows, h, 0, _ => by simp [List.findIdx?_cons]
  | a :: rows, h, i + 1, hi => by
    rw [List.pairwise_cons] at h
    have hi' : i < rows.length := by simpa using hi
    have hne : (rows[i] == a) = false := by
      refine beq_eq_false_iff_ne.2 fun e => ?_
      have := h.1 _ (List.getElem_mem hi')
      rw [e, lexLt_irr] at this; cases this
    have ih := sorted_find h.2 hi'
    rw [List.findIdx?_cons]
    simp only [List.getElem_cons_succ, hne]
    simp [ih]
theorem rank_at {D : List Int} {N : List Note} {i : Nat} (hi : i < (cutsL D N).length) : rankOf D N (cutsL D N)[i] = i := by
  rw [rankOf, sorted_find (cuts_sorted D N) hi]

/-- The join of the clocks of the hands' last deeds: from hand h on, k hands. -/
def joinR (K : List (List (List Int))) (n : Nat) (l : List Int) : Nat → Nat → List Int → List Int
  | 0, _, out => out
  | k + 1, h, out => joinR K n l k (h + 1) (if 0 < nth l h then zmax out ((clk K h ((nth l h).toNat - 1)).take n) else out)

section
variable {D : List Int} {N : List Note} {K : List (List (List Int))}
theorem clk_take {n h i : Nat} (h4 : (clk K h i).length = 4) (hn : n ≤ 4) : ((clk K h i).take n).length = n := by simp [h4]; omega
theorem cut_deed {l : List Int} (hc : CutL D l) {h : Nat} (hp : 0 < nth l h) : h < D.length ∧ (((nth l h).toNat - 1 : Nat) : Int) < nth D h := by
  have a := hc.hi h
  refine ⟨?_, by omega⟩
  rcases Nat.lt_or_ge h D.length with h1 | h1
  · exact h1
  · rw [nth_out h1] at a; omega
theorem joinR_step (c : Clocks D N K) {l : List Int} (hc : CutL D l) {h : Nat} {out : List Int} (ho : out.length = D.length) : (if 0 < nth l h then zmax out ((clk K h ((nth l h).toNat - 1)).take D.length) else out).length = D.length := by
  have h4 := c.P.L.n4
  split
  · rename_i hp
    obtain ⟨a, b⟩ := cut_deed hc hp
    have := clk_take (c.clk4 a b) h4
    simp [zmax, ho, this]
  · exact ho
theorem joinR_len (c : Clocks D N K) {l : List Int} (hc : CutL D l) : ∀ (k h : Nat) (out : List Int), out.length = D.length → (joinR K D.length l k h out).length = D.length
  | 0, _, _, ho => ho
  | k + 1, h, out, ho => joinR_len c hc k (h + 1) _ (joinR_step c hc ho)
theorem joinR_ge (c : Clocks D N K) {l : List Int} (hc : CutL D l) : ∀ (k h : Nat) (out : List Int), out.length = D.length → ∀ q, nth out q ≤ nth (joinR K D.length l k h out) q
  | 0, _, _, ho, q => Int.le_refl _
  | k + 1, h, out, ho, q => by
    refine Int.le_trans ?_ (joinR_ge c hc k (h + 1) _ (joinR_step c hc ho) q)
    split
    · rename_i hp
      obtain ⟨a, b⟩ := cut_deed hc hp
      rw [nth_zmax (by rw [ho, clk_take (c.clk4 a b) c.P.L.n4])]
      omega
    · exact Int.le_refl _
theorem joinR_own (c : Clocks D N K) {l : List Int} (hc : CutL D l) : ∀ (k h : Nat) (out : List Int), out.length = D.length → ∀ g, h ≤ g → g < h + k → 0 < nth l g → ∀ q, q < D.length → kn K g ((nth l g).toNat - 1) q ≤ nth (joinR K D.length l k h out) q
  | 0, h, _, ho, g, h1, h2, _, q, _ => by omega
  | k + 1, h, out, ho, g, h1, h2, hp, q, hq => by
    rcases Nat.eq_or_lt_of_le h1 with e | e
    · subst e
      refine Int.le_trans ?_ (joinR_ge c hc k (h + 1) _ (joinR_step c hc ho) q)
      obtain ⟨a, b⟩ := cut_deed hc hp
      rw [if_pos hp, nth_zmax (by rw [ho, clk_take (c.clk4 a b) c.P.L.n4]), nth_take hq]
      show nth (clk K h _) q ≤ _
      omega
    · exact joinR_own c hc k (h + 1) _ (joinR_step c hc ho) g (by omega) (by omega) hp q hq
theorem joinR_le (c : Clocks D N K) {l : List Int} (hl : l ∈ cutsL D N) : ∀ (k h : Nat) (out : List Int), out.length = D.length → (∀ q, nth out q ≤ nth l q) → ∀ q, nth (joinR K D.length l k h out) q ≤ nth l q
  | 0, _, _, ho, hi, q => hi q
  | k + 1, h, out, ho, hi, q => by
    have hc := ((mem_cuts c.P.L).1 hl).1
    refine joinR_le c hl k (h + 1) _ (joinR_step c hc ho) (fun q => ?_) q
    split
    · rename_i hp
      obtain ⟨a, b⟩ := cut_deed hc hp
      rw [nth_zmax (by rw [ho, clk_take (c.clk4 a b) c.P.L.n4])]
      have := hi q
      have : nth ((clk K h ((nth l h).toNat - 1)).take D.length) q ≤ nth l q := by
        rcases Nat.lt_or_ge q D.length with hq | hq
        · rw [nth_take hq]; exact clk_in c hl (g := h) (i := (nth l h).toNat - 1) (by omega) q
        · rw [take_out hq]; exact hc.lo q
      omega
    · exact hi q
/-- A consistent cut is the join of the clocks of its hands' last deeds. -/
theorem birkhoff (c : Clocks D N K) {l : List Int} (hl : l ∈ cutsL D N) : joinR K D.length l D.length 0 (List.replicate D.length 0) = l := by
  have hc := ((mem_cuts c.P.L).1 hl).1
  have hz : (List.replicate D.length (0 : Int)).length = D.length := by simp
  refine ext_nth (by rw [joinR_len c hc _ _ _ hz, hc.len]) fun q => ?_
  refine Int.le_antisymm (joinR_le c hl _ _ _ hz (fun q => by rw [nth_zero']; exact hc.lo q) q) ?_
  rcases Int.lt_or_le 0 (nth l q) with hp | hp
  · obtain ⟨a, b⟩ := cut_deed hc hp
    refine Int.le_trans ?_ (joinR_own c hc _ _ _ hz q (by omega) (by omega) hp q a)
    have u : (((nth l q).toNat - 1 : Nat) : Int) + 1 ≤ kn K q ((nth l q).toNat - 1) q := c.I.unit q _ (c.in a b)
    omega
  · have := joinR_ge c hc D.length 0 _ hz q
    rw [nth_zero'] at this
    omega
end
end Go.Proofs.Ytdkmepjedjclkaa
