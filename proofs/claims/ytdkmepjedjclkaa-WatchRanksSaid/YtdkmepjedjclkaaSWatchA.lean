/-
  WHAT THE PROGRAM's FUNCTIONS ON CUTS COMPUTE. Conditions: none.
-/
import Derived.Test.YtdkmepjedjclkaaAmData
import Derived.Test.YtdkmepjedjclkaaBWatchA
namespace Go.Proofs.Ytdkmepjedjclkaa
open Go.AM
open Go.Proofs.Try (prog)
set_option linter.all false
set_option maxRecDepth 10000

theorem four {c : List Int} (h : c.length = 4) : ∃ a0 a1 a2 a3, c = [a0, a1, a2, a3] := by
  match c, h with
  | [a0, a1, a2, a3], _ => exact ⟨a0, a1, a2, a3, rfl⟩

def zmax (a b : List Int) : List Int := List.zipWith max a b
def zmin (a b : List Int) : List Int := List.zipWith min a b

theorem join_spec {a b : List Int} (ha : a.length = 4) (hb : b.length = 4) (m : Mem) : denC prog ann 91 [.agg (ints a), .agg (ints b)] m = some (.agg (ints (zmax a b)), m) := by
  obtain ⟨a0, a1, a2, a3, rfl⟩ := four ha
  obtain ⟨b0, b1, b2, b3, rfl⟩ := four hb
  rw [watch_join.call_eq _ _ _ (by simp)]
  simp [watch_join.L0_eq, zmax]
theorem meet_spec {a b : List Int} (ha : a.length = 4) (hb : b.length = 4) (m : Mem) : denC prog ann 90 [.agg (ints a), .agg (ints b)] m = some (.agg (ints (zmin a b)), m) := by
  obtain ⟨a0, a1, a2, a3, rfl⟩ := four ha
  obtain ⟨b0, b1, b2, b3, rfl⟩ := four hb
  rw [watch_meet.call_eq _ _ _ (by simp)]
  simp [watch_meet.L0_eq, zmin]
@[simp] theorem zmax_len {a b : List Int} (ha : a.length = 4) (hb : b.length = 4) : (zmax a b).length = 4 := by simp [zmax, ha, hb]

theorem flat99 : flatT prog 99 = some [3, 3, 3, 3] := by kernel_rfl
theorem und3 : prog.underlying 3 = some (.int .i64) := by kernel_rfl
theorem und22 : prog.underlying 22 = some (.slice 3) := by kernel_rfl
theorem eqCs_ints : ∀ (n : Nat) (a b : List Int), a.length = n → b.length = n → eqCs prog (List.replicate n 3) (ints a) (ints b) = some (decide (a = b))
  | 0, a, b, ha, hb => by
    have : a = [] := by simpa using ha
    have : b = [] := by simpa using hb
    subst a b; rfl
  | n + 1, a, b, ha, hb => by
    match a, b, ha, hb with
    | x :: a, y :: b, ha, hb =>
      have ih := eqCs_ints n a b (by simpa using ha) (by simpa using hb)
      simp only [List.replicate, ints_cons, eqCs, scV, und3, eqSc]
      by_cases h : x = y
      · subst h; simp [ih]
      · have : (x == y) = false := by simpa using h
        simp [this, h]
theorem eql99 {a b : List Int} (ha : a.length = 4) (hb : b.length = 4) : binA prog .eql 99 (.agg (ints a)) (.agg (ints b)) = some (.bool (decide (a = b))) := by
  have h := eqCs_ints 4 a b ha hb
  simp only [binA, eqT, eqA, flat99, Option.bind_some, cond_true, ints_len, ha, hb]
  simp only [List.replicate] at h
  simp [h]
theorem neq99 {a b : List Int} (ha : a.length = 4) (hb : b.length = 4) : binA prog .neq 99 (.agg (ints a)) (.agg (ints b)) = some (.bool (!decide (a = b))) := by
  have h := eql99 ha hb
  simp only [binA, eqT, cond_true] at h ⊢
  cases hq : eqA prog 99 (.agg (ints a)) (.agg (ints b)) with
  | none => rw [hq] at h; cases h
  | some q => rw [hq] at h; simp at h; simp [h]

theorem nil22 (x : Bool) (n : Nat) (cs : List AV) : binA prog .eql 22 (.fsl x n cs) .nils = some (.bool false) := by simp [binA, eqT, eqA, und22]
theorem nil22' : binA prog .eql 22 .nils .nils = some (.bool true) := by simp [binA, eqT, eqA, und22]

theorem appV_nothing (size by' : Nat) (h : size ≠ 0) : appV size by' (.fsl true 0 []) .nils = some (.fsl true 0 []) := by
  have h' : (size == 0) = false := by simpa using h
  simp [appV, appF, h']
theorem appV_some {size by' n : Nat} {ex : Bool} {cs : List AV} (h : size ≠ 0) (hl : cs.length = n * size) (hc : closedL cs = true) (hr : room n by' = true) :
    ∃ e, appV size by' (.fsl true 0 []) (.fsl ex n cs) = some (.fsl e n cs) := by
  have h' : (size == 0) = false := by simpa using h
  by_cases hn : n = 0
  · subst hn
    have : cs = [] := by simpa using hl
    subst this
    exact ⟨true, by simp [appV, appF, h']⟩
  · have hn' : (n == 0) = false := by simpa using hn
    refine ⟨false, ?_⟩
    have hr' := hr
    simp at hr'
    simp [appV, appF, h', hl, hn', hr', hc]
    simp [← hl]

theorem clone_spec {v : AV} {l : List Int} (h : IsInts v l) (hl : l.length < 1073741824) (m : Mem) : ∃ v', denC prog ann 98 [v] m = some (v', m) ∧ IsInts v' l := by
  rcases h with ⟨rfl, rfl⟩ | ⟨ex, rfl⟩
  · refine ⟨.nils, ?_, IsInts.nils⟩
    rw [slices_Clone_int.call_eq _ _ (by simp)]
    simp [nil22']
  · obtain ⟨e, he⟩ := appV_some (size := 1) (by' := 8) (n := l.length) (ex := ex) (cs := ints l) (by simp) (by simp) (by simp) (by simp [room]; omega)
    refine ⟨.fsl e l.length (ints l), ?_, IsInts.fsl _ _⟩
    rw [slices_Clone_int.call_eq _ _ (by simp)]
    simp [nil22, he]

theorem index_loop {v : AV} {l : List (List Int)} {c : List Int} (h : IsSl ints v l) (hf : Four l) (hc : c.length = 4) (hl : l.length < 1073741824) : ∀ (n i : Nat) (m : Mem), l.length - i ≤ n → i ≤ l.length →
    slices_Index_cut.L0 v (.fptr (ints c)) (.int .i64 l.length) (.int .i64 i) m [.code slices_Index_cut.r7, .code .ret] = some (.int .i64 (match (l.drop i).findIdx? (fun d => c == d) with | some j => ((i + j : Nat) : Int) | none => -1), Mem.empty) := by
  intro n
  induction n with
  | zero =>
    intro i m h1 h2
    rw [slices_Index_cut.L0_eq]
    have e : i = l.length := by omega
    subst e
    simp
  | succ n ih =>
    intro i m h1 h2
    rw [slices_Index_cut.L0_eq]
    by_cases h3 : i < l.length
    · have hld := load_cut hf h3
      have hcc := load_ints (r := []) hc
      simp only [List.append_nil] at hcc
      simp [h3, h.idx hf.cells h3, hld, hcc, eql99 hc (hf _ (cth_mem h3))]
      rw [List.drop_eq_getElem_cons h3, List.findIdx?_cons]
      have e : l[i] = cth l i := by simp [cth, List.getD, List.getElem?_eq_getElem h3]
      rw [e]
      by_cases h4 : c = cth l i
      · simp [h4]
      · have h5 : (c == cth l i) = false := by simpa using h4
        simp [h4, h5]
        have := ih (i + 1) ⟨m.h, m.nx + 6⟩ (by omega) (by omega)
        simp at this
        rw [wrap_id (by omega) (by omega), this]
        cases hq : List.findIdx? (fun d => c == d) (List.drop (i + 1) l) with
        | none => simp
        | some j => simp; omega
    · have e : i = l.length := by omega
      subst e
      simp

theorem index_spec {v : AV} {l : List (List Int)} {c : List Int} (h : IsSl ints v l) (hf : Four l) (hc : c.length = 4) (hl : l.length < 1073741824) (m : Mem) :
    denC prog ann 81 [v, .agg (ints c)] m = some (.int .i64 (match l.findIdx? (fun d => c == d) with | some j => (j : Int) | none => -1), m) := by
  rw [slices_Index_cut.call_eq _ _ _ (by simp [h.closed])]
  have := index_loop h hf hc hl _ 0 Mem.empty (Nat.le_refl _) (by omega)
  simp at this
  simp [h.len, this]

theorem contains_spec {v : AV} {l : List (List Int)} {c : List Int} (h : IsSl ints v l) (hf : Four l) (hc : c.length = 4) (hl : l.length < 1073741824) (m : Mem) :
    denC prog ann 96 [v, .agg (ints c)] m = some (.bool (decide (c ∈ l)), m) := by
  rw [slices_Contains_cut.call_eq _ _ _ (by simp [h.closed])]
  have hcc := load_ints (r := []) hc
  simp only [List.append_nil] at hcc
  simp [hcc, h.closed, index_spec h hf hc hl]
  cases hq : List.findIdx? (fun d => c == d) l with
  | none =>
    rw [List.findIdx?_eq_none_iff] at hq
    have : c ∉ l := fun hm => by simpa using hq c hm
    simp [this]
  | some j =>
    rw [List.findIdx?_eq_some_iff_getElem] at hq
    obtain ⟨h1, h2, _⟩ := hq
    have : c ∈ l := by rw [eq_of_beq h2]; exact List.getElem_mem h1
    simp [this]
end Go.Proofs.Ytdkmepjedjclkaa
