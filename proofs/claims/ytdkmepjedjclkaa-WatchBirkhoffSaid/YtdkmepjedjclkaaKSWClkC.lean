/-
  watch.Clocks: WHAT IT HANDS BACK. Conditions: none.
-/
import Derived.Test.YtdkmepjedjclkaaKSWClkB
set_option linter.all false
namespace Go.Proofs.Ytdkmepjedjclkaa
open Go.AM
open Go.Proofs.Try (prog)
set_option linter.all false
set_option maxRecDepth 100000
set_option maxHeartbeats 4000000

theorem mapO_map {α : Type} {f : AV → Option AV} {a b : α → AV} : ∀ l : List α, (∀ x ∈ l, f (a x) = some (b x)) → mapO f (l.map a) = some (l.map b)
  | [], _ => rfl
  | x :: l, h => by
    rw [List.map_cons, mapO_cons, h x (by simp), mapO_map l fun y hy => h y (by simp [hy])]; rfl

/-- A row as a value. -/
def slotV (K : List (List (List Int))) (n h : Nat) : AV := if rowsN K n h = [] then .nils else .fsl false (rowsN K n h).length (flatC rowC (rowsN K n h))
theorem slotV_is (K : List (List (List Int))) (n h : Nat) : IsSl rowC (slotV K n h) (rowsN K n h) := by
  by_cases e : rowsN K n h = []
  · exact .inl ⟨by rw [slotV, if_pos e], e⟩
  · exact .inr ⟨false, by rw [slotV, if_neg e]⟩
/-- The clocks as a value. -/
def wclkV (K : List (List (List Int))) (n : Nat) : AV := .fsl false n ((List.range n).map (slotV K n))
theorem wclk_idx (K : List (List (List Int))) {n h : Nat} (hh : h < n) (k : IntKind) : idxSl 1 (wclkV K n) (.int k (h : Int)) = some (.fptr (((List.range n).map (slotV K n)).drop h)) := by simp [wclkV, hh]
theorem wclk_load (K : List (List (List Int))) {n h : Nat} (hh : h < n) : loadF false 1 (.fptr (((List.range n).map (slotV K n)).drop h)) = some (slotV K n h) := by
  simp [List.head?_drop, hh]
@[simp] theorem wclk_closed (K : List (List (List Int))) (n : Nat) : (wclkV K n).closed = true := rfl
@[simp] theorem wclk_one (K : List (List (List Int))) (n : Nat) : (wclkV K n).one = true := rfl
@[simp] theorem wclk_cells (K : List (List (List Int))) (n : Nat) : (wclkV K n).cells = [wclkV K n] := rfl
@[simp] theorem wclk_deep (K : List (List (List Int))) (n : Nat) (h : Nat → Option AObj) (d : Nat) : deep h (d + 1) (wclkV K n) = some (wclkV K n) := rfl
@[simp] theorem wclk_len (K : List (List (List Int))) (n : Nat) : lenSl (wclkV K n) = some (.int .i64 n) := rfl
@[simp] theorem wclk_frz (K : List (List (List Int))) (n : Nat) (m : Mem) : frzV (wclkV K n) m = some (wclkV K n, m) := rfl

theorem wclk_build {m : Mem} {oid : Nat} {ids : Nat → Nat} {n : Nat} {K : List (List (List Int))} (w : WAt m oid ids n (partR K n n 0)) (d : Nat) : deep m.h (d + 4) (.sl oid 1 0 n n) = some (wclkV K n) := by
  have ho := w.o
  have key : mapO (deep m.h (d + 3)) (outR ids (partR K n n 0) n) = some ((List.range n).map (slotV K n)) := by
    refine mapO_map _ fun h hh => ?_
    have hh' := List.mem_range.1 hh
    have hk : kth (partR K n n 0) h = rowsN K n h := by rw [partR_kth K n 0 hh', if_pos hh']
    by_cases e : rowsN K n h = []
    · simp [slR, hk, slotV, e]
    · have hr := w.r h (by rw [hk]; exact e)
      rw [hk] at hr
      have hdp : mapO (deep m.h (d + 2)) (flatC rowC (rowsN K n h)) = some (flatC rowC (rowsN K n h)) := flatC_deep _ _ (fun a => by simp [rowC]) _
      have htk : (flatC rowC (rowsN K n h)).take (rowsN K n h).length = flatC rowC (rowsN K n h) := List.take_of_length_le (by rw [flatC_row_len]; exact Nat.le_refl _)
      simp [slR, hk, slotV, e, hr, flatC_row_len, htk, hdp]
  have htk : (outR ids (partR K n n 0) n).take n = outR ids (partR K n n 0) n := List.take_of_length_le (by rw [outR_len]; exact Nat.le_refl _)
  simp [ho, outR_len, htk, key, wclkV]

theorem wclk_loop {V : List AV} {n : Nat} {D : List Int} {K : List (List (List Int))} (hV : V.length = 4) (hS : ∀ h, h < 4 → IsSl ints (vth V h) (kth K h)) (s : IsStory (.fptr (.int .i64 n :: (ints D ++ V))) n D K) {oid : Nat} : ∀ (k h : Nat) (m : Mem) (ids : Nat → Nat), h + k = n → WAt m oid ids n (partR K n h 0) →
    watch_Clocks.L0 (.fptr (.int .i64 n :: (ints D ++ V))) (.sl oid 1 0 n n) (.int .i64 n) (.int .i64 h) m [.code watch_Clocks.r14, .code .ret] = some (.tup [wclkV K n, .int .i64 0], Mem.empty) := by
  have hn4 := s.n4
  intro k
  induction k with
  | zero =>
    intro h m ids h1 w
    have e : h = n := by omega
    subst e
    have := wclk_build w 1
    simp at this
    rw [watch_Clocks.L0_eq]
    simp [this]
    done
  | succ k ih =>
    intro h m ids h1 w
    have hh : h < n := by omega
    obtain ⟨m', ids', i1, i2⟩ := wrow_loop hV hS s hh [.code watch_Clocks.r14, .code .ret] (kth K h).length 0 m ids (by omega) w
    have := ih (h + 1) m' ids' (by omega) i1
    simp only [Int.natCast_add, Int.cast_ofNat_Int] at this
    simp only [Int.cast_ofNat_Int] at i2
    have hD := s.D4
    have hld : (ints D ++ V)[h + 4]? = some (vth V h) := by
      rw [List.getElem?_append_right (by simp; omega)]
      simp only [ints_len, hD, Nat.add_sub_cancel]
      exact vth_eq (by omega)
    have hlen := (hS h (by omega)).len
    have hdr : (List.drop 4 (ints D ++ V)) = V := by rw [List.drop_left' (by simp [hD])]
    have hv := vth_head (V := V) (i := h) (by omega)
    rw [← this, ← i2, watch_Clocks.L0_eq]
    simp [hh, show h < 4 by omega, hdr, hv, hlen, hV]
    done

/-- What Clocks hands back. -/
inductive ClkRes (D : List Int) (N : List Note) : AV → Int → Prop where
  | bad (h : ¬ ValidS D N) : ClkRes D N .nils 1
  | ok {K : List (List (List Int))} (v : ValidS D N) (k : Clocks D N K) : ClkRes D N (wclkV K D.length) 0

theorem clocksV_spec {v : AV} {D : List Int} {N : List Note} (hs : IsTale v D N) (hl : D.length < 100000) (hn : N.length < 100000) :
    ∃ x e, ClkRes D N x e ∧ ∀ m, denC prog ann 43 [v] m = some (.tup [x, .int .i64 e], m) := by
  have hs' := hs
  obtain ⟨r, hr, er⟩ := readV_spec hs hl hn
  obtain ⟨vD, vN, rfl, h1, h2⟩ := hs.ex
  have hcl : closedL [.agg [vD, vN]] = true := by simp [h1.closed, h2.closed]
  cases hr with
  | no h =>
    refine ⟨.nils, 1, .bad h, fun m => ?_⟩
    rw [watch_Clocks.call_eq _ _ hcl]
    simp [h1.one, h2.one, h1.closed, h2.closed, er]
  | @ok sv K val k s =>
    have s' := s
    obtain ⟨V, rfl, hV, hS⟩ := s.V
    refine ⟨_, 0, .ok val k, fun m => ?_⟩
    have hn4 := s'.n4
    have hrep : List.replicate D.length AV.nils = outR (fun _ => 0) (partR K D.length 0 0) D.length := by
      refine List.ext_getElem (by simp [outR]) fun g g1 g2 => ?_
      have hg : g < D.length := by simpa using g1
      rw [outR_getElem, slR, partR_kth K 0 0 hg]
      have : (if g < 0 then rowsN K D.length g else if g = 0 then (rowsN K D.length g).take 0 else []) = [] := by
        rw [if_neg (by omega)]; split <;> simp
      rw [this]; simp
    have he : ∀ g, kth (partR K D.length 0 0) g = [] := by
      intro g
      rcases Nat.lt_or_ge g D.length with hg | hg
      · rw [partR_kth K 0 0 hg, if_neg (by omega)]; split <;> simp
      · exact partR_out K 0 0 hg
    have w0 : WAt ⟨upd Mem.empty.h 0 (some (.cells (outR (fun _ => 0) (partR K D.length 0 0) D.length))), 1⟩ 0 (fun _ => 0) D.length (partR K D.length 0 0) := ⟨by simp, fun h hh => absurd (he h) hh, by show 0 < 1; omega, fun h hh => absurd (he h) hh, fun h hh => absurd (he h) hh, fun g h hg => absurd (he g) hg⟩
    have := wclk_loop hV hS s' D.length 0 _ _ (by omega) w0
    simp only [Int.cast_ofNat_Int, Int.ofNat_zero] at this
    rw [watch_Clocks.call_eq _ _ hcl]
    simp [h1.one, h2.one, h1.closed, h2.closed, er, hrep, this, outR_len, show D.length ≤ 4611686018427387904 by omega, show D.length * 24 ≤ 70368744177664 by omega]
    done
end Go.Proofs.Ytdkmepjedjclkaa
