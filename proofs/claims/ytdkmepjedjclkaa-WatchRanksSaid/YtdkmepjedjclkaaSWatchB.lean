/-
  WHAT THE PROGRAM's METHODS ON STORIES COMPUTE: list, forth, consistent. Conditions: none.
-/
import Derived.Test.YtdkmepjedjclkaaSWatchA
namespace Go.Proofs.Ytdkmepjedjclkaa
open Go.AM
open Go.Proofs.Try (prog)
set_option linter.all false
set_option maxRecDepth 10000

def vth (V : List AV) (i : Nat) : AV := V.getD i .undef
theorem vth_eq {V : List AV} {i : Nat} (h : i < V.length) : V[i]? = some (vth V i) := by
  rw [List.getElem?_eq_getElem h]; simp [vth, List.getD, List.getElem?_eq_getElem h]
theorem vth_head {V : List AV} {i : Nat} (h : i < V.length) : (V.drop i).head? = some (vth V i) := by rw [List.head?_drop, vth_eq h]
def kth (K : List (List (List Int))) (h : Nat) : List (List Int) := K.getD h []
/-- The clock of a deed (its number from 0 on). -/
abbrev clk (K : List (List (List Int))) (h i : Nat) : List Int := cth (kth K h) i

/-- A story that was read: hands, deeds, clocks. -/
structure IsStory (v : AV) (n : Nat) (D : List Int) (K : List (List (List Int))) : Prop where
  V : ∃ V, v = .fptr (.int .i64 n :: (ints D ++ V)) ∧ V.length = 4 ∧ ∀ h, h < 4 → IsSl ints (vth V h) (kth K h)
  D4 : D.length = 4
  n4 : n ≤ 4
  n1 : 1 ≤ n
  four : ∀ h, Four (kth K h)
  few : ∀ h, (kth K h).length ≤ 6
  rows : ∀ h, h < n → ((kth K h).length : Int) = nth D h
  zero : ∀ h, n ≤ h → nth D h = 0
  pos : ∀ h, 0 ≤ nth D h

theorem IsStory.D6 {v : AV} {n : Nat} {D : List Int} {K : List (List (List Int))} (s : IsStory v n D K) (h : Nat) : nth D h ≤ 6 := by
  rcases Nat.lt_or_ge h n with h1 | h1
  · have := s.rows h h1; have := s.few h; omega
  · have := s.zero h h1; omega

/-- A cut of four numbers that fits the deeds. -/
structure IsCut (n : Nat) (D : List Int) (c : List Int) : Prop where
  len : c.length = 4
  lo : ∀ h, 0 ≤ nth c h
  hi : ∀ h, nth c h ≤ nth D h

theorem list_spec {v : AV} {n : Nat} {D : List Int} {K : List (List (List Int))} (s : IsStory v n D K) {c : List Int} (hc : c.length = 4) (m : Mem) :
    ∃ v', denC prog ann 63 [v, .agg (ints c)] m = some (v', m) ∧ IsInts v' (c.take n) := by
  obtain ⟨V, rfl, hV, _⟩ := s.V
  have hn := s.n4
  obtain ⟨v', h1, h2⟩ := clone_spec (v := .fsl (n == 4) n (ints (c.take n))) (l := c.take n) (.inr ⟨n == 4, by simp [hc, Nat.min_eq_left hn]⟩) (by simp; omega) Mem.empty
  refine ⟨v', ?_, h2⟩
  rw [watch_story_list.call_eq _ _ _ (by simp)]
  have hn' : (n : Int) ≤ 4 := by omega
  simp [sliceArr, bnds, bnd, hc, hn', h1, h2.deep]

/-- The least consistent cut that is nowhere less: from hand h on, k hands. -/
def forthR (K : List (List (List Int))) (c : List Int) : Nat → Nat → List Int → List Int
  | 0, _, out => out
  | k + 1, h, out => forthR K c k (h + 1) (if 0 < nth c h then zmax out (clk K h ((nth c h).toNat - 1)) else out)

theorem forth_loop {V : List AV} {n : Nat} {D : List Int} {K : List (List (List Int))} (hV : V.length = 4) (hS : ∀ h, h < 4 → IsSl ints (vth V h) (kth K h)) {v : AV} (s : IsStory v n D K) {c : List Int} (hc : IsCut n D c) : ∀ (k h : Nat) (out : List Int) (nx : Nat), h + k = n → out.length = 4 →
    watch_story_forth.L0 (.fptr (.int .i64 n :: (ints D ++ V))) (.fptr (ints c)) (.ptr 0 0 4) (.ptr 1 0 4) (.int .i64 n) (.int .i64 h) ⟨upd (upd Mem.empty.h 0 (some (.cells (ints [0, 0, 0, 0])))) 1 (some (.cells (ints out))), nx⟩ [.code watch_story_forth.r8, .code .ret] =
      some (.agg (ints (forthR K c k h out)), Mem.empty) := by
  intro k
  induction k with
  | zero =>
    intro h out nx hk ho
    have e : h = n := by omega
    subst e
    rw [watch_story_forth.L0_eq]
    have ht : out.take 4 = out := List.take_of_length_le (by omega)
    simp [forthR, ho, ht]
  | succ k ih =>
    intro h out nx hk ho
    rw [watch_story_forth.L0_eq]
    have h1 : h < n := by omega
    have hn := s.n4
    have hD := s.D4
    have hl := hc.len
    have h4 : h < c.length := by omega
    have h4' : h < 4 := by omega
    have hi := hc.hi h
    have h6 := s.D6 h
    have hr := s.rows h h1
    have ht : out.take 4 = out := List.take_of_length_le (by omega)
    have hw : IntKind.wrap .i64 ((h : Int) + 1) = (h : Int) + 1 := wrap_id (by omega) (by omega)
    simp [h1, hl, ints_head h4, h4']
    by_cases h2 : 0 < nth c h
    · have h7 : IntKind.wrap .i64 (nth c h - 1) = (((nth c h).toNat - 1 : Nat) : Int) := by rw [wrap_id (by omega) (by omega)]; omega
      have h8 : (nth c h).toNat - 1 < (kth K h).length := by omega
      have h9 : (clk K h ((nth c h).toNat - 1)).length = 4 := s.four h _ (cth_mem h8)
      have hz := zmax_len ho h9
      simp [h2, ho, hD, h4', vth_head (show h < V.length by omega), ints_head h4, h7, (hS h h4').idx (s.four h).cells h8, load_cut (s.four h) h8, ht]
      have hd : out.drop 4 = [] := List.drop_of_length_le (by omega)
      simp only [clk] at hz
      simp [join_spec ho (s.four h _ (cth_mem h8)), hw, hz, ho, hd]
      have := ih (h + 1) (zmax out (cth (kth K h) ((nth c h).toNat - 1))) (nx + 15) (by omega) hz
      simp at this
      simp [this, forthR, h2]
    · simp [h2, hw]
      have := ih (h + 1) out nx (by omega) ho
      simp at this
      simp [this, forthR, h2]

/-- The least consistent cut that is nowhere less. -/
def forthL (K : List (List (List Int))) (n : Nat) (c : List Int) : List Int := forthR K c n 0 c

theorem forth_spec {v : AV} {n : Nat} {D : List Int} {K : List (List (List Int))} (s : IsStory v n D K) {c : List Int} (hc : IsCut n D c) (m : Mem) :
    denC prog ann 70 [v, .agg (ints c)] m = some (.agg (ints (forthL K n c)), m) := by
  obtain ⟨V, rfl, hV, hS⟩ := s.V
  rw [watch_story_forth.call_eq _ _ _ (by simp)]
  have hl := hc.len
  have ht : c.take 4 = c := List.take_of_length_le (by omega)
  have := forth_loop hV hS s hc n 0 c 2 (by omega) hl
  simp at this
  simp [hl, ht, this, forthL, show c.drop 4 = [] from List.drop_of_length_le (by omega)]

theorem forthR_len {v : AV} {n : Nat} {D : List Int} {K : List (List (List Int))} (s : IsStory v n D K) {c : List Int} (hc : IsCut n D c) : ∀ (k h : Nat) (out : List Int), h + k ≤ n → out.length = 4 → (forthR K c k h out).length = 4
  | 0, _, _, _, ho => ho
  | k + 1, h, out, hk, ho => by
    refine forthR_len s hc k (h + 1) _ (by omega) ?_
    split
    · rename_i h2
      have := s.rows h (by omega); have := hc.hi h
      exact zmax_len ho (s.four h _ (cth_mem (by omega)))
    · exact ho

theorem consistent_spec {v : AV} {n : Nat} {D : List Int} {K : List (List (List Int))} (s : IsStory v n D K) {c : List Int} (hc : IsCut n D c) (m : Mem) :
    denC prog ann 72 [v, .agg (ints c)] m = some (.bool (decide (forthL K n c = c)), m) := by
  have hcl : v.closed = true := by obtain ⟨V, rfl, _⟩ := s.V; rfl
  rw [watch_story_consistent.call_eq _ _ _ (by simp [hcl])]
  have hl := hc.len
  have ht : c.take 4 = c := List.take_of_length_le (by omega)
  have h4 : (forthL K n c).length = 4 := forthR_len s hc n 0 c (by omega) hl
  simp [hl, ht, hcl, forth_spec s hc, eql99 h4 hl]
end Go.Proofs.Ytdkmepjedjclkaa
