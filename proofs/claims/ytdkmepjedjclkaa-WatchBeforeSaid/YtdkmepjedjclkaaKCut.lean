/-
  CUTS AS ARGUMENTS: what is a cut, for the reference and for the program. Conditions: none.
-/
import Derived.Test.YtdkmepjedjclkaaKSAtA
import Derived.Test.YtdkmepjedjclkaaKCutB
set_option linter.all false
namespace Go.Proofs.Ytdkmepjedjclkaa
open Go.AM
open Go.Proofs.Try (prog)
set_option linter.all false
set_option maxRecDepth 100000

def boxB (l D : List Int) (k i : Nat) : Bool := (List.range' i k).all fun h => decide (0 ≤ nth l h) && decide (nth l h ≤ nth D h)
theorem boxB_succ (l D : List Int) (k i : Nat) : boxB l D (k + 1) i = ((decide (0 ≤ nth l i) && decide (nth l i ≤ nth D i)) && boxB l D k (i + 1)) := by
  simp only [boxB, List.range'_succ, List.all_cons]
/-- A list that is a cut of the deeds. -/
structure CutL (D l : List Int) : Prop where
  len : l.length = D.length
  lo : ∀ h, 0 ≤ nth l h
  hi : ∀ h, nth l h ≤ nth D h
theorem boxB_iff {l D : List Int} : ∀ (k i : Nat), boxB l D k i = true ↔ ∀ h, i ≤ h → h < i + k → 0 ≤ nth l h ∧ nth l h ≤ nth D h := by
  intro k i
  simp only [boxB, List.all_eq_true, List.mem_range'_1, Bool.and_eq_true, decide_eq_true_eq]
  exact ⟨fun h g a b => h g ⟨a, b⟩, fun h g a => h g a.1 a.2⟩
def cutB (D l : List Int) : Bool := decide (l.length = D.length) && boxB l D D.length 0
theorem cutB_iff {D l : List Int} : cutB D l = true ↔ CutL D l := by
  simp only [cutB, Bool.and_eq_true, decide_eq_true_eq, boxB_iff]
  constructor
  · rintro ⟨a, b⟩
    have z : ∀ h, 0 ≤ nth l h ∧ nth l h ≤ nth D h := fun h => by
      rcases Nat.lt_or_ge h D.length with h1 | h1
      · exact b h (by omega) (by omega)
      · rw [nth_out h1, nth_out (by omega)]; omega
    exact ⟨a, fun h => (z h).1, fun h => (z h).2⟩
  · rintro ⟨a, b, c⟩
    exact ⟨a, fun h _ _ => ⟨b h, c h⟩⟩

theorem cutR_loop {vD vN vl : AV} {D l : List Int} (hD : IsInts vD D) (hv : IsInts vl l) (hl : l.length < 1000000) (he : l.length = D.length) : ∀ (k i : Nat) (m : Mem), i + k = D.length →
    r09_Cut.L0 vl (.fptr [vD, vN]) (.int .i64 i) m [.code r09_Cut.r6, .code .ret] = some (.bool (boxB l D k i), Mem.empty) := by
  intro k
  induction k with
  | zero =>
    intro i m h1
    have e : i = D.length := by omega
    subst e
    rw [r09_Cut.L0_eq]
    simp [hv.len, hD.len, he, boxB]
  | succ k ih =>
    intro i m h1
    have h3 : i < D.length := by omega
    have h4 : i < l.length := by omega
    have hw : IntKind.wrap .i64 ((i : Int) + 1) = (i : Int) + 1 := wrap_id (by omega) (by omega)
    have hi := fun m => ih (i + 1) m (by omega)
    simp only [Int.natCast_add, Int.cast_ofNat_Int] at hi
    rw [r09_Cut.L0_eq, boxB_succ]
    by_cases q1 : 0 ≤ nth l i
    · by_cases q2 : nth l i ≤ nth D i
      · simp [hv.len, hD.len, he, h3, hv.idx h4, hD.idx h3, ints_head h4, ints_head h3, in_spec, q1, q2, hw, hi]
      · simp [hv.len, hD.len, he, h3, hv.idx h4, hD.idx h3, ints_head h4, ints_head h3, in_spec, q1, q2]
    · simp [hv.len, hD.len, he, h3, hv.idx h4, hD.idx h3, ints_head h4, ints_head h3, in_spec, q1]

theorem cutR_spec {v vl : AV} {D l : List Int} {N : List Note} (hs : IsTale v D N) (hv : IsInts vl l) (hl : l.length < 1000000) (m : Mem) : denC prog ann 27 [v, vl] m = some (.bool (cutB D l), m) := by
  obtain ⟨vD, vN, rfl, hD, hN⟩ := hs.ex
  rw [r09_Cut.call_eq _ _ _ (by simp [hD.closed, hN.closed, hv.closed])]
  by_cases he : l.length = D.length
  · have := cutR_loop (vN := vN) hD hv hl he D.length 0 Mem.empty (by omega)
    simp at this
    simp [hD.one, hN.one, hD.closed, hN.closed, hv.closed, this, cutB, he]
  · have he' : ¬ (l.length : Int) = D.length := by omega
    have hz : (decide ((0 : Int) < l.length) && decide ((l.length : Int) = D.length)) = false := by simp [he']
    by_cases q : 0 < l.length
    · simp [hD.one, hN.one, hD.closed, hN.closed, hv.closed, hv.len, hD.len, r09_Cut.L0_eq, cutB, he, he', q]
    · simp [hD.one, hN.one, hD.closed, hN.closed, hv.closed, hv.len, hD.len, r09_Cut.L0_eq, cutB, he, he', q]

/-! ### The program's -/
theorem cutOf_loop {V : List AV} {n : Nat} {D c : List Int} (hV : V.length = 4) (hD4 : D.length = 4) (hc : c.length = 4) : ∀ (k i nx : Nat), i + k = 4 →
    watch_story_cutOf.L0 (.fptr (.int .i64 n :: (ints D ++ V))) (.ptr 0 0 4) (.ptr 1 0 4) (.agg (ints c)) (.int .i64 i) ⟨upd (upd Mem.empty.h 0 (some (.cells (ints [0, 0, 0, 0])))) 1 (some (.cells (ints c))), nx⟩ [.code watch_story_cutOf.r11, .code .ret] =
      some (.tup [.agg (ints c), .bool (boxB c D k i)], Mem.empty) := by
  intro k
  induction k with
  | zero =>
    intro i nx h1
    have e : i = 4 := by omega
    subst e
    rw [watch_story_cutOf.L0_eq]
    have ht : c.take 4 = c := List.take_of_length_le (by omega)
    simp [boxB, hc, ht]
  | succ k ih =>
    intro i nx h1
    have h3 : i < 4 := by omega
    have h3' : (i : Int) < 4 := by omega
    have h4 : i < c.length := by omega
    have h5 : i < D.length := by omega
    have hDV : (ints D ++ V)[i]? = some (.int .i64 (nth D i)) := by rw [List.getElem?_append_left (by simpa using h5), ints_nth h5]
    have hw : IntKind.wrap .i64 ((i : Int) + 1) = (i : Int) + 1 := wrap_id (by omega) (by omega)
    have hi := fun nx => ih (i + 1) nx (by omega)
    simp at hi
    have ht : c.take 4 = c := List.take_of_length_le (by omega)
    rw [watch_story_cutOf.L0_eq, boxB_succ]
    by_cases q1 : 0 ≤ nth c i
    · have q1' : ¬ nth c i < 0 := by omega
      by_cases q2 : nth c i ≤ nth D i
      · have q2' : ¬ nth D i < nth c i := by omega
        simp [h3, h3', h4, h5, q1, q1', q2, q2', hw, hi, hc, hD4, hV, hDV]
      · have q2' : nth D i < nth c i := by omega
        simp [h3, h3', h4, h5, q1, q1', q2, q2', hc, hD4, hV, ht, hDV]
    · have q1' : nth c i < 0 := by omega
      simp [h3, h3', h4, h5, q1, q1', hc, hD4, hV, ht]

theorem pad_self {l : List Int} {n : Nat} (hn : n ≤ 4) (h : l.length = n) : (pad l).take n = l := by
  subst h
  simp [pad]
theorem boxB_pad {D l : List Int} (h : l.length = D.length) (h4 : D.length ≤ 4) : boxB (pad l) (pad D) 4 0 = boxB l D D.length 0 := by
  cases hq : boxB l D D.length 0 with
  | true =>
    have h1 := (cutB_iff (D := D) (l := l)).1 (by simp [cutB, h, hq])
    rw [boxB_iff]
    intro g _ _
    rw [nth_pad, nth_pad]
    exact ⟨h1.lo g, h1.hi g⟩
  | false =>
    cases hr : boxB (pad l) (pad D) 4 0 with
    | false => rfl
    | true =>
      rw [boxB_iff] at hr
      rw [← Bool.not_eq_true, boxB_iff] at hq
      refine absurd (fun g a b => ?_) hq
      have := hr g (by omega) (by omega)
      rw [nth_pad, nth_pad] at this
      exact this

theorem cutOf_spec {sv vl : AV} {D l : List Int} {K : List (List (List Int))} (s : IsStory sv D.length (pad D) K) (hv : IsInts vl l) (hl : l.length < 1000000) :
    ∃ c, (cutB D l = true → c = pad l) ∧ c.length = 4 ∧ ∀ m, denC prog ann 71 [sv, vl] m = some (.tup [.agg (ints c), .bool (cutB D l)], m) := by
  obtain ⟨V, rfl, hV, _⟩ := s.V
  have h4 := s.n4
  have hD4 := s.D4
  by_cases he : l.length = D.length
  · refine ⟨pad l, fun _ => rfl, pad_len (by omega), fun m => ?_⟩
    rw [watch_story_cutOf.call_eq _ _ _ (by simp [hv.closed])]
    have hc : (pad l).length = 4 := pad_len (by omega)
    have hb : cutB D l = boxB (pad l) (pad D) 4 0 := by rw [boxB_pad he h4]; simp [cutB, he]
    have := fun nx => cutOf_loop (n := D.length) (V := V) hV hD4 hc 4 0 nx (by omega)
    simp at this
    have hsrc := hv.src
    have hst := isStr_ints hv
    have hlen := hv.len
    have hcl := hv.closed
    clear hv s
    rw [hb]
    clear hb
    generalize pad D = E at this
    generalize D.length = n at he this h4
    subst he
    rcases l with _ | ⟨a, _ | ⟨b, _ | ⟨c, _ | ⟨d, _ | ⟨e, l⟩⟩⟩⟩⟩
    all_goals first
      | (simp at h4; done)
      | (simp [pad] at this ⊢
         simp [hlen, sliceArr, bnds, bnd, copyA, hsrc, hst, Mem.set, splice, this]; done)
  · refine ⟨[0, 0, 0, 0], fun h => absurd (cutB_iff.1 h).len he, rfl, fun m => ?_⟩
    rw [watch_story_cutOf.call_eq _ _ _ (by simp [hv.closed])]
    have hne : ¬ (l.length : Int) = D.length := by omega
    simp [hv.len, hne, cutB, he]
end Go.Proofs.Ytdkmepjedjclkaa

/-
  THE PROGRAM's Back, Forth, Consistent, Rank. Conditions: none.
-/
namespace Go.Proofs.Ytdkmepjedjclkaa
open Go.AM
open Go.Proofs.Try (prog)
set_option linter.all false
set_option maxRecDepth 100000

/-- The last deed of a hand, of the first j, whose clock is not beyond a cut. -/
def bk (K : List (List (List Int))) (c : List Int) (h : Nat) : Nat → Nat
  | 0 => 0
  | j + 1 => if zmax (clk K h j) c = c then j + 1 else bk K c h j
def bkR (K : List (List (List Int))) (c : List Int) : Nat → Nat → List Int → List Int
  | 0, _, out => out
  | k + 1, h, out => bkR K c k (h + 1) (out.set h (bk K c h (nth out h).toNat : Nat))

theorem back_inner {V : List AV} {n : Nat} {D : List Int} {K : List (List (List Int))} (hV : V.length = 4) (hS : ∀ h, h < 4 → IsSl ints (vth V h) (kth K h)) {v : AV} (s : IsStory v n D K) {c : List Int} (hc : c.length = 4) {h : Nat} (h1 : h < n) (Kc : List Item) : ∀ (j : Nat) (out : List Int) (nx : Nat), out.length = 4 → nth out h = j → j ≤ (kth K h).length →
    ∃ nx', watch_story_back.L2 (.fptr (.int .i64 n :: (ints D ++ V))) (.fptr (ints c)) (.ptr 0 0 4) (.ptr 1 0 4) (.int .i64 h) (.int .i64 n) (.int .i64 h) ⟨upd (upd Mem.empty.h 0 (some (.cells (ints [0, 0, 0, 0])))) 1 (some (.cells (ints out))), nx⟩ (.inBlock 1 :: .code watch_story_back.r7 :: .inLoop watch_story_back.l0 :: .inBlock 0 :: Kc) =
      watch_story_back.L0 (.fptr (.int .i64 n :: (ints D ++ V))) (.fptr (ints c)) (.ptr 0 0 4) (.ptr 1 0 4) (.int .i64 n) (.int .i64 ((h : Int) + 1)) ⟨upd (upd Mem.empty.h 0 (some (.cells (ints [0, 0, 0, 0])))) 1 (some (.cells (ints (out.set h (bk K c h j : Nat))))), nx'⟩ Kc := by
  have hn := s.n4
  have hD := s.D4
  have h4 : h < c.length := by omega
  have h4' : h < 4 := by omega
  have hw : IntKind.wrap .i64 ((h : Int) + 1) = (h : Int) + 1 := wrap_id (by omega) (by omega)
  have ht : c.take 4 = c := List.take_of_length_le (by omega)
  intro j
  induction j with
  | zero =>
    intro out nx ho hj hl
    have ho4 : h < out.length := by omega
    have e : out.set h ((0 : Nat) : Int) = out := ext_nth (by simp) fun g => by
      rw [nth_set]; split
      · rename_i e; rw [← e.1]; exact hj.symm
      · rfl
    refine ⟨nx + 22, ?_⟩
    rw [bk, e, watch_story_back.L2_eq]
    simp at hj
    simp [ho, ho4, h4', hj, hw]
  | succ j ih =>
    intro out nx ho hj hl
    have h6 := s.few h
    have ho4 : h < out.length := by omega
    have h8 : j < (kth K h).length := by omega
    have h9 : (clk K h j).length = 4 := s.four h _ (cth_mem h8)
    have h7 : IntKind.wrap .i64 (j : Int) = (j : Int) := wrap_id (by omega) (by omega)
    have hz := zmax_len h9 hc
    have hpos : (0 : Int) < (j : Int) + 1 := by omega
    have hDl : (ints D).length = 4 := by simp [hD]
    simp only [clk] at h9 hz
    rw [watch_story_back.L2_eq]
    simp only [Int.natCast_add, Int.cast_ofNat_Int] at hj
    by_cases q : zmax (clk K h j) c = c
    · have e : out.set h ((j : Int) + 1) = out := ext_nth (by simp) fun g => by
        rw [nth_set]; split
        · rename_i e; rw [← e.1]; exact hj.symm
        · rfl
      refine ⟨nx + 22, ?_⟩
      rw [bk, if_pos q]
      simp only [clk] at q
      simp [ho, ho4, h4', hj, hw, hpos, hD, hc, ht, vth_head (show h < V.length by omega), h7, (hS h h4').idx (s.four h).cells h8, load_cut (s.four h) h8, join_spec h9 hc, hz, q, e, neq99 hc hc]
      done
    · obtain ⟨nx', e⟩ := ih (out.set h j) (nx + 22) (by simp [ho]) (by rw [nth_set, if_pos ⟨rfl, by omega⟩]) (by omega)
      refine ⟨nx', ?_⟩
      rw [bk, if_neg q]
      simp only [clk] at q
      simp only [List.set_set] at e
      rw [← e]
      simp [ho, ho4, h4', hj, hw, hpos, hD, hc, ht, vth_head (show h < V.length by omega), h7, (hS h h4').idx (s.four h).cells h8, load_cut (s.four h) h8, join_spec h9 hc, hz, q, neq99 hz hc]
      done

theorem bk_le (K : List (List (List Int))) (c : List Int) (h : Nat) : ∀ j, bk K c h j ≤ j
  | 0 => Nat.le_refl _
  | j + 1 => by rw [bk]; split; exact Nat.le_refl _; have := bk_le K c h j; omega

theorem back_loop {V : List AV} {n : Nat} {D : List Int} {K : List (List (List Int))} (hV : V.length = 4) (hS : ∀ h, h < 4 → IsSl ints (vth V h) (kth K h)) {v : AV} (s : IsStory v n D K) {c : List Int} (hc : c.length = 4) : ∀ (k h : Nat) (out : List Int) (nx : Nat), h + k = n → out.length = 4 → IsCut n D out →
    watch_story_back.L0 (.fptr (.int .i64 n :: (ints D ++ V))) (.fptr (ints c)) (.ptr 0 0 4) (.ptr 1 0 4) (.int .i64 n) (.int .i64 h) ⟨upd (upd Mem.empty.h 0 (some (.cells (ints [0, 0, 0, 0])))) 1 (some (.cells (ints out))), nx⟩ [.code watch_story_back.r8, .code .ret] =
      some (.agg (ints (bkR K c k h out)), Mem.empty) := by
  intro k
  induction k with
  | zero =>
    intro h out nx hk ho _
    have e : h = n := by omega
    subst e
    rw [watch_story_back.L0_eq]
    have ht : out.take 4 = out := List.take_of_length_le (by omega)
    simp [bkR, ho, ht]
  | succ k ih =>
    intro h out nx hk ho hcut
    have h1 : h < n := by omega
    have hr := s.rows h h1
    have h2 := hcut.lo h
    have h3 := hcut.hi h
    obtain ⟨nx', e⟩ := back_inner hV hS s hc h1 [.code watch_story_back.r8, .code .ret] (nth out h).toNat out nx ho (by omega) (by omega)
    have hb := bk_le K c h (nth out h).toNat
    have e2 := ih (h + 1) (out.set h (bk K c h (nth out h).toNat : Nat)) nx' (by omega) (by simp [ho]) (hcut.set (by omega))
    simp only [Int.natCast_add, Int.cast_ofNat_Int] at e2
    rw [e2] at e
    rw [bkR, watch_story_back.L0_eq]
    simp at e
    simp [h1, e]

def backL (K : List (List (List Int))) (n : Nat) (c : List Int) : List Int := bkR K c n 0 c
theorem back_spec {v : AV} {n : Nat} {D : List Int} {K : List (List (List Int))} (s : IsStory v n D K) {c : List Int} (hc : IsCut n D c) (m : Mem) :
    denC prog ann 69 [v, .agg (ints c)] m = some (.agg (ints (backL K n c)), m) := by
  have s' := s
  obtain ⟨V, rfl, hV, hS⟩ := s.V
  rw [watch_story_back.call_eq _ _ _ (by simp)]
  have hl := hc.len
  have ht : c.take 4 = c := List.take_of_length_le (by omega)
  have := back_loop hV hS s' hl n 0 c 2 (by omega) hl hc
  simp at this
  simp [hl, ht, this, backL, show c.drop 4 = [] from List.drop_of_length_le (by omega)]
theorem bkR_len (K : List (List (List Int))) (c : List Int) : ∀ (k h : Nat) (out : List Int), (bkR K c k h out).length = out.length
  | 0, _, _ => rfl
  | k + 1, h, out => by rw [bkR, bkR_len]; simp

/-! ### The exported functions -/
theorem pad_cut {D l : List Int} (h4 : D.length ≤ 4) (h : CutL D l) : IsCut D.length (pad D) (pad l) := by
  refine ⟨pad_len (by have := h.len; omega), fun g => by rw [nth_pad]; exact h.lo g, fun g => by rw [nth_pad, nth_pad]; exact h.hi g⟩

structure ConsRes (D : List Int) (N : List Note) (l : List Int) (b : Bool) (e : Int) : Prop where
  bad : ¬ ValidS D N → b = false ∧ e = 1
  form : ValidS D N → cutB D l = false → b = false ∧ e = 2
  ok : ValidS D N → cutB D l = true → b = conR N l ∧ e = 0

theorem cons_eq {D l : List Int} {N : List Note} {K : List (List (List Int))} (k : Clocks D N K) (h : CutL D l) : decide (forthL K D.length (pad l) = pad l) = conR N l := by
  have := in_iff k (pad_cut k.P.L.n4 h)
  rw [pad_self k.P.L.n4 h.len] at this
  cases hq : conR N l with
  | true => simp [this.2 hq]
  | false => simp; intro h; rw [this.1 h] at hq; cases hq

theorem consistentV_spec {v vl : AV} {D l : List Int} {N : List Note} (hs : IsTale v D N) (hl : D.length < 100000) (hn : N.length < 100000) (hv : IsInts vl l) (hll : l.length < 1000000) :
    ∃ b e, ConsRes D N l b e ∧ ∀ m, denC prog ann 30 [v, vl] m = some (.tup [.bool b, .int .i64 e], m) := by
  have hs' := hs
  obtain ⟨r, hr, er⟩ := readV_spec hs hl hn
  obtain ⟨vD, vN, rfl, h1, h2⟩ := hs.ex
  have hcl : closedL [.agg [vD, vN], vl] = true := by simp [h1.closed, h2.closed, hv.closed]
  cases hr with
  | no h =>
    refine ⟨false, 1, ⟨fun _ => ⟨rfl, rfl⟩, fun v => absurd v h, fun v => absurd v h⟩, fun m => ?_⟩
    rw [watch_Consistent.call_eq _ _ _ hcl]
    simp [h1.one, h2.one, h1.closed, h2.closed, er]
  | @ok sv K val k s =>
    obtain ⟨c, hc, hc4, ec⟩ := cutOf_spec s hv hll
    cases hq : cutB D l with
    | false =>
      rw [hq] at ec
      refine ⟨false, 2, ⟨fun h => absurd val h, fun _ _ => ⟨rfl, rfl⟩, fun _ h => (by rw [hq] at h; cases h)⟩, fun m => ?_⟩
      rw [watch_Consistent.call_eq _ _ _ hcl]
      simp [h1.one, h2.one, h1.closed, h2.closed, er, ec, s.closed, s.one, hv.closed, hc4]
    | true =>
      have hcut := cutB_iff.1 hq
      have hic := pad_cut k.P.L.n4 hcut
      have hce := hc hq
      subst hce
      rw [hq] at ec
      have ht : (pad l).take 4 = pad l := List.take_of_length_le (by have := hic.len; omega)
      refine ⟨conR N l, 0, ⟨fun h => absurd val h, fun _ h => (by rw [hq] at h; cases h), fun _ _ => ⟨rfl, rfl⟩⟩, fun m => ?_⟩
      rw [watch_Consistent.call_eq _ _ _ hcl]
      have hx := fun m => consistent_spec s hic m
      rw [cons_eq k hcut] at hx
      simp [h1.one, h2.one, h1.closed, h2.closed, er, ec, s.closed, s.one, hv.closed, hx, hic.len, ht]

/-- Where a cut stands among the consistent ones. -/
def rankOf (D : List Int) (N : List Note) (l : List Int) : Int := match (cutsL D N).findIdx? (fun x => l == x) with | some j => (j : Int) | none => -1
theorem findIdx_map {α β : Type} (f : α → β) (p : α → Bool) (q : β → Bool) : ∀ (l : List α), (∀ a ∈ l, p a = q (f a)) → l.findIdx? p = (l.map f).findIdx? q
  | [], _ => rfl
  | a :: l, h => by
    rw [List.map_cons, List.findIdx?_cons, List.findIdx?_cons, h a (by simp), findIdx_map f p q l (fun b hb => h b (by simp [hb]))]

theorem cut_pad {n : Nat} {D x : List Int} (hn : n ≤ 4) (hz : ∀ h, n ≤ h → nth D h = 0) (h : IsCut n D x) : pad (x.take n) = x := by
  have hl := h.len
  refine ext_nth (by rw [pad_len (by simp; omega), hl]) fun g => ?_
  rw [nth_pad]
  rcases Nat.lt_or_ge g n with h1 | h1
  · exact nth_take h1
  · have h2 := h.lo g; have h3 := h.hi g; have h4 := hz g h1
    rw [nth_out (by simp; omega)]; omega

theorem rank_eq {sv : AV} {D l : List Int} {N : List Note} {K : List (List (List Int))} (k : Clocks D N K) (s : IsStory sv D.length (pad D) K) (h : CutL D l) :
    (match (allL (pad D) K D.length).findIdx? (fun d => pad l == d) with | some j => (j : Int) | none => -1) = rankOf D N l := by
  rw [rankOf, ← allL_eq k, ← findIdx_map (fun c : List Int => c.take D.length) (fun d => pad l == d) (fun x => l == x)]
  intro a ha
  have hic := enumR_cut s.pos D.length 0 _ (zero_cut s) a (List.mem_filter.1 ha).1
  have h4 := k.P.L.n4
  by_cases e : l = a.take D.length
  · have : pad l = a := by rw [e]; exact cut_pad h4 s.zero hic
    rw [show (pad l == a) = true from by rw [this]; exact beq_self_eq_true a, show (l == a.take D.length) = true from by rw [← e]; exact beq_self_eq_true l]
  · have : pad l ≠ a := fun e2 => e (by rw [← e2, pad_self h4 h.len])
    rw [show (pad l == a) = false from beq_eq_false_iff_ne.2 this, show (l == a.take D.length) = false from beq_eq_false_iff_ne.2 e]

structure RankRes (D : List Int) (N : List Note) (l : List Int) (r : Int) (e : Int) : Prop where
  bad : ¬ ValidS D N → r = 0 ∧ e = 1
  form : ValidS D N → cutB D l = false → r = 0 ∧ e = 2
  none : ValidS D N → cutB D l = true → rankOf D N l < 0 → r = 0 ∧ e = 5
  ok : ValidS D N → cutB D l = true → 0 ≤ rankOf D N l → r = rankOf D N l ∧ e = 0

theorem allV {sv : AV} {D : List Int} {K : List (List (List Int))} (s : IsStory sv D.length (pad D) K) : ∃ av, (∀ m, denC prog ann 62 [sv] m = some (av, m)) ∧ IsSl ints av (allL (pad D) K D.length) := by
  obtain ⟨av, ea, ia⟩ := all_spec s Mem.empty
  exact ⟨av, pure_any (fun m => watch_story_all.call_eq _ m (by simp [s.closed])) ea, ia⟩
theorem listV {sv : AV} {D c : List Int} {K : List (List (List Int))} (s : IsStory sv D.length (pad D) K) (hc : c.length = 4) : ∃ lv, (∀ m, denC prog ann 63 [sv, .agg (ints c)] m = some (lv, m)) ∧ IsInts lv (c.take D.length) := by
  obtain ⟨lv, el, il⟩ := list_spec s hc Mem.empty
  exact ⟨lv, pure_any (fun m => watch_story_list.call_eq _ _ m (by simp [s.closed])) el, il⟩

theorem rankV_spec {v vl : AV} {D l : List Int} {N : List Note} (hs : IsTale v D N) (hl : D.length < 100000) (hn : N.length < 100000) (hv : IsInts vl l) (hll : l.length < 1000000) :
    ∃ r e, RankRes D N l r e ∧ ∀ m, denC prog ann 45 [v, vl] m = some (.tup [.int .i64 r, .int .i64 e], m) := by
  have hs' := hs
  obtain ⟨r, hr, er⟩ := readV_spec hs hl hn
  obtain ⟨vD, vN, rfl, h1, h2⟩ := hs.ex
  have hcl : closedL [.agg [vD, vN], vl] = true := by simp [h1.closed, h2.closed, hv.closed]
  cases hr with
  | no h =>
    refine ⟨0, 1, ⟨fun _ => ⟨rfl, rfl⟩, fun v => absurd v h, fun v => absurd v h, fun v => absurd v h⟩, fun m => ?_⟩
    rw [watch_Rank.call_eq _ _ _ hcl]
    simp [h1.one, h2.one, h1.closed, h2.closed, er]
  | @ok sv K val k s =>
    obtain ⟨c, hc, hc4, ec⟩ := cutOf_spec s hv hll
    cases hq : cutB D l with
    | false =>
      rw [hq] at ec
      refine ⟨0, 2, ⟨fun h => absurd val h, fun _ _ => ⟨rfl, rfl⟩, fun _ h => (by rw [hq] at h; cases h), fun _ h => (by rw [hq] at h; cases h)⟩, fun m => ?_⟩
      rw [watch_Rank.call_eq _ _ _ hcl]
      simp [h1.one, h2.one, h1.closed, h2.closed, er, ec, s.closed, s.one, hv.closed, hc4]
    | true =>
      have hcut := cutB_iff.1 hq
      have hic := pad_cut k.P.L.n4 hcut
      have hce := hc hq
      subst hce
      rw [hq] at ec
      have ht : (pad l).take 4 = pad l := List.take_of_length_le (by have := hic.len; omega)
      obtain ⟨av, ea, ia⟩ := allV s
      have hx := fun m => index_spec ia (allL_four s) hic.len (by have := allL_len s; omega) m
      have hrk := rank_eq k s hcut
      generalize hR : rankOf D N l = R at hrk
      have hx' : ∀ m, denC prog ann 81 [av, .agg (ints (pad l))] m = some (.int .i64 R, m) := fun m => by rw [hx m]; rw [← hrk]; rfl
      clear hx
      by_cases q : R < 0
      · refine ⟨0, 5, ⟨fun h => absurd val h, fun _ h => (by rw [hq] at h; cases h), fun _ _ _ => ⟨rfl, rfl⟩, fun _ _ h => by omega⟩, fun m => ?_⟩
        rw [watch_Rank.call_eq _ _ _ hcl]
        simp [h1.one, h2.one, h1.closed, h2.closed, er, ec, s.closed, s.one, hv.closed, hx', hic.len, ht, ea, ia.closed, q]
      · refine ⟨R, 0, ⟨fun h => absurd val h, fun _ h => (by rw [hq] at h; cases h), fun _ _ h => by omega, fun _ _ _ => ⟨hR.symm, rfl⟩⟩, fun m => ?_⟩
        rw [watch_Rank.call_eq _ _ _ hcl]
        simp [h1.one, h2.one, h1.closed, h2.closed, er, ec, s.closed, s.one, hv.closed, hx', hic.len, ht, ea, ia.closed, q]

/-! ### Back and Forth -/
/-- What Back and Forth hand back, by the program's own clocks. -/
inductive MoveRes (move : List (List (List Int)) → Nat → List Int → List Int) (D : List Int) (N : List Note) (l : List Int) : AV → Int → Prop where
  | bad (h : ¬ ValidS D N) : MoveRes move D N l .nils 1
  | form (v : ValidS D N) (h : cutB D l = false) : MoveRes move D N l .nils 2
  | ok {K : List (List (List Int))} {r : AV} (v : ValidS D N) (h : cutB D l = true) (k : Clocks D N K) (hr : IsInts r ((move K D.length (pad l)).take D.length)) : MoveRes move D N l r 0

theorem moved_spec {v vl : AV} {D l : List Int} {N : List Note} {f : Nat} {move : List (List (List Int)) → Nat → List Int → List Int} (hs : IsTale v D N) (hl : D.length < 100000) (hn : N.length < 100000) (hv : IsInts vl l) (hll : l.length < 1000000)
    (hp : (ann f).pure = true) (hf : ∀ {sv : AV} {K : List (List (List Int))} {c : List Int}, IsStory sv D.length (pad D) K → IsCut D.length (pad D) c → (move K D.length c).length = 4 ∧ ∀ m, denC prog ann f [sv, .agg (ints c)] m = some (.agg (ints (move K D.length c)), m)) :
    ∃ r e, MoveRes move D N l r e ∧ ∀ m, denC prog ann 68 [v, vl, .fn f [] []] m = some (.tup [r, .int .i64 e], m) := by
  have hs' := hs
  obtain ⟨r, hr, er⟩ := readV_spec hs hl hn
  obtain ⟨vD, vN, rfl, h1, h2⟩ := hs.ex
  have hcl : closedL [.agg [vD, vN], vl, .fn f [] []] = true := by simp [h1.closed, h2.closed, hv.closed]
  cases hr with
  | no h =>
    refine ⟨.nils, 1, .bad h, fun m => ?_⟩
    rw [watch_moved.call_eq _ _ _ _ hcl]
    simp [h1.one, h2.one, h1.closed, h2.closed, er]
  | @ok sv K val k s =>
    obtain ⟨c, hc, hc4, ec⟩ := cutOf_spec s hv hll
    cases hq : cutB D l with
    | false =>
      rw [hq] at ec
      refine ⟨.nils, 2, .form val hq, fun m => ?_⟩
      rw [watch_moved.call_eq _ _ _ _ hcl]
      simp [h1.one, h2.one, h1.closed, h2.closed, er, ec, s.closed, s.one, hv.closed, hc4]
    | true =>
      have hcut := cutB_iff.1 hq
      have hic := pad_cut k.P.L.n4 hcut
      have hce := hc hq
      subst hce
      rw [hq] at ec
      have ht : (pad l).take 4 = pad l := List.take_of_length_le (by have := hic.len; omega)
      obtain ⟨f1, f2⟩ := hf s hic
      obtain ⟨lv, el, il⟩ := listV s f1
      refine ⟨lv, 0, .ok val hq k il, fun m => ?_⟩
      rw [watch_moved.call_eq _ _ _ _ hcl]
      simp [h1.one, h2.one, h1.closed, h2.closed, er, ec, s.closed, s.one, hv.closed, hic.len, ht, hp, f2, el, il.deep, il.closed]

theorem backV_spec {v vl : AV} {D l : List Int} {N : List Note} (hs : IsTale v D N) (hl : D.length < 100000) (hn : N.length < 100000) (hv : IsInts vl l) (hll : l.length < 1000000) :
    ∃ r e, MoveRes backL D N l r e ∧ ∀ m, denC prog ann 24 [v, vl] m = some (.tup [r, .int .i64 e], m) := by
  obtain ⟨r, e, h1, h2⟩ := moved_spec (f := 69) (move := backL) hs hl hn hv hll watch_story_back.pure_eq (fun s hc => ⟨by rw [backL, bkR_len]; exact hc.len, fun m => back_spec s hc m⟩)
  have hs' := hs
  obtain ⟨vD, vN, rfl, g1, g2⟩ := hs.ex
  refine ⟨r, e, h1, fun m => ?_⟩
  have hr : r.closed = true := by cases h1 <;> first | rfl | (rename_i hr; exact hr.closed)
  have hd : ∀ hp, deep hp 5 r = some r := fun hp => by cases h1 <;> first | rfl | (rename_i hr; exact hr.deep hp 4)
  rw [watch_Back.call_eq _ _ _ (by simp [g1.closed, g2.closed, hv.closed])]
  simp [g1.one, g2.one, g1.closed, g2.closed, hv.closed, h2, hr, hd]
theorem forthV_spec {v vl : AV} {D l : List Int} {N : List Note} (hs : IsTale v D N) (hl : D.length < 100000) (hn : N.length < 100000) (hv : IsInts vl l) (hll : l.length < 1000000) :
    ∃ r e, MoveRes forthL D N l r e ∧ ∀ m, denC prog ann 26 [v, vl] m = some (.tup [r, .int .i64 e], m) := by
  obtain ⟨r, e, h1, h2⟩ := moved_spec (f := 70) (move := forthL) hs hl hn hv hll watch_story_forth.pure_eq (fun s hc => ⟨forthR_len s hc _ 0 _ (by omega) hc.len, fun m => forth_spec s hc m⟩)
  have hs' := hs
  obtain ⟨vD, vN, rfl, g1, g2⟩ := hs.ex
  refine ⟨r, e, h1, fun m => ?_⟩
  have hr : r.closed = true := by cases h1 <;> first | rfl | (rename_i hr; exact hr.closed)
  have hd : ∀ hp, deep hp 5 r = some r := fun hp => by cases h1 <;> first | rfl | (rename_i hr; exact hr.deep hp 4)
  rw [watch_Forth.call_eq _ _ _ (by simp [g1.closed, g2.closed, hv.closed])]
  simp [g1.one, g2.one, g1.closed, g2.closed, hv.closed, h2, hr, hd]
end Go.Proofs.Ytdkmepjedjclkaa

/-
  THE REFERENCE's Meet, Join, Below, First, Last, Back, Forth. Conditions: none.
-/
namespace Go.Proofs.Ytdkmepjedjclkaa
open Go.AM
open Go.Proofs.Try (prog)
set_option linter.all false
set_option maxRecDepth 100000

theorem minR_loop {vx vy : AV} {x y : List Int} (hx : IsInts vx x) (hy : IsInts vy y) (he : x.length = y.length) (hl : x.length < 1000000) : ∀ (k i : Nat) (acc : List Int) (m : Mem), i + k = x.length → acc.length = i → m.h 0 = some (.cells (ints acc)) →
    r09_Meet.L0 vx vy (.sl 0 1 0 i i) (.int .i64 i) m [.code r09_Meet.r6, .code .ret] = some (.fsl false (acc ++ zmin (x.drop i) (y.drop i)).length (ints (acc ++ zmin (x.drop i) (y.drop i))), Mem.empty) := by
  intro k
  induction k with
  | zero =>
    intro i acc m h1 h2 h0
    have e : i = x.length := by omega
    rw [r09_Meet.L0_eq]
    have hd : x.drop i = [] := List.drop_of_length_le (by omega)
    have hni : ¬ (i : Int) < x.length := by omega
    have hz : zmin (x.drop i) (y.drop i) = [] := by rw [hd]; simp [zmin]
    have h2' : acc.length = x.length := by omega
    have ht : (ints acc).take x.length = ints acc := List.take_of_length_le (by simp; omega)
    simp at ht
    rw [hz]
    simp [hx.len, hni, e, h0, h2', ht]
  | succ k ih =>
    intro i acc m h1 h2 h0
    have h3 : i < x.length := by omega
    have h4 : i < y.length := by omega
    have hw : IntKind.wrap .i64 ((i : Int) + 1) = (i : Int) + 1 := wrap_id (by omega) (by omega)
    have hz : acc ++ zmin (x.drop i) (y.drop i) = (acc ++ [min (nth x i) (nth y i)]) ++ zmin (x.drop (i + 1)) (y.drop (i + 1)) := by
      rw [drop_nth h3, drop_nth h4]
      simp [zmin]
    rw [hz, r09_Meet.L0_eq]
    have hi := fun nx => ih (i + 1) (acc ++ [min (nth x i) (nth y i)]) ⟨upd m.h 0 (some (.cells (ints (acc ++ [min (nth x i) (nth y i)])))), nx⟩ (by omega) (by simp [h2]) (by simp)
    simp [h2] at hi
    have hr : ints acc ++ [AV.int .i64 (min (nth x i) (nth y i))] = ints (acc ++ [min (nth x i) (nth y i)]) := by simp [ints]
    have hroom : i ≤ 4611686018427387903 := by omega
    have hroom2 : (i + 1) * 8 ≤ 70368744177664 := by omega
    simp [hx.len, h3, hx.idx h3, hy.idx h4, ints_head h3, ints_head h4, h0, h2, hw, hroom, hroom2, hr, hi]

theorem minR_spec {vx vy : AV} {x y : List Int} (hx : IsInts vx x) (hy : IsInts vy y) (he : x.length = y.length) (hl : x.length < 1000000) (m : Mem) :
    denC prog ann 28 [vx, vy] m = some (.fsl false (zmin x y).length (ints (zmin x y)), m) := by
  rw [r09_Meet.call_eq _ _ _ (by simp [hx.closed, hy.closed])]
  have := minR_loop hx hy he hl x.length 0 [] ⟨upd Mem.empty.h 0 (some (.cells [])), 1⟩ (by omega) rfl (by simp)
  simp at this
  simp [this]

theorem maxR_loop {vx vy : AV} {x y : List Int} (hx : IsInts vx x) (hy : IsInts vy y) (he : x.length = y.length) (hl : x.length < 1000000) : ∀ (k i : Nat) (acc : List Int) (m : Mem), i + k = x.length → acc.length = i → m.h 0 = some (.cells (ints acc)) →
    r09_Join.L0 vx vy (.sl 0 1 0 i i) (.int .i64 i) m [.code r09_Join.r6, .code .ret] = some (.fsl false (acc ++ zmax (x.drop i) (y.drop i)).length (ints (acc ++ zmax (x.drop i) (y.drop i))), Mem.empty) := by
  intro k
  induction k with
  | zero =>
    intro i acc m h1 h2 h0
    have e : i = x.length := by omega
    rw [r09_Join.L0_eq]
    have hd : x.drop i = [] := List.drop_of_length_le (by omega)
    have hni : ¬ (i : Int) < x.length := by omega
    have hz : zmax (x.drop i) (y.drop i) = [] := by rw [hd]; simp [zmax]
    have h2' : acc.length = x.length := by omega
    have ht : (ints acc).take x.length = ints acc := List.take_of_length_le (by simp; omega)
    simp at ht
    rw [hz]
    simp [hx.len, hni, e, h0, h2', ht]
  | succ k ih =>
    intro i acc m h1 h2 h0
    have h3 : i < x.length := by omega
    have h4 : i < y.length := by omega
    have hw : IntKind.wrap .i64 ((i : Int) + 1) = (i : Int) + 1 := wrap_id (by omega) (by omega)
    have hz : acc ++ zmax (x.drop i) (y.drop i) = (acc ++ [max (nth x i) (nth y i)]) ++ zmax (x.drop (i + 1)) (y.drop (i + 1)) := by
      rw [drop_nth h3, drop_nth h4]
      simp [zmax]
    rw [hz, r09_Join.L0_eq]
    have hi := fun nx => ih (i + 1) (acc ++ [max (nth x i) (nth y i)]) ⟨upd m.h 0 (some (.cells (ints (acc ++ [max (nth x i) (nth y i)])))), nx⟩ (by omega) (by simp [h2]) (by simp)
    simp [h2] at hi
    have hr : ints acc ++ [AV.int .i64 (max (nth x i) (nth y i))] = ints (acc ++ [max (nth x i) (nth y i)]) := by simp [ints]
    have hroom : i ≤ 4611686018427387903 := by omega
    have hroom2 : (i + 1) * 8 ≤ 70368744177664 := by omega
    simp [hx.len, h3, hx.idx h3, hy.idx h4, ints_head h3, ints_head h4, h0, h2, hw, hroom, hroom2, hr, hi]

theorem maxR_spec {vx vy : AV} {x y : List Int} (hx : IsInts vx x) (hy : IsInts vy y) (he : x.length = y.length) (hl : x.length < 1000000) (m : Mem) :
    denC prog ann 29 [vx, vy] m = some (.fsl false (zmax x y).length (ints (zmax x y)), m) := by
  rw [r09_Join.call_eq _ _ _ (by simp [hx.closed, hy.closed])]
  have := maxR_loop hx hy he hl x.length 0 [] ⟨upd Mem.empty.h 0 (some (.cells [])), 1⟩ (by omega) rfl (by simp)
  simp at this
  simp [this]

def belowB (x y : List Int) : Bool := decide (zmin x y = x)
theorem belowR_spec {vx vy : AV} {x y : List Int} (hx : IsInts vx x) (hy : IsInts vy y) (he : x.length = y.length) (hl : x.length < 1000000) (m : Mem) :
    denC prog ann 31 [vx, vy] m = some (.bool (belowB x y), m) := by
  rw [r09_Below.call_eq _ _ _ (by simp [hx.closed, hy.closed])]
  have hz : (zmin x y).length = x.length := by simp [zmin, he]
  have := same_spec (IsInts.fsl false (zmin x y)) hx (by omega) (by omega)
  simp [hx.closed, hy.closed, minR_spec hx hy he hl, this, belowB]
end Go.Proofs.Ytdkmepjedjclkaa

/-
  THE REFERENCE's First, Last, Back, Forth. Conditions: none.
-/
namespace Go.Proofs.Ytdkmepjedjclkaa
open Go.AM
open Go.Proofs.Try (prog)
set_option linter.all false
set_option maxRecDepth 100000
theorem tuplesL_row : ∀ {E : List Int}, ∀ x ∈ tuplesL E, x.length = E.length
  | [], x, hx => by simp [tuplesL] at hx; subst hx; rfl
  | d :: E, x, hx => by
    simp only [tuplesL, List.mem_flatMap, List.mem_map] at hx
    obtain ⟨j, _, y, hy, rfl⟩ := hx
    simp [tuplesL_row y hy]
theorem cutsL_row {D : List Int} {N : List Note} {x : List Int} (hx : x ∈ cutsL D N) : x.length = D.length := tuplesL_row x (List.mem_filter.1 hx).1

theorem firstR_loop {v : AV} {L : List (List Int)} {n : Nat} (hv : IsSl rowC v L) (hr : ∀ x ∈ L, x.length = n) (hn : n < 1000000) (hl : L.length < 1000000) : ∀ (k i : Nat) (vo : AV) (out : List Int) (m : Mem), i + k = L.length → IsInts vo out → out.length = n →
    ∃ v', IsInts v' ((L.drop i).foldl zmin out) ∧ r09_First.L0 v vo (.int .i64 i) m [.code r09_First.r8, .code .ret] = some (v', Mem.empty) := by
  intro k
  induction k with
  | zero =>
    intro i vo out m h1 h2 h3
    have e : i = L.length := by omega
    refine ⟨vo, by rw [List.drop_of_length_le (by omega)]; exact h2, ?_⟩
    rw [r09_First.L0_eq]
    simp [hv.len, e, h2.deep]
  | succ k ih =>
    intro i vo out m h1 h2 h3
    have h4 : i < L.length := by omega
    have hw : IntKind.wrap .i64 ((i : Int) + 1) = (i : Int) + 1 := wrap_id (by omega) (by omega)
    have hrow : (L[i]).length = n := hr _ (List.getElem_mem h4)
    have hld : loadF false 1 (.fptr (flatC rowC (L.drop i))) = some (.fsl false (L[i]).length (ints L[i])) := by rw [flatC_at (List.getElem?_eq_getElem h4)]; simp [rowC]
    have hop := minR_spec h2 (IsInts.fsl false L[i]) (by omega) (by omega)
    have hz : (zmin out L[i]).length = n := by simp [zmin, h3, hrow]
    obtain ⟨v', i1, i2⟩ := ih (i + 1) (.fsl false (zmin out L[i]).length (ints (zmin out L[i]))) (zmin out L[i]) m (by omega) (IsInts.fsl false _) hz
    refine ⟨v', by rw [List.drop_eq_getElem_cons h4, List.foldl_cons]; exact i1, ?_⟩
    simp only [Int.natCast_add, Int.cast_ofNat_Int] at i2
    rw [r09_First.L0_eq, ← i2]
    simp [hv.len, h4, hv.idx (rowC_len L) h4, hld, hop, h2.closed, hw]

def firstL : List (List Int) → List Int
  | [] => []
  | x :: l => l.foldl zmin x
theorem firstR_spec {v : AV} {L : List (List Int)} {n : Nat} (hv : IsSl rowC v L) (hr : ∀ x ∈ L, x.length = n) (hn : n < 1000000) (hl : L.length < 1000000) :
    ∃ v', IsInts v' (firstL L) ∧ ∀ m, denC prog ann 59 [v] m = some (v', m) := by
  have hcl : closedL [v] = true := by simp [hv.closed]
  cases L with
  | nil =>
    refine ⟨.nils, .nils, fun m => ?_⟩
    rw [r09_First.call_eq _ _ hcl]
    have := hv.len
    simp at this
    simp [this]
  | cons x l =>
    have hx : x.length = n := hr x (by simp)
    have h0 := hv.idx (rowC_len _) (i := 0) (by simp) .i64
    simp at h0
    have hld : loadF false 1 (.fptr (flatC rowC (x :: l))) = some (.fsl false x.length (ints x)) := by rw [flatC_cons]; simp [rowC]
    obtain ⟨v', i1, i2⟩ := firstR_loop hv hr hn hl l.length 1 (.fsl false x.length (ints x)) x Mem.empty (by simp; omega) (IsInts.fsl false x) hx
    refine ⟨v', by simpa [firstL] using i1, fun m => ?_⟩
    rw [r09_First.call_eq _ _ hcl]
    have hne : ¬ ((l.length : Int) + 1 = 0) := by omega
    have hlen := hv.len
    simp at hlen
    simp at i2
    simp [hlen, hne, h0, hld, i2]

theorem lastR_loop {v : AV} {L : List (List Int)} {n : Nat} (hv : IsSl rowC v L) (hr : ∀ x ∈ L, x.length = n) (hn : n < 1000000) (hl : L.length < 1000000) : ∀ (k i : Nat) (vo : AV) (out : List Int) (m : Mem), i + k = L.length → IsInts vo out → out.length = n →
    ∃ v', IsInts v' ((L.drop i).foldl zmax out) ∧ r09_Last.L0 v vo (.int .i64 i) m [.code r09_Last.r8, .code .ret] = some (v', Mem.empty) := by
  intro k
  induction k with
  | zero =>
    intro i vo out m h1 h2 h3
    have e : i = L.length := by omega
    refine ⟨vo, by rw [List.drop_of_length_le (by omega)]; exact h2, ?_⟩
    rw [r09_Last.L0_eq]
    simp [hv.len, e, h2.deep]
  | succ k ih =>
    intro i vo out m h1 h2 h3
    have h4 : i < L.length := by omega
    have hw : IntKind.wrap .i64 ((i : Int) + 1) = (i : Int) + 1 := wrap_id (by omega) (by omega)
    have hrow : (L[i]).length = n := hr _ (List.getElem_mem h4)
    have hld : loadF false 1 (.fptr (flatC rowC (L.drop i))) = some (.fsl false (L[i]).length (ints L[i])) := by rw [flatC_at (List.getElem?_eq_getElem h4)]; simp [rowC]
    have hop := maxR_spec h2 (IsInts.fsl false L[i]) (by omega) (by omega)
    have hz : (zmax out L[i]).length = n := by simp [zmax, h3, hrow]
    obtain ⟨v', i1, i2⟩ := ih (i + 1) (.fsl false (zmax out L[i]).length (ints (zmax out L[i]))) (zmax out L[i]) m (by omega) (IsInts.fsl false _) hz
    refine ⟨v', by rw [List.drop_eq_getElem_cons h4, List.foldl_cons]; exact i1, ?_⟩
    simp only [Int.natCast_add, Int.cast_ofNat_Int] at i2
    rw [r09_Last.L0_eq, ← i2]
    simp [hv.len, h4, hv.idx (rowC_len L) h4, hld, hop, h2.closed, hw]

def lastL : List (List Int) → List Int
  | [] => []
  | x :: l => l.foldl zmax x
theorem lastR_spec {v : AV} {L : List (List Int)} {n : Nat} (hv : IsSl rowC v L) (hr : ∀ x ∈ L, x.length = n) (hn : n < 1000000) (hl : L.length < 1000000) :
    ∃ v', IsInts v' (lastL L) ∧ ∀ m, denC prog ann 60 [v] m = some (v', m) := by
  have hcl : closedL [v] = true := by simp [hv.closed]
  cases L with
  | nil =>
    refine ⟨.nils, .nils, fun m => ?_⟩
    rw [r09_Last.call_eq _ _ hcl]
    have := hv.len
    simp at this
    simp [this]
  | cons x l =>
    have hx : x.length = n := hr x (by simp)
    have h0 := hv.idx (rowC_len _) (i := 0) (by simp) .i64
    simp at h0
    have hld : loadF false 1 (.fptr (flatC rowC (x :: l))) = some (.fsl false x.length (ints x)) := by rw [flatC_cons]; simp [rowC]
    obtain ⟨v', i1, i2⟩ := lastR_loop hv hr hn hl l.length 1 (.fsl false x.length (ints x)) x Mem.empty (by simp; omega) (IsInts.fsl false x) hx
    refine ⟨v', by simpa [lastL] using i1, fun m => ?_⟩
    rw [r09_Last.call_eq _ _ hcl]
    have hne : ¬ ((l.length : Int) + 1 = 0) := by omega
    have hlen := hv.len
    simp at hlen
    simp at i2
    simp [hlen, hne, h0, hld, i2]

theorem backR_loop {vl av : AV} {L : List (List Int)} {l : List Int} {n : Nat} (hv : IsInts vl l) (ha : IsSl rowC av L) (hr : ∀ x ∈ L, x.length = n) (hln : l.length = n) (hn : n < 1000000) (hl : L.length < 1000000) : ∀ (k i : Nat) (acc : List (List Int)) (m : Mem), i + k = L.length → acc.length ≤ i → (∀ x ∈ acc, x.length = n) → m.h 0 = some (.cells (flatC rowC acc)) → 1 ≤ m.nx →
    ∃ v', IsInts v' (lastL (acc ++ (L.drop i).filter fun x => belowB x l)) ∧ r09_Back.L0 vl av (.sl 0 1 0 acc.length acc.length) (.int .i64 i) m [.code r09_Back.r7, .code .ret] = some (v', Mem.empty) := by
  intro k
  induction k with
  | zero =>
    intro i acc m h1 h2 h3 h0 hnx
    have e : i = L.length := by omega
    have hfl : (flatC rowC acc).length = acc.length := by simpa using flatC_len (k := 1) (rowC_len acc)
    have hd := flatC_deep m.h 4 (f := rowC) (fun a => by simp [rowC]) acc
    have ht : (flatC rowC acc).take acc.length = flatC rowC acc := List.take_of_length_le (by omega)
    obtain ⟨v', i1, i2⟩ := lastR_spec (v := .fsl false acc.length (flatC rowC acc)) (IsSl.fsl false acc) h3 hn (by omega)
    refine ⟨v', by rw [List.drop_of_length_le (by omega)]; simpa using i1, ?_⟩
    rw [r09_Back.L0_eq]
    simp [ha.len, e, h0, hfl, hd, ht, i2, i1.deep, flatC_closedL rowC_closed acc, i1.closed]
  | succ k ih =>
    intro i acc m h1 h2 h3 h0 hnx
    have h4 : i < L.length := by omega
    have hw : IntKind.wrap .i64 ((i : Int) + 1) = (i : Int) + 1 := wrap_id (by omega) (by omega)
    have hrow : (L[i]).length = n := hr _ (List.getElem_mem h4)
    have hld : loadF false 1 (.fptr (flatC rowC (L.drop i))) = some (.fsl false (L[i]).length (ints L[i])) := by rw [flatC_at (List.getElem?_eq_getElem h4)]; simp [rowC]
    have hfl : (flatC rowC acc).length = acc.length := by simpa using flatC_len (k := 1) (rowC_len acc)
    have hx := IsInts.fsl false L[i]
    have hbel := belowR_spec hx hv (by omega) (by omega)
    have hsplit : acc ++ (L.drop i).filter (fun x => belowB x l) = (if (belowB L[i] l) = true then acc ++ [L[i]] else acc) ++ (L.drop (i + 1)).filter (fun x => belowB x l) := by
      rw [List.drop_eq_getElem_cons h4, List.filter_cons]
      split <;> simp
    rw [hsplit]
    by_cases q : belowB L[i] l = true
    · have hfl' : (flatC rowC (acc ++ [L[i]])).length = acc.length + 1 := by simpa using flatC_len (k := 1) (rowC_len (acc ++ [L[i]]))
      have hrw : flatC rowC acc ++ [.fsl false (L[i]).length (ints L[i])] = flatC rowC (acc ++ [L[i]]) := by rw [flatC_append, flatC_one]; simp [rowC]
      obtain ⟨v', i1, i2⟩ := ih (i + 1) (acc ++ [L[i]]) ⟨upd m.h 0 (some (.cells (flatC rowC (acc ++ [L[i]])))), m.nx⟩ (by omega) (by simp; omega) (by intro x hx; rcases List.mem_append.1 hx with h | h; exact h3 x h; simp at h; rw [h]; exact hrow) (by simp) hnx
      refine ⟨v', by rw [if_pos q]; exact i1, ?_⟩
      simp at i2
      rw [r09_Back.L0_eq, ← i2]
      simp [ha.len, h4, ha.idx (rowC_len L) h4, hld, hbel, q, hv.closed, hw, h0, hfl, show acc.length ≤ 4611686018427387903 by omega, show (acc.length + 1) * 24 ≤ 70368744177664 by omega, hrw, hfl']
    · obtain ⟨v', i1, i2⟩ := ih (i + 1) acc m (by omega) (by omega) h3 h0 hnx
      refine ⟨v', by rw [if_neg q]; exact i1, ?_⟩
      simp at i2
      rw [r09_Back.L0_eq, ← i2]
      simp [ha.len, h4, ha.idx (rowC_len L) h4, hld, hbel, q, hv.closed, hw]

theorem backR_spec {v vl : AV} {D l : List Int} {N : List Note} (hs : IsTale v D N) (L : Lims D N) (hv : IsInts vl l) (hln : l.length = D.length) :
    ∃ v', IsInts v' (lastL ((cutsL D N).filter fun x => belowB x l)) ∧ ∀ m, denC prog ann 46 [v, vl] m = some (v', m) := by
  have hcut := cutsR_spec hs L
  obtain ⟨vD, vN, rfl, hD, hN⟩ := hs.ex
  have hn4 := L.n4
  have hlen : (cutsL D N).length ≤ 2401 := by
    have h1 := tuplesL_len D (fun d hd => (L.all d hd).2)
    have h2 : 7 ^ D.length ≤ 7 ^ 4 := Nat.pow_le_pow_right (by omega) hn4
    have h3 : (cutsL D N).length ≤ _ := List.length_filter_le _ _
    omega
  obtain ⟨v', i1, i2⟩ := backR_loop hv (IsSl.fsl false (cutsL D N)) (fun x hx => cutsL_row hx) hln (by omega) (by omega) (cutsL D N).length 0 [] ⟨upd Mem.empty.h 0 (some (.cells [])), 1⟩ (by omega) (by simp) (fun x hx => by cases hx) (by simp) (by simp)
  refine ⟨v', by simpa using i1, fun m => ?_⟩
  rw [r09_Back.call_eq _ _ _ (by simp [hD.closed, hN.closed, hv.closed])]
  simp at i2
  simp [hD.one, hN.one, hD.closed, hN.closed, hcut, i2]

theorem forthR_loop {vl av : AV} {L : List (List Int)} {l : List Int} {n : Nat} (hv : IsInts vl l) (ha : IsSl rowC av L) (hr : ∀ x ∈ L, x.length = n) (hln : l.length = n) (hn : n < 1000000) (hl : L.length < 1000000) : ∀ (k i : Nat) (acc : List (List Int)) (m : Mem), i + k = L.length → acc.length ≤ i → (∀ x ∈ acc, x.length = n) → m.h 0 = some (.cells (flatC rowC acc)) → 1 ≤ m.nx →
    ∃ v', IsInts v' (firstL (acc ++ (L.drop i).filter fun x => belowB l x)) ∧ r09_Forth.L0 vl av (.sl 0 1 0 acc.length acc.length) (.int .i64 i) m [.code r09_Forth.r7, .code .ret] = some (v', Mem.empty) := by
  intro k
  induction k with
  | zero =>
    intro i acc m h1 h2 h3 h0 hnx
    have e : i = L.length := by omega
    have hfl : (flatC rowC acc).length = acc.length := by simpa using flatC_len (k := 1) (rowC_len acc)
    have hd := flatC_deep m.h 4 (f := rowC) (fun a => by simp [rowC]) acc
    have ht : (flatC rowC acc).take acc.length = flatC rowC acc := List.take_of_length_le (by omega)
    obtain ⟨v', i1, i2⟩ := firstR_spec (v := .fsl false acc.length (flatC rowC acc)) (IsSl.fsl false acc) h3 hn (by omega)
    refine ⟨v', by rw [List.drop_of_length_le (by omega)]; simpa using i1, ?_⟩
    rw [r09_Forth.L0_eq]
    simp [ha.len, e, h0, hfl, hd, ht, i2, i1.deep, flatC_closedL rowC_closed acc, i1.closed]
  | succ k ih =>
    intro i acc m h1 h2 h3 h0 hnx
    have h4 : i < L.length := by omega
    have hw : IntKind.wrap .i64 ((i : Int) + 1) = (i : Int) + 1 := wrap_id (by omega) (by omega)
    have hrow : (L[i]).length = n := hr _ (List.getElem_mem h4)
    have hld : loadF false 1 (.fptr (flatC rowC (L.drop i))) = some (.fsl false (L[i]).length (ints L[i])) := by rw [flatC_at (List.getElem?_eq_getElem h4)]; simp [rowC]
    have hfl : (flatC rowC acc).length = acc.length := by simpa using flatC_len (k := 1) (rowC_len acc)
    have hx := IsInts.fsl false L[i]
    have hbel := belowR_spec hv hx (by omega) (by omega)
    have hsplit : acc ++ (L.drop i).filter (fun x => belowB l x) = (if (belowB l L[i]) = true then acc ++ [L[i]] else acc) ++ (L.drop (i + 1)).filter (fun x => belowB l x) := by
      rw [List.drop_eq_getElem_cons h4, List.filter_cons]
      split <;> simp
    rw [hsplit]
    by_cases q : belowB l L[i] = true
    · have hfl' : (flatC rowC (acc ++ [L[i]])).length = acc.length + 1 := by simpa using flatC_len (k := 1) (rowC_len (acc ++ [L[i]]))
      have hrw : flatC rowC acc ++ [.fsl false (L[i]).length (ints L[i])] = flatC rowC (acc ++ [L[i]]) := by rw [flatC_append, flatC_one]; simp [rowC]
      obtain ⟨v', i1, i2⟩ := ih (i + 1) (acc ++ [L[i]]) ⟨upd m.h 0 (some (.cells (flatC rowC (acc ++ [L[i]])))), m.nx⟩ (by omega) (by simp; omega) (by intro x hx; rcases List.mem_append.1 hx with h | h; exact h3 x h; simp at h; rw [h]; exact hrow) (by simp) hnx
      refine ⟨v', by rw [if_pos q]; exact i1, ?_⟩
      simp at i2
      rw [r09_Forth.L0_eq, ← i2]
      simp [ha.len, h4, ha.idx (rowC_len L) h4, hld, hbel, q, hv.closed, hw, h0, hfl, show acc.length ≤ 4611686018427387903 by omega, show (acc.length + 1) * 24 ≤ 70368744177664 by omega, hrw, hfl']
    · obtain ⟨v', i1, i2⟩ := ih (i + 1) acc m (by omega) (by omega) h3 h0 hnx
      refine ⟨v', by rw [if_neg q]; exact i1, ?_⟩
      simp at i2
      rw [r09_Forth.L0_eq, ← i2]
      simp [ha.len, h4, ha.idx (rowC_len L) h4, hld, hbel, q, hv.closed, hw]

theorem forthR_spec {v vl : AV} {D l : List Int} {N : List Note} (hs : IsTale v D N) (L : Lims D N) (hv : IsInts vl l) (hln : l.length = D.length) :
    ∃ v', IsInts v' (firstL ((cutsL D N).filter fun x => belowB l x)) ∧ ∀ m, denC prog ann 47 [v, vl] m = some (v', m) := by
  have hcut := cutsR_spec hs L
  obtain ⟨vD, vN, rfl, hD, hN⟩ := hs.ex
  have hn4 := L.n4
  have hlen : (cutsL D N).length ≤ 2401 := by
    have h1 := tuplesL_len D (fun d hd => (L.all d hd).2)
    have h2 : 7 ^ D.length ≤ 7 ^ 4 := Nat.pow_le_pow_right (by omega) hn4
    have h3 : (cutsL D N).length ≤ _ := List.length_filter_le _ _
    omega
  obtain ⟨v', i1, i2⟩ := forthR_loop hv (IsSl.fsl false (cutsL D N)) (fun x hx => cutsL_row hx) hln (by omega) (by omega) (cutsL D N).length 0 [] ⟨upd Mem.empty.h 0 (some (.cells [])), 1⟩ (by omega) (by simp) (fun x hx => by cases hx) (by simp) (by simp)
  refine ⟨v', by simpa using i1, fun m => ?_⟩
  rw [r09_Forth.call_eq _ _ _ (by simp [hD.closed, hN.closed, hv.closed])]
  simp at i2
  simp [hD.one, hN.one, hD.closed, hN.closed, hcut, i2]

end Go.Proofs.Ytdkmepjedjclkaa
