/-
  CUTS AS ARGUMENTS: what is a cut, for the reference and for the program. Conditions: none.
-/
import Derived.Test.YtdkmepjedjclkaaKSAtA
import Derived.Test.YtdkmepjedjclkaaKCutB
set_option linter.all false
namespace Go.Proofs.Ytdkmepjedjclkaa
open Go.AM
open Go.Proofs.Try (prog)
set_option linter.all false
set_option maxRecDepth 100000

def boxB (l D : List Int) (k i : Nat) : Bool := (List.range' i k).all fun h => decide (0 ≤ nth l h) && decide (nth l h ≤ nth D h)
theorem boxB_succ (l D : List Int) (k i : Nat) : boxB l D (k + 1) i = ((decide (0 ≤ nth l i) && decide (nth l i ≤ nth D i)) && boxB l D k (i + 1)) := by
  simp only [boxB, List.range'_succ, List.all_cons]
/-- A list that is a cut of the deeds. -/
structure CutL (D l : List Int) : Prop where
  len : l.length = D.length
  lo : ∀ h, 0 ≤ nth l h
  hi : ∀ h, nth l h ≤ nth D h
theorem boxB_iff {l D : List Int} : ∀ (k i : Nat), boxB l D k i = true ↔ ∀ h, i ≤ h → h < i + k → 0 ≤ nth l h ∧ nth l h ≤ nth D h := by
  intro k i
  simp only [boxB, List.all_eq_true, List.mem_range'_1, Bool.and_eq_true, decide_eq_true_eq]
  exact ⟨fun h g a b => h g ⟨a, b⟩, fun h g a => h g a.1 a.2⟩
def cutB (D l : List Int) : Bool := decide (l.length = D.length) && boxB l D D.length 0
theorem cutB_iff {D l : List Int} : cutB D l = true ↔ CutL D l := by
  simp only [cutB, Bool.and_eq_true, decide_eq_true_eq, boxB_iff]
  constructor
  · rintro ⟨a, b⟩
    have z : ∀ h, 0 ≤ nth l h ∧ nth l h ≤ nth D h := fun h => by
      rcases Nat.lt_or_ge h D.length with h1 | h1
      · exact b h (by omega) (by omega)
      · rw [nth_out h1, nth_out (by omega)]; omega
    exact ⟨a, fun h => (z h).1, fun h => (z h).2⟩
  · rintro ⟨a, b, c⟩
    exact ⟨a, fun h _ _ => ⟨b h, c h⟩⟩

/-! ### The program's -/
theorem cutOf_loop {V : List AV} {n : Nat} {D c : List Int} (hV : V.length = 4) (hD4 : D.length = 4) (hc : c.length = 4) : ∀ (k i nx : Nat), i + k = 4 →
    watch_story_cutOf.L0 (.fptr (.int .i64 n :: (ints D ++ V))) (.ptr 0 0 4) (.ptr 1 0 4) (.agg (ints c)) (.int .i64 i) ⟨upd (upd Mem.empty.h 0 (some (.cells (ints [0, 0, 0, 0])))) 1 (some (.cells (ints c))), nx⟩ [.code watch_story_cutOf.r11, .code .ret] =
      some (.tup [.agg (ints c), .bool (boxB c D k i)], Mem.empty) := by
  intro k
  induction k with
  | zero =>
    intro i nx h1
    have e : i = 4 := by omega
    subst e
    rw [watch_story_cutOf.L0_eq]
    have ht : c.take 4 = c := List.take_of_length_le (by omega)
    simp [boxB, hc, ht]
  | succ k ih =>
    intro i nx h1
    have h3 : i < 4 := by omega
    have h3' : (i : Int) < 4 := by omega
    have h4 : i < c.length := by omega
    have h5 : i < D.length := by omega
    have hDV : (ints D ++ V)[i]? = some (.int .i64 (nth D i)) := by rw [List.getElem?_append_left (by simpa using h5), ints_nth h5]
    have hw : IntKind.wrap .i64 ((i : Int) + 1) = (i : Int) + 1 := wrap_id (by omega) (by omega)
    have hi := fun nx => ih (i + 1) nx (by omega)
    simp at hi
    have ht : c.take 4 = c := List.take_of_length_le (by omega)
    rw [watch_story_cutOf.L0_eq, boxB_succ]
    by_cases q1 : 0 ≤ nth c i
    · have q1' : ¬ nth c i < 0 := by omega
      by_cases q2 : nth c i ≤ nth D i
      · have q2' : ¬ nth D i < nth c i := by omega
        simp [h3, h3', h4, h5, q1, q1', q2, q2', hw, hi, hc, hD4, hV, hDV]
      · have q2' : nth D i < nth c i := by omega
        simp [h3, h3', h4, h5, q1, q1', q2, q2', hc, hD4, hV, ht, hDV]
    · have q1' : nth c i < 0 := by omega
      simp [h3, h3', h4, h5, q1, q1', hc, hD4, hV, ht]

theorem boxB_pad {D l : List Int} (h : l.length = D.length) (h4 : D.length ≤ 4) : boxB (pad l) (pad D) 4 0 = boxB l D D.length 0 := by
  cases hq : boxB l D D.length 0 with
  | true =>
    have h1 := (cutB_iff (D := D) (l := l)).1 (by simp [cutB, h, hq])
    rw [boxB_iff]
    intro g _ _
    rw [nth_pad, nth_pad]
    exact ⟨h1.lo g, h1.hi g⟩
  | false =>
    cases hr : boxB (pad l) (pad D) 4 0 with
    | false => rfl
    | true =>
      rw [boxB_iff] at hr
      rw [← Bool.not_eq_true, boxB_iff] at hq
      refine absurd (fun g a b => ?_) hq
      have := hr g (by omega) (by omega)
      rw [nth_pad, nth_pad] at this
      exact this

theorem cutOf_spec {sv vl : AV} {D l : List Int} {K : List (List (List Int))} (s : IsStory sv D.length (pad D) K) (hv : IsInts vl l) (hl : l.length < 1000000) :
    ∃ c, (cutB D l = true → c = pad l) ∧ c.length = 4 ∧ ∀ m, denC prog ann 71 [sv, vl] m = some (.tup [.agg (ints c), .bool (cutB D l)], m) := by
  obtain ⟨V, rfl, hV, _⟩ := s.V
  have h4 := s.n4
  have hD4 := s.D4
  by_cases he : l.length = D.length
  · refine ⟨pad l, fun _ => rfl, pad_len (by omega), fun m => ?_⟩
    rw [watch_story_cutOf.call_eq _ _ _ (by simp [hv.closed])]
    have hc : (pad l).length = 4 := pad_len (by omega)
    have hb : cutB D l = boxB (pad l) (pad D) 4 0 := by rw [boxB_pad he h4]; simp [cutB, he]
    have := fun nx => cutOf_loop (n := D.length) (V := V) hV hD4 hc 4 0 nx (by omega)
    simp at this
    have hsrc := hv.src
    have hst := isStr_ints hv
    have hlen := hv.len
    have hcl := hv.closed
    clear hv s
    rw [hb]
    clear hb
    generalize pad D = E at this
    generalize D.length = n at he this h4
    subst he
    rcases l with _ | ⟨a, _ | ⟨b, _ | ⟨c, _ | ⟨d, _ | ⟨e, l⟩⟩⟩⟩⟩
    all_goals first
      | (simp at h4; done)
      | (simp [pad] at this ⊢
         simp [hlen, sliceArr, bnds, bnd, copyA, hsrc, hst, Mem.set, splice, this]; done)
  · refine ⟨[0, 0, 0, 0], fun h => absurd (cutB_iff.1 h).len he, rfl, fun m => ?_⟩
    rw [watch_story_cutOf.call_eq _ _ _ (by simp [hv.closed])]
    have hne : ¬ (l.length : Int) = D.length := by omega
    simp [hv.len, hne, cutB, he]
end Go.Proofs.Ytdkmepjedjclkaa

/-
  THE PROGRAM's Back, Forth, Consistent, Rank. Conditions: none.
-/
namespace Go.Proofs.Ytdkmepjedjclkaa
open Go.AM
open Go.Proofs.Try (prog)
set_option linter.all false
set_option maxRecDepth 100000

/-- The last deed of a hand, of the first j, whose clock is not beyond a cut. -/
def bk (K : List (List (List Int))) (c : List Int) (h : Nat) : Nat → Nat
  | 0 => 0
  | j + 1 => if zmax (clk K h j) c = c then j + 1 else bk K c h j
def bkR (K : List (List (List Int))) (c : List Int) : Nat → Nat → List Int → List Int
  | 0, _, out => out
  | k + 1, h, out => bkR K c k (h + 1) (out.set h (bk K c h (nth out h).toNat : Nat))

theorem bk_le (K : List (List (List Int))) (c : List Int) (h : Nat) : ∀ j, bk K c h j ≤ j
  | 0 => Nat.le_refl _
  | j + 1 => by rw [bk]; split; exact Nat.le_refl _; have := bk_le K c h j; omega

def backL (K : List (List (List Int))) (n : Nat) (c : List Int) : List Int := bkR K c n 0 c
structure ConsRes (D : List Int) (N : List Note) (l : List Int) (b : Bool) (e : Int) : Prop where
  bad : ¬ ValidS D N → b = false ∧ e = 1
  form : ValidS D N → cutB D l = false → b = false ∧ e = 2
  ok : ValidS D N → cutB D l = true → b = conR N l ∧ e = 0

/-- Where a cut stands among the consistent ones. -/
def rankOf (D : List Int) (N : List Note) (l : List Int) : Int := match (cutsL D N).findIdx? (fun x => l == x) with | some j => (j : Int) | none => -1
structure RankRes (D : List Int) (N : List Note) (l : List Int) (r : Int) (e : Int) : Prop where
  bad : ¬ ValidS D N → r = 0 ∧ e = 1
  form : ValidS D N → cutB D l = false → r = 0 ∧ e = 2
  none : ValidS D N → cutB D l = true → rankOf D N l < 0 → r = 0 ∧ e = 5
  ok : ValidS D N → cutB D l = true → 0 ≤ rankOf D N l → r = rankOf D N l ∧ e = 0

theorem allV {sv : AV} {D : List Int} {K : List (List (List Int))} (s : IsStory sv D.length (pad D) K) : ∃ av, (∀ m, denC prog ann 62 [sv] m = some (av, m)) ∧ IsSl ints av (allL (pad D) K D.length) := by
  obtain ⟨av, ea, ia⟩ := all_spec s Mem.empty
  exact ⟨av, pure_any (fun m => watch_story_all.call_eq _ m (by simp [s.closed])) ea, ia⟩
/-! ### Back and Forth -/
/-- What Back and Forth hand back, by the program's own clocks. -/
inductive MoveRes (move : List (List (List Int)) → Nat → List Int → List Int) (D : List Int) (N : List Note) (l : List Int) : AV → Int → Prop where
  | bad (h : ¬ ValidS D N) : MoveRes move D N l .nils 1
  | form (v : ValidS D N) (h : cutB D l = false) : MoveRes move D N l .nils 2
  | ok {K : List (List (List Int))} {r : AV} (v : ValidS D N) (h : cutB D l = true) (k : Clocks D N K) (hr : IsInts r ((move K D.length (pad l)).take D.length)) : MoveRes move D N l r 0

end Go.Proofs.Ytdkmepjedjclkaa

/-
  THE REFERENCE's Meet, Join, Below, First, Last, Back, Forth. Conditions: none.
-/
namespace Go.Proofs.Ytdkmepjedjclkaa
open Go.AM
open Go.Proofs.Try (prog)
set_option linter.all false
set_option maxRecDepth 100000

theorem minR_loop {vx vy : AV} {x y : List Int} (hx : IsInts vx x) (hy : IsInts vy y) (he : x.length = y.length) (hl : x.length < 1000000) : ∀ (k i : Nat) (acc : List Int) (m : Mem), i + k = x.length → acc.length = i → m.h 0 = some (.cells (ints acc)) →
    r09_Meet.L0 vx vy (.sl 0 1 0 i i) (.int .i64 i) m [.code r09_Meet.r6, .code .ret] = some (.fsl false (acc ++ zmin (x.drop i) (y.drop i)).length (ints (acc ++ zmin (x.drop i) (y.drop i))), Mem.empty) := by
  intro k
  induction k with
  | zero =>
    intro i acc m h1 h2 h0
    have e : i = x.length := by omega
    rw [r09_Meet.L0_eq]
    have hd : x.drop i = [] := List.drop_of_length_le (by omega)
    have hni : ¬ (i : Int) < x.length := by omega
    have hz : zmin (x.drop i) (y.drop i) = [] := by rw [hd]; simp [zmin]
    have h2' : acc.length = x.length := by omega
    have ht : (ints acc).take x.length = ints acc := List.take_of_length_le (by simp; omega)
    simp at ht
    rw [hz]
    simp [hx.len, hni, e, h0, h2', ht]
  | succ k ih =>
    intro i acc m h1 h2 h0
    have h3 : i < x.length := by omega
    have h4 : i < y.length := by omega
    have hw : IntKind.wrap .i64 ((i : Int) + 1) = (i : Int) + 1 := wrap_id (by omega) (by omega)
    have hz : acc ++ zmin (x.drop i) (y.drop i) = (acc ++ [min (nth x i) (nth y i)]) ++ zmin (x.drop (i + 1)) (y.drop (i + 1)) := by
      rw [drop_nth h3, drop_nth h4]
      simp [zmin]
    rw [hz, r09_Meet.L0_eq]
    have hi := fun nx => ih (i + 1) (acc ++ [min (nth x i) (nth y i)]) ⟨upd m.h 0 (some (.cells (ints (acc ++ [min (nth x i) (nth y i)])))), nx⟩ (by omega) (by simp [h2]) (by simp)
    simp [h2] at hi
    have hr : ints acc ++ [AV.int .i64 (min (nth x i) (nth y i))] = ints (acc ++ [min (nth x i) (nth y i)]) := by simp [ints]
    have hroom : i ≤ 4611686018427387903 := by omega
    have hroom2 : (i + 1) * 8 ≤ 70368744177664 := by omega
    simp [hx.len, h3, hx.idx h3, hy.idx h4, ints_head h3, ints_head h4, h0, h2, hw, hroom, hroom2, hr, hi]

theorem minR_spec {vx vy : AV} {x y : List Int} (hx : IsInts vx x) (hy : IsInts vy y) (he : x.length = y.length) (hl : x.length < 1000000) (m : Mem) :
    denC prog ann 28 [vx, vy] m = some (.fsl false (zmin x y).length (ints (zmin x y)), m) := by
  rw [r09_Meet.call_eq _ _ _ (by simp [hx.closed, hy.closed])]
  have := minR_loop hx hy he hl x.length 0 [] ⟨upd Mem.empty.h 0 (some (.cells [])), 1⟩ (by omega) rfl (by simp)
  simp at this
  simp [this]

def belowB (x y : List Int) : Bool := decide (zmin x y = x)
theorem belowR_spec {vx vy : AV} {x y : List Int} (hx : IsInts vx x) (hy : IsInts vy y) (he : x.length = y.length) (hl : x.length < 1000000) (m : Mem) :
    denC prog ann 31 [vx, vy] m = some (.bool (belowB x y), m) := by
  rw [r09_Below.call_eq _ _ _ (by simp [hx.closed, hy.closed])]
  have hz : (zmin x y).length = x.length := by simp [zmin, he]
  have := same_spec (IsInts.fsl false (zmin x y)) hx (by omega) (by omega)
  simp [hx.closed, hy.closed, minR_spec hx hy he hl, this, belowB]
end Go.Proofs.Ytdkmepjedjclkaa

/-
  THE REFERENCE's First, Last, Back, Forth. Conditions: none.
-/
namespace Go.Proofs.Ytdkmepjedjclkaa
open Go.AM
open Go.Proofs.Try (prog)
set_option linter.all false
set_option maxRecDepth 100000
theorem tuplesL_row : ∀ {E : List Int}, ∀ x ∈ tuplesL E, x.length = E.length
  | [], x, hx => by simp [tuplesL] at hx; subst hx; rfl
  | d :: E, x, hx => by
    simp only [tuplesL, List.mem_flatMap, List.mem_map] at hx
    obtain ⟨j, _, y, hy, rfl⟩ := hx
    simp [tuplesL_row y hy]
theorem cutsL_row {D : List Int} {N : List Note} {x : List Int} (hx : x ∈ cutsL D N) : x.length = D.length := tuplesL_row x (List.mem_filter.1 hx).1

def firstL : List (List Int) → List Int
  | [] => []
  | x :: l => l.foldl zmin x
def lastL : List (List Int) → List Int
  | [] => []
  | x :: l => l.foldl zmax x
end Go.Proofs.Ytdkmepjedjclkaa
