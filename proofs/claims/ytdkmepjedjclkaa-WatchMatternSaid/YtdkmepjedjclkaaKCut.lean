/-
  CUTS AS ARGUMENTS: what is a cut, for the reference and for the program. Conditions: none.
-/
import Derived.Test.YtdkmepjedjclkaaKSAtA
import Derived.Test.YtdkmepjedjclkaaKCutB
set_option linter.all false
namespace Go.Proofs.Ytdkmepjedjclkaa
open Go.AM
open Go.Proofs.Try (prog)
set_option linter.all false
set_option maxRecDepth 100000

def boxB (l D : List Int) (k i : Nat) : Bool := (List.range' i k).all fun h => decide (0 ≤ nth l h) && decide (nth l h ≤ nth D h)
theorem boxB_succ (l D : List Int) (k i : Nat) : boxB l D (k + 1) i = ((decide (0 ≤ nth l i) && decide (nth l i ≤ nth D i)) && boxB l D k (i + 1)) := by
  simp only [boxB, List.range'_succ, List.all_cons]
/-- A list that is a cut of the deeds. -/
structure CutL (D l : List Int) : Prop where
  len : l.length = D.length
  lo : ∀ h, 0 ≤ nth l h
  hi : ∀ h, nth l h ≤ nth D h
theorem boxB_iff {l D : List Int} : ∀ (k i : Nat), boxB l D k i = true ↔ ∀ h, i ≤ h → h < i + k → 0 ≤ nth l h ∧ nth l h ≤ nth D h := by
  intro k i
  simp only [boxB, List.all_eq_true, List.mem_range'_1, Bool.and_eq_true, decide_eq_true_eq]
  exact ⟨fun h g a b => h g ⟨a, b⟩, fun h g a => h g a.1 a.2⟩
def cutB (D l : List Int) : Bool := decide (l.length = D.length) && boxB l D D.length 0
theorem cutB_iff {D l : List Int} : cutB D l = true ↔ CutL D l := by
  simp only [cutB, Bool.and_eq_true, decide_eq_true_eq, boxB_iff]
  constructor
  · rintro ⟨a, b⟩
    have z : ∀ h, 0 ≤ nth l h ∧ nth l h ≤ nth D h := fun h => by
      rcases Nat.lt_or_ge h D.length with h1 | h1
      · exact b h (by omega) (by omega)
      · rw [nth_out h1, nth_out (by omega)]; omega
    exact ⟨a, fun h => (z h).1, fun h => (z h).2⟩
  · rintro ⟨a, b, c⟩
    exact ⟨a, fun h _ _ => ⟨b h, c h⟩⟩

theorem cutR_loop {vD vN vl : AV} {D l : List Int} (hD : IsInts vD D) (hv : IsInts vl l) (hl : l.length < 1000000) (he : l.length = D.length) : ∀ (k i : Nat) (m : Mem), i + k = D.length →
    r09_Cut.L0 vl (.fptr [vD, vN]) (.int .i64 i) m [.code r09_Cut.r6, .code .ret] = some (.bool (boxB l D k i), Mem.empty) := by
  intro k
  induction k with
  | zero =>
    intro i m h1
    have e : i = D.length := by omega
    subst e
    rw [r09_Cut.L0_eq]
    simp [hv.len, hD.len, he, boxB]
  | succ k ih =>
    intro i m h1
    have h3 : i < D.length := by omega
    have h4 : i < l.length := by omega
    have hw : IntKind.wrap .i64 ((i : Int) + 1) = (i : Int) + 1 := wrap_id (by omega) (by omega)
    have hi := fun m => ih (i + 1) m (by omega)
    simp only [Int.natCast_add, Int.cast_ofNat_Int] at hi
    rw [r09_Cut.L0_eq, boxB_succ]
    by_cases q1 : 0 ≤ nth l i
    · by_cases q2 : nth l i ≤ nth D i
      · simp [hv.len, hD.len, he, h3, hv.idx h4, hD.idx h3, ints_head h4, ints_head h3, in_spec, q1, q2, hw, hi]
      · simp [hv.len, hD.len, he, h3, hv.idx h4, hD.idx h3, ints_head h4, ints_head h3, in_spec, q1, q2]
    · simp [hv.len, hD.len, he, h3, hv.idx h4, hD.idx h3, ints_head h4, ints_head h3, in_spec, q1]

theorem cutR_spec {v vl : AV} {D l : List Int} {N : List Note} (hs : IsTale v D N) (hv : IsInts vl l) (hl : l.length < 1000000) (m : Mem) : denC prog ann 27 [v, vl] m = some (.bool (cutB D l), m) := by
  obtain ⟨vD, vN, rfl, hD, hN⟩ := hs.ex
  rw [r09_Cut.call_eq _ _ _ (by simp [hD.closed, hN.closed, hv.closed])]
  by_cases he : l.length = D.length
  · have := cutR_loop (vN := vN) hD hv hl he D.length 0 Mem.empty (by omega)
    simp at this
    simp [hD.one, hN.one, hD.closed, hN.closed, hv.closed, this, cutB, he]
  · have he' : ¬ (l.length : Int) = D.length := by omega
    have hz : (decide ((0 : Int) < l.length) && decide ((l.length : Int) = D.length)) = false := by simp [he']
    by_cases q : 0 < l.length
    · simp [hD.one, hN.one, hD.closed, hN.closed, hv.closed, hv.len, hD.len, r09_Cut.L0_eq, cutB, he, he', q]
    · simp [hD.one, hN.one, hD.closed, hN.closed, hv.closed, hv.len, hD.len, r09_Cut.L0_eq, cutB, he, he', q]

theorem pad_self {l : List Int} {n : Nat} (hn : n ≤ 4) (h : l.length = n) : (pad l).take n = l := by
  subst h
  simp [pad]
end Go.Proofs.Ytdkmepjedjclkaa

/-
  THE PROGRAM's Back, Forth, Consistent, Rank. Conditions: none.
-/
namespace Go.Proofs.Ytdkmepjedjclkaa
open Go.AM
open Go.Proofs.Try (prog)
set_option linter.all false
set_option maxRecDepth 100000

/-- The last deed of a hand, of the first j, whose clock is not beyond a cut. -/
def bk (K : List (List (List Int))) (c : List Int) (h : Nat) : Nat → Nat
  | 0 => 0
  | j + 1 => if zmax (clk K h j) c = c then j + 1 else bk K c h j
def bkR (K : List (List (List Int))) (c : List Int) : Nat → Nat → List Int → List Int
  | 0, _, out => out
  | k + 1, h, out => bkR K c k (h + 1) (out.set h (bk K c h (nth out h).toNat : Nat))

theorem bk_le (K : List (List (List Int))) (c : List Int) (h : Nat) : ∀ j, bk K c h j ≤ j
  | 0 => Nat.le_refl _
  | j + 1 => by rw [bk]; split; exact Nat.le_refl _; have := bk_le K c h j; omega

def backL (K : List (List (List Int))) (n : Nat) (c : List Int) : List Int := bkR K c n 0 c
/-! ### The exported functions -/
theorem pad_cut {D l : List Int} (h4 : D.length ≤ 4) (h : CutL D l) : IsCut D.length (pad D) (pad l) := by
  refine ⟨pad_len (by have := h.len; omega), fun g => by rw [nth_pad]; exact h.lo g, fun g => by rw [nth_pad, nth_pad]; exact h.hi g⟩

structure ConsRes (D : List Int) (N : List Note) (l : List Int) (b : Bool) (e : Int) : Prop where
  bad : ¬ ValidS D N → b = false ∧ e = 1
  form : ValidS D N → cutB D l = false → b = false ∧ e = 2
  ok : ValidS D N → cutB D l = true → b = conR N l ∧ e = 0

/-- Where a cut stands among the consistent ones. -/
def rankOf (D : List Int) (N : List Note) (l : List Int) : Int := match (cutsL D N).findIdx? (fun x => l == x) with | some j => (j : Int) | none => -1
structure RankRes (D : List Int) (N : List Note) (l : List Int) (r : Int) (e : Int) : Prop where
  bad : ¬ ValidS D N → r = 0 ∧ e = 1
  form : ValidS D N → cutB D l = false → r = 0 ∧ e = 2
  none : ValidS D N → cutB D l = true → rankOf D N l < 0 → r = 0 ∧ e = 5
  ok : ValidS D N → cutB D l = true → 0 ≤ rankOf D N l → r = rankOf D N l ∧ e = 0

/-! ### Back and Forth -/
/-- What Back and Forth hand back, by the program's own clocks. -/
inductive MoveRes (move : List (List (List Int)) → Nat → List Int → List Int) (D : List Int) (N : List Note) (l : List Int) : AV → Int → Prop where
  | bad (h : ¬ ValidS D N) : MoveRes move D N l .nils 1
  | form (v : ValidS D N) (h : cutB D l = false) : MoveRes move D N l .nils 2
  | ok {K : List (List (List Int))} {r : AV} (v : ValidS D N) (h : cutB D l = true) (k : Clocks D N K) (hr : IsInts r ((move K D.length (pad l)).take D.length)) : MoveRes move D N l r 0

end Go.Proofs.Ytdkmepjedjclkaa

/-
  THE REFERENCE's Meet, Join, Below, First, Last, Back, Forth. Conditions: none.
-/
namespace Go.Proofs.Ytdkmepjedjclkaa
open Go.AM
open Go.Proofs.Try (prog)
set_option linter.all false
set_option maxRecDepth 100000

theorem minR_loop {vx vy : AV} {x y : List Int} (hx : IsInts vx x) (hy : IsInts vy y) (he : x.length = y.length) (hl : x.length < 1000000) : ∀ (k i : Nat) (acc : List Int) (m : Mem), i + k = x.length → acc.length = i → m.h 0 = some (.cells (ints acc)) →
    r09_Meet.L0 vx vy (.sl 0 1 0 i i) (.int .i64 i) m [.code r09_Meet.r6, .code .ret] = some (.fsl false (acc ++ zmin (x.drop i) (y.drop i)).length (ints (acc ++ zmin (x.drop i) (y.drop i))), Mem.empty) := by
  intro k
  induction k with
  | zero =>
    intro i acc m h1 h2 h0
    have e : i = x.length := by omega
    rw [r09_Meet.L0_eq]
    have hd : x.drop i = [] := List.drop_of_length_le (by omega)
    have hni : ¬ (i : Int) < x.length := by omega
    have hz : zmin (x.drop i) (y.drop i) = [] := by rw [hd]; simp [zmin]
    have h2' : acc.length = x.length := by omega
    have ht : (ints acc).take x.length = ints acc := List.take_of_length_le (by simp; omega)
    simp at ht
    rw [hz]
    simp [hx.len, hni, e, h0, h2', ht]
  | succ k ih =>
    intro i acc m h1 h2 h0
    have h3 : i < x.length := by omega
    have h4 : i < y.length := by omega
    have hw : IntKind.wrap .i64 ((i : Int) + 1) = (i : Int) + 1 := wrap_id (by omega) (by omega)
    have hz : acc ++ zmin (x.drop i) (y.drop i) = (acc ++ [min (nth x i) (nth y i)]) ++ zmin (x.drop (i + 1)) (y.drop (i + 1)) := by
      rw [drop_nth h3, drop_nth h4]
      simp [zmin]
    rw [hz, r09_Meet.L0_eq]
    have hi := fun nx => ih (i + 1) (acc ++ [min (nth x i) (nth y i)]) ⟨upd m.h 0 (some (.cells (ints (acc ++ [min (nth x i) (nth y i)])))), nx⟩ (by omega) (by simp [h2]) (by simp)
    simp [h2] at hi
    have hr : ints acc ++ [AV.int .i64 (min (nth x i) (nth y i))] = ints (acc ++ [min (nth x i) (nth y i)]) := by simp [ints]
    have hroom : i ≤ 4611686018427387903 := by omega
    have hroom2 : (i + 1) * 8 ≤ 70368744177664 := by omega
    simp [hx.len, h3, hx.idx h3, hy.idx h4, ints_head h3, ints_head h4, h0, h2, hw, hroom, hroom2, hr, hi]

theorem minR_spec {vx vy : AV} {x y : List Int} (hx : IsInts vx x) (hy : IsInts vy y) (he : x.length = y.length) (hl : x.length < 1000000) (m : Mem) :
    denC prog ann 28 [vx, vy] m = some (.fsl false (zmin x y).length (ints (zmin x y)), m) := by
  rw [r09_Meet.call_eq _ _ _ (by simp [hx.closed, hy.closed])]
  have := minR_loop hx hy he hl x.length 0 [] ⟨upd Mem.empty.h 0 (some (.cells [])), 1⟩ (by omega) rfl (by simp)
  simp at this
  simp [this]

def belowB (x y : List Int) : Bool := decide (zmin x y = x)
theorem belowR_spec {vx vy : AV} {x y : List Int} (hx : IsInts vx x) (hy : IsInts vy y) (he : x.length = y.length) (hl : x.length < 1000000) (m : Mem) :
    denC prog ann 31 [vx, vy] m = some (.bool (belowB x y), m) := by
  rw [r09_Below.call_eq _ _ _ (by simp [hx.closed, hy.closed])]
  have hz : (zmin x y).length = x.length := by simp [zmin, he]
  have := same_spec (IsInts.fsl false (zmin x y)) hx (by omega) (by omega)
  simp [hx.closed, hy.closed, minR_spec hx hy he hl, this, belowB]
end Go.Proofs.Ytdkmepjedjclkaa

/-
  THE REFERENCE's First, Last, Back, Forth. Conditions: none.
-/
namespace Go.Proofs.Ytdkmepjedjclkaa
open Go.AM
open Go.Proofs.Try (prog)
set_option linter.all false
set_option maxRecDepth 100000
def firstL : List (List Int) → List Int
  | [] => []
  | x :: l => l.foldl zmin x
def lastL : List (List Int) → List Int
  | [] => []
  | x :: l => l.foldl zmax x
end Go.Proofs.Ytdkmepjedjclkaa
