/-
  CUTS AS ARGUMENTS: what is a cut, for the reference and for the program. Conditions: none.
-/
import Derived.Test.YtdkmepjedjclkaaKSAtA
import Derived.Test.YtdkmepjedjclkaaKCutB
set_option linter.all false
namespace Go.Proofs.Ytdkmepjedjclkaa
open Go.AM
open Go.Proofs.Try (prog)
set_option linter.all false
set_option maxRecDepth 100000

def boxB (l D : List Int) (k i : Nat) : Bool := (List.range' i k).all fun h => decide (0 ≤ nth l h) && decide (nth l h ≤ nth D h)
/-- A list that is a cut of the deeds. -/
structure CutL (D l : List Int) : Prop where
  len : l.length = D.length
  lo : ∀ h, 0 ≤ nth l h
  hi : ∀ h, nth l h ≤ nth D h
def cutB (D l : List Int) : Bool := decide (l.length = D.length) && boxB l D D.length 0
end Go.Proofs.Ytdkmepjedjclkaa

/-
  THE PROGRAM's Back, Forth, Consistent, Rank. Conditions: none.
-/
namespace Go.Proofs.Ytdkmepjedjclkaa
open Go.AM
open Go.Proofs.Try (prog)
set_option linter.all false
set_option maxRecDepth 100000

/-- The last deed of a hand, of the first j, whose clock is not beyond a cut. -/
def bk (K : List (List (List Int))) (c : List Int) (h : Nat) : Nat → Nat
  | 0 => 0
  | j + 1 => if zmax (clk K h j) c = c then j + 1 else bk K c h j
def bkR (K : List (List (List Int))) (c : List Int) : Nat → Nat → List Int → List Int
  | 0, _, out => out
  | k + 1, h, out => bkR K c k (h + 1) (out.set h (bk K c h (nth out h).toNat : Nat))

theorem bk_le (K : List (List (List Int))) (c : List Int) (h : Nat) : ∀ j, bk K c h j ≤ j
  | 0 => Nat.le_refl _
  | j + 1 => by rw [bk]; split; exact Nat.le_refl _; have := bk_le K c h j; omega

def backL (K : List (List (List Int))) (n : Nat) (c : List Int) : List Int := bkR K c n 0 c
structure ConsRes (D : List Int) (N : List Note) (l : List Int) (b : Bool) (e : Int) : Prop where
  bad : ¬ ValidS D N → b = false ∧ e = 1
  form : ValidS D N → cutB D l = false → b = false ∧ e = 2
  ok : ValidS D N → cutB D l = true → b = conR N l ∧ e = 0

/-- Where a cut stands among the consistent ones. -/
def rankOf (D : List Int) (N : List Note) (l : List Int) : Int := match (cutsL D N).findIdx? (fun x => l == x) with | some j => (j : Int) | none => -1
structure RankRes (D : List Int) (N : List Note) (l : List Int) (r : Int) (e : Int) : Prop where
  bad : ¬ ValidS D N → r = 0 ∧ e = 1
  form : ValidS D N → cutB D l = false → r = 0 ∧ e = 2
  none : ValidS D N → cutB D l = true → rankOf D N l < 0 → r = 0 ∧ e = 5
  ok : ValidS D N → cutB D l = true → 0 ≤ rankOf D N l → r = rankOf D N l ∧ e = 0

theorem allV {sv : AV} {D : List Int} {K : List (List (List Int))} (s : IsStory sv D.length (pad D) K) : ∃ av, (∀ m, denC prog ann 62 [sv] m = some (av, m)) ∧ IsSl ints av (allL (pad D) K D.length) := by
  obtain ⟨av, ea, ia⟩ := all_spec s Mem.empty
  exact ⟨av, pure_any (fun m => watch_story_all.call_eq _ m (by simp [s.closed])) ea, ia⟩
/-! ### Back and Forth -/
/-- What Back and Forth hand back, by the program's own clocks. -/
inductive MoveRes (move : List (List (List Int)) → Nat → List Int → List Int) (D : List Int) (N : List Note) (l : List Int) : AV → Int → Prop where
  | bad (h : ¬ ValidS D N) : MoveRes move D N l .nils 1
  | form (v : ValidS D N) (h : cutB D l = false) : MoveRes move D N l .nils 2
  | ok {K : List (List (List Int))} {r : AV} (v : ValidS D N) (h : cutB D l = true) (k : Clocks D N K) (hr : IsInts r ((move K D.length (pad l)).take D.length)) : MoveRes move D N l r 0

end Go.Proofs.Ytdkmepjedjclkaa

/-
  THE REFERENCE's Meet, Join, Below, First, Last, Back, Forth. Conditions: none.
-/
namespace Go.Proofs.Ytdkmepjedjclkaa
open Go.AM
open Go.Proofs.Try (prog)
set_option linter.all false
set_option maxRecDepth 100000

theorem minR_loop {vx vy : AV} {x y : List Int} (hx : IsInts vx x) (hy : IsInts vy y) (he : x.length = y.length) (hl : x.length < 1000000) : ∀ (k i : Nat) (acc : List Int) (m : Mem), i + k = x.length → acc.length = i → m.h 0 = some (.cells (ints acc)) →
    r09_Meet.L0 vx vy (.sl 0 1 0 i i) (.int .i64 i) m [.code r09_Meet.r6, .code .ret] = some (.fsl false (acc ++ zmin (x.drop i) (y.drop i)).length (ints (acc ++ zmin (x.drop i) (y.drop i))), Mem.empty) := by
  intro k
  induction k with
  | zero =>
    intro i acc m h1 h2 h0
    have e : i = x.length := by omega
    rw [r09_Meet.L0_eq]
    have hd : x.drop i = [] := List.drop_of_length_le (by omega)
    have hni : ¬ (i : Int) < x.length := by omega
    have hz : zmin (x.drop i) (y.drop i) = [] := by rw [hd]; simp [zmin]
    have h2' : acc.length = x.length := by omega
    have ht : (ints acc).take x.length = ints acc := List.take_of_length_le (by simp; omega)
    simp at ht
    rw [hz]
    simp [hx.len, hni, e, h0, h2', ht]
  | succ k ih =>
    intro i acc m h1 h2 h0
    have h3 : i < x.length := by omega
    have h4 : i < y.length := by omega
    have hw : IntKind.wrap .i64 ((i : Int) + 1) = (i : Int) + 1 := wrap_id (by omega) (by omega)
    have hz : acc ++ zmin (x.drop i) (y.drop i) = (acc ++ [min (nth x i) (nth y i)]) ++ zmin (x.drop (i + 1)) (y.drop (i + 1)) := by
      rw [drop_nth h3, drop_nth h4]
      simp [zmin]
    rw [hz, r09_Meet.L0_eq]
    have hi := fun nx => ih (i + 1) (acc ++ [min (nth x i) (nth y i)]) ⟨upd m.h 0 (some (.cells (ints (acc ++ [min (nth x i) (nth y i)])))), nx⟩ (by omega) (by simp [h2]) (by simp)
    simp [h2] at hi
    have hr : ints acc ++ [AV.int .i64 (min (nth x i) (nth y i))] = ints (acc ++ [min (nth x i) (nth y i)]) := by simp [ints]
    have hroom : i ≤ 4611686018427387903 := by omega
    have hroom2 : (i + 1) * 8 ≤ 70368744177664 := by omega
    simp [hx.len, h3, hx.idx h3, hy.idx h4, ints_head h3, ints_head h4, h0, h2, hw, hroom, hroom2, hr, hi]

theorem minR_spec {vx vy : AV} {x y : List Int} (hx : IsInts vx x) (hy : IsInts vy y) (he : x.length = y.length) (hl : x.length < 1000000) (m : Mem) :
    denC prog ann 28 [vx, vy] m = some (.fsl false (zmin x y).length (ints (zmin x y)), m) := by
  rw [r09_Meet.call_eq _ _ _ (by simp [hx.closed, hy.closed])]
  have := minR_loop hx hy he hl x.length 0 [] ⟨upd Mem.empty.h 0 (some (.cells [])), 1⟩ (by omega) rfl (by simp)
  simp at this
  simp [this]

theorem maxR_loop {vx vy : AV} {x y : List Int} (hx : IsInts vx x) (hy : IsInts vy y) (he : x.length = y.length) (hl : x.length < 1000000) : ∀ (k i : Nat) (acc : List Int) (m : Mem), i + k = x.length → acc.length = i → m.h 0 = some (.cells (ints acc)) →
    r09_Join.L0 vx vy (.sl 0 1 0 i i) (.int .i64 i) m [.code r09_Join.r6, .code .ret] = some (.fsl false (acc ++ zmax (x.drop i) (y.drop i)).length (ints (acc ++ zmax (x.drop i) (y.drop i))), Mem.empty) := by
  intro k
  induction k with
  | zero =>
    intro i acc m h1 h2 h0
    have e : i = x.length := by omega
    rw [r09_Join.L0_eq]
    have hd : x.drop i = [] := List.drop_of_length_le (by omega)
    have hni : ¬ (i : Int) < x.length := by omega
    have hz : zmax (x.drop i) (y.drop i) = [] := by rw [hd]; simp [zmax]
    have h2' : acc.length = x.length := by omega
    have ht : (ints acc).take x.length = ints acc := List.take_of_length_le (by simp; omega)
    simp at ht
    rw [hz]
    simp [hx.len, hni, e, h0, h2', ht]
  | succ k ih =>
    intro i acc m h1 h2 h0
    have h3 : i < x.length := by omega
    have h4 : i < y.length := by omega
    have hw : IntKind.wrap .i64 ((i : Int) + 1) = (i : Int) + 1 := wrap_id (by omega) (by omega)
    have hz : acc ++ zmax (x.drop i) (y.drop i) = (acc ++ [max (nth x i) (nth y i)]) ++ zmax (x.drop (i + 1)) (y.drop (i + 1)) := by
      rw [drop_nth h3, drop_nth h4]
      simp [zmax]
    rw [hz, r09_Join.L0_eq]
    have hi := fun nx => ih (i + 1) (acc ++ [max (nth x i) (nth y i)]) ⟨upd m.h 0 (some (.cells (ints (acc ++ [max (nth x i) (nth y i)])))), nx⟩ (by omega) (by simp [h2]) (by simp)
    simp [h2] at hi
    have hr : ints acc ++ [AV.int .i64 (max (nth x i) (nth y i))] = ints (acc ++ [max (nth x i) (nth y i)]) := by simp [ints]
    have hroom : i ≤ 4611686018427387903 := by omega
    have hroom2 : (i + 1) * 8 ≤ 70368744177664 := by omega
    simp [hx.len, h3, hx.idx h3, hy.idx h4, ints_head h3, ints_head h4, h0, h2, hw, hroom, hroom2, hr, hi]

theorem maxR_spec {vx vy : AV} {x y : List Int} (hx : IsInts vx x) (hy : IsInts vy y) (he : x.length = y.length) (hl : x.length < 1000000) (m : Mem) :
    denC prog ann 29 [vx, vy] m = some (.fsl false (zmax x y).length (ints (zmax x y)), m) := by
  rw [r09_Join.call_eq _ _ _ (by simp [hx.closed, hy.closed])]
  have := maxR_loop hx hy he hl x.length 0 [] ⟨upd Mem.empty.h 0 (some (.cells [])), 1⟩ (by omega) rfl (by simp)
  simp at this
  simp [this]

def belowB (x y : List Int) : Bool := decide (zmin x y = x)
end Go.Proofs.Ytdkmepjedjclkaa

/-
  THE REFERENCE's First, Last, Back, Forth. Conditions: none.
-/
namespace Go.Proofs.Ytdkmepjedjclkaa
open Go.AM
open Go.Proofs.Try (prog)
set_option linter.all false
set_option maxRecDepth 100000
theorem tuplesL_row : ∀ {E : List Int}, ∀ x ∈ tuplesL E, x.length = E.length
  | [], x, hx => by simp [tuplesL] at hx; subst hx; rfl
  | d :: E, x, hx => by
    simp only [tuplesL, List.mem_flatMap, List.mem_map] at hx
    obtain ⟨j, _, y, hy, rfl⟩ := hx
    simp [tuplesL_row y hy]
theorem cutsL_row {D : List Int} {N : List Note} {x : List Int} (hx : x ∈ cutsL D N) : x.length = D.length := tuplesL_row x (List.mem_filter.1 hx).1

theorem firstR_loop {v : AV} {L : List (List Int)} {n : Nat} (hv : IsSl rowC v L) (hr : ∀ x ∈ L, x.length = n) (hn : n < 1000000) (hl : L.length < 1000000) : ∀ (k i : Nat) (vo : AV) (out : List Int) (m : Mem), i + k = L.length → IsInts vo out → out.length = n →
    ∃ v', IsInts v' ((L.drop i).foldl zmin out) ∧ r09_First.L0 v vo (.int .i64 i) m [.code r09_First.r8, .code .ret] = some (v', Mem.empty) := by
  intro k
  induction k with
  | zero =>
    intro i vo out m h1 h2 h3
    have e : i = L.length := by omega
    refine ⟨vo, by rw [List.drop_of_length_le (by omega)]; exact h2, ?_⟩
    rw [r09_First.L0_eq]
    simp [hv.len, e, h2.deep]
  | succ k ih =>
    intro i vo out m h1 h2 h3
    have h4 : i < L.length := by omega
    have hw : IntKind.wrap .i64 ((i : Int) + 1) = (i : Int) + 1 := wrap_id (by omega) (by omega)
    have hrow : (L[i]).length = n := hr _ (List.getElem_mem h4)
    have hld : loadF false 1 (.fptr (flatC rowC (L.drop i))) = some (.fsl false (L[i]).length (ints L[i])) := by rw [flatC_at (List.getElem?_eq_getElem h4)]; simp [rowC]
    have hop := minR_spec h2 (IsInts.fsl false L[i]) (by omega) (by omega)
    have hz : (zmin out L[i]).length = n := by simp [zmin, h3, hrow]
    obtain ⟨v', i1, i2⟩ := ih (i + 1) (.fsl false (zmin out L[i]).length (ints (zmin out L[i]))) (zmin out L[i]) m (by omega) (IsInts.fsl false _) hz
    refine ⟨v', by rw [List.drop_eq_getElem_cons h4, List.foldl_cons]; exact i1, ?_⟩
    simp only [Int.natCast_add, Int.cast_ofNat_Int] at i2
    rw [r09_First.L0_eq, ← i2]
    simp [hv.len, h4, hv.idx (rowC_len L) h4, hld, hop, h2.closed, hw]

def firstL : List (List Int) → List Int
  | [] => []
  | x :: l => l.foldl zmin x
theorem firstR_spec {v : AV} {L : List (List Int)} {n : Nat} (hv : IsSl rowC v L) (hr : ∀ x ∈ L, x.length = n) (hn : n < 1000000) (hl : L.length < 1000000) :
    ∃ v', IsInts v' (firstL L) ∧ ∀ m, denC prog ann 59 [v] m = some (v', m) := by
  have hcl : closedL [v] = true := by simp [hv.closed]
  cases L with
  | nil =>
    refine ⟨.nils, .nils, fun m => ?_⟩
    rw [r09_First.call_eq _ _ hcl]
    have := hv.len
    simp at this
    simp [this]
  | cons x l =>
    have hx : x.length = n := hr x (by simp)
    have h0 := hv.idx (rowC_len _) (i := 0) (by simp) .i64
    simp at h0
    have hld : loadF false 1 (.fptr (flatC rowC (x :: l))) = some (.fsl false x.length (ints x)) := by rw [flatC_cons]; simp [rowC]
    obtain ⟨v', i1, i2⟩ := firstR_loop hv hr hn hl l.length 1 (.fsl false x.length (ints x)) x Mem.empty (by simp; omega) (IsInts.fsl false x) hx
    refine ⟨v', by simpa [firstL] using i1, fun m => ?_⟩
    rw [r09_First.call_eq _ _ hcl]
    have hne : ¬ ((l.length : Int) + 1 = 0) := by omega
    have hlen := hv.len
    simp at hlen
    simp at i2
    simp [hlen, hne, h0, hld, i2]

theorem lastR_loop {v : AV} {L : List (List Int)} {n : Nat} (hv : IsSl rowC v L) (hr : ∀ x ∈ L, x.length = n) (hn : n < 1000000) (hl : L.length < 1000000) : ∀ (k i : Nat) (vo : AV) (out : List Int) (m : Mem), i + k = L.length → IsInts vo out → out.length = n →
    ∃ v', IsInts v' ((L.drop i).foldl zmax out) ∧ r09_Last.L0 v vo (.int .i64 i) m [.code r09_Last.r8, .code .ret] = some (v', Mem.empty) := by
  intro k
  induction k with
  | zero =>
    intro i vo out m h1 h2 h3
    have e : i = L.length := by omega
    refine ⟨vo, by rw [List.drop_of_length_le (by omega)]; exact h2, ?_⟩
    rw [r09_Last.L0_eq]
    simp [hv.len, e, h2.deep]
  | succ k ih =>
    intro i vo out m h1 h2 h3
    have h4 : i < L.length := by omega
    have hw : IntKind.wrap .i64 ((i : Int) + 1) = (i : Int) + 1 := wrap_id (by omega) (by omega)
    have hrow : (L[i]).length = n := hr _ (List.getElem_mem h4)
    have hld : loadF false 1 (.fptr (flatC rowC (L.drop i))) = some (.fsl false (L[i]).length (ints L[i])) := by rw [flatC_at (List.getElem?_eq_getElem h4)]; simp [rowC]
    have hop := maxR_spec h2 (IsInts.fsl false L[i]) (by omega) (by omega)
    have hz : (zmax out L[i]).length = n := by simp [zmax, h3, hrow]
    obtain ⟨v', i1, i2⟩ := ih (i + 1) (.fsl false (zmax out L[i]).length (ints (zmax out L[i]))) (zmax out L[i]) m (by omega) (IsInts.fsl false _) hz
    refine ⟨v', by rw [List.drop_eq_getElem_cons h4, List.foldl_cons]; exact i1, ?_⟩
    simp only [Int.natCast_add, Int.cast_ofNat_Int] at i2
    rw [r09_Last.L0_eq, ← i2]
    simp [hv.len, h4, hv.idx (rowC_len L) h4, hld, hop, h2.closed, hw]

def lastL : List (List Int) → List Int
  | [] => []
  | x :: l => l.foldl zmax x
theorem lastR_spec {v : AV} {L : List (List Int)} {n : Nat} (hv : IsSl rowC v L) (hr : ∀ x ∈ L, x.length = n) (hn : n < 1000000) (hl : L.length < 1000000) :
    ∃ v', IsInts v' (lastL L) ∧ ∀ m, denC prog ann 60 [v] m = some (v', m) := by
  have hcl : closedL [v] = true := by simp [hv.closed]
  cases L with
  | nil =>
    refine ⟨.nils, .nils, fun m => ?_⟩
    rw [r09_Last.call_eq _ _ hcl]
    have := hv.len
    simp at this
    simp [this]
  | cons x l =>
    have hx : x.length = n := hr x (by simp)
    have h0 := hv.idx (rowC_len _) (i := 0) (by simp) .i64
    simp at h0
    have hld : loadF false 1 (.fptr (flatC rowC (x :: l))) = some (.fsl false x.length (ints x)) := by rw [flatC_cons]; simp [rowC]
    obtain ⟨v', i1, i2⟩ := lastR_loop hv hr hn hl l.length 1 (.fsl false x.length (ints x)) x Mem.empty (by simp; omega) (IsInts.fsl false x) hx
    refine ⟨v', by simpa [lastL] using i1, fun m => ?_⟩
    rw [r09_Last.call_eq _ _ hcl]
    have hne : ¬ ((l.length : Int) + 1 = 0) := by omega
    have hlen := hv.len
    simp at hlen
    simp at i2
    simp [hlen, hne, h0, hld, i2]

end Go.Proofs.Ytdkmepjedjclkaa
