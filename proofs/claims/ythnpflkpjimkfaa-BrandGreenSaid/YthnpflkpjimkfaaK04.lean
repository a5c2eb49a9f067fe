/-
  BELOW: what the specification's marks mean. Conditions: none.
-/
import Derived.Test.YthnpflkpjimkfaaK03
import Derived.Test.YthnpflkpjimkfaaKAmH
import Derived.Test.YthnpflkpjimkfaaK00
set_option linter.all false
namespace Go.Proofs.Ythnpflkpjimkfaa
open Go.AM
open Go.Proofs.Try (prog)
set_option linter.all false
set_option maxRecDepth 100000
set_option maxHeartbeats 8000000
section
variable {rows : List (List Int)} {good : List Bool} {k : Nat} {S : SM}
theorem num_l (v : VB rows good k) {w w' x : List UInt8} (hw : okW k w) (hw' : okW k w') (h : mv6 rows w = mv6 rows w') : numM rows S (w ++ x) = numM rows S (w' ++ x) := by
  have := num_congr (S := S) v (u := []) (x := x) (okW_nil k) hw hw' h
  simpa using this
theorem num_r (v : VB rows good k) {u w w' : List UInt8} (hu : okW k u) (hw : okW k w) (hw' : okW k w') (h : mv6 rows w = mv6 rows w') : numM rows S (u ++ w) = numM rows S (u ++ w') := by
  have := num_congr (S := S) v (u := u) (x := []) hu hw hw' h
  simpa using this
theorem wrd_ok (W : MW rows k S) {i : Nat} (hi : i < S.1.length) : okW k (wrd S i) := (W.wok hi).2.1
theorem pr_nums (v : VB rows good k) (W : MW rows k S) {u w : List UInt8} (hu : okW k u) (hw : okW k w) : pr rows S (numM rows S u) (numM rows S w) = numM rows S (u ++ w) := by
  have n6 := v.n6
  have k3 := v.k3
  have o1 := wrd_ok W (W.lt n6 k3 hu)
  have o2 := wrd_ok W (W.lt n6 k3 hw)
  rw [pr, num_l v o1 hu (wrd_num v W hu), num_r v hu o2 hw (wrd_num v W hw)]
theorem pr_numl (v : VB rows good k) (W : MW rows k S) {u : List UInt8} {j : Nat} (hu : okW k u) (hj : j < S.1.length) : pr rows S (numM rows S u) j = numM rows S (u ++ wrd S j) := by
  have n6 := v.n6
  have k3 := v.k3
  have o1 := wrd_ok W (W.lt n6 k3 hu)
  rw [pr, num_l v o1 hu (wrd_num v W hu)]
theorem pr_numr (v : VB rows good k) (W : MW rows k S) {u : List UInt8} {j : Nat} (hu : okW k u) (hj : j < S.1.length) : pr rows S j (numM rows S u) = numM rows S (wrd S j ++ u) := by
  have n6 := v.n6
  have k3 := v.k3
  have o1 := wrd_ok W (W.lt n6 k3 hu)
  rw [pr, num_r v (wrd_ok W hj) o1 hu (wrd_num v W hu)]
theorem pr_assoc (v : VB rows good k) (W : MW rows k S) {a b c : Nat} (ha : a < S.1.length) (hb : b < S.1.length) (hc : c < S.1.length) : pr rows S (pr rows S a b) c = pr rows S a (pr rows S b c) := by
  have oa := wrd_ok W ha
  have ob := wrd_ok W hb
  have oc := wrd_ok W hc
  show pr rows S (numM rows S (wrd S a ++ wrd S b)) c = pr rows S a (numM rows S (wrd S b ++ wrd S c))
  rw [pr_numl v W (okW_app oa ob) hc, pr_numr v W (okW_app ob oc) ha, List.append_assoc]
theorem blw_l (v : VB rows good k) (W : MW rows k S) {y j : Nat} (hy : y < S.1.length) : Blw rows S k true false y j ↔ ∃ z, z < S.1.length ∧ pr rows S z y = j := by
  constructor
  · rintro ⟨u, w, hu, hw, _, e, h⟩
    obtain rfl := e rfl
    refine ⟨numM rows S u, W.lt v.n6 v.k3 hu, ?_⟩
    rw [pr_numl v W hu hy, ← h, List.append_nil]
  · rintro ⟨z, hz, h⟩
    refine ⟨wrd S z, [], wrd_ok W hz, okW_nil k, (by simp), (by simp), ?_⟩
    rw [List.append_nil]; exact h
theorem blw_r (v : VB rows good k) (W : MW rows k S) {y j : Nat} (hy : y < S.1.length) : Blw rows S k false true y j ↔ ∃ z, z < S.1.length ∧ pr rows S y z = j := by
  constructor
  · rintro ⟨u, w, hu, hw, e, _, h⟩
    obtain rfl := e rfl
    refine ⟨numM rows S w, W.lt v.n6 v.k3 hw, ?_⟩
    rw [pr_numr v W hw hy, ← h, List.nil_append]
  · rintro ⟨z, hz, h⟩
    refine ⟨[], wrd S z, okW_nil k, wrd_ok W hz, (by simp), (by simp), ?_⟩
    rw [List.nil_append]; exact h
theorem blw_b (v : VB rows good k) (W : MW rows k S) {y j : Nat} (hy : y < S.1.length) : Blw rows S k true true y j ↔ ∃ z, z < S.1.length ∧ ∃ w, w < S.1.length ∧ pr rows S (pr rows S z y) w = j := by
  constructor
  · rintro ⟨u, w, hu, hw, _, _, h⟩
    refine ⟨numM rows S u, W.lt v.n6 v.k3 hu, numM rows S w, W.lt v.n6 v.k3 hw, ?_⟩
    rw [pr_numl v W hu hy, pr_nums v W (okW_app hu (wrd_ok W hy)) hw, h]
  · rintro ⟨z, hz, w, hw, h⟩
    refine ⟨wrd S z, wrd S w, wrd_ok W hz, wrd_ok W hw, (by simp), (by simp), ?_⟩
    have : pr rows S (numM rows S (wrd S z ++ wrd S y)) w = j := h
    rw [pr_numl v W (okW_app (wrd_ok W hz) (wrd_ok W hy)) hw] at this
    exact this
end
end Go.Proofs.Ythnpflkpjimkfaa

/-
  CLASSES: the specification's, as numbers. Conditions: none.
-/
namespace Go.Proofs.Ythnpflkpjimkfaa
open Go.AM
open Go.Proofs.Try (prog)
set_option linter.all false
set_option maxRecDepth 100000
set_option maxHeartbeats 8000000
def natL (c : List Nat) : List AV := c.map natV
@[simp] theorem natL_len (c : List Nat) : (natL c).length = c.length := by simp [natL]
end Go.Proofs.Ythnpflkpjimkfaa

/-
  CLASSES BY THEIR WORDS: the specification's. Conditions: none.
-/
namespace Go.Proofs.Ythnpflkpjimkfaa
open Go.AM
open Go.Proofs.Try (prog)
set_option linter.all false
set_option maxRecDepth 100000
set_option maxHeartbeats 8000000
@[simp] theorem clV_len (S : SM) (c : List Nat) : (clV S c).length = c.length := by simp [clV]
theorem clsL_mem {E : Nat → Nat → Bool} {n : Nat} : ∀ c ∈ clsL E n, ∀ x ∈ c, x < n := by
  intro c hc x hx
  simp only [clsL, clsR, List.mem_map] at hc
  obtain ⟨i, _, rfl⟩ := hc
  have := (List.mem_filter.1 hx).1
  simpa using this
end Go.Proofs.Ythnpflkpjimkfaa

/-
  POWERS THAT COME AGAIN: plain law. Conditions: none.
-/
namespace Go.Proofs.Ythnpflkpjimkfaa
set_option linter.all false
set_option maxRecDepth 100000
theorem nd_len : ∀ (N : Nat) (l : List Nat), l.Nodup → (∀ x ∈ l, x < N) → l.length ≤ N
  | 0, l, _, h => by
    cases l with
    | nil => simp
    | cons a l => have := h a (by simp); omega
  | N + 1, l, d, h => by
    have h1 := nd_len N (l.erase N) (d.erase N) (fun x hx => by
      have := (List.Nodup.mem_erase_iff d).1 hx
      have := h x this.2
      omega)
    have : l.length ≤ (l.erase N).length + 1 := by
      rw [List.length_erase]; split <;> omega
    omega
structure IsPer (f : Nat → Nat) (N p : Nat) : Prop where
  ps : 1 ≤ p
  eq : f (N + p) = f N
  mn : ∀ q, 1 ≤ q → q < p → f (N + q) ≠ f N
theorem IsPer.uniq {f : Nat → Nat} {N p q : Nat} (h : IsPer f N p) (g : IsPer f N q) : p = q := by
  rcases Nat.lt_trichotomy p q with c | c | c
  · exact absurd h.eq (g.mn p h.ps c)
  · exact c
  · exact absurd g.eq (h.mn q g.ps c)
section
variable {f : Nat → Nat} (H : ∀ a b, f a = f b → f (a + 1) = f (b + 1))
include H
theorem shf {a b : Nat} (h : f a = f b) : ∀ k, f (a + k) = f (b + k)
  | 0 => h
  | k + 1 => H _ _ (shf h k)
theorem per_add {c at' : Nat} (hat : at' < c) (hc : f c = f at') {t : Nat} (ht : at' ≤ t) : f (t + (c - at')) = f t := by
  have := shf H hc (t - at')
  rw [show t + (c - at') = c + (t - at') by omega, this, show at' + (t - at') = t by omega]
end
theorem rep_few {f : Nat → Nat} {N c : Nat} (hb : ∀ t, f t < N) (hd : ∀ a b, a < b → b < c → f a ≠ f b) : c ≤ N := by
  have := nd_len N ((List.range c).map f) (by
    rw [List.Nodup, List.pairwise_map]
    refine List.Pairwise.imp_of_mem ?_ (List.pairwise_lt_range (n := c))
    intro a b ha hb' hab
    exact hd a b hab (by simpa using hb')) (fun x hx => by
    obtain ⟨t, _, rfl⟩ := List.mem_map.1 hx
    exact hb t)
  simpa using this
end Go.Proofs.Ythnpflkpjimkfaa

/-
  BODIES OF FUNCTIONS OF THE PROGRAM AS SMALL OPERATIONS (written by gen.py; checked by the kernel against the program). Conditions: none.
-/
namespace Go.Proofs.Ythnpflkpjimkfaa
open Go.AM
open Go.Proofs.Try (prog)
set_option maxRecDepth 100000
set_option linter.all false
end Go.Proofs.Ythnpflkpjimkfaa

/-
  GROUPS: what the program returns. Conditions: none.
-/
namespace Go.Proofs.Ythnpflkpjimkfaa
open Go.AM
open Go.Proofs.Try (prog)
set_option linter.all false
set_option maxRecDepth 100000
set_option maxHeartbeats 8000000
def pw (rows : List (List Int)) (S : SM) (i : Nat) : Nat → Nat
  | 0 => i
  | t + 1 => pr rows S (pw rows S i t) i
end Go.Proofs.Ythnpflkpjimkfaa

/-
  PERIODS: the specification's; SIMPLE: what the program returns. Conditions: none.
-/
namespace Go.Proofs.Ythnpflkpjimkfaa
open Go.AM
open Go.Proofs.Try (prog)
set_option linter.all false
set_option maxRecDepth 100000
set_option maxHeartbeats 8000000
theorem clF_head {S : SM} {l : List (List Nat)} {i : Nat} (h : i < l.length) : ((l.map (clF S)).drop i).head? = some (.fsl false l[i].length (clV S l[i])) := by
  rw [List.head?_drop]; simp [clF, h]
theorem clV_head {S : SM} {c : List Nat} {i : Nat} (h : i < c.length) : ((clV S c).drop i).head? = some (.str (wrd S (c.getD i 0))) := by
  rw [List.head?_drop]; simp [clV, h, List.getD_eq_getElem?_getD]
end Go.Proofs.Ythnpflkpjimkfaa

/-
  THE WORDS OF A MONOID ARE THE LEAST ONES: plain law. Conditions: none.
-/
namespace Go.Proofs.Ythnpflkpjimkfaa
open Go.AM
open Go.Proofs.Try (prog)
set_option linter.all false
set_option maxRecDepth 100000
set_option maxHeartbeats 8000000
def rk (w : List UInt8) : Nat := w.foldl (fun n c => n * 256 + (c.toNat + 1)) 0
theorem snoc_of {α : Type} : ∀ (l : List α), l ≠ [] → ∃ p x, l = p ++ [x]
  | [], h => absurd rfl h
  | [a], _ => ⟨[], a, rfl⟩
  | a :: b :: l, _ => by
    obtain ⟨p, x, e⟩ := snoc_of (b :: l) (by simp)
    exact ⟨a :: p, x, by rw [e]; rfl⟩
section
variable {rows : List (List Int)} {k : Nat}
def OrI (rows : List (List Int)) (S : SM) (j b : Nat) : Prop := ∃ m, S.1[m]? = some (nxM rows (S.1.getD j []) b) ∧ rk (S.2.getD m []) ≤ rk (S.2.getD j []) * 256 + (98 + b)
theorem OrI.app {S : SM} {j b : Nat} (h : OrI rows S j b) (hl : S.1.length = S.2.length) (hj : j < S.1.length) (p : List (List Nat)) (q : List (List UInt8)) : OrI rows (S.1 ++ p, S.2 ++ q) j b := by
  obtain ⟨m, h1, h2⟩ := h
  have hm := (List.getElem?_eq_some_iff.1 h1).1
  have g1 : ∀ i, i < S.1.length → (S.1 ++ p).getD i [] = S.1.getD i [] := fun i hi => by simp [List.getD_eq_getElem?_getD, List.getElem?_append_left hi]
  have g2 : ∀ i, i < S.1.length → (S.2 ++ q).getD i [] = S.2.getD i [] := fun i hi => by
    have : i < S.2.length := by omega
    simp [List.getD_eq_getElem?_getD, List.getElem?_append_left this]
  refine ⟨m, ?_, ?_⟩
  · simp only []
    rw [g1 j hj, List.getElem?_append_left hm]; exact h1
  · simp only []
    rw [g2 m hm, g2 j hj]; exact h2
structure Srt (S : SM) (b : Nat) : Prop where
  l : S.1.length = S.2.length
  s : S.2.Pairwise fun u w => rk u < rk w
  b : ∀ y ∈ S.2, rk y < b
end
section
variable {rows : List (List Int)} {good : List Bool} {k : Nat} {S : SM}
structure Least (rows : List (List Int)) (k : Nat) (S : SM) : Prop where
  inc : ∀ i j, i < j → j < S.1.length → rk (wrd S i) < rk (wrd S j)
  le : ∀ w, okW k w → rk (wrd S (numM rows S w)) ≤ rk w
end
end Go.Proofs.Ythnpflkpjimkfaa

/-
  POWERS: idempotent ones; how long the first word with a period is: plain law. Conditions: none.
-/
namespace Go.Proofs.Ythnpflkpjimkfaa
open Go.AM
open Go.Proofs.Try (prog)
set_option linter.all false
set_option maxRecDepth 100000
set_option maxHeartbeats 8000000
theorem first_rep (f : Nat → Nat) (N : Nat) (hb : ∀ t, f t < N) : ∃ c a, a < c ∧ c ≤ N ∧ f c = f a ∧ ∀ x y, x < y → y < c → f x ≠ f y := by
  have key : ∀ (j c : Nat), N < j + c → c ≤ N → (∀ x y, x < y → y < c → f x ≠ f y) → ∃ c a, a < c ∧ c ≤ N ∧ f c = f a ∧ ∀ x y, x < y → y < c → f x ≠ f y := by
    intro j
    induction j with
    | zero => intro c h1 h2; omega
    | succ j ih =>
      intro c h1 h2 hd
      by_cases q : ∃ a, a < c ∧ f c = f a
      · obtain ⟨a, ha, e⟩ := q
        exact ⟨c, a, ha, h2, e, hd⟩
      · have hd' : ∀ x y, x < y → y < c + 1 → f x ≠ f y := fun x y xy hy e => by
          by_cases g : y = c
          · subst g; exact q ⟨x, xy, e.symm⟩
          · exact hd x y xy (by omega) e
        exact ih (c + 1) (by omega) (rep_few hb hd') hd'
  exact key (N + 1) 0 (by omega) (by omega) (by omega)
section
variable {rows : List (List Int)} {good : List Bool} {k : Nat} {S : SM}
def gi (rows : List (List Int)) (u : List UInt8) : Nat → Nat → Nat
  | 0, s => s
  | t + 1, s => goL rows u (gi rows u t s)
structure Cyc (rows : List (List Int)) (u : List UInt8) (s j : Nat) : Prop where
  lt : s < rows.length
  ne : goL rows u s ≠ s
  ps : 1 ≤ j
  bk : gi rows u j s = s
end
def arr : Nat → List Nat → List (List Nat)
  | 0, _ => [[]]
  | p + 1, av => av.flatMap fun x => (arr p (av.erase x)).map (x :: ·)
theorem nodup_le {α : Type} [DecidableEq α] : ∀ (l L : List α), l.Nodup → (∀ x ∈ l, x ∈ L) → l.length ≤ L.length
  | [], L, _, _ => by simp
  | x :: l, L, d, m => by
    have h := nodup_le l (L.erase x) (List.nodup_cons.1 d).2 fun y hy => by
      have hne : y ≠ x := fun e => by subst e; exact (List.nodup_cons.1 d).1 hy
      exact (List.mem_erase_of_ne hne).2 (m y (by simp [hy]))
    have hx := m x (by simp)
    rw [List.length_erase_of_mem hx] at h
    have := List.length_pos_of_mem hx
    simp; omega
end Go.Proofs.Ythnpflkpjimkfaa

/-
  GREEN: left and right classes of a finite monoid: plain law. Conditions: none.
-/
namespace Go.Proofs.Ythnpflkpjimkfaa
open Go.AM
open Go.Proofs.Try (prog)
set_option linter.all false
set_option maxRecDepth 100000
set_option maxHeartbeats 8000000
structure FM (m : Nat → Nat → Nat) (N : Nat) : Prop where
  cl : ∀ a b, a < N → b < N → m a b < N
  asc : ∀ a b c, a < N → b < N → c < N → m (m a b) c = m a (m b c)
  ps : 0 < N
  un : ∀ a, a < N → m 0 a = a ∧ m a 0 = a
section
variable {m : Nat → Nat → Nat} {N : Nat}
def bR (m : Nat → Nat → Nat) (N x y : Nat) : Prop := ∃ u, u < N ∧ m x u = y
def bL (m : Nat → Nat → Nat) (N x y : Nat) : Prop := ∃ u, u < N ∧ m u x = y
def bJ (m : Nat → Nat → Nat) (N x y : Nat) : Prop := ∃ u, u < N ∧ ∃ v, v < N ∧ m (m u x) v = y
def eR (m : Nat → Nat → Nat) (N x y : Nat) : Prop := bR m N x y ∧ bR m N y x
def eL (m : Nat → Nat → Nat) (N x y : Nat) : Prop := bL m N x y ∧ bL m N y x
def eJ (m : Nat → Nat → Nat) (N x y : Nat) : Prop := bJ m N x y ∧ bJ m N y x
theorem bR.tr (F : FM m N) {x y z : Nat} (hx : x < N) (h : bR m N x y) (g : bR m N y z) : bR m N x z := by
  obtain ⟨u, hu, rfl⟩ := h
  obtain ⟨v, hv, rfl⟩ := g
  exact ⟨m u v, F.cl _ _ hu hv, (F.asc _ _ _ hx hu hv).symm⟩
theorem bL.tr (F : FM m N) {x y z : Nat} (hx : x < N) (h : bL m N x y) (g : bL m N y z) : bL m N x z := by
  obtain ⟨u, hu, rfl⟩ := h
  obtain ⟨v, hv, rfl⟩ := g
  exact ⟨m v u, F.cl _ _ hv hu, F.asc _ _ _ hv hu hx⟩
theorem bJ.tr (F : FM m N) {x y z : Nat} (hx : x < N) (h : bJ m N x y) (g : bJ m N y z) : bJ m N x z := by
  obtain ⟨u, hu, v, hv, rfl⟩ := h
  obtain ⟨u', hu', v', hv', rfl⟩ := g
  have h1 := F.cl _ _ hu hx
  refine ⟨m u' u, F.cl _ _ hu' hu, m v v', F.cl _ _ hv hv', ?_⟩
  rw [← F.asc u' (m u x) v hu' h1 hv, F.asc (m u' (m u x)) v v' (F.cl _ _ hu' h1) hv hv', F.asc u' u x hu' hu hx]
theorem bR.j (F : FM m N) {x y : Nat} (hx : x < N) (h : bR m N x y) : bJ m N x y := by
  obtain ⟨u, hu, e⟩ := h
  exact ⟨0, F.ps, u, hu, by rw [(F.un x hx).1]; exact e⟩
theorem bL.j (F : FM m N) {x y : Nat} (hx : x < N) (h : bL m N x y) : bJ m N x y := by
  obtain ⟨u, hu, e⟩ := h
  exact ⟨u, hu, 0, F.ps, by rw [e]; exact (F.un y (e ▸ F.cl _ _ hu hx)).2⟩
def mp (m : Nat → Nat → Nat) (x : Nat) : Nat → Nat
  | 0 => x
  | t + 1 => m (mp m x t) x
theorem mp_lt (F : FM m N) {x : Nat} (hx : x < N) : ∀ t, mp m x t < N
  | 0 => hx
  | t + 1 => F.cl _ _ (mp_lt F hx t) hx
theorem mp_add (F : FM m N) {x : Nat} (hx : x < N) (s : Nat) : ∀ t, m (mp m x s) (mp m x t) = mp m x (s + t + 1)
  | 0 => rfl
  | t + 1 => by
    rw [show mp m x (t + 1) = m (mp m x t) x from rfl, ← F.asc _ _ _ (mp_lt F hx s) (mp_lt F hx t) hx, mp_add F hx s t]
    rfl
theorem mp_idem (F : FM m N) {x : Nat} (hx : x < N) : ∃ t, m (mp m x t) (mp m x t) = mp m x t := by
  obtain ⟨c, a, ha, hc, e, hd⟩ := first_rep (mp m x) N (mp_lt F hx)
  have H : ∀ a b, mp m x a = mp m x b → mp m x (a + 1) = mp m x (b + 1) := fun a b h => by rw [mp, mp, h]
  have key : ∀ (q t : Nat), a ≤ t → mp m x (t + (c - a) * q) = mp m x t := by
    intro q
    induction q with
    | zero => intro t _; rfl
    | succ q ih =>
      intro t ht
      rw [Nat.mul_succ, ← Nat.add_assoc, per_add H ha e (by omega), ih t ht]
  refine ⟨(c - a) * (a + 1) - 1, ?_⟩
  have h1 : a + 1 ≤ (c - a) * (a + 1) := Nat.le_mul_of_pos_left _ (by omega)
  rw [mp_add F hx, show (c - a) * (a + 1) - 1 + ((c - a) * (a + 1) - 1) + 1 = (c - a) * (a + 1) - 1 + (c - a) * (a + 1) by omega]
  exact key _ _ (by omega)
theorem stab_r (F : FM m N) {a x b : Nat} (ha : a < N) (hx : x < N) (hb : b < N) (h : m (m a x) b = x) : ∃ t, m x (mp m b t) = x := by
  obtain ⟨t, ht⟩ := mp_idem F hb
  have key : ∀ t, m (m (mp m a t) x) (mp m b t) = x := by
    intro t
    induction t with
    | zero => exact h
    | succ t ih =>
      have h1 := mp_lt F ha t
      have h2 := mp_lt F hb t
      have e1 : mp m a (t + 1) = m (mp m a t) a := rfl
      have e2 : mp m b (t + 1) = m b (mp m b t) := by
        have := mp_add F hb 0 t
        rw [show mp m b 0 = b from rfl, Nat.zero_add] at this
        exact this.symm
      rw [e1, e2, ← F.asc _ _ _ (F.cl _ _ (F.cl _ _ h1 ha) hx) hb h2, F.asc (mp m a t) a x h1 ha hx, F.asc (mp m a t) (m a x) b h1 (F.cl _ _ ha hx) hb, h, ih]
  have h1 := mp_lt F ha t
  have h2 := mp_lt F hb t
  refine ⟨t, ?_⟩
  have h3 := key t
  have h4 : m (m (m (mp m a t) x) (mp m b t)) (mp m b t) = m x (mp m b t) := by rw [h3]
  rw [F.asc _ _ _ (F.cl _ _ h1 hx) h2 h2, ht, h3] at h4
  exact h4.symm
theorem stab_l (F : FM m N) {a x b : Nat} (ha : a < N) (hx : x < N) (hb : b < N) (h : m (m a x) b = x) : ∃ t, m (mp m a t) x = x := by
  obtain ⟨t, ht⟩ := mp_idem F ha
  have key : ∀ t, m (m (mp m a t) x) (mp m b t) = x := by
    intro t
    induction t with
    | zero => exact h
    | succ t ih =>
      have h1 := mp_lt F ha t
      have h2 := mp_lt F hb t
      have e1 : mp m a (t + 1) = m (mp m a t) a := rfl
      have e2 : mp m b (t + 1) = m b (mp m b t) := by
        have := mp_add F hb 0 t
        rw [show mp m b 0 = b from rfl, Nat.zero_add] at this
        exact this.symm
      rw [e1, e2, ← F.asc _ _ _ (F.cl _ _ (F.cl _ _ h1 ha) hx) hb h2, F.asc (mp m a t) a x h1 ha hx, F.asc (mp m a t) (m a x) b h1 (F.cl _ _ ha hx) hb, h, ih]
  have h1 := mp_lt F ha t
  have h2 := mp_lt F hb t
  refine ⟨t, ?_⟩
  have h3 := key t
  have h4 : m (mp m a t) (m (m (mp m a t) x) (mp m b t)) = m (mp m a t) x := by rw [h3]
  rw [← F.asc _ _ _ h1 (F.cl _ _ h1 hx) h2, ← F.asc _ _ _ h1 h1 hx, ht, h3] at h4
  exact h4.symm
theorem mp_fst (F : FM m N) {x : Nat} (hx : x < N) : ∀ t, ∃ z, z < N ∧ mp m x t = m x z
  | 0 => ⟨0, F.ps, (F.un x hx).2.symm⟩
  | t + 1 => ⟨mp m x t, mp_lt F hx t, by
      have := mp_add F hx 0 t
      rw [show mp m x 0 = x from rfl, Nat.zero_add] at this
      exact this.symm⟩
theorem mp_lst (F : FM m N) {x : Nat} (hx : x < N) : ∀ t, ∃ z, z < N ∧ mp m x t = m z x
  | 0 => ⟨0, F.ps, (F.un x hx).1.symm⟩
  | t + 1 => ⟨mp m x t, mp_lt F hx t, rfl⟩
theorem eR_of (F : FM m N) {x y : Nat} (hx : x < N) (h : bR m N x y) (g : bJ m N y x) : eR m N x y := by
  refine ⟨h, ?_⟩
  obtain ⟨s, hs, rfl⟩ := h
  obtain ⟨u, hu, v, hv, e⟩ := g
  have e' : m (m u x) (m s v) = x := by rw [← F.asc _ _ _ (F.cl _ _ hu hx) hs hv, F.asc u x s hu hx hs]; exact e
  have hsv := F.cl _ _ hs hv
  obtain ⟨t, ht⟩ := stab_r F hu hx hsv e'
  obtain ⟨z, hz, e2⟩ := mp_fst F hsv t
  rw [e2, F.asc s v z hs hv hz, ← F.asc x s _ hx hs (F.cl _ _ hv hz)] at ht
  exact ⟨m v z, F.cl _ _ hv hz, ht⟩
theorem eL_of (F : FM m N) {x y : Nat} (hx : x < N) (h : bL m N x y) (g : bJ m N y x) : eL m N x y := by
  refine ⟨h, ?_⟩
  obtain ⟨s, hs, rfl⟩ := h
  obtain ⟨u, hu, v, hv, e⟩ := g
  have e' : m (m (m u s) x) v = x := by rw [F.asc u s x hu hs hx]; exact e
  have hus := F.cl _ _ hu hs
  obtain ⟨t, ht⟩ := stab_l F hus hx hv e'
  obtain ⟨z, hz, e2⟩ := mp_lst F hus t
  rw [e2, ← F.asc z u s hz hu hs, F.asc _ s x (F.cl _ _ hz hu) hs hx] at ht
  exact ⟨m z u, F.cl _ _ hz hu, ht⟩
theorem d_is_j (F : FM m N) {x y : Nat} (hx : x < N) (h : eJ m N x y) : ∃ c, c < N ∧ eR m N x c ∧ eL m N c y := by
  obtain ⟨⟨u, hu, v, hv, e⟩, g⟩ := h
  have hc := F.cl _ _ hx hv
  have hxc : bR m N x (m x v) := ⟨v, hv, rfl⟩
  have hcy : bL m N (m x v) y := ⟨u, hu, by rw [← F.asc u x v hu hx hv]; exact e⟩
  refine ⟨m x v, hc, eR_of F hx hxc ((hcy.j F hc).tr F hc g), eL_of F hc hcy (g.tr F (e ▸ F.cl _ _ (F.cl _ _ hu hx) hv) (hxc.j F hx))⟩
theorem eR.sy {x y : Nat} (h : eR m N x y) : eR m N y x := ⟨h.2, h.1⟩
theorem eL.sy {x y : Nat} (h : eL m N x y) : eL m N y x := ⟨h.2, h.1⟩
theorem eR.tr (F : FM m N) {x y z : Nat} (hx : x < N) (hz : z < N) (h : eR m N x y) (g : eR m N y z) : eR m N x z := ⟨h.1.tr F hx g.1, g.2.tr F hz h.2⟩
theorem eL.tr (F : FM m N) {x y z : Nat} (hx : x < N) (hz : z < N) (h : eL m N x y) (g : eL m N y z) : eL m N x z := ⟨h.1.tr F hx g.1, g.2.tr F hz h.2⟩
theorem eR.j (F : FM m N) {x y : Nat} (hx : x < N) (hy : y < N) (h : eR m N x y) : eJ m N x y := ⟨h.1.j F hx, h.2.j F hy⟩
theorem eL.j (F : FM m N) {x y : Nat} (hx : x < N) (hy : y < N) (h : eL m N x y) : eJ m N x y := ⟨h.1.j F hx, h.2.j F hy⟩
open Classical in
noncomputable def inH (m : Nat → Nat → Nat) (N a b z : Nat) : Bool := decide (eL m N a z ∧ eR m N b z)
theorem inH_iff {a b z : Nat} : inH m N a b z = true ↔ eL m N a z ∧ eR m N b z := by simp [inH]
noncomputable def cntE (m : Nat → Nat → Nat) (N a b : Nat) : Nat := (List.range N).countP (inH m N a b)
theorem count_inj {p q : Nat → Bool} {f : Nat → Nat} (hf : ∀ z, z < N → p z = true → f z < N ∧ q (f z) = true) (hi : ∀ z w, z < N → w < N → p z = true → p w = true → f z = f w → z = w) : (List.range N).countP p ≤ (List.range N).countP q := by
  rw [List.countP_eq_length_filter, List.countP_eq_length_filter, ← List.length_map (f := f)]
  refine nodup_le _ _ ?_ ?_
  · rw [List.Nodup, List.pairwise_map]
    refine List.Pairwise.imp_of_mem ?_ (List.Pairwise.filter p (List.pairwise_lt_range (n := N)))
    intro a b ha hb hab e
    have ha := List.mem_filter.1 ha
    have hb := List.mem_filter.1 hb
    have := hi a b (by simpa using ha.1) (by simpa using hb.1) ha.2 hb.2 e
    omega
  · intro x hx
    obtain ⟨z, hz, rfl⟩ := List.mem_map.1 hx
    have hz := List.mem_filter.1 hz
    obtain ⟨h1, h2⟩ := hf z (by simpa using hz.1) hz.2
    exact List.mem_filter.2 ⟨by simpa using h1, h2⟩
theorem cnt_r_le (F : FM m N) {a a' b : Nat} (ha : a < N) (ha' : a' < N) (hb : b < N) (h : eR m N a a') : cntE m N a b ≤ cntE m N a' b := by
  obtain ⟨⟨s, hs, e1⟩, ⟨t, ht, e2⟩⟩ := h
  have back : ∀ z, z < N → eL m N a z → m (m z s) t = z := by
    rintro z hz ⟨⟨u, hu, rfl⟩, _⟩
    rw [F.asc u a s hu ha hs, e1, F.asc u a' t hu ha' ht, e2]
  refine count_inj (f := fun z => m z s) (fun z hz hp => ?_) (fun z w hz hw hp hq e => ?_)
  · have hp := inH_iff.1 hp
    refine ⟨F.cl _ _ hz hs, inH_iff.2 ⟨?_, ?_⟩⟩
    · obtain ⟨⟨u, hu, eu⟩, ⟨w, hw, ew⟩⟩ := hp.1
      exact ⟨⟨u, hu, by rw [← e1, ← F.asc u a s hu ha hs, eu]⟩, ⟨w, hw, by rw [← F.asc w z s hw hz hs, ew, e1]⟩⟩
    · exact hp.2.tr F hb (F.cl _ _ hz hs) ⟨⟨s, hs, rfl⟩, ⟨t, ht, back z hz hp.1⟩⟩
  · have hp := inH_iff.1 hp
    have hq := inH_iff.1 hq
    have e' : m z s = m w s := e
    rw [← back z hz hp.1, ← back w hw hq.1, e']
theorem cnt_l_le (F : FM m N) {a b b' : Nat} (ha : a < N) (hb : b < N) (hb' : b' < N) (h : eL m N b b') : cntE m N a b ≤ cntE m N a b' := by
  obtain ⟨⟨s, hs, e1⟩, ⟨t, ht, e2⟩⟩ := h
  have back : ∀ z, z < N → eR m N b z → m t (m s z) = z := by
    rintro z hz ⟨⟨u, hu, rfl⟩, _⟩
    rw [← F.asc s b u hs hb hu, e1, ← F.asc t b' u ht hb' hu, e2]
  refine count_inj (f := fun z => m s z) (fun z hz hp => ?_) (fun z w hz hw hp hq e => ?_)
  · have hp := inH_iff.1 hp
    refine ⟨F.cl _ _ hs hz, inH_iff.2 ⟨?_, ?_⟩⟩
    · exact hp.1.tr F ha (F.cl _ _ hs hz) ⟨⟨s, hs, rfl⟩, ⟨t, ht, back z hz hp.2⟩⟩
    · obtain ⟨⟨u, hu, eu⟩, ⟨w, hw, ew⟩⟩ := hp.2
      exact ⟨⟨u, hu, by rw [← e1, F.asc s b u hs hb hu, eu]⟩, ⟨w, hw, by rw [F.asc s z w hs hz hw, ew, e1]⟩⟩
  · have hp := inH_iff.1 hp
    have hq := inH_iff.1 hq
    have e' : m s z = m s w := e
    rw [← back z hz hp.2, ← back w hw hq.2, e']
theorem cnt_eq (F : FM m N) {a b a' b' : Nat} (ha : a < N) (hb : b < N) (ha' : a' < N) (hb' : b' < N) (h : eJ m N a a') (g : eJ m N b b') : cntE m N a b = cntE m N a' b' := by
  have key : ∀ a b a', a < N → b < N → a' < N → eJ m N a a' → cntE m N a b ≤ cntE m N a' b := by
    intro a b a' ha hb ha' h
    obtain ⟨c, hc, h1, h2⟩ := d_is_j F ha h
    refine Nat.le_trans (cnt_r_le F ha hc hb h1) ?_
    rw [cntE, cntE]
    refine Nat.le_of_eq (List.countP_congr fun z hz => ?_)
    have hz : z < N := by simpa using hz
    simp only [inH_iff]
    exact ⟨fun q => ⟨h2.sy.tr F ha' hz q.1, q.2⟩, fun q => ⟨h2.tr F hc hz q.1, q.2⟩⟩
  have key2 : ∀ a b b', a < N → b < N → b' < N → eJ m N b b' → cntE m N a b ≤ cntE m N a b' := by
    intro a b b' ha hb hb' h
    obtain ⟨c, hc, h1, h2⟩ := d_is_j F hb h
    refine Nat.le_trans ?_ (cnt_l_le F ha hc hb' h2)
    rw [cntE, cntE]
    refine Nat.le_of_eq (List.countP_congr fun z hz => ?_)
    have hz : z < N := by simpa using hz
    simp only [inH_iff]
    exact ⟨fun q => ⟨q.1, h1.sy.tr F hc hz q.2⟩, fun q => ⟨q.1, h1.tr F hb hz q.2⟩⟩
  have h1 := key a b a' ha hb ha' h
  have h2 := key a' b a ha' hb ha ⟨h.2, h.1⟩
  have h3 := key2 a' b b' ha' hb hb' g
  have h4 := key2 a' b' b ha' hb' hb ⟨g.2, g.1⟩
  omega
theorem cnt_pos (F : FM m N) {a b : Nat} (ha : a < N) (hb : b < N) (h : eJ m N a b) : 0 < cntE m N a b := by
  obtain ⟨c, hc, h1, h2⟩ := d_is_j F hb ⟨h.2, h.1⟩
  rw [cntE, List.countP_pos_iff]
  exact ⟨c, by simpa using hc, inH_iff.2 ⟨h2.sy, h1⟩⟩
theorem cnt_zero (F : FM m N) {a b : Nat} (ha : a < N) (hb : b < N) (h : ¬ eJ m N a b) : cntE m N a b = 0 := by
  rw [cntE, List.countP_eq_zero]
  intro z hz
  have hz : z < N := by simpa using hz
  intro q
  have q := inH_iff.1 q
  have h1 := q.1.j F ha hz
  have h2 := q.2.j F hb hz
  exact h ⟨h1.1.tr F ha h2.2, h2.1.tr F hb h1.2⟩
end
end Go.Proofs.Ythnpflkpjimkfaa

/-
  BODIES OF FUNCTIONS OF THE PROGRAM AS SMALL OPERATIONS (written by gen.py; checked by the kernel against the program). Conditions: none.
-/
namespace Go.Proofs.Ythnpflkpjimkfaa
open Go.AM
open Go.Proofs.Try (prog)
set_option maxRecDepth 100000
set_option linter.all false
namespace l07_BrandGreen
noncomputable section
variable (K : List Item) (s : St)
def b : Code := (Try.f14.body).getD .skip
theorem hf : prog.funcs[14]? = some Try.f14 := by kernel_rfl
def r0 := findReg b 0
def r1 := findReg b 1
def r2 := findReg b 2
def r3 := findReg b 3
def r4 := findReg b 4
def r5 := findReg b 5
def r6 := findReg b 6
def i0 := findCond b 0
def i0t := thenOf i0
def i0e := elseOf i0
def r7 := findReg b 7
def r8 := findReg b 8
def i1 := findCond b 1
def i1t := thenOf i1
def i1e := elseOf i1
def r9 := findReg b 9
def r10 := findReg b 10
def r11 := findReg b 11
def i2 := findCond b 2
def i2t := thenOf i2
def i2e := elseOf i2
def r12 := findReg b 12
def r13 := findReg b 13
def r14 := findReg b 14
def r15 := findReg b 15
def k0 := findBlk b 0
def l0 := loopOf k0
def L0 (x4 x6 x8 x10 x12 x13 x14 x15 x16 x17 x18 x19 : AV) (m : Mem) (K : List Item) : Option Res := den prog ann 14 (.code l0 :: .inLoop l0 :: .inBlock 0 :: K) ⟨[(4, x4), (6, x6), (8, x8), (10, x10), (12, x12), (13, x13), (14, x14), (15, x15), (16, x16), (17, x17), (18, x18), (19, x19)], 294, m⟩
def r16 := findReg b 16
def i3 := findCond b 3
def i3t := thenOf i3
def i3e := elseOf i3
def k1 := findBlk b 1
def r18 := findReg b 18
def r19 := findReg b 19
def r20 := findReg b 20
def r21 := findReg b 21
def i4 := findCond b 4
def i4t := thenOf i4
def i4e := elseOf i4
def r22 := findReg b 22
def r23 := findReg b 23
def r24 := findReg b 24
def r25 := findReg b 25
def r26 := findReg b 26
def i5 := findCond b 5
def i5t := thenOf i5
def i5e := elseOf i5
def r27 := findReg b 27
def r28 := findReg b 28
def r29 := findReg b 29
def i6 := findCond b 6
def i6t := thenOf i6
def i6e := elseOf i6
def r30 := findReg b 30
def r31 := findReg b 31
def r17 := findReg b 17
def r32 := findReg b 32
def r33 := findReg b 33
def k2 := findBlk b 2
def l2 := loopOf k2
def L2 (x6 x8 x12 x15 x16 x17 x18 x30 x31 : AV) (m : Mem) (K : List Item) : Option Res := den prog ann 14 (.code l2 :: .inLoop l2 :: .inBlock 2 :: K) ⟨[(6, x6), (8, x8), (12, x12), (15, x15), (16, x16), (17, x17), (18, x18), (30, x30), (31, x31)], 294, m⟩
def r34 := findReg b 34
def i7 := findCond b 7
def i7t := thenOf i7
def i7e := elseOf i7
def k3 := findBlk b 3
def r36 := findReg b 36
def k4 := findBlk b 4
def l4 := loopOf k4
def L4 (x6 x8 x12 x15 x16 x17 x18 x30 x31 x32 : AV) (m : Mem) (K : List Item) : Option Res := den prog ann 14 (.code l4 :: .inLoop l4 :: .inBlock 4 :: K) ⟨[(6, x6), (8, x8), (12, x12), (15, x15), (16, x16), (17, x17), (18, x18), (30, x30), (31, x31), (32, x32)], 294, m⟩
def r37 := findReg b 37
def i8 := findCond b 8
def i8t := thenOf i8
def i8e := elseOf i8
def k5 := findBlk b 5
def r39 := findReg b 39
def r40 := findReg b 40
def i9 := findCond b 9
def i9t := thenOf i9
def i9e := elseOf i9
def r41 := findReg b 41
def i10 := findCond b 10
def i10t := thenOf i10
def i10e := elseOf i10
def r42 := findReg b 42
def r43 := findReg b 43
def i11 := findCond b 11
def i11t := thenOf i11
def i11e := elseOf i11
def r44 := findReg b 44
def r45 := findReg b 45
def r38 := findReg b 38
def r35 := findReg b 35
def r46 := findReg b 46
theorem b_eq : den prog ann 14 (.code b :: K) s = den prog ann 14 (.code r0 :: .code r1 :: .code r2 :: .code r3 :: .code r4 :: .code r5 :: .code r6 :: .code i0 :: .code r8 :: .code i1 :: .code r10 :: .code r11 :: .code i2 :: .code r13 :: .code r14 :: .code r15 :: .code k0 :: .code r32 :: .code r33 :: .code k2 :: .code r46 :: .code .ret :: K) s := den_flat hf (l := [r0, r1, r2, r3, r4, r5, r6, i0, r8, i1, r10, r11, i2, r13, r14, r15, k0, r32, r33, k2, r46, .ret]) (by kernel_rfl) K s
theorem r0_eq : den prog ann 14 (.code r0 :: K) s = mreg prog ann 14 none [] none [] [qA 1 frozenPtr 0,qF 2 fun s => some (.bool false)] K s := (den_reg hf _ K s).trans (by kernel_rfl)
theorem r1_eq : den prog ann 14 (.code r1 :: K) s = mreg prog ann 14 none [] none [3] [qA 34 (loadF true 4) 1,⟨some 35, none, .c 0 (fun s => (.fn 22 [] [])) fun s => [(s.get 34)]⟩,⟨some 3, none, .w false none fun s => newPtr s.m [.nils, .nils]⟩,⟨none, none, .w false none fun s => stA true 2 s.m (s.get 3) (s.get 35)⟩] K s := (den_reg hf _ K s).trans (by kernel_rfl)
theorem r2_eq : den prog ann 14 (.code r2 :: K) s = mreg prog ann 14 none [] none [] [qA 37 (loadF true 2) 3,⟨some 38, none, .c 2 (fun s => (.fn 36 [] [])) fun s => [(s.get 37)]⟩,qC 36 38,qF 39 fun s => extA (s.get 36) 0,qF 40 fun s => extA (s.get 36) 1,qC 4 39,qC 5 40] K s := (den_reg hf _ K s).trans (by kernel_rfl)
theorem r3_eq : den prog ann 14 (.code r3 :: K) s = mreg prog ann 14 none [] none [] [qA 42 (loadF true 2) 3,⟨some 43, none, .c 2 (fun s => (.fn 47 [] [])) fun s => [(s.get 42)]⟩,qC 41 43,qF 44 fun s => extA (s.get 41) 0,qF 45 fun s => extA (s.get 41) 1,qC 6 44,qC 7 45] K s := (den_reg hf _ K s).trans (by kernel_rfl)
theorem r4_eq : den prog ann 14 (.code r4 :: K) s = mreg prog ann 14 none [] none [] [qA 47 (loadF true 2) 3,⟨some 48, none, .c 2 (fun s => (.fn 48 [] [])) fun s => [(s.get 47)]⟩,qC 46 48,qF 49 fun s => extA (s.get 46) 0,qF 50 fun s => extA (s.get 46) 1,qC 8 49,qC 9 50] K s := (den_reg hf _ K s).trans (by kernel_rfl)
theorem r5_eq : den prog ann 14 (.code r5 :: K) s = mreg prog ann 14 none [] none [] [qA 52 (loadF true 2) 3,⟨some 53, none, .c 2 (fun s => (.fn 45 [] [])) fun s => [(s.get 52)]⟩,qC 51 53,qF 54 fun s => extA (s.get 51) 0,qF 55 fun s => extA (s.get 51) 1,qC 10 54,qC 11 55] K s := (den_reg hf _ K s).trans (by kernel_rfl)
theorem r6_eq : den prog ann 14 (.code r6 :: K) s = mreg prog ann 14 none [] none [] [qC 56 5,qF 57 fun s => binA prog .eql 27 (s.get 56) (.int .i64 7)] K s := (den_reg hf _ K s).trans (by kernel_rfl)
theorem i0_eq : den prog ann 14 (.code i0 :: K) s = ifV prog ann 14 57 i0t i0e K s (s.get 57) := den_if hf (by kernel_rfl) K s
theorem i0t_eq : den prog ann 14 (.code i0t :: K) s = den prog ann 14 (.code r7 :: .code .ret :: K) s := den_flat hf (l := [r7, .ret]) (by kernel_rfl) K s
theorem r7_eq : den prog ann 14 (.code r7 :: K) s = mreg prog ann 14 none [] none [] [qC 58 7,qC 59 5,qB 60 (binA prog .eql 27) 58 59,qC 61 60,⟨some 62, some (61, true), .v fun s => some (s.get 9)⟩,⟨some 63, some (61, true), .v fun s => some (s.get 5)⟩,⟨some 64, some (61, true), .v fun s => binA prog .eql 27 (s.get 62) (s.get 63)⟩,qF 65 fun s => pickA (s.get 61) (s.get 64) (.bool false),qC 66 65,⟨some 67, some (66, true), .v fun s => some (s.get 11)⟩,⟨some 68, some (66, true), .v fun s => some (s.get 5)⟩,⟨some 69, some (66, true), .v fun s => binA prog .eql 27 (s.get 67) (s.get 68)⟩,qF 70 fun s => pickA (s.get 66) (s.get 69) (.bool false),qC 71 70,⟨some 72, some (71, true), .c 0 (fun s => (.fn 21 [] [])) fun s => []⟩,qF 73 fun s => pickA (s.get 71) (s.get 72) (.bool false),qC 2 73] K s := (den_reg hf _ K s).trans (by kernel_rfl)
theorem i0e_eq : den prog ann 14 (.code i0e :: K) s = den prog ann 14 (K) s := den_flat hf (l := []) (by kernel_rfl) K s
theorem r8_eq : den prog ann 14 (.code r8 :: K) s = mreg prog ann 14 none [] none [] [qC 74 5,qF 75 fun s => binA prog .neq 27 (s.get 74) (.int .i64 0),qC 76 75,⟨some 77, some (76, false), .v fun s => some (s.get 7)⟩,⟨some 78, some (76, false), .v fun s => binA prog .neq 27 (s.get 77) (.int .i64 0)⟩,qF 79 fun s => pickA (s.get 76) (.bool true) (s.get 78),qC 80 79,⟨some 81, some (80, false), .v fun s => some (s.get 9)⟩,⟨some 82, some (80, false), .v fun s => binA prog .neq 27 (s.get 81) (.int .i64 0)⟩,qF 83 fun s => pickA (s.get 80) (.bool true) (s.get 82),qC 84 83,⟨some 85, some (84, false), .v fun s => some (s.get 11)⟩,⟨some 86, some (84, false), .v fun s => binA prog .neq 27 (s.get 85) (.int .i64 0)⟩,qF 87 fun s => pickA (s.get 84) (.bool true) (s.get 86),qC 88 87,⟨some 89, some (88, false), .c 0 (fun s => (.fn 21 [] [])) fun s => []⟩,⟨some 90, some (88, false), .v fun s => unA .not (s.get 89)⟩,qF 91 fun s => pickA (s.get 88) (.bool true) (s.get 90)] K s := (den_reg hf _ K s).trans (by kernel_rfl)
theorem i1_eq : den prog ann 14 (.code i1 :: K) s = ifV prog ann 14 91 i1t i1e K s (s.get 91) := den_if hf (by kernel_rfl) K s
theorem i1t_eq : den prog ann 14 (.code i1t :: K) s = den prog ann 14 (.code r9 :: .code .ret :: K) s := den_flat hf (l := [r9, .ret]) (by kernel_rfl) K s
theorem r9_eq : den prog ann 14 (.code r9 :: K) s = mreg prog ann 14 none [] none [] [qF 2 fun s => some (.bool false)] K s := (den_reg hf _ K s).trans (by kernel_rfl)
theorem i1e_eq : den prog ann 14 (.code i1e :: K) s = den prog ann 14 (K) s := den_flat hf (l := []) (by kernel_rfl) K s
theorem r10_eq : den prog ann 14 (.code r10 :: K) s = mreg prog ann 14 none [] none [] [qC 92 6,⟨some 93, none, .c 0 (fun s => (.fn 51 [] [])) fun s => [(s.get 92)]⟩,qC 94 8,⟨some 95, none, .c 0 (fun s => (.fn 51 [] [])) fun s => [(s.get 94)]⟩,qC 96 10,⟨some 97, none, .c 0 (fun s => (.fn 51 [] [])) fun s => [(s.get 96)]⟩,qC 12 93,qC 13 95,qC 14 97] K s := (den_reg hf _ K s).trans (by kernel_rfl)
theorem r11_eq : den prog ann 14 (.code r11 :: K) s = mreg prog ann 14 none [] none [] [qC 98 12,qF 99 fun s => mapLenA s.m (s.get 98),qC 100 4,qA 101 lenSl 100,qB 102 (binA prog .neq 3) 99 101,qC 103 102,⟨some 104, some (103, false), .v fun s => some (s.get 13)⟩,⟨some 105, some (103, false), .v fun s => mapLenA s.m (s.get 104)⟩,⟨some 106, some (103, false), .v fun s => some (s.get 4)⟩,⟨some 107, some (103, false), .v fun s => lenSl (s.get 106)⟩,⟨some 108, some (103, false), .v fun s => binA prog .neq 3 (s.get 105) (s.get 107)⟩,qF 109 fun s => pickA (s.get 103) (.bool true) (s.get 108),qC 110 109,⟨some 111, some (110, false), .v fun s => some (s.get 14)⟩,⟨some 112, some (110, false), .v fun s => mapLenA s.m (s.get 111)⟩,⟨some 113, some (110, false), .v fun s => some (s.get 4)⟩,⟨some 114, some (110, false), .v fun s => lenSl (s.get 113)⟩,⟨some 115, some (110, false), .v fun s => binA prog .neq 3 (s.get 112) (s.get 114)⟩,qF 116 fun s => pickA (s.get 110) (.bool true) (s.get 115)] K s := (den_reg hf _ K s).trans (by kernel_rfl)
theorem i2_eq : den prog ann 14 (.code i2 :: K) s = ifV prog ann 14 116 i2t i2e K s (s.get 116) := den_if hf (by kernel_rfl) K s
theorem i2t_eq : den prog ann 14 (.code i2t :: K) s = den prog ann 14 (.code r12 :: .code .ret :: K) s := den_flat hf (l := [r12, .ret]) (by kernel_rfl) K s
theorem r12_eq : den prog ann 14 (.code r12 :: K) s = mreg prog ann 14 none [] none [] [qF 2 fun s => some (.bool false)] K s := (den_reg hf _ K s).trans (by kernel_rfl)
theorem i2e_eq : den prog ann 14 (.code i2e :: K) s = den prog ann 14 (K) s := den_flat hf (l := []) (by kernel_rfl) K s
theorem r13_eq : den prog ann 14 (.code r13 :: K) s = mreg prog ann 14 none [] none [] [⟨some 117, none, .w false none fun s => some (.map s.m.nx, s.m.new (.map 0 [] []))⟩,⟨some 118, none, .w false none fun s => some (.map s.m.nx, s.m.new (.map 0 [] []))⟩,qC 15 117,qC 16 118] K s := (den_reg hf _ K s).trans (by kernel_rfl)
theorem r14_eq : den prog ann 14 (.code r14 :: K) s = mreg prog ann 14 none [] none [] [⟨some 119, none, .w false none fun s => some (.map s.m.nx, s.m.new (.map 0 [] []))⟩,⟨some 120, none, .w false none fun s => some (.map s.m.nx, s.m.new (.map 0 [] []))⟩,qC 17 119,qC 18 120] K s := (den_reg hf _ K s).trans (by kernel_rfl)
theorem r15_eq : den prog ann 14 (.code r15 :: K) s = mreg prog ann 14 none [] none [] [qF 19 fun s => some (.int .i64 0)] K s := (den_reg hf _ K s).trans (by kernel_rfl)
theorem k0_eq (K : List Item) (t : List (Nat × AV)) (m : Mem) : den prog ann 14 (.code k0 :: K) ⟨t, 294, m⟩ = L0 (get t 4) (get t 6) (get t 8) (get t 10) (get t 12) (get t 13) (get t 14) (get t 15) (get t 16) (get t 17) (get t 18) (get t 19) m K := den_loop_enter hf (b := l0) (id := 16) (l := [4, 6, 8, 10, 12, 13, 14, 15, 16, 17, 18, 19]) (by kernel_rfl) (by kernel_rfl) (by kernel_rfl) K _
theorem l0_eq (K : List Item) (t : List (Nat × AV)) (m : Mem) : den prog ann 14 (.inLoop l0 :: .inBlock 0 :: K) ⟨t, 294, m⟩ = L0 (get t 4) (get t 6) (get t 8) (get t 10) (get t 12) (get t 13) (get t 14) (get t 15) (get t 16) (get t 17) (get t 18) (get t 19) m K := den_loop_again hf (id := 16) (l := [4, 6, 8, 10, 12, 13, 14, 15, 16, 17, 18, 19]) (by kernel_rfl) (by kernel_rfl) (.inBlock 0 :: K) _
theorem L0_eq (x4 x6 x8 x10 x12 x13 x14 x15 x16 x17 x18 x19 : AV) (m : Mem) (K : List Item) : L0 x4 x6 x8 x10 x12 x13 x14 x15 x16 x17 x18 x19 m K = den prog ann 14 (.code r16 :: .code i3 :: .code k1 :: .code r17 :: .inLoop l0 :: .inBlock 0 :: K) ⟨[(4, x4), (6, x6), (8, x8), (10, x10), (12, x12), (13, x13), (14, x14), (15, x15), (16, x16), (17, x17), (18, x18), (19, x19)], 294, m⟩ := den_flat hf (l := [r16, i3, k1, r17]) (by kernel_rfl) _ _
theorem r16_eq : den prog ann 14 (.code r16 :: K) s = mreg prog ann 14 (some [4, 6, 8, 10, 12, 13, 14, 15, 16, 17, 18, 19]) [] none [] [qC 121 19,qC 122 4,qA 123 lenSl 122,qB 124 (binA prog .lss 3) 121 123] K s := (den_reg hf _ K s).trans (by kernel_rfl)
theorem i3_eq : den prog ann 14 (.code i3 :: K) s = ifV prog ann 14 124 i3t i3e K s (s.get 124) := den_if hf (by kernel_rfl) K s
theorem i3t_eq : den prog ann 14 (.code i3t :: K) s = den prog ann 14 (K) s := den_flat hf (l := []) (by kernel_rfl) K s
theorem i3e_eq : den prog ann 14 (.code i3e :: K) s = den prog ann 14 (.code (.exit 0) :: K) s := den_flat hf (l := [(.exit 0)]) (by kernel_rfl) K s
theorem k1_eq : den prog ann 14 (.code k1 :: K) s = den prog ann 14 (.code r18 :: .code r19 :: .code r20 :: .code r21 :: .code i4 :: .code r23 :: .code r24 :: .code r25 :: .code r26 :: .code i5 :: .code r28 :: .code r29 :: .code i6 :: .code r31 :: .inBlock 1 :: K) s := den_blk hf (b := blkOf k1) (l := [r18, r19, r20, r21, i4, r23, r24, r25, r26, i5, r28, r29, i6, r31]) (by kernel_rfl) (by kernel_rfl) K s
theorem r18_eq : den prog ann 14 (.code r18 :: K) s = mreg prog ann 14 none [] none [] [qC 128 12,qC 129 4,qC 130 19,qB 131 (idxSl 1) 129 130,qA 132 (loadF false 1) 131,qF 133 fun s => lookP prog s.m 9 (.int .i64 0) (s.get 128) (s.get 132) true,qC 127 133,qF 134 fun s => extA (s.get 127) 0,qF 135 fun s => extA (s.get 127) 1,qC 20 134,qC 21 135] K s := (den_reg hf _ K s).trans (by kernel_rfl)
theorem r19_eq : den prog ann 14 (.code r19 :: K) s = mreg prog ann 14 none [] none [] [qC 137 13,qC 138 4,qC 139 19,qB 140 (idxSl 1) 138 139,qA 141 (loadF false 1) 140,qF 142 fun s => lookP prog s.m 9 (.int .i64 0) (s.get 137) (s.get 141) true,qC 136 142,qF 143 fun s => extA (s.get 136) 0,qF 144 fun s => extA (s.get 136) 1,qC 22 143,qC 23 144] K s := (den_reg hf _ K s).trans (by kernel_rfl)
theorem r20_eq : den prog ann 14 (.code r20 :: K) s = mreg prog ann 14 none [] none [] [qC 146 14,qC 147 4,qC 148 19,qB 149 (idxSl 1) 147 148,qA 150 (loadF false 1) 149,qF 151 fun s => lookP prog s.m 9 (.int .i64 0) (s.get 146) (s.get 150) true,qC 145 151,qF 152 fun s => extA (s.get 145) 0,qF 153 fun s => extA (s.get 145) 1,qC 24 152,qC 25 153] K s := (den_reg hf _ K s).trans (by kernel_rfl)
theorem r21_eq : den prog ann 14 (.code r21 :: K) s = mreg prog ann 14 none [] none [] [qC 154 21,qA 155 (unA .not) 154,qC 156 155,⟨some 157, some (156, false), .v fun s => some (s.get 23)⟩,⟨some 158, some (156, false), .v fun s => unA .not (s.get 157)⟩,qF 159 fun s => pickA (s.get 156) (.bool true) (s.get 158),qC 160 159,⟨some 161, some (160, false), .v fun s => some (s.get 25)⟩,⟨some 162, some (160, false), .v fun s => unA .not (s.get 161)⟩,qF 163 fun s => pickA (s.get 160) (.bool true) (s.get 162)] K s := (den_reg hf _ K s).trans (by kernel_rfl)
theorem i4_eq : den prog ann 14 (.code i4 :: K) s = ifV prog ann 14 163 i4t i4e K s (s.get 163) := den_if hf (by kernel_rfl) K s
theorem i4t_eq : den prog ann 14 (.code i4t :: K) s = den prog ann 14 (.code r22 :: .code .ret :: K) s := den_flat hf (l := [r22, .ret]) (by kernel_rfl) K s
theorem r22_eq : den prog ann 14 (.code r22 :: K) s = mreg prog ann 14 none [] none [] [qF 2 fun s => some (.bool false)] K s := (den_reg hf _ K s).trans (by kernel_rfl)
theorem i4e_eq : den prog ann 14 (.code i4e :: K) s = den prog ann 14 (K) s := den_flat hf (l := []) (by kernel_rfl) K s
theorem r23_draw : drawOk (fun g => (ann g).pure) (modeOf (ann 14) (idOf r23)) (frzOf (ann 14) (idOf r23)) (opsOf r23) = true := drawOk_of (an := [0, 0, 0, 6, 15, 31, 15, 79, 255]) (by kernel_rfl) (by kernel_rfl)
theorem r23_eq : den prog ann 14 (.code r23 :: K) s = mreg prog ann 14 none [] (some 9) [] [qC 164 15,qC 165 20,qC 166 22,qF 167 fun s => bldA (plc [(0, 1), (1, 1)]) [.int .i64 0, .int .i64 0] [(0, (s.get 165)), (1, (s.get 166))],qF 168 fun s => lookP prog s.m 86 (.int .i64 0) (s.get 164) (s.get 167) false,qF 169 fun s => binA prog .add 3 (s.get 168) (.int .i64 1),⟨some 170, none, .w false (some 6) fun s => entP prog s.m 86 (.int .i64 0) (s.get 164) (s.get 167)⟩,qF 171 fun s => extA (s.get 170) 1,⟨none, none, .w false (some 8) fun s => entS s.m (s.get 164) (s.get 171) (s.get 169)⟩] K s := (den_regD hf r23_draw K s).trans (by kernel_rfl)
theorem r24_eq : den prog ann 14 (.code r24 :: K) s = mreg prog ann 14 none [] none [] [qC 172 16,qC 173 20,qC 174 22,qF 175 fun s => bldA (plc [(0, 1), (1, 1)]) [.int .i64 0, .int .i64 0] [(0, (s.get 173)), (1, (s.get 174))],qC 176 24,⟨none, none, .w false none fun s => updM prog s.m 86 (s.get 172) (s.get 175) (s.get 176)⟩] K s := (den_reg hf _ K s).trans (by kernel_rfl)
theorem r25_eq : den prog ann 14 (.code r25 :: K) s = mreg prog ann 14 none [] none [] [qC 178 17,qC 179 20,qF 180 fun s => lookP prog s.m 3 (.int .i64 0) (s.get 178) (s.get 179) true,qC 177 180,qF 181 fun s => extA (s.get 177) 0,qF 182 fun s => extA (s.get 177) 1,qC 26 181,qC 27 182] K s := (den_reg hf _ K s).trans (by kernel_rfl)
theorem r26_eq : den prog ann 14 (.code r26 :: K) s = mreg prog ann 14 none [] none [] [qC 183 27,qC 184 183,⟨some 185, some (184, true), .v fun s => some (s.get 26)⟩,⟨some 186, some (184, true), .v fun s => some (s.get 24)⟩,⟨some 187, some (184, true), .v fun s => binA prog .neq 3 (s.get 185) (s.get 186)⟩,qF 188 fun s => pickA (s.get 184) (s.get 187) (.bool false)] K s := (den_reg hf _ K s).trans (by kernel_rfl)
theorem i5_eq : den prog ann 14 (.code i5 :: K) s = ifV prog ann 14 188 i5t i5e K s (s.get 188) := den_if hf (by kernel_rfl) K s
theorem i5t_eq : den prog ann 14 (.code i5t :: K) s = den prog ann 14 (.code r27 :: .code .ret :: K) s := den_flat hf (l := [r27, .ret]) (by kernel_rfl) K s
theorem r27_eq : den prog ann 14 (.code r27 :: K) s = mreg prog ann 14 none [] none [] [qF 2 fun s => some (.bool false)] K s := (den_reg hf _ K s).trans (by kernel_rfl)
theorem i5e_eq : den prog ann 14 (.code i5e :: K) s = den prog ann 14 (K) s := den_flat hf (l := []) (by kernel_rfl) K s
theorem r28_eq : den prog ann 14 (.code r28 :: K) s = mreg prog ann 14 none [] none [] [qC 190 18,qC 191 22,qF 192 fun s => lookP prog s.m 3 (.int .i64 0) (s.get 190) (s.get 191) true,qC 189 192,qF 193 fun s => extA (s.get 189) 0,qF 194 fun s => extA (s.get 189) 1,qC 28 193,qC 29 194] K s := (den_reg hf _ K s).trans (by kernel_rfl)
theorem r29_eq : den prog ann 14 (.code r29 :: K) s = mreg prog ann 14 none [] none [] [qC 195 29,qC 196 195,⟨some 197, some (196, true), .v fun s => some (s.get 28)⟩,⟨some 198, some (196, true), .v fun s => some (s.get 24)⟩,⟨some 199, some (196, true), .v fun s => binA prog .neq 3 (s.get 197) (s.get 198)⟩,qF 200 fun s => pickA (s.get 196) (s.get 199) (.bool false)] K s := (den_reg hf _ K s).trans (by kernel_rfl)
theorem i6_eq : den prog ann 14 (.code i6 :: K) s = ifV prog ann 14 200 i6t i6e K s (s.get 200) := den_if hf (by kernel_rfl) K s
theorem i6t_eq : den prog ann 14 (.code i6t :: K) s = den prog ann 14 (.code r30 :: .code .ret :: K) s := den_flat hf (l := [r30, .ret]) (by kernel_rfl) K s
theorem r30_eq : den prog ann 14 (.code r30 :: K) s = mreg prog ann 14 none [] none [] [qF 2 fun s => some (.bool false)] K s := (den_reg hf _ K s).trans (by kernel_rfl)
theorem i6e_eq : den prog ann 14 (.code i6e :: K) s = den prog ann 14 (K) s := den_flat hf (l := []) (by kernel_rfl) K s
theorem r31_eq : den prog ann 14 (.code r31 :: K) s = mreg prog ann 14 none [] none [] [qC 201 17,qC 202 20,qC 203 18,qC 204 22,qC 205 24,qC 206 24,⟨none, none, .w false none fun s => updM prog s.m 3 (s.get 201) (s.get 202) (s.get 205)⟩,⟨none, none, .w false none fun s => updM prog s.m 3 (s.get 203) (s.get 204) (s.get 206)⟩] K s := (den_reg hf _ K s).trans (by kernel_rfl)
theorem r17_eq : den prog ann 14 (.code r17 :: K) s = mreg prog ann 14 (some [4, 6, 8, 10, 12, 13, 14, 15, 16, 17, 18, 19]) [] none [] [qC 125 19,qF 126 fun s => binA prog .add 3 (s.get 125) (.int .i64 1),qC 19 126] K s := (den_reg hf _ K s).trans (by kernel_rfl)
theorem r32_eq : den prog ann 14 (.code r32 :: K) s = mreg prog ann 14 (some [6, 8, 10, 12, 15, 16, 17, 18]) [] none [] [qC 207 10,qA 208 lenSl 207,⟨some 209, none, .w false none fun s => makeA 1 8 (.int .i64 0) s.m (s.get 208) (s.get 208)⟩,qC 30 209] K s := (den_reg hf _ K s).trans (by kernel_rfl)
theorem r33_eq : den prog ann 14 (.code r33 :: K) s = mreg prog ann 14 none [] none [] [qF 31 fun s => some (.int .i64 0)] K s := (den_reg hf _ K s).trans (by kernel_rfl)
theorem k2_eq (K : List Item) (t : List (Nat × AV)) (m : Mem) : den prog ann 14 (.code k2 :: K) ⟨t, 294, m⟩ = L2 (get t 6) (get t 8) (get t 12) (get t 15) (get t 16) (get t 17) (get t 18) (get t 30) (get t 31) m K := den_loop_enter hf (b := l2) (id := 34) (l := [6, 8, 12, 15, 16, 17, 18, 30, 31]) (by kernel_rfl) (by kernel_rfl) (by kernel_rfl) K _
theorem l2_eq (K : List Item) (t : List (Nat × AV)) (m : Mem) : den prog ann 14 (.inLoop l2 :: .inBlock 2 :: K) ⟨t, 294, m⟩ = L2 (get t 6) (get t 8) (get t 12) (get t 15) (get t 16) (get t 17) (get t 18) (get t 30) (get t 31) m K := den_loop_again hf (id := 34) (l := [6, 8, 12, 15, 16, 17, 18, 30, 31]) (by kernel_rfl) (by kernel_rfl) (.inBlock 2 :: K) _
theorem L2_eq (x6 x8 x12 x15 x16 x17 x18 x30 x31 : AV) (m : Mem) (K : List Item) : L2 x6 x8 x12 x15 x16 x17 x18 x30 x31 m K = den prog ann 14 (.code r34 :: .code i7 :: .code k3 :: .code r35 :: .inLoop l2 :: .inBlock 2 :: K) ⟨[(6, x6), (8, x8), (12, x12), (15, x15), (16, x16), (17, x17), (18, x18), (30, x30), (31, x31)], 294, m⟩ := den_flat hf (l := [r34, i7, k3, r35]) (by kernel_rfl) _ _
theorem r34_eq : den prog ann 14 (.code r34 :: K) s = mreg prog ann 14 (some [6, 8, 12, 15, 16, 17, 18, 30, 31]) [] none [] [qC 210 31,qC 211 6,qA 212 lenSl 211,qB 213 (binA prog .lss 3) 210 212] K s := (den_reg hf _ K s).trans (by kernel_rfl)
theorem i7_eq : den prog ann 14 (.code i7 :: K) s = ifV prog ann 14 213 i7t i7e K s (s.get 213) := den_if hf (by kernel_rfl) K s
theorem i7t_eq : den prog ann 14 (.code i7t :: K) s = den prog ann 14 (K) s := den_flat hf (l := []) (by kernel_rfl) K s
theorem i7e_eq : den prog ann 14 (.code i7e :: K) s = den prog ann 14 (.code (.exit 2) :: K) s := den_flat hf (l := [(.exit 2)]) (by kernel_rfl) K s
theorem k3_eq : den prog ann 14 (.code k3 :: K) s = den prog ann 14 (.code r36 :: .code k4 :: .inBlock 3 :: K) s := den_blk hf (b := blkOf k3) (l := [r36, k4]) (by kernel_rfl) (by kernel_rfl) K s
theorem r36_eq : den prog ann 14 (.code r36 :: K) s = mreg prog ann 14 none [] none [] [qF 32 fun s => some (.int .i64 0)] K s := (den_reg hf _ K s).trans (by kernel_rfl)
theorem k4_eq (K : List Item) (t : List (Nat × AV)) (m : Mem) : den prog ann 14 (.code k4 :: K) ⟨t, 294, m⟩ = L4 (get t 6) (get t 8) (get t 12) (get t 15) (get t 16) (get t 17) (get t 18) (get t 30) (get t 31) (get t 32) m K := den_loop_enter hf (b := l4) (id := 37) (l := [6, 8, 12, 15, 16, 17, 18, 30, 31, 32]) (by kernel_rfl) (by kernel_rfl) (by kernel_rfl) K _
theorem l4_eq (K : List Item) (t : List (Nat × AV)) (m : Mem) : den prog ann 14 (.inLoop l4 :: .inBlock 4 :: K) ⟨t, 294, m⟩ = L4 (get t 6) (get t 8) (get t 12) (get t 15) (get t 16) (get t 17) (get t 18) (get t 30) (get t 31) (get t 32) m K := den_loop_again hf (id := 37) (l := [6, 8, 12, 15, 16, 17, 18, 30, 31, 32]) (by kernel_rfl) (by kernel_rfl) (.inBlock 4 :: K) _
theorem L4_eq (x6 x8 x12 x15 x16 x17 x18 x30 x31 x32 : AV) (m : Mem) (K : List Item) : L4 x6 x8 x12 x15 x16 x17 x18 x30 x31 x32 m K = den prog ann 14 (.code r37 :: .code i8 :: .code k5 :: .code r38 :: .inLoop l4 :: .inBlock 4 :: K) ⟨[(6, x6), (8, x8), (12, x12), (15, x15), (16, x16), (17, x17), (18, x18), (30, x30), (31, x31), (32, x32)], 294, m⟩ := den_flat hf (l := [r37, i8, k5, r38]) (by kernel_rfl) _ _
theorem r37_eq : den prog ann 14 (.code r37 :: K) s = mreg prog ann 14 (some [6, 8, 12, 15, 16, 17, 18, 30, 31, 32]) [] none [] [qC 216 32,qC 217 8,qA 218 lenSl 217,qB 219 (binA prog .lss 3) 216 218] K s := (den_reg hf _ K s).trans (by kernel_rfl)
theorem i8_eq : den prog ann 14 (.code i8 :: K) s = ifV prog ann 14 219 i8t i8e K s (s.get 219) := den_if hf (by kernel_rfl) K s
theorem i8t_eq : den prog ann 14 (.code i8t :: K) s = den prog ann 14 (K) s := den_flat hf (l := []) (by kernel_rfl) K s
theorem i8e_eq : den prog ann 14 (.code i8e :: K) s = den prog ann 14 (.code (.exit 4) :: K) s := den_flat hf (l := [(.exit 4)]) (by kernel_rfl) K s
theorem k5_eq : den prog ann 14 (.code k5 :: K) s = den prog ann 14 (.code r39 :: .code r40 :: .code i9 :: .code r43 :: .code i11 :: .code r45 :: .inBlock 5 :: K) s := den_blk hf (b := blkOf k5) (l := [r39, r40, i9, r43, i11, r45]) (by kernel_rfl) (by kernel_rfl) K s
theorem r39_eq : den prog ann 14 (.code r39 :: K) s = mreg prog ann 14 none [] none [] [qC 222 15,qC 223 31,qC 224 32,qF 225 fun s => bldA (plc [(0, 1), (1, 1)]) [.int .i64 0, .int .i64 0] [(0, (s.get 223)), (1, (s.get 224))],qF 226 fun s => lookP prog s.m 86 (.int .i64 0) (s.get 222) (s.get 225) false,qC 33 226] K s := (den_reg hf _ K s).trans (by kernel_rfl)
theorem r40_eq : den prog ann 14 (.code r40 :: K) s = mreg prog ann 14 none [] none [] [qC 227 6,qC 228 31,qB 229 (idxSl 1) 227 228,qA 230 (loadF false 1) 229,qA 231 lenSl 230,qF 232 fun s => binA prog .eql 3 (s.get 231) (.int .i64 0),qC 233 232,⟨some 234, some (233, false), .v fun s => some (s.get 8)⟩,⟨some 235, some (233, false), .v fun s => some (s.get 32)⟩,⟨some 236, some (233, false), .v fun s => idxSl 1 (s.get 234) (s.get 235)⟩,⟨some 237, some (233, false), .v fun s => loadF false 1 (s.get 236)⟩,⟨some 238, some (233, false), .v fun s => lenSl (s.get 237)⟩,⟨some 239, some (233, false), .v fun s => binA prog .eql 3 (s.get 238) (.int .i64 0)⟩,qF 240 fun s => pickA (s.get 233) (.bool true) (s.get 239),qC 241 240,⟨some 242, some (241, false), .v fun s => some (s.get 12)⟩,⟨some 243, some (241, false), .v fun s => some (s.get 6)⟩,⟨some 244, some (241, false), .v fun s => some (s.get 31)⟩,⟨some 245, some (241, false), .v fun s => idxSl 1 (s.get 243) (s.get 244)⟩,⟨some 246, some (241, false), .v fun s => loadF false 1 (s.get 245)⟩,⟨some 247, some (241, false), .v fun s => idxSl 1 (s.get 246) (.int .i64 0)⟩,⟨some 248, some (241, false), .v fun s => loadF false 1 (s.get 247)⟩,⟨some 249, some (241, false), .v fun s => lookP prog s.m 9 (.int .i64 0) (s.get 242) (s.get 248) false⟩,⟨some 250, some (241, false), .v fun s => some (s.get 31)⟩,⟨some 251, some (241, false), .v fun s => binA prog .neq 3 (s.get 249) (s.get 250)⟩,qF 252 fun s => pickA (s.get 241) (.bool true) (s.get 251),qC 253 252,⟨some 254, some (253, false), .v fun s => some (s.get 17)⟩,⟨some 255, some (253, false), .v fun s => some (s.get 31)⟩,⟨some 256, some (253, false), .v fun s => lookP prog s.m 3 (.int .i64 0) (s.get 254) (s.get 255) false⟩,⟨some 257, some (253, false), .v fun s => some (s.get 18)⟩,⟨some 258, some (253, false), .v fun s => some (s.get 32)⟩,⟨some 259, some (253, false), .v fun s => lookP prog s.m 3 (.int .i64 0) (s.get 257) (s.get 258) false⟩,⟨some 260, some (253, false), .v fun s => binA prog .neq 3 (s.get 256) (s.get 259)⟩,qF 261 fun s => pickA (s.get 253) (.bool true) (s.get 260)] K s := (den_reg hf _ K s).trans (by kernel_rfl)
theorem i9_eq : den prog ann 14 (.code i9 :: K) s = ifV prog ann 14 261 i9t i9e K s (s.get 261) := den_if hf (by kernel_rfl) K s
theorem i9t_eq : den prog ann 14 (.code i9t :: K) s = den prog ann 14 (.code r41 :: .code i10 :: .code (.exit 5) :: K) s := den_flat hf (l := [r41, i10, (.exit 5)]) (by kernel_rfl) K s
theorem r41_eq : den prog ann 14 (.code r41 :: K) s = mreg prog ann 14 none [] none [] [qC 262 33,qF 263 fun s => binA prog .neq 3 (s.get 262) (.int .i64 0)] K s := (den_reg hf _ K s).trans (by kernel_rfl)
theorem i10_eq : den prog ann 14 (.code i10 :: K) s = ifV prog ann 14 263 i10t i10e K s (s.get 263) := den_if hf (by kernel_rfl) K s
theorem i10t_eq : den prog ann 14 (.code i10t :: K) s = den prog ann 14 (.code r42 :: .code .ret :: K) s := den_flat hf (l := [r42, .ret]) (by kernel_rfl) K s
theorem r42_eq : den prog ann 14 (.code r42 :: K) s = mreg prog ann 14 none [] none [] [qF 2 fun s => some (.bool false)] K s := (den_reg hf _ K s).trans (by kernel_rfl)
theorem i10e_eq : den prog ann 14 (.code i10e :: K) s = den prog ann 14 (K) s := den_flat hf (l := []) (by kernel_rfl) K s
theorem i9e_eq : den prog ann 14 (.code i9e :: K) s = den prog ann 14 (K) s := den_flat hf (l := []) (by kernel_rfl) K s
theorem r43_eq : den prog ann 14 (.code r43 :: K) s = mreg prog ann 14 none [] none [] [qC 264 33,qF 265 fun s => binA prog .eql 3 (s.get 264) (.int .i64 0),qC 266 265,⟨some 267, some (266, false), .v fun s => some (s.get 30)⟩,⟨some 268, some (266, false), .v fun s => some (s.get 17)⟩,⟨some 269, some (266, false), .v fun s => some (s.get 31)⟩,⟨some 270, some (266, false), .v fun s => lookP prog s.m 3 (.int .i64 0) (s.get 268) (s.get 269) false⟩,⟨some 271, some (266, false), .v fun s => idxSl 1 (s.get 267) (s.get 270)⟩,⟨some 272, some (266, false), .v fun s => loadA false 1 s.m (s.get 271)⟩,⟨some 273, some (266, false), .v fun s => binA prog .neq 3 (s.get 272) (.int .i64 0)⟩,⟨some 274, some (266, false), .v fun s => some (s.get 273)⟩,⟨some 275, some (274, true), .v fun s => some (s.get 30)⟩,⟨some 276, some (274, true), .v fun s => some (s.get 17)⟩,⟨some 277, some (274, true), .v fun s => some (s.get 31)⟩,⟨some 278, some (274, true), .v fun s => lookP prog s.m 3 (.int .i64 0) (s.get 276) (s.get 277) false⟩,⟨some 279, some (274, true), .v fun s => idxSl 1 (s.get 275) (s.get 278)⟩,⟨some 280, some (274, true), .v fun s => loadA false 1 s.m (s.get 279)⟩,⟨some 281, some (274, true), .v fun s => some (s.get 33)⟩,⟨some 282, some (274, true), .v fun s => binA prog .neq 3 (s.get 280) (s.get 281)⟩,⟨some 283, some (266, false), .v fun s => pickA (s.get 274) (s.get 282) (.bool false)⟩,qF 284 fun s => pickA (s.get 266) (.bool true) (s.get 283)] K s := (den_reg hf _ K s).trans (by kernel_rfl)
theorem i11_eq : den prog ann 14 (.code i11 :: K) s = ifV prog ann 14 284 i11t i11e K s (s.get 284) := den_if hf (by kernel_rfl) K s
theorem i11t_eq : den prog ann 14 (.code i11t :: K) s = den prog ann 14 (.code r44 :: .code .ret :: K) s := den_flat hf (l := [r44, .ret]) (by kernel_rfl) K s
theorem r44_eq : den prog ann 14 (.code r44 :: K) s = mreg prog ann 14 none [] none [] [qF 2 fun s => some (.bool false)] K s := (den_reg hf _ K s).trans (by kernel_rfl)
theorem i11e_eq : den prog ann 14 (.code i11e :: K) s = den prog ann 14 (K) s := den_flat hf (l := []) (by kernel_rfl) K s
theorem r45_eq : den prog ann 14 (.code r45 :: K) s = mreg prog ann 14 none [] none [] [qC 285 30,qC 286 17,qC 287 31,qF 288 fun s => lookP prog s.m 3 (.int .i64 0) (s.get 286) (s.get 287) false,qC 289 33,qB 290 (idxSl 1) 285 288,⟨none, none, .w false none fun s => stA false 1 s.m (s.get 290) (s.get 289)⟩] K s := (den_reg hf _ K s).trans (by kernel_rfl)
theorem r38_eq : den prog ann 14 (.code r38 :: K) s = mreg prog ann 14 (some [6, 8, 12, 15, 16, 17, 18, 30, 31, 32]) [] none [] [qC 220 32,qF 221 fun s => binA prog .add 3 (s.get 220) (.int .i64 1),qC 32 221] K s := (den_reg hf _ K s).trans (by kernel_rfl)
theorem r35_eq : den prog ann 14 (.code r35 :: K) s = mreg prog ann 14 (some [6, 8, 12, 15, 16, 17, 18, 30, 31]) [] none [] [qC 214 31,qF 215 fun s => binA prog .add 3 (s.get 214) (.int .i64 1),qC 31 215] K s := (den_reg hf _ K s).trans (by kernel_rfl)
theorem r46_eq : den prog ann 14 (.code r46 :: K) s = mreg prog ann 14 (some [16]) [] none [] [qC 291 16,qF 292 fun s => mapLenA s.m (s.get 291),qF 293 fun s => binA prog .gtr 3 (s.get 292) (.int .i64 0),qC 2 293] K s := (den_reg hf _ K s).trans (by kernel_rfl)
theorem ret_eq : den prog ann 14 (.code .ret :: K) s = finM true [fun s => some (s.get 2)] s := (den_ret hf K s).trans (by kernel_rfl)
theorem nil_eq (s : St) : den prog ann 14 [] s = finM true [fun s => some (s.get 2)] s := (den_nil hf s).trans (by kernel_rfl)
theorem inBlock_eq (id : Nat) (K : List Item) (s : St) : den prog ann 14 (.inBlock id :: K) s = den prog ann 14 K s := den_inBlock hf id K s
theorem exit_eq (id : Nat) (K : List Item) (s : St) : den prog ann 14 (.code (.exit id) :: K) s = exitV prog ann 14 (exitTo id K) s := den_exitV hf id K s
theorem call_eq (v0 : AV) (m : Mem) (h : closedL [v0] = true) : denC prog ann 14 [v0] m = (den prog ann 14 [.code b] ⟨[(0, v0)], 294, Mem.empty⟩).bind fun r => some (r.1, m) := (denC_pure hf (b := b) (by kernel_rfl) (by kernel_rfl) (by kernel_rfl) h m).trans (by kernel_rfl)
theorem pure_eq : (ann 14).pure = true := by kernel_rfl
attribute [simp] b_eq r0_eq r1_eq r2_eq r3_eq r4_eq r5_eq r6_eq i0_eq i0t_eq r7_eq i0e_eq r8_eq i1_eq i1t_eq r9_eq i1e_eq r10_eq r11_eq i2_eq i2t_eq r12_eq i2e_eq r13_eq r14_eq r15_eq k0_eq l0_eq r16_eq i3_eq i3t_eq i3e_eq k1_eq r18_eq r19_eq r20_eq r21_eq i4_eq i4t_eq r22_eq i4e_eq r23_eq r24_eq r25_eq r26_eq i5_eq i5t_eq r27_eq i5e_eq r28_eq r29_eq i6_eq i6t_eq r30_eq i6e_eq r31_eq r17_eq r32_eq r33_eq k2_eq l2_eq r34_eq i7_eq i7t_eq i7e_eq k3_eq r36_eq k4_eq l4_eq r37_eq i8_eq i8t_eq i8e_eq k5_eq r39_eq r40_eq i9_eq i9t_eq r41_eq i10_eq i10t_eq r42_eq i10e_eq i9e_eq r43_eq i11_eq i11t_eq r44_eq i11e_eq r45_eq r38_eq r35_eq r46_eq ret_eq nil_eq inBlock_eq exit_eq pure_eq
end
end l07_BrandGreen
namespace l07_spread
noncomputable section
variable (K : List Item) (s : St)
def b : Code := (Try.f51.body).getD .skip
theorem hf : prog.funcs[51]? = some Try.f51 := by kernel_rfl
def r0 := findReg b 0
def r1 := findReg b 1
def r2 := findReg b 2
def k0 := findBlk b 0
def l0 := loopOf k0
def L0 (x0 x3 x4 : AV) (m : Mem) (K : List Item) : Option Res := den prog ann 51 (.code l0 :: .inLoop l0 :: .inBlock 0 :: K) ⟨[(0, x0), (3, x3), (4, x4)], 32, m⟩
def r3 := findReg b 3
def i0 := findCond b 0
def i0t := thenOf i0
def i0e := elseOf i0
def k1 := findBlk b 1
def r5 := findReg b 5
def k2 := findBlk b 2
def l2 := loopOf k2
def L2 (x0 x3 x4 x5 : AV) (m : Mem) (K : List Item) : Option Res := den prog ann 51 (.code l2 :: .inLoop l2 :: .inBlock 2 :: K) ⟨[(0, x0), (3, x3), (4, x4), (5, x5)], 32, m⟩
def r6 := findReg b 6
def i1 := findCond b 1
def i1t := thenOf i1
def i1e := elseOf i1
def k3 := findBlk b 3
def r8 := findReg b 8
def r7 := findReg b 7
def r4 := findReg b 4
def r9 := findReg b 9
theorem b_eq : den prog ann 51 (.code b :: K) s = den prog ann 51 (.code r0 :: .code r1 :: .code r2 :: .code k0 :: .code r9 :: .code .ret :: K) s := den_flat hf (l := [r0, r1, r2, k0, r9, .ret]) (by kernel_rfl) K s
theorem r0_eq : den prog ann 51 (.code r0 :: K) s = mreg prog ann 51 none [] none [] [qF 2 fun s => some (.nilm)] K s := (den_reg hf _ K s).trans (by kernel_rfl)
theorem r1_eq : den prog ann 51 (.code r1 :: K) s = mreg prog ann 51 none [] none [] [⟨some 6, none, .w false none fun s => some (.map s.m.nx, s.m.new (.map 0 [] []))⟩,qC 3 6] K s := (den_reg hf _ K s).trans (by kernel_rfl)
theorem r2_eq : den prog ann 51 (.code r2 :: K) s = mreg prog ann 51 none [] none [] [qF 4 fun s => some (.int .i64 0)] K s := (den_reg hf _ K s).trans (by kernel_rfl)
theorem k0_eq (K : List Item) (t : List (Nat × AV)) (m : Mem) : den prog ann 51 (.code k0 :: K) ⟨t, 32, m⟩ = L0 (get t 0) (get t 3) (get t 4) m K := den_loop_enter hf (b := l0) (id := 3) (l := [0, 3, 4]) (by kernel_rfl) (by kernel_rfl) (by kernel_rfl) K _
theorem l0_eq (K : List Item) (t : List (Nat × AV)) (m : Mem) : den prog ann 51 (.inLoop l0 :: .inBlock 0 :: K) ⟨t, 32, m⟩ = L0 (get t 0) (get t 3) (get t 4) m K := den_loop_again hf (id := 3) (l := [0, 3, 4]) (by kernel_rfl) (by kernel_rfl) (.inBlock 0 :: K) _
theorem L0_eq (x0 x3 x4 : AV) (m : Mem) (K : List Item) : L0 x0 x3 x4 m K = den prog ann 51 (.code r3 :: .code i0 :: .code k1 :: .code r4 :: .inLoop l0 :: .inBlock 0 :: K) ⟨[(0, x0), (3, x3), (4, x4)], 32, m⟩ := den_flat hf (l := [r3, i0, k1, r4]) (by kernel_rfl) _ _
theorem r3_eq : den prog ann 51 (.code r3 :: K) s = mreg prog ann 51 (some [0, 3, 4]) [] none [] [qC 7 4,qC 8 0,qA 9 lenSl 8,qB 10 (binA prog .lss 3) 7 9] K s := (den_reg hf _ K s).trans (by kernel_rfl)
theorem i0_eq : den prog ann 51 (.code i0 :: K) s = ifV prog ann 51 10 i0t i0e K s (s.get 10) := den_if hf (by kernel_rfl) K s
theorem i0t_eq : den prog ann 51 (.code i0t :: K) s = den prog ann 51 (K) s := den_flat hf (l := []) (by kernel_rfl) K s
theorem i0e_eq : den prog ann 51 (.code i0e :: K) s = den prog ann 51 (.code (.exit 0) :: K) s := den_flat hf (l := [(.exit 0)]) (by kernel_rfl) K s
theorem k1_eq : den prog ann 51 (.code k1 :: K) s = den prog ann 51 (.code r5 :: .code k2 :: .inBlock 1 :: K) s := den_blk hf (b := blkOf k1) (l := [r5, k2]) (by kernel_rfl) (by kernel_rfl) K s
theorem r5_eq : den prog ann 51 (.code r5 :: K) s = mreg prog ann 51 none [] none [] [qF 5 fun s => some (.int .i64 0)] K s := (den_reg hf _ K s).trans (by kernel_rfl)
theorem k2_eq (K : List Item) (t : List (Nat × AV)) (m : Mem) : den prog ann 51 (.code k2 :: K) ⟨t, 32, m⟩ = L2 (get t 0) (get t 3) (get t 4) (get t 5) m K := den_loop_enter hf (b := l2) (id := 6) (l := [0, 3, 4, 5]) (by kernel_rfl) (by kernel_rfl) (by kernel_rfl) K _
theorem l2_eq (K : List Item) (t : List (Nat × AV)) (m : Mem) : den prog ann 51 (.inLoop l2 :: .inBlock 2 :: K) ⟨t, 32, m⟩ = L2 (get t 0) (get t 3) (get t 4) (get t 5) m K := den_loop_again hf (id := 6) (l := [0, 3, 4, 5]) (by kernel_rfl) (by kernel_rfl) (.inBlock 2 :: K) _
theorem L2_eq (x0 x3 x4 x5 : AV) (m : Mem) (K : List Item) : L2 x0 x3 x4 x5 m K = den prog ann 51 (.code r6 :: .code i1 :: .code k3 :: .code r7 :: .inLoop l2 :: .inBlock 2 :: K) ⟨[(0, x0), (3, x3), (4, x4), (5, x5)], 32, m⟩ := den_flat hf (l := [r6, i1, k3, r7]) (by kernel_rfl) _ _
theorem r6_eq : den prog ann 51 (.code r6 :: K) s = mreg prog ann 51 (some [0, 3, 4, 5]) [] none [] [qC 13 5,qC 14 0,qC 15 4,qB 16 (idxSl 1) 14 15,qA 17 (loadF false 1) 16,qA 18 lenSl 17,qB 19 (binA prog .lss 3) 13 18] K s := (den_reg hf _ K s).trans (by kernel_rfl)
theorem i1_eq : den prog ann 51 (.code i1 :: K) s = ifV prog ann 51 19 i1t i1e K s (s.get 19) := den_if hf (by kernel_rfl) K s
theorem i1t_eq : den prog ann 51 (.code i1t :: K) s = den prog ann 51 (K) s := den_flat hf (l := []) (by kernel_rfl) K s
theorem i1e_eq : den prog ann 51 (.code i1e :: K) s = den prog ann 51 (.code (.exit 2) :: K) s := den_flat hf (l := [(.exit 2)]) (by kernel_rfl) K s
theorem k3_eq : den prog ann 51 (.code k3 :: K) s = den prog ann 51 (.code r8 :: .inBlock 3 :: K) s := den_blk hf (b := blkOf k3) (l := [r8]) (by kernel_rfl) (by kernel_rfl) K s
theorem r8_eq : den prog ann 51 (.code r8 :: K) s = mreg prog ann 51 none [] none [] [qC 22 3,qC 23 0,qC 24 4,qB 25 (idxSl 1) 23 24,qA 26 (loadF false 1) 25,qC 27 5,qB 28 (idxSl 1) 26 27,qA 29 (loadF false 1) 28,qC 30 4,⟨none, none, .w false none fun s => updM prog s.m 9 (s.get 22) (s.get 29) (s.get 30)⟩] K s := (den_reg hf _ K s).trans (by kernel_rfl)
theorem r7_eq : den prog ann 51 (.code r7 :: K) s = mreg prog ann 51 (some [0, 3, 4, 5]) [] none [] [qC 20 5,qF 21 fun s => binA prog .add 3 (s.get 20) (.int .i64 1),qC 5 21] K s := (den_reg hf _ K s).trans (by kernel_rfl)
theorem r4_eq : den prog ann 51 (.code r4 :: K) s = mreg prog ann 51 (some [0, 3, 4]) [] none [] [qC 11 4,qF 12 fun s => binA prog .add 3 (s.get 11) (.int .i64 1),qC 4 12] K s := (den_reg hf _ K s).trans (by kernel_rfl)
theorem r9_eq : den prog ann 51 (.code r9 :: K) s = mreg prog ann 51 (some [3]) [] none [] [qC 31 3,qC 2 31] K s := (den_reg hf _ K s).trans (by kernel_rfl)
theorem ret_eq : den prog ann 51 (.code .ret :: K) s = finM true [fun s => some (s.get 2)] s := (den_ret hf K s).trans (by kernel_rfl)
theorem nil_eq (s : St) : den prog ann 51 [] s = finM true [fun s => some (s.get 2)] s := (den_nil hf s).trans (by kernel_rfl)
theorem inBlock_eq (id : Nat) (K : List Item) (s : St) : den prog ann 51 (.inBlock id :: K) s = den prog ann 51 K s := den_inBlock hf id K s
theorem exit_eq (id : Nat) (K : List Item) (s : St) : den prog ann 51 (.code (.exit id) :: K) s = exitV prog ann 51 (exitTo id K) s := den_exitV hf id K s
theorem call_eq (v0 : AV) (m : Mem) (h : closedL [v0] = true) : denC prog ann 51 [v0] m = (den prog ann 51 [.code b] ⟨[(0, v0)], 32, Mem.empty⟩).bind fun r => some (r.1, m) := (denC_pure hf (b := b) (by kernel_rfl) (by kernel_rfl) (by kernel_rfl) h m).trans (by kernel_rfl)
theorem pure_eq : (ann 51).pure = true := by kernel_rfl
attribute [simp] b_eq r0_eq r1_eq r2_eq k0_eq l0_eq r3_eq i0_eq i0t_eq i0e_eq k1_eq r5_eq k2_eq l2_eq r6_eq i1_eq i1t_eq i1e_eq k3_eq r8_eq r7_eq r4_eq r9_eq ret_eq nil_eq inBlock_eq exit_eq pure_eq
end
end l07_spread
end Go.Proofs.Ythnpflkpjimkfaa

/-
  MAPS IN MEMORY AS FUNCTIONS; WHICH CLASS EACH WORD IS IN: what the law's function returns. Conditions: none.
-/
namespace Go.Proofs.Ythnpflkpjimkfaa
open Go.AM
open Go.Proofs.Try (prog)
set_option linter.all false
set_option maxRecDepth 100000
set_option maxHeartbeats 8000000
theorem sc9 (s : List UInt8) : scV prog 9 (.str s) = true := by simp [scV, u9]
theorem keysW (ok : List UInt8 → Prop) : Keys 9 AV.str ok := by
  refine ⟨fun a b _ _ => ?_, fun a _ => sc9 a⟩
  by_cases e : a = b
  · simp [keyEq, sc9, eqSc, e]
  · simp [keyEq, sc9, eqSc, e]
section
variable {t : TypeId} {α β : Type} [DecidableEq α] {enc : α → AV} {ok : α → Prop} {ev : β → AV}
theorem lkP_app {c : α} {v : β} : ∀ {ks : List α} {vs : List β}, ks.length = vs.length → c ∉ ks → ∀ x, lkP (ks ++ [c]) (vs ++ [v]) x = if x = c then some v else lkP ks vs x
  | [], [], _, _, x => by simp [lkP]
  | [], _ :: _, h, _, _ => by simp at h
  | _ :: _, [], h, _, _ => by simp at h
  | k :: ks, w :: vs, h, hm, x => by
    simp only [List.mem_cons, not_or] at hm
    have ih := lkP_app (c := c) (v := v) (ks := ks) (vs := vs) (by simpa using h) hm.2 x
    simp only [List.cons_append, lkP, ih]
    by_cases e : x = k
    · have : ¬ x = c := fun g => hm.1 (by rw [← g, e])
      rw [if_pos e, if_neg this, if_pos e]
    · rw [if_neg e, if_neg e]
theorem setK_gen (hk : Keys t enc ok) (v : β) : ∀ {ks : List α} {vs : List β} {c : α}, (∀ a ∈ ks, ok a) → ok c → ks.length = vs.length →
    ∃ ks' vs', setK prog t (enc c) (ev v) (ks.map enc) (vs.map ev) = some (ks'.map enc, vs'.map ev) ∧ ((c ∈ ks ∧ ks' = ks) ∨ (c ∉ ks ∧ ks' = ks ++ [c])) ∧ ks'.length = vs'.length ∧ ∀ x, lkP ks' vs' x = if x = c then some v else lkP ks vs x
  | [], [], c, _, _, _ => ⟨[c], [v], rfl, .inr ⟨by simp, rfl⟩, rfl, fun x => by simp [lkP]⟩
  | [], _ :: _, _, _, _, h => by simp at h
  | _ :: _, [], _, _, _, h => by simp at h
  | k :: ks, w :: vs, c, h, hc, hl => by
    by_cases e : c = k
    · subst e
      refine ⟨c :: ks, v :: vs, ?_, .inl ⟨by simp, rfl⟩, by simpa using hl, fun x => ?_⟩
      · simp only [List.map_cons, setK, hk.eq c c hc hc, Option.bind_some]
        simp
      · simp only [lkP]
        by_cases g : x = c
        · rw [if_pos g, if_pos g]
        · rw [if_neg g, if_neg g, if_neg g]
    · obtain ⟨ks', vs', h1, h2, h3, h4⟩ := setK_gen hk v (ks := ks) (vs := vs) (c := c) (fun a ha => h a (by simp [ha])) hc (by simpa using hl)
      refine ⟨k :: ks', w :: vs', ?_, ?_, by simp [h3], fun x => ?_⟩
      · simp only [List.map_cons, setK, hk.eq c k hc (h k (by simp)), Option.bind_some]
        simp [e, h1]
      · rcases h2 with ⟨a, b⟩ | ⟨a, b⟩
        · exact .inl ⟨by simp [a], by rw [b]⟩
        · exact .inr ⟨by simp [e, a], by rw [b]; rfl⟩
      · simp only [lkP, h4 x]
        by_cases g : x = k
        · have : ¬ x = c := fun q => e (by rw [← q, g])
          rw [if_pos g, if_neg this, if_pos g]
        · rw [if_neg g, if_neg g]
structure Mf (enc : α → AV) (ok : α → Prop) (ev : β → AV) (h : Nat → Option AObj) (id : Nat) (f : α → Option β) : Prop where
  ex : ∃ g ks vs, h id = some (.map g (ks.map enc) (vs.map ev)) ∧ ks.Nodup ∧ (∀ a ∈ ks, ok a) ∧ ks.length = vs.length ∧ ∀ c, lkP ks vs c = f c
variable {h : Nat → Option AObj} {id : Nat} {f : α → Option β}
theorem Mf.fr {h' : Nat → Option AObj} (M : Mf enc ok ev h id f) (e : h' id = h id) : Mf enc ok ev h' id f := by
  obtain ⟨g, ks, vs, h1, r⟩ := M.ex
  exact ⟨g, ks, vs, by rw [e, h1], r⟩
theorem Mf.new (e : h id = some (.map 0 [] [])) : Mf enc ok ev h id (fun _ => none) := ⟨0, [], [], e, by simp, by simp, rfl, fun _ => rfl⟩
def lkZ (ev : β → AV) (z : AV) (b : Bool) : Option β → AV
  | some v => bif b then .tup [ev v, .bool true] else ev v
  | none => bif b then .tup [z, .bool false] else z
theorem Mf.look (hk : Keys t enc ok) (M : Mf enc ok ev h id f) {c : α} (hc : ok c) (z : AV) (b : Bool) (nx : Nat) : lookP prog ⟨h, nx⟩ t z (.map id) (enc c) b = some (lkZ ev z b (f c)) := by
  obtain ⟨g, ks, vs, h1, h2, h3, h4, h5⟩ := M.ex
  simp only [lookP, hk.key c hc, cond_true, lookA, h1, findK_of hk h3 hc h4, Option.bind_some, h5 c]
  cases f c <;> rfl
theorem look_f (hk : Keys t enc ok) {ks : List α} {vs : List β} (h3 : ∀ a ∈ ks, ok a) (h4 : ks.length = vs.length) {c : α} (hc : ok c) (z : AV) (b : Bool) (m : Mem) : lookP prog m t z (.fmap (ks.map enc) (vs.map ev)) (enc c) b = some (lkZ ev z b (lkP ks vs c)) := by
  simp only [lookP, hk.key c hc, cond_true, lookA, findK_of hk h3 hc h4, Option.bind_some]
  cases lkP ks vs c <;> rfl
def putF (f : α → Option β) (c : α) (v : β) : α → Option β := fun x => if x = c then some v else f x
theorem Mf.put (hk : Keys t enc ok) (M : Mf enc ok ev h id f) {c : α} (hc : ok c) (v : β) : ∃ o, (∀ nx, updM prog ⟨h, nx⟩ t (.map id) (enc c) (ev v) = some (.tup [], ⟨upd h id o, nx⟩)) ∧ ∀ h', h' id = o → Mf enc ok ev h' id (putF f c v) := by
  obtain ⟨g, ks, vs, h1, h2, h3, h4, h5⟩ := M.ex
  obtain ⟨ks', vs', e1, e2, e3, e4⟩ := setK_gen (ev := ev) hk v h3 hc h4
  refine ⟨some (.map (g + 1) (ks'.map enc) (vs'.map ev)), fun nx => ?_, fun h' eh => ⟨g + 1, ks', vs', eh, ?_, ?_, e3, fun x => by rw [e4, h5, putF]⟩⟩
  · simp only [updM, updP, hk.key c hc, cond_true, h1, e1, Option.bind_some, Option.map_some]
    rfl
  · rcases e2 with ⟨a, b⟩ | ⟨a, b⟩
    · rw [b]; exact h2
    · rw [b, List.nodup_append]
      exact ⟨h2, by simp, fun x hx y hy => by
        simp at hy; subst hy
        intro e; subst e; exact a hx⟩
  · rcases e2 with ⟨a, b⟩ | ⟨a, b⟩
    · rw [b]; exact h3
    · rw [b]
      intro x hx
      rcases List.mem_append.1 hx with hx | hx
      · exact h3 x hx
      · simp at hx; rw [hx]; exact hc
theorem findI_gen (hk : Keys t enc ok) : ∀ {ks : List α} {c : α} (j : Nat), (∀ a ∈ ks, ok a) → ok c → findI prog t (enc c) (ks.map enc) j = some (if c ∈ ks then some (j + ks.idxOf c) else none)
  | [], c, j, _, _ => rfl
  | k :: ks, c, j, h, hc => by
    have ih := findI_gen hk (ks := ks) (c := c) (j + 1) (fun a ha => h a (by simp [ha])) hc
    by_cases e : c = k
    · subst e
      simp only [List.map_cons, findI, hk.eq c c hc hc, Option.bind_some]
      simp
    · have e' : ¬ k = c := fun g => e g.symm
      have e2 : (k == c) = false := beq_eq_false_iff_ne.2 e'
      have e3 : keyEq prog t (enc c) (enc k) = some false := by rw [hk.eq c k hc (h k (by simp)), decide_eq_false e]
      simp only [List.map_cons, findI, e3, Option.bind_some, cond_false, ih, List.mem_cons, e, false_or, List.idxOf_cons, e2]
      by_cases g : c ∈ ks
      · rw [if_pos g, if_pos g]; congr 2; omega
      · rw [if_neg g, if_neg g]
theorem lkP_mem {ks : List α} {vs : List β} {c : α} (hl : ks.length = vs.length) (hn : ks.Nodup) (hm : c ∈ ks) : ∃ w, vs[ks.idxOf c]? = some w ∧ lkP ks vs c = some w := by
  have h2 : ks.idxOf c < ks.length := List.idxOf_lt_length_iff.2 hm
  have h3 : ks[ks.idxOf c]? = some c := by rw [List.getElem?_eq_getElem h2]; simp
  have h4 : ks.idxOf c < vs.length := by omega
  exact ⟨vs[ks.idxOf c], List.getElem?_eq_getElem h4, lkP_at hn h3 (List.getElem?_eq_getElem h4)⟩
theorem lkP_set : ∀ {ks : List α} {vs : List β} {c : α} (v : β), ks.length = vs.length → ks.Nodup → c ∈ ks → ∀ x, lkP ks (vs.set (ks.idxOf c) v) x = if x = c then some v else lkP ks vs x
  | [], _, c, v, _, _, h, _ => by simp at h
  | _ :: _, [], _, _, h, _, _, _ => by simp at h
  | k :: ks, w :: vs, c, v, hl, hn, hm, x => by
    rw [List.nodup_cons] at hn
    by_cases e : c = k
    · subst e
      simp only [List.idxOf_cons_self, List.set_cons_zero, lkP]
      by_cases g : x = c
      · rw [if_pos g, if_pos g]
      · rw [if_neg g, if_neg g, if_neg g]
    · have e2 : (k == c) = false := beq_eq_false_iff_ne.2 fun g => e g.symm
      have hm' : c ∈ ks := by simpa [e] using hm
      have ih := lkP_set (vs := vs) v (by simpa using hl) hn.2 hm' x
      simp only [List.idxOf_cons, e2, cond_false, List.set_cons_succ, lkP, ih]
      by_cases g : x = k
      · have : ¬ x = c := fun q => e (by rw [← q, g])
        rw [if_pos g, if_neg this, if_pos g]
      · rw [if_neg g, if_neg g]
theorem Mf.inc (hk : Keys t enc ok) (M : Mf enc ok ev h id f) {c : α} (hc : ok c) (z : β) : ∃ o1 st ov, (∀ nx, entP prog ⟨h, nx⟩ t (ev z) (.map id) (enc c) = some (.tup [ov, st], ⟨upd h id o1, nx⟩)) ∧
    ∀ v, ∃ o2, (∀ h1 nx, h1 id = o1 → entS ⟨h1, nx⟩ (.map id) st (ev v) = some (.tup [], ⟨upd h1 id o2, nx⟩)) ∧ ∀ h', h' id = o2 → Mf enc ok ev h' id (putF f c v) := by
  obtain ⟨g, ks, vs, h1, h2, h3, h4, h5⟩ := M.ex
  by_cases hm : c ∈ ks
  · obtain ⟨w, w1, w2⟩ := lkP_mem h4 h2 hm
    have hi : ks.idxOf c < ks.length := List.idxOf_lt_length_iff.2 hm
    have hset : (ks.map enc).set (ks.idxOf c) (enc c) = ks.map enc := by
      refine List.ext_getElem (by simp) fun i a b => ?_
      rw [List.getElem_set]
      split
      · rename_i e
        subst e
        simp
      · rfl
    refine ⟨some (.map (g + 1) (ks.map enc) (vs.map ev)), .int .i64 (ks.idxOf c : Nat), ev w, fun nx => ?_, fun v => ⟨some (.map (g + 1 + 1) (ks.map enc) ((vs.set (ks.idxOf c) v).map ev)), fun h' nx e => ?_, fun h' e => ⟨g + 1 + 1, ks, vs.set (ks.idxOf c) v, e, h2, h3, by simp [h4], fun x => by rw [lkP_set v h4 h2 hm, h5, putF]⟩⟩⟩
    · simp only [entP, hk.key c hc, cond_true, h1, findI_gen hk 0 h3 hc, if_pos hm, Option.bind_some, Nat.zero_add, List.getElem?_map, w1, Option.map_some, hset]
      rfl
    · have hv : ks.idxOf c < vs.length := by omega
      simp [entS, entryStA, e, inR, hv, Mem.set]
  · refine ⟨some (.map (g + 1) ((ks ++ [c]).map enc) ((vs ++ [z]).map ev)), .int .i64 (ks.length : Nat), ev z, fun nx => ?_, fun v => ⟨some (.map (g + 1 + 1) ((ks ++ [c]).map enc) ((vs ++ [v]).map ev)), fun h' nx e => ?_, fun h' e => ⟨g + 1 + 1, ks ++ [c], vs ++ [v], e, ?_, ?_, by simp [h4], fun x => by rw [lkP_app h4 hm, h5, putF]⟩⟩⟩
    · simp only [entP, hk.key c hc, cond_true, h1, findI_gen hk 0 h3 hc, if_neg hm, Option.bind_some, List.length_map]
      simp [Mem.set]
    · have : (vs ++ [z]).length = ks.length + 1 := by simp [h4]
      have hs : ((vs ++ [z]).map ev).set ks.length (ev v) = (vs ++ [v]).map ev := by
        rw [h4]; simp
      have h7 : ((vs.length : Nat) : Int) < (vs.length : Nat) + 1 := by omega
      simp [entS, entryStA, e, inR, Mem.set, h4, h7]
    · rw [List.nodup_append]
      exact ⟨h2, by simp, fun x hx y hy => by
        simp at hy; subst hy
        intro e; subst e; exact hm hx⟩
    · intro x hx
      rcases List.mem_append.1 hx with hx | hx
      · exact h3 x hx
      · simp at hx; rw [hx]; exact hc
end
def Gf (p : List (List UInt8 × Nat)) : List UInt8 → Option Nat := p.foldl (fun F q => putF F q.1 q.2) (fun _ => none)
theorem Gf_snoc (p : List (List UInt8 × Nat)) (w : List UInt8) (i : Nat) : Gf (p ++ [(w, i)]) = putF (Gf p) w i := by simp [Gf]
theorem Gf_none : ∀ (n : Nat) (p : List (List UInt8 × Nat)) (w : List UInt8), p.length = n → (∀ q ∈ p, q.1 ≠ w) → Gf p w = none
  | 0, p, w, hn, _ => by
    have : p = [] := List.length_eq_zero_iff.1 hn
    subst this; rfl
  | n + 1, p, w, hn, h => by
    obtain ⟨p', x, rfl⟩ := snoc_of p (by intro e; subst e; simp at hn)
    obtain ⟨w', i⟩ := x
    rw [Gf_snoc, putF, if_neg (fun e => h (w', i) (by simp) e.symm), Gf_none n p' w (by simpa using hn) (fun q hq => h q (by simp [hq]))]
theorem Gf_some : ∀ (n : Nat) (p : List (List UInt8 × Nat)) (w : List UInt8) (i : Nat), p.length = n → (w, i) ∈ p → (∀ q ∈ p, q.1 = w → q.2 = i) → Gf p w = some i
  | 0, p, w, i, hn, h, _ => by
    have : p = [] := List.length_eq_zero_iff.1 hn
    subst this; simp at h
  | n + 1, p, w, i, hn, h, hu => by
    obtain ⟨p', x, rfl⟩ := snoc_of p (by intro e; subst e; simp at hn)
    obtain ⟨w', i'⟩ := x
    rw [Gf_snoc, putF]
    by_cases e : w = w'
    · rw [if_pos e]; exact congrArg some (hu (w', i') (by simp) e.symm)
    · rw [if_neg e]
      refine Gf_some n p' w i (by simpa using hn) ?_ (fun q hq => hu q (by simp [hq]))
      rcases List.mem_append.1 h with h | h
      · exact h
      · simp at h; exact absurd h.1 e
def prsT (S : SM) (l : List (List Nat)) (c : Nat) : List (List UInt8 × Nat) := (List.range c).flatMap fun a => (l.getD a []).map fun j => (wrd S j, a)
abbrev MfW (h : Nat → Option AObj) (id : Nat) (f : List UInt8 → Option Nat) := Mf AV.str (fun _ => True) natV h id f
noncomputable def KS0 : List Item := [.code l07_spread.r9, .code .ret]
noncomputable def KS2 : List Item := .inBlock 1 :: .code l07_spread.r4 :: .inLoop l07_spread.l0 :: .inBlock 0 :: KS0
theorem sp_in {S : SM} {l : List (List Nat)} {i : Nat} (hi : i < l.length) (hll : l[i].length ≤ 1000) {nx0 : Nat} : ∀ (c j : Nat) (h : Nat → Option AObj), j + c = l[i].length → MfW h 0 (Gf (prsT S l i ++ (l[i].take j).map fun j => (wrd S j, i))) →
    ∃ h', MfW h' 0 (Gf (prsT S l (i + 1))) ∧ l07_spread.L2 (clsV S l) (.map 0) (.int .i64 i) (.int .i64 j) ⟨h, nx0⟩ KS2 = l07_spread.L2 (clsV S l) (.map 0) (.int .i64 i) (.int .i64 l[i].length) ⟨h', nx0⟩ KS2 := by
  have hpr : prsT S l (i + 1) = prsT S l i ++ l[i].map fun j => (wrd S j, i) := by
    rw [prsT, List.range_succ, List.flatMap_append, ← prsT]
    simp [List.getD_eq_getElem?_getD, hi]
  intro c
  induction c with
  | zero =>
    intro j h h1 M
    have e : j = l[i].length := by omega
    subst e
    rw [List.take_length, ← hpr] at M
    exact ⟨h, M, rfl⟩
  | succ c ih =>
    intro j h h1 M
    have hj : j < l[i].length := by omega
    have hwj : IntKind.wrap .i64 ((j : Int) + 1) = (j : Int) + 1 := wrap_id (by omega) (by omega)
    obtain ⟨o, u1, u2⟩ := M.put (keysW _) (c := wrd S l[i][j]) trivial i
    have e1 : (l[i].take (j + 1)).map (fun j => (wrd S j, i)) = (l[i].take j).map (fun j => (wrd S j, i)) ++ [(wrd S l[i][j], i)] := by rw [List.take_add_one, List.getElem?_eq_getElem hj, List.map_append]; rfl
    have M' := u2 (upd h 0 o) (by simp [upd])
    rw [← Gf_snoc, List.append_assoc, ← e1] at M'
    obtain ⟨h', g1, g2⟩ := ih (j + 1) (upd h 0 o) (by omega) M'
    refine ⟨h', g1, ?_⟩
    rw [← g2]
    have t1 := clF_head (S := S) hi
    have t2 := clV_head (S := S) hj
    have t3 : l[i].getD j 0 = l[i][j] := by simp [List.getD_eq_getElem?_getD, hj]
    rw [t3] at t2
    simp only [natV] at u1
    rw [l07_spread.L2_eq]
    simp only [clsV]
    generalize l[i][j] = y at *
    generalize l[i] = L at *
    simp [hi, t1, hj, t2, u1, hwj, -List.head?_drop, -List.map_drop]
    done
theorem sp_out {S : SM} {l : List (List Nat)} (hl : l.length ≤ 1000) (hll : ∀ c ∈ l, c.length ≤ 1000) {nx0 : Nat} : ∀ (c i : Nat) (h : Nat → Option AObj), i + c = l.length → MfW h 0 (Gf (prsT S l i)) →
    ∃ ks vs, ks.Nodup ∧ ks.length = vs.length ∧ (∀ x, lkP ks vs x = Gf (prsT S l l.length) x) ∧ l07_spread.L0 (clsV S l) (.map 0) (.int .i64 i) ⟨h, nx0⟩ KS0 = some (.fmap (ks.map .str) (vs.map natV), Mem.empty) := by
  intro c
  induction c with
  | zero =>
    intro i h h1 M
    have e : i = l.length := by omega
    subst e
    obtain ⟨g, ks, vs, a1, a2, a3, a4, a5⟩ := M.ex
    have m1 : mapO (AM.deep h 5) (ks.map AV.str) = some (ks.map AV.str) := mapO_same _ (fun x hx => by
      obtain ⟨q, _, rfl⟩ := List.mem_map.1 hx
      rfl)
    have m2 : mapO (AM.deep h 5) (vs.map natV) = some (vs.map natV) := mapO_same _ (fun x hx => by
      obtain ⟨q, _, rfl⟩ := List.mem_map.1 hx
      rfl)
    refine ⟨ks, vs, a2, a4, a5, ?_⟩
    rw [l07_spread.L0_eq]
    simp only [clsV]
    simp [KS0, a1, m1, m2]
    done
  | succ c ih =>
    intro i h h1 M
    have hi : i < l.length := by omega
    have hwi : IntKind.wrap .i64 ((i : Int) + 1) = (i : Int) + 1 := wrap_id (by omega) (by omega)
    obtain ⟨h', g1, g2⟩ := sp_in (S := S) hi (hll _ (List.getElem_mem hi)) (nx0 := nx0) l[i].length 0 h (by omega) (by simpa using M)
    obtain ⟨ks, vs, q1, q2, q3, q4⟩ := ih (i + 1) h' (by omega) g1
    refine ⟨ks, vs, q1, q2, q3, ?_⟩
    rw [← q4]
    simp only [Int.ofNat_zero, Int.cast_ofNat_Int] at g2
    have e2 : l07_spread.L2 (clsV S l) (.map 0) (.int .i64 i) (.int .i64 l[i].length) ⟨h', nx0⟩ KS2 = l07_spread.L0 (clsV S l) (.map 0) (.int .i64 ((i + 1 : Nat) : Int)) ⟨h', nx0⟩ KS0 := by
      have t1 := clF_head (S := S) hi
      rw [l07_spread.L2_eq]
      simp only [clsV]
      generalize l[i] = L at *
      simp [hi, t1, KS2, hwi, -List.head?_drop, -List.map_drop]
      done
    rw [e2] at g2
    rw [← g2, l07_spread.L0_eq]
    simp only [clsV, KS2]
    simp [hi]
    done
theorem spread_spec {S : SM} {l : List (List Nat)} (hl : l.length ≤ 1000) (hll : ∀ c ∈ l, c.length ≤ 1000) : ∃ ks vs, ks.Nodup ∧ ks.length = vs.length ∧ (∀ x, lkP ks vs x = Gf (prsT S l l.length) x) ∧ ∀ m, denC prog ann 51 [clsV S l] m = some (.fmap (ks.map .str) (vs.map natV), m) := by
  obtain ⟨ks, vs, q1, q2, q3, q4⟩ := sp_out (S := S) hl hll (nx0 := 1) l.length 0 (upd Mem.empty.h 0 (some (.map 0 [] []))) (by omega) (.new (by simp [upd]))
  refine ⟨ks, vs, q1, q2, q3, fun m => ?_⟩
  simp only [Int.ofNat_zero, Int.cast_ofNat_Int, KS0] at q4
  rw [l07_spread.call_eq _ _ (by simp [clsV])]
  simp only [clsV] at q4 ⊢
  simp
  rw [q4]
  rfl
end Go.Proofs.Ythnpflkpjimkfaa

/-
  GREEN: the classes' numbers. Conditions: none.
-/
namespace Go.Proofs.Ythnpflkpjimkfaa
open Go.AM
open Go.Proofs.Try (prog)
set_option linter.all false
set_option maxRecDepth 100000
set_option maxHeartbeats 8000000
def ciE (E : Nat → Nat → Bool) (n j : Nat) : Nat := (clsL E n).findIdx fun c => decide (j ∈ c)
section
variable {E : Nat → Nat → Bool} {n : Nat}
theorem cls_at {i : Nat} (h : i < (clsL E n).length) : ∃ r, r < n ∧ frstB E r = true ∧ ((List.range n).filter (frstB E))[i]? = some r ∧ (clsL E n)[i] = (List.range n).filter (E r) := by
  simp only [clsL, clsR, List.length_map] at h
  have hm := List.getElem_mem h
  have := List.mem_filter.1 hm
  refine ⟨((List.range n).filter (frstB E))[i], by simpa using this.1, this.2, List.getElem?_eq_getElem h, by simp [clsL, clsR]⟩
theorem cls_uni (eq : Eqv E n) {i i' j : Nat} (h : i < (clsL E n).length) (h' : i' < (clsL E n).length) (hj : j ∈ (clsL E n)[i]) (hj' : j ∈ (clsL E n)[i']) : i = i' := by
  obtain ⟨r, r1, r2, r3, r4⟩ := cls_at h
  obtain ⟨s, s1, s2, s3, s4⟩ := cls_at h'
  rw [r4] at hj
  rw [s4] at hj'
  have a := List.mem_filter.1 hj
  have b := List.mem_filter.1 hj'
  have hjn : j < n := by simpa using a.1
  have hrs : E r s = true := eq.tr r j s r1 hjn s1 a.2 (eq.sy s j s1 hjn b.2)
  have key : ∀ x y, x < y → E x y = true → frstB E y = false := fun x y hxy e => by
    rw [frstB]
    have : ((List.range y).any fun j => E j y) = true := List.any_eq_true.2 ⟨x, by simpa using hxy, e⟩
    rw [this]; rfl
  have ers : r = s := by
    rcases Nat.lt_trichotomy r s with c | c | c
    · rw [key r s c hrs] at s2; cases s2
    · exact c
    · rw [key s r c (eq.sy r s r1 s1 hrs)] at r2; cases r2
  subst ers
  have hnd : ((List.range n).filter (frstB E)).Nodup := List.Pairwise.filter _ List.nodup_range
  have hl : i < ((List.range n).filter (frstB E)).length := (List.getElem?_eq_some_iff.1 r3).1
  have hl' : i' < ((List.range n).filter (frstB E)).length := (List.getElem?_eq_some_iff.1 s3).1
  have e1 := (List.getElem?_eq_some_iff.1 r3).2
  have e2 := (List.getElem?_eq_some_iff.1 s3).2
  rw [← hnd.idxOf_getElem i hl, ← hnd.idxOf_getElem i' hl', e1, e2]
theorem cls_has (eq : Eqv E n) {j : Nat} (hj : j < n) : ∃ i, ∃ h : i < (clsL E n).length, j ∈ (clsL E n)[i] := by
  have hex : ∀ m, m < n → E m j = true → ∃ r, r < n ∧ E r j = true ∧ ∀ q, q < r → E q j = false := by
    intro m
    induction m using Nat.strongRecOn with
    | ind m ih =>
      intro hm he
      by_cases q : ∃ x, x < m ∧ E x j = true
      · obtain ⟨x, hx, e⟩ := q
        exact ih x hx (by omega) e
      · exact ⟨m, hm, he, fun x hx => by
          cases c : E x j with
          | false => rfl
          | true => exact absurd ⟨x, hx, c⟩ q⟩
  obtain ⟨r, r1, r2, r3⟩ := hex j hj (eq.rf j hj)
  have hf : frstB E r = true := by
    rw [frstB]
    have : ((List.range r).any fun j => E j r) = false := by
      rw [Bool.eq_false_iff]
      intro h
      obtain ⟨x, hx, e⟩ := List.any_eq_true.1 h
      have hx : x < r := by simpa using hx
      have := eq.tr x r j (by omega) r1 hj e r2
      rw [r3 x hx] at this; cases this
    rw [this]; rfl
  have hm : r ∈ (List.range n).filter (frstB E) := List.mem_filter.2 ⟨by simpa using r1, hf⟩
  obtain ⟨i, hi, e⟩ := List.getElem_of_mem hm
  refine ⟨i, by simp only [clsL, clsR, List.length_map]; exact hi, ?_⟩
  simp only [clsL, clsR, List.getElem_map, e]
  exact List.mem_filter.2 ⟨by simpa using hj, r2⟩
theorem ciE_lt (eq : Eqv E n) {j : Nat} (hj : j < n) : ∃ h : ciE E n j < (clsL E n).length, j ∈ (clsL E n)[ciE E n j] := by
  obtain ⟨i, h, hm⟩ := cls_has eq hj
  have hl : ciE E n j < (clsL E n).length := List.findIdx_lt_length_of_exists ⟨_, List.getElem_mem h, by simpa using hm⟩
  refine ⟨hl, ?_⟩
  have := List.findIdx_getElem (w := hl)
  exact of_decide_eq_true this
theorem ciE_eq (eq : Eqv E n) {i j : Nat} (h : i < (clsL E n).length) (hj : j ∈ (clsL E n)[i]) : ciE E n j = i ∧ j < n := by
  have hjn := clsL_mem _ (List.getElem_mem h) j hj
  obtain ⟨h1, h2⟩ := ciE_lt eq hjn
  exact ⟨cls_uni eq h1 h h2 hj, hjn⟩
theorem ciE_iff (eq : Eqv E n) {x y : Nat} (hx : x < n) (hy : y < n) : ciE E n x = ciE E n y ↔ E x y = true := by
  obtain ⟨h1, h2⟩ := ciE_lt eq hx
  obtain ⟨r, r1, r2, r3, r4⟩ := cls_at h1
  have hx2 := h2
  rw [r4] at hx2
  have hrx := (List.mem_filter.1 hx2).2
  constructor
  · intro e
    obtain ⟨h3, h4⟩ := ciE_lt eq hy
    have h5 : y ∈ (clsL E n)[ciE E n x] := by
      simp only [e]; exact h4
    rw [r4] at h5
    exact eq.tr x r y hx r1 hy (eq.sy r x r1 hx hrx) (List.mem_filter.1 h5).2
  · intro e
    have : y ∈ (clsL E n)[ciE E n x] := by
      rw [r4]
      exact List.mem_filter.2 ⟨by simpa using hy, eq.tr r x y r1 hx hy hrx e⟩
    exact (ciE_eq eq h1 this).1.symm
theorem cls_ne (eq : Eqv E n) {i : Nat} (h : i < (clsL E n).length) : 0 < (clsL E n)[i].length := by
  obtain ⟨r, r1, r2, r3, r4⟩ := cls_at h
  rw [r4]
  exact List.length_pos_of_mem (List.mem_filter.2 ⟨by simpa using r1, eq.rf r r1⟩)
end
section
variable {rows : List (List Int)} {good : List Bool} {k : Nat} {S : SM}
theorem wrd_inj (W : MW rows k S) {i j : Nat} (hi : i < S.1.length) (hj : j < S.1.length) (h : wrd S i = wrd S j) : i = j := by rw [← W.self hi, h, W.self hj]
theorem spread_at (W : MW rows k S) {E : Nat → Nat → Bool} (eq : Eqv E S.1.length) {j : Nat} (hj : j < S.1.length) : Gf (prsT S (clsL E S.1.length) (clsL E S.1.length).length) (wrd S j) = some (ciE E S.1.length j) := by
  obtain ⟨h1, h2⟩ := ciE_lt eq hj
  refine Gf_some _ _ _ _ rfl ?_ ?_
  · rw [prsT, List.mem_flatMap]
    exact ⟨ciE E S.1.length j, by simpa using h1, List.mem_map.2 ⟨j, by simp [List.getD_eq_getElem?_getD, h1]; exact h2, rfl⟩⟩
  · intro q hq e
    rw [prsT, List.mem_flatMap] at hq
    obtain ⟨a, ha, hq⟩ := hq
    have ha : a < (clsL E S.1.length).length := by simpa using ha
    obtain ⟨j', hj', rfl⟩ := List.mem_map.1 hq
    have hj' : j' ∈ (clsL E S.1.length)[a] := by simpa [List.getD_eq_getElem?_getD, ha] using hj'
    obtain ⟨c1, c2⟩ := ciE_eq eq ha hj'
    have : j' = j := wrd_inj W c2 hj e
    subst this
    exact c1.symm
theorem spread_out (W : MW rows k S) {E : Nat → Nat → Bool} {x : List UInt8} (h : x ∉ S.2) : Gf (prsT S (clsL E S.1.length) (clsL E S.1.length).length) x = none := by
  refine Gf_none _ _ _ rfl fun q hq e => ?_
  rw [prsT, List.mem_flatMap] at hq
  obtain ⟨a, ha, hq⟩ := hq
  have ha : a < (clsL E S.1.length).length := by simpa using ha
  obtain ⟨j', hj', rfl⟩ := List.mem_map.1 hq
  have hj' : j' ∈ (clsL E S.1.length)[a] := by simpa [List.getD_eq_getElem?_getD, ha] using hj'
  have hlt := clsL_mem _ (List.getElem_mem ha) j' hj'
  exact h (e ▸ List.mem_of_getElem? (W.wok hlt).1)
theorem spread_len (W : MW rows k S) {E : Nat → Nat → Bool} (eq : Eqv E S.1.length) {ks : List (List UInt8)} {vs : List Nat} (h1 : ks.Nodup) (h2 : ks.length = vs.length) (h3 : ∀ x, lkP ks vs x = Gf (prsT S (clsL E S.1.length) (clsL E S.1.length).length) x) : ks.length = S.2.length := by
  have hlen := W.ok.len
  have hat : ∀ i (h : i < S.2.length), S.2[i] = wrd S i := fun i h => by
    have := (W.wok (i := i) (by omega)).1
    rw [List.getElem?_eq_getElem h] at this
    exact Option.some.inj this
  have nd : S.2.Nodup := by
    rw [List.Nodup, List.pairwise_iff_getElem]
    intro i j hi hj hij e
    rw [hat i hi, hat j hj] at e
    have := wrd_inj W (by omega) (by omega) e
    omega
  have a := nodup_le ks S.2 h1 fun x hx => by
    by_cases q : x ∈ S.2
    · exact q
    · exfalso
      obtain ⟨w, _, e⟩ := lkP_mem h2 h1 hx
      rw [h3, spread_out W q] at e; cases e
  have b := nodup_le S.2 ks nd fun x hx => by
    obtain ⟨i, hi, rfl⟩ := List.getElem_of_mem hx
    by_cases q : S.2[i] ∈ ks
    · exact q
    · exfalso
      have e := h3 S.2[i]
      rw [lkP_none q, hat i hi, spread_at W eq (by omega)] at e
      cases e
  omega
theorem fm_pr (v : VB rows good k) (W : MW rows k S) : FM (pr rows S) S.1.length := by
  have w0 : wrd S 0 = [] := by
    obtain ⟨p, q, _, e2⟩ := W.pre
    rw [wrd, e2]; rfl
  exact ⟨fun a b ha hb => pr_lt v W ha hb, fun a b c ha hb hc => pr_assoc v W ha hb hc, W.pos, fun a ha => ⟨by rw [pr, w0, List.nil_append]; exact W.self ha, by rw [pr, w0, List.append_nil]; exact W.self ha⟩⟩
theorem eqB_l (v : VB rows good k) (W : MW rows k S) {i j : Nat} (hi : i < S.1.length) (hj : j < S.1.length) : eqB rows S k true false i j = true ↔ eL (pr rows S) S.1.length i j := by
  simp only [eqB, Bool.and_eq_true, decide_eq_true_eq]
  rw [blw_l v W hi, blw_l v W hj]; rfl
theorem eqB_r (v : VB rows good k) (W : MW rows k S) {i j : Nat} (hi : i < S.1.length) (hj : j < S.1.length) : eqB rows S k false true i j = true ↔ eR (pr rows S) S.1.length i j := by
  simp only [eqB, Bool.and_eq_true, decide_eq_true_eq]
  rw [blw_r v W hi, blw_r v W hj]; rfl
theorem eqB_j (v : VB rows good k) (W : MW rows k S) {i j : Nat} (hi : i < S.1.length) (hj : j < S.1.length) : eqB rows S k true true i j = true ↔ eJ (pr rows S) S.1.length i j := by
  simp only [eqB, Bool.and_eq_true, decide_eq_true_eq]
  rw [blw_b v W hi, blw_b v W hj]; rfl
end
end Go.Proofs.Ythnpflkpjimkfaa

/-
  BODIES OF FUNCTIONS OF THE PROGRAM AS SMALL OPERATIONS (written by gen.py; checked by the kernel against the program). Conditions: none.
-/
namespace Go.Proofs.Ythnpflkpjimkfaa
open Go.AM
open Go.Proofs.Try (prog)
set_option maxRecDepth 100000
set_option linter.all false
namespace l07_Plan_made
noncomputable section
variable (K : List Item) (s : St)
def b : Code := (Try.f22.body).getD .skip
theorem hf : prog.funcs[22]? = some Try.f22 := by kernel_rfl
def r0 := findReg b 0
def r1 := findReg b 1
def r2 := findReg b 2
def r3 := findReg b 3
def k0 := findBlk b 0
def l0 := loopOf k0
def L0 (x1 x2 x3 x4 x5 x6 : AV) (m : Mem) (K : List Item) : Option Res := den prog ann 22 (.code l0 :: .inLoop l0 :: .inBlock 0 :: K) ⟨[(1, x1), (2, x2), (3, x3), (4, x4), (5, x5), (6, x6)], 79, m⟩
def r4 := findReg b 4
def i0 := findCond b 0
def i0t := thenOf i0
def i0e := elseOf i0
def k1 := findBlk b 1
def r6 := findReg b 6
def r7 := findReg b 7
def k2 := findBlk b 2
def l2 := loopOf k2
def L2 (x1 x2 x3 x4 x5 x6 x7 x8 : AV) (m : Mem) (K : List Item) : Option Res := den prog ann 22 (.code l2 :: .inLoop l2 :: .inBlock 2 :: K) ⟨[(1, x1), (2, x2), (3, x3), (4, x4), (5, x5), (6, x6), (7, x7), (8, x8)], 79, m⟩
def r8 := findReg b 8
def i1 := findCond b 1
def i1t := thenOf i1
def i1e := elseOf i1
def k3 := findBlk b 3
def r10 := findReg b 10
def r11 := findReg b 11
def r12 := findReg b 12
def i2 := findCond b 2
def i2t := thenOf i2
def i2e := elseOf i2
def r13 := findReg b 13
def r14 := findReg b 14
def i3 := findCond b 3
def i3t := thenOf i3
def i3e := elseOf i3
def r15 := findReg b 15
def r16 := findReg b 16
def r9 := findReg b 9
def r17 := findReg b 17
def r5 := findReg b 5
def r18 := findReg b 18
theorem b_eq : den prog ann 22 (.code b :: K) s = den prog ann 22 (.code r0 :: .code r1 :: .code r2 :: .code r3 :: .code k0 :: .code r18 :: .code .ret :: K) s := den_flat hf (l := [r0, r1, r2, r3, k0, r18, .ret]) (by kernel_rfl) K s
theorem r0_eq : den prog ann 22 (.code r0 :: K) s = mreg prog ann 22 none [] none [] [qA 1 frozenPtr 0,⟨some 2, none, .w false none fun s => newPtr s.m [.nils, .nils]⟩] K s := (den_reg hf _ K s).trans (by kernel_rfl)
theorem r1_draw : drawOk (fun g => (ann g).pure) (modeOf (ann 22) (idOf r1)) (frzOf (ann 22) (idOf r1)) (opsOf r1) = true := drawOk_of (an := [0, 1, 3, 7, 15, 0, 32, 96, 224, 480, 31, 2047]) (by kernel_rfl) (by kernel_rfl)
theorem r1_eq : den prog ann 22 (.code r1 :: K) s = mreg prog ann 22 none [] (some 12) [] [qA 11 (fieldA 0) 1,qA 12 (loadF false 1) 11,qA 13 (convInt .i64) 12,qF 14 fun s => binA prog .rem 3 (s.get 13) (.int .i64 6),qF 15 fun s => binA prog .add 3 (s.get 14) (.int .i64 1),qA 16 (fieldA 1) 1,qA 17 (loadF false 1) 16,qA 18 (convInt .i64) 17,qF 19 fun s => binA prog .rem 3 (s.get 18) (.int .i64 3),qF 20 fun s => binA prog .add 3 (s.get 19) (.int .i64 1),qC 3 15,qC 4 20] K s := (den_regD hf r1_draw K s).trans (by kernel_rfl)
theorem r2_eq : den prog ann 22 (.code r2 :: K) s = mreg prog ann 22 none [] none [] [qF 21 fun s => bldA (plc [(0, 1), (1, 1)]) [.nils, .nils] [],⟨some 5, none, .w false none fun s => newPtr s.m [.nils, .nils]⟩,⟨none, none, .w false none fun s => stA true 2 s.m (s.get 5) (s.get 21)⟩] K s := (den_reg hf _ K s).trans (by kernel_rfl)
theorem r3_eq : den prog ann 22 (.code r3 :: K) s = mreg prog ann 22 none [] none [] [qF 6 fun s => some (.int .i64 0)] K s := (den_reg hf _ K s).trans (by kernel_rfl)
theorem k0_eq (K : List Item) (t : List (Nat × AV)) (m : Mem) : den prog ann 22 (.code k0 :: K) ⟨t, 79, m⟩ = L0 (get t 1) (get t 2) (get t 3) (get t 4) (get t 5) (get t 6) m K := den_loop_enter hf (b := l0) (id := 4) (l := [1, 2, 3, 4, 5, 6]) (by kernel_rfl) (by kernel_rfl) (by kernel_rfl) K _
theorem l0_eq (K : List Item) (t : List (Nat × AV)) (m : Mem) : den prog ann 22 (.inLoop l0 :: .inBlock 0 :: K) ⟨t, 79, m⟩ = L0 (get t 1) (get t 2) (get t 3) (get t 4) (get t 5) (get t 6) m K := den_loop_again hf (id := 4) (l := [1, 2, 3, 4, 5, 6]) (by kernel_rfl) (by kernel_rfl) (.inBlock 0 :: K) _
theorem L0_eq (x1 x2 x3 x4 x5 x6 : AV) (m : Mem) (K : List Item) : L0 x1 x2 x3 x4 x5 x6 m K = den prog ann 22 (.code r4 :: .code i0 :: .code k1 :: .code r5 :: .inLoop l0 :: .inBlock 0 :: K) ⟨[(1, x1), (2, x2), (3, x3), (4, x4), (5, x5), (6, x6)], 79, m⟩ := den_flat hf (l := [r4, i0, k1, r5]) (by kernel_rfl) _ _
theorem r4_eq : den prog ann 22 (.code r4 :: K) s = mreg prog ann 22 (some [1, 2, 3, 4, 5, 6]) [] none [] [qC 22 6,qC 23 3,qB 24 (binA prog .lss 3) 22 23] K s := (den_reg hf _ K s).trans (by kernel_rfl)
theorem i0_eq : den prog ann 22 (.code i0 :: K) s = ifV prog ann 22 24 i0t i0e K s (s.get 24) := den_if hf (by kernel_rfl) K s
theorem i0t_eq : den prog ann 22 (.code i0t :: K) s = den prog ann 22 (K) s := den_flat hf (l := []) (by kernel_rfl) K s
theorem i0e_eq : den prog ann 22 (.code i0e :: K) s = den prog ann 22 (.code (.exit 0) :: K) s := den_flat hf (l := [(.exit 0)]) (by kernel_rfl) K s
theorem k1_eq : den prog ann 22 (.code k1 :: K) s = den prog ann 22 (.code r6 :: .code r7 :: .code k2 :: .code r17 :: .inBlock 1 :: K) s := den_blk hf (b := blkOf k1) (l := [r6, r7, k2, r17]) (by kernel_rfl) (by kernel_rfl) K s
theorem r6_eq : den prog ann 22 (.code r6 :: K) s = mreg prog ann 22 none [] none [] [⟨some 27, none, .w false none fun s => bslM s.m 0 (bslA 1 0 [.int .i64 0] [])⟩,qC 7 27] K s := (den_reg hf _ K s).trans (by kernel_rfl)
theorem r7_eq : den prog ann 22 (.code r7 :: K) s = mreg prog ann 22 none [] none [] [qF 8 fun s => some (.int .i64 0)] K s := (den_reg hf _ K s).trans (by kernel_rfl)
theorem k2_eq (K : List Item) (t : List (Nat × AV)) (m : Mem) : den prog ann 22 (.code k2 :: K) ⟨t, 79, m⟩ = L2 (get t 1) (get t 2) (get t 3) (get t 4) (get t 5) (get t 6) (get t 7) (get t 8) m K := den_loop_enter hf (b := l2) (id := 8) (l := [1, 2, 3, 4, 5, 6, 7, 8]) (by kernel_rfl) (by kernel_rfl) (by kernel_rfl) K _
theorem l2_eq (K : List Item) (t : List (Nat × AV)) (m : Mem) : den prog ann 22 (.inLoop l2 :: .inBlock 2 :: K) ⟨t, 79, m⟩ = L2 (get t 1) (get t 2) (get t 3) (get t 4) (get t 5) (get t 6) (get t 7) (get t 8) m K := den_loop_again hf (id := 8) (l := [1, 2, 3, 4, 5, 6, 7, 8]) (by kernel_rfl) (by kernel_rfl) (.inBlock 2 :: K) _
theorem L2_eq (x1 x2 x3 x4 x5 x6 x7 x8 : AV) (m : Mem) (K : List Item) : L2 x1 x2 x3 x4 x5 x6 x7 x8 m K = den prog ann 22 (.code r8 :: .code i1 :: .code k3 :: .code r9 :: .inLoop l2 :: .inBlock 2 :: K) ⟨[(1, x1), (2, x2), (3, x3), (4, x4), (5, x5), (6, x6), (7, x7), (8, x8)], 79, m⟩ := den_flat hf (l := [r8, i1, k3, r9]) (by kernel_rfl) _ _
theorem r8_eq : den prog ann 22 (.code r8 :: K) s = mreg prog ann 22 (some [1, 2, 3, 4, 5, 6, 7, 8]) [] none [] [qC 28 8,qC 29 4,qB 30 (binA prog .lss 3) 28 29] K s := (den_reg hf _ K s).trans (by kernel_rfl)
theorem i1_eq : den prog ann 22 (.code i1 :: K) s = ifV prog ann 22 30 i1t i1e K s (s.get 30) := den_if hf (by kernel_rfl) K s
theorem i1t_eq : den prog ann 22 (.code i1t :: K) s = den prog ann 22 (K) s := den_flat hf (l := []) (by kernel_rfl) K s
theorem i1e_eq : den prog ann 22 (.code i1e :: K) s = den prog ann 22 (.code (.exit 2) :: K) s := den_flat hf (l := [(.exit 2)]) (by kernel_rfl) K s
theorem k3_eq : den prog ann 22 (.code k3 :: K) s = den prog ann 22 (.code r10 :: .code r11 :: .code r12 :: .code i2 :: .code r14 :: .code i3 :: .code r16 :: .inBlock 3 :: K) s := den_blk hf (b := blkOf k3) (l := [r10, r11, r12, i2, r14, i3, r16]) (by kernel_rfl) (by kernel_rfl) K s
theorem r10_eq : den prog ann 22 (.code r10 :: K) s = mreg prog ann 22 none [] none [] [qF 9 fun s => some (.int .i64 0)] K s := (den_reg hf _ K s).trans (by kernel_rfl)
theorem r11_eq : den prog ann 22 (.code r11 :: K) s = mreg prog ann 22 none [] none [] [qC 33 6,qC 34 4,qB 35 (binA prog .mul 3) 33 34,qC 36 8,qB 37 (binA prog .add 3) 35 36,qC 10 37] K s := (den_reg hf _ K s).trans (by kernel_rfl)
theorem r12_eq : den prog ann 22 (.code r12 :: K) s = mreg prog ann 22 none [] none [] [qC 38 10,qA 39 (fieldA 2) 1,qA 40 (loadF false 1) 39,qA 41 lenSl 40,qB 42 (binA prog .lss 3) 38 41] K s := (den_reg hf _ K s).trans (by kernel_rfl)
theorem i2_eq : den prog ann 22 (.code i2 :: K) s = ifV prog ann 22 42 i2t i2e K s (s.get 42) := den_if hf (by kernel_rfl) K s
theorem i2t_eq : den prog ann 22 (.code i2t :: K) s = den prog ann 22 (.code r13 :: K) s := den_flat hf (l := [r13]) (by kernel_rfl) K s
theorem r13_eq : den prog ann 22 (.code r13 :: K) s = mreg prog ann 22 none [] none [] [qA 43 (fieldA 2) 1,qA 44 (loadF false 1) 43,qC 45 10,qB 46 (idxSl 1) 44 45,qA 47 (loadF false 1) 46,qA 48 (convInt .i64) 47,qC 49 3,qB 50 (binA prog .rem 3) 48 49,qC 9 50] K s := (den_reg hf _ K s).trans (by kernel_rfl)
theorem i2e_eq : den prog ann 22 (.code i2e :: K) s = den prog ann 22 (K) s := den_flat hf (l := []) (by kernel_rfl) K s
theorem r14_eq : den prog ann 22 (.code r14 :: K) s = mreg prog ann 22 none [] none [] [qA 51 (fieldA 3) 1,qA 52 (loadF false 1) 51,qF 53 fun s => binA prog .geq 5 (s.get 52) (.int .u8 128)] K s := (den_reg hf _ K s).trans (by kernel_rfl)
theorem i3_eq : den prog ann 22 (.code i3 :: K) s = ifV prog ann 22 53 i3t i3e K s (s.get 53) := den_if hf (by kernel_rfl) K s
theorem i3t_eq : den prog ann 22 (.code i3t :: K) s = den prog ann 22 (.code r15 :: K) s := den_flat hf (l := [r15]) (by kernel_rfl) K s
theorem r15_eq : den prog ann 22 (.code r15 :: K) s = mreg prog ann 22 none [] none [] [qC 54 9,qC 55 6,qF 56 fun s => foldA max2A (s.get 54) [(s.get 55)],qC 9 56] K s := (den_reg hf _ K s).trans (by kernel_rfl)
theorem i3e_eq : den prog ann 22 (.code i3e :: K) s = den prog ann 22 (K) s := den_flat hf (l := []) (by kernel_rfl) K s
theorem r16_eq : den prog ann 22 (.code r16 :: K) s = mreg prog ann 22 (some [1, 2, 3, 4, 5, 6, 7, 8, 9]) [] none [] [qC 57 7,qC 58 9,qF 59 fun s => bslF 1 (bslA 1 1 [.int .i64 0] [(0, (s.get 58))]),⟨some 60, none, .w false none fun s => appendA 1 8 s.m (s.get 57) (s.get 59)⟩,qC 7 60] K s := (den_reg hf _ K s).trans (by kernel_rfl)
theorem r9_eq : den prog ann 22 (.code r9 :: K) s = mreg prog ann 22 (some [1, 2, 3, 4, 5, 6, 7, 8]) [] none [] [qC 31 8,qF 32 fun s => binA prog .add 3 (s.get 31) (.int .i64 1),qC 8 32] K s := (den_reg hf _ K s).trans (by kernel_rfl)
theorem r17_draw : drawOk (fun g => (ann g).pure) (modeOf (ann 22) (idOf r17)) (frzOf (ann 22) (idOf r17)) (opsOf r17) = true := drawOk_of (an := [0, 1, 0, 4, 15, 0, 32, 0, 128, 0, 896, 1920, 3968, 8064, 16383, 127, 65535, 131071, 262143]) (by kernel_rfl) (by kernel_rfl)
theorem r17_eq : den prog ann 22 (.code r17 :: K) s = mreg prog ann 22 (some [1, 2, 3, 4, 5, 6, 7]) [7] (some 19) [3062066, 2000064] [qA 61 (fieldA 0) 5,qF 62 fun s => loadA false 1 s.m (s.get 61),qC 63 7,qF 64 fun s => bslF 1 (bslA 1 1 [.nils] [(0, (s.get 63))]),⟨some 65, none, .w false (some 4) fun s => appendA 1 24 s.m (s.get 62) (s.get 64)⟩,qA 66 (fieldA 1) 5,qF 67 fun s => loadA false 1 s.m (s.get 66),qA 68 (fieldA 3) 1,qA 69 (loadF false 1) 68,qC 70 6,qB 71 (binA prog .shr 5) 69 70,qF 72 fun s => binA prog .and 5 (s.get 71) (.int .u8 1),qF 73 fun s => binA prog .eql 5 (s.get 72) (.int .u8 1),qF 74 fun s => bslF 1 (bslA 1 1 [.bool false] [(0, (s.get 73))]),⟨some 75, none, .w false (some 14) fun s => appendA 1 1 s.m (s.get 67) (s.get 74)⟩,qA 76 (fieldA 0) 5,⟨none, none, .w false (some 16) fun s => stA false 1 s.m (s.get 76) (s.get 65)⟩,qA 77 (fieldA 1) 5,⟨none, none, .w false (some 18) fun s => stA false 1 s.m (s.get 77) (s.get 75)⟩] K s := (den_regD hf r17_draw K s).trans (by kernel_rfl)
theorem r5_eq : den prog ann 22 (.code r5 :: K) s = mreg prog ann 22 (some [1, 2, 3, 4, 5, 6]) [] none [] [qC 25 6,qF 26 fun s => binA prog .add 3 (s.get 25) (.int .i64 1),qC 6 26] K s := (den_reg hf _ K s).trans (by kernel_rfl)
theorem r18_eq : den prog ann 22 (.code r18 :: K) s = mreg prog ann 22 (some [2, 5]) [] none [] [qF 78 fun s => loadA true 2 s.m (s.get 5),⟨none, none, .w false none fun s => stA true 2 s.m (s.get 2) (s.get 78)⟩] K s := (den_reg hf _ K s).trans (by kernel_rfl)
theorem ret_eq : den prog ann 22 (.code .ret :: K) s = finM true [fun s => loadA true 2 s.m (s.get 2)] s := (den_ret hf K s).trans (by kernel_rfl)
theorem nil_eq (s : St) : den prog ann 22 [] s = finM true [fun s => loadA true 2 s.m (s.get 2)] s := (den_nil hf s).trans (by kernel_rfl)
theorem inBlock_eq (id : Nat) (K : List Item) (s : St) : den prog ann 22 (.inBlock id :: K) s = den prog ann 22 K s := den_inBlock hf id K s
theorem exit_eq (id : Nat) (K : List Item) (s : St) : den prog ann 22 (.code (.exit id) :: K) s = exitV prog ann 22 (exitTo id K) s := den_exitV hf id K s
theorem call_eq (v0 : AV) (m : Mem) (h : closedL [v0] = true) : denC prog ann 22 [v0] m = (den prog ann 22 [.code b] ⟨[(0, v0)], 79, Mem.empty⟩).bind fun r => some (r.1, m) := (denC_pure hf (b := b) (by kernel_rfl) (by kernel_rfl) (by kernel_rfl) h m).trans (by kernel_rfl)
theorem pure_eq : (ann 22).pure = true := by kernel_rfl
attribute [simp] b_eq r0_eq r1_eq r2_eq r3_eq k0_eq l0_eq r4_eq i0_eq i0t_eq i0e_eq k1_eq r6_eq r7_eq k2_eq l2_eq r8_eq i1_eq i1t_eq i1e_eq k3_eq r10_eq r11_eq r12_eq i2_eq i2t_eq r13_eq i2e_eq r14_eq i3_eq i3t_eq r15_eq i3e_eq r16_eq r9_eq r17_eq r5_eq r18_eq ret_eq nil_eq inBlock_eq exit_eq pure_eq
end
end l07_Plan_made
end Go.Proofs.Ythnpflkpjimkfaa
