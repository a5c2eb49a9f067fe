/-
  STRAPS: the differences of a round strap as sums over pairs: what multiplying and moving leaves, the count of all pairs, and the squares. Conditions: none.
-/
import Derived.Test.YtofceaeboboflaaDoorK02
import Derived.Test.YtofceaeboboflaaDoorKAmH
import Derived.Test.YtofceaeboboflaaDoorKAmE
set_option linter.all false
namespace Go.Proofs.YtofceaeboboflaaDoor
open Go.AM
set_option linter.all false
set_option maxRecDepth 100000
set_option maxHeartbeats 4000000

/-! ### Sums over lists -/
def S1 (l : List Int) (f : Int → Int) : Int := (l.map f).foldr (· + ·) 0
theorem S1_nil (f : Int → Int) : S1 [] f = 0 := rfl
theorem S1_cons (a : Int) (l : List Int) (f : Int → Int) : S1 (a :: l) f = f a + S1 l f := rfl
theorem S1_add (l : List Int) (f g : Int → Int) : S1 l (fun x => f x + g x) = S1 l f + S1 l g := by
  induction l with
  | nil => rfl
  | cons a l ih => rw [S1_cons, S1_cons, S1_cons, ih]; omega
theorem S1_mul (c : Int) (l : List Int) (f : Int → Int) : S1 l (fun x => c * f x) = c * S1 l f := by
  induction l with
  | nil => simp [S1_nil]
  | cons a l ih => rw [S1_cons, S1_cons, ih, Int.mul_add]
theorem S1_zero (l : List Int) : S1 l (fun _ => 0) = 0 := by
  induction l with
  | nil => rfl
  | cons a l ih => rw [S1_cons, ih]; rfl
theorem S1_const (c : Int) (l : List Int) : S1 l (fun _ => c) = l.length * c := by
  induction l with
  | nil => simp [S1_nil]
  | cons a l ih => rw [S1_cons, ih, List.length_cons, Int.natCast_add, Int.add_mul]; omega
theorem S1_congr {l : List Int} {f g : Int → Int} (h : ∀ x ∈ l, f x = g x) : S1 l f = S1 l g := by
  induction l with
  | nil => rfl
  | cons a l ih => rw [S1_cons, S1_cons, h a (by simp), ih fun x hx => h x (by simp [hx])]
theorem S1_map (l : List Int) (g f : Int → Int) : S1 (l.map g) f = S1 l (fun x => f (g x)) := by
  induction l with
  | nil => rfl
  | cons a l ih => rw [List.map_cons, S1_cons, S1_cons, ih]
theorem S1_perm {a b : List Int} (h : a.Perm b) (f : Int → Int) : S1 a f = S1 b f := by
  induction h with
  | nil => rfl
  | cons x _ ih => rw [S1_cons, S1_cons, ih]
  | swap x y l => rw [S1_cons, S1_cons, S1_cons, S1_cons]; omega
  | trans _ _ h1 h2 => rw [h1, h2]
theorem S1_swap (l k : List Int) (f : Int → Int → Int) : S1 l (fun a => S1 k (fun b => f a b)) = S1 k (fun b => S1 l (fun a => f a b)) := by
  induction l with
  | nil => rw [S1_nil]; exact (S1_zero k).symm
  | cons a l ih => rw [S1_cons, ih, ← S1_add]; exact S1_congr fun b _ => by rw [S1_cons]

def ind (p : Prop) [Decidable p] : Int := if p then 1 else 0
/-- Exactly one. -/
theorem S1_one {l : List Int} {x : Int} (h : l.Nodup) (hx : x ∈ l) : S1 l (fun d => ind (x = d)) = 1 := by
  induction l with
  | nil => cases hx
  | cons a l ih =>
    rw [S1_cons]
    rw [List.nodup_cons] at h
    by_cases e : x = a
    · subst e
      have : S1 l (fun d => ind (x = d)) = S1 l (fun _ => 0) := S1_congr fun d hd => by
        unfold ind; rw [if_neg]; rintro rfl; exact h.1 hd
      rw [this, S1_zero]; simp [ind]
    · rcases List.mem_cons.1 hx with hx | hx
      · exact (e hx).elim
      · rw [ih h.2 hx]; simp [ind, e]
/-- How many pairs have a difference. -/
def Dn (v : Int) (l : List Int) (d : Int) : Int := S1 l fun a => S1 l fun b => ind ((a - b) % v = d)

/-! ### What the code counts -/
def sumI (k j : Nat) (f : Nat → Int) : Int := ((List.range' j k).map f).foldr (· + ·) 0
theorem sumI_succ (k j : Nat) (f : Nat → Int) : sumI (k + 1) j f = f j + sumI k (j + 1) f := rfl
theorem sumI_list (l : List Int) (f : Int → Int) : ∀ (k j : Nat), j + k = l.length → sumI k j (fun q => f (nth l q)) = S1 (l.drop j) f
  | 0, j, h => by rw [List.drop_of_length_le (by omega)]; rfl
  | k + 1, j, h => by rw [sumI_succ, sumI_list l f k (j + 1) (by omega), drop_nth (show j < l.length by omega), S1_cons]
theorem bump_nth {c : List Int} {h g : Nat} (hg : h < c.length) : nth (bump c h) g = nth c g + ind (h = g) := by
  rw [bump, nth_set]
  unfold ind
  by_cases e : h = g
  · subst e; simp [hg]
  · simp [e]
theorem dfF_nth {v : Int} {l : List Int} (s : RingOk v l) {i : Nat} (hi : i < l.length) {g : Nat} (hg : 1 ≤ g) : ∀ (k j : Nat) (c : List Int), j + k = l.length → c.length = v.toNat →
    nth (dfF l v i k j c) g = nth c g + sumI k j fun q => ind ((nth l i - nth l q) % v = g)
  | 0, j, c, h, hc => by simp [dfF, sumI]
  | k + 1, j, c, h, hc => by
    have hj : j < l.length := by omega
    have hv := s.v2
    obtain ⟨d, hd, hdv⟩ := rem_nat s hi hj
    have hd' : (nth l i - nth l j) % v = d := by
      have a := s.rng i hi
      have b := s.rng j hj
      rw [← hd, Int.tmod_eq_emod_of_nonneg (by omega), Int.add_emod_right]
    rw [dfF_succ, sumI_succ]
    by_cases e : i = j
    · subst e
      rw [if_pos rfl, dfF_nth s hi hg k (i + 1) c (by omega) hc]
      have : ¬ (0 : Int) = g := by omega
      simp [ind, this]
    · rw [if_neg e, hd, dfF_nth s hi hg k (j + 1) _ (by omega) (by rw [bump_len, hc]), Int.toNat_natCast, bump_nth (by omega), hd']
      unfold ind
      have : ((d : Int) = (g : Int)) ↔ d = g := by omega
      simp only [this]
      omega
theorem dfO_nth {v : Int} {l : List Int} (s : RingOk v l) {g : Nat} (hg : 1 ≤ g) : ∀ (k i : Nat) (c : List Int), i + k = l.length → c.length = v.toNat →
    nth (dfO l v k i c) g = nth c g + sumI k i fun p => S1 l fun b => ind ((nth l p - b) % v = g)
  | 0, i, c, h, hc => by simp [dfO, sumI]
  | k + 1, i, c, h, hc => by
    have hi : i < l.length := by omega
    rw [dfO_succ, sumI_succ, dfO_nth s hg k (i + 1) _ (by omega) (by rw [dfF_len, hc]), dfF_nth s hi hg l.length 0 c (by omega) hc]
    have := sumI_list l (fun b => ind ((nth l i - b) % v = g)) l.length 0 (by omega)
    rw [List.drop_zero] at this
    rw [this]; omega
theorem diffs_nth {v : Nat} {l : List Int} (s : RingOk v l) {g : Nat} (hg : 1 ≤ g) : nth (diffs v l) g = Dn v l g := by
  rw [diffs, dfO_nth s hg l.length 0 _ (by omega) (by simp), nth_zero']
  have := sumI_list l (fun a => S1 l fun b => ind ((a - b) % (v : Int) = g)) l.length 0 (by omega)
  rw [List.drop_zero] at this
  rw [this, Int.zero_add]; rfl

/-! ### Multiplied and moved -/
theorem emod_key {v t u : Nat} (htu : t * u % v = 1 % v) (hv : 0 < v) {x d : Int} (hd : 0 ≤ d ∧ d < v) : (x * t) % v = d ↔ x % v = (u * d) % (v : Int) := by
  have e1 : ((t : Int) * u) % v = 1 % v := by exact_mod_cast htu
  constructor
  · intro h
    rw [← h, Int.mul_emod, Int.emod_emod, ← Int.mul_emod, show (u : Int) * (x * t) = x * (t * u) by rw [Int.mul_comm, Int.mul_assoc], Int.mul_emod x, e1, ← Int.mul_emod, Int.mul_one]
  · intro h
    rw [Int.mul_emod, h, ← Int.mul_emod, show (u : Int) * d * (t : Int) = d * (t * u) by rw [Int.mul_comm (u : Int) d, Int.mul_assoc, Int.mul_comm (u : Int) t], Int.mul_emod d, e1, ← Int.mul_emod, Int.mul_one]
    exact Int.emod_eq_of_lt hd.1 hd.2
theorem Dn_mv {v t u : Nat} {s : Int} {l : List Int} (r : RingOk v l) (hs : 0 ≤ s) (htu : t * u % v = 1 % v) {d : Int} (hd : 0 ≤ d ∧ d < v) : Dn v (mvL v t s l) d = Dn v l ((u * d) % v) := by
  have hv : 0 < v := by have := r.v2; omega
  unfold Dn mvL
  rw [S1_perm (sortI_perm _), S1_map]
  refine S1_congr fun a ha => ?_
  rw [S1_perm (sortI_perm _), S1_map]
  refine S1_congr fun b hb => ?_
  have pa := (mvF_rng (v := v) hv (mv_pos (v := v) (t := t) hs (r.mem ha).1)).2.2
  have pb := (mvF_rng (v := v) hv (mv_pos (v := v) (t := t) hs (r.mem hb).1)).2.2
  have e : ((mvF v t s a - mvF v t s b) % (v : Int) = d) ↔ ((a - b) % (v : Int) = (u * d) % v) := by
    rw [pa, pb, ← Int.sub_emod, show a * (t : Int) + s - (b * t + s) = (a - b) * t by rw [Int.sub_mul]; omega]
    exact emod_key htu hv hd
  unfold ind
  simp only [e]
/-- Even sets stay even. -/
theorem even_orb {v : Nat} {l o : List Int} (r : RingOk v l) (h : Orb v l o) (he : eqA (diffs v l) (v - 1) 1 = true) : eqA (diffs v o) (v - 1) 1 = true ∧ nth (diffs v o) 1 = nth (diffs v l) 1 := by
  have ro := h.ring r
  obtain ⟨t, s, h1, h2, h3, h4, rfl⟩ := h
  have hv2 := r.v2
  obtain ⟨u, u1, u2, u3⟩ := inv_ex (v := v) (t := t) (by omega) (by have := r.v31; omega) h1 h2
  have htu : t * u % v = 1 % v := by rw [u3, Nat.mod_eq_of_lt (by omega)]
  have all : ∀ d : Nat, 1 ≤ d → d < v → nth (diffs v (mvL v t s l)) d = nth (diffs v l) 1 := by
    intro d d1 d2
    rw [diffs_nth ro d1, Dn_mv r h3 htu (by omega)]
    have p0 := Int.emod_nonneg ((u : Int) * d) (show (v : Int) ≠ 0 by omega)
    have p1 := Int.emod_lt_of_pos ((u : Int) * d) (show (0 : Int) < v by omega)
    obtain ⟨e, hE⟩ : ∃ e : Nat, ((u : Int) * d) % v = e := ⟨(((u : Int) * d) % v).toNat, by omega⟩
    have hE0 : e ≠ 0 := by
      rintro rfl
      have hdv : (v : Int) ∣ (d : Int) * u := by rw [Int.mul_comm]; exact Int.dvd_of_emod_eq_zero hE
      have := dvd_small u2 d2 hdv
      omega
    rw [hE, ← diffs_nth r (by omega)]
    rw [eqA, List.all_eq_true] at he
    have := he e (by simp [List.mem_range'_1]; omega)
    simpa using this
  refine ⟨?_, all 1 (by omega) (by omega)⟩
  rw [eqA, List.all_eq_true]
  intro d hd
  simp [List.mem_range'_1] at hd
  rw [all d (by omega) (by omega), all 1 (by omega) (by omega)]
  simp

/-! ### All pairs; squares -/
def rng (v : Nat) : List Int := (List.range' 0 v).map fun t : Nat => (t : Int)
theorem mem_rng {v : Nat} {x : Int} : x ∈ rng v ↔ 0 ≤ x ∧ x < v := by
  unfold rng
  rw [List.mem_map]
  constructor
  · rintro ⟨t, h, rfl⟩
    simp [List.mem_range'_1] at h
    omega
  · rintro ⟨h1, h2⟩
    exact ⟨x.toNat, by simp [List.mem_range'_1]; omega, by omega⟩
theorem rng_nodup (v : Nat) : (rng v).Nodup := by
  unfold rng
  rw [List.nodup_iff_pairwise_ne, List.pairwise_map]
  exact (range_sorted v 0).imp fun h => by omega
/-- Sums over pairs are sums over differences. -/
theorem pairs_sum {v : Nat} (hv : 0 < v) (l : List Int) (f : Int → Int) : (S1 l fun a => S1 l fun b => f ((a - b) % v)) = S1 (rng v) fun d => f d * Dn v l d := by
  have h1 : ∀ x : Int, f (x % v) = S1 (rng v) fun d => f d * ind (x % v = d) := by
    intro x
    have hm : x % (v : Int) ∈ rng v := mem_rng.2 ⟨Int.emod_nonneg _ (by omega), Int.emod_lt_of_pos _ (by omega)⟩
    have : (S1 (rng v) fun d => f d * ind (x % v = d)) = S1 (rng v) fun d => f (x % v) * ind (x % v = d) := S1_congr fun d _ => by
      unfold ind
      by_cases e : x % (v : Int) = d
      · rw [e]
      · simp [e]
    rw [this, S1_mul, S1_one (rng_nodup v) hm, Int.mul_one]
  have h2 : (S1 l fun a => S1 l fun b => f ((a - b) % v)) = S1 l fun a => S1 (rng v) fun d => S1 l fun b => f d * ind ((a - b) % v = d) := S1_congr fun a _ => by
    rw [← S1_swap]; exact S1_congr fun b _ => h1 (a - b)
  rw [h2, S1_swap]
  refine S1_congr fun d _ => ?_
  rw [Dn, ← S1_mul]
  exact S1_congr fun a _ => S1_mul ..
theorem rng_cons {v : Nat} (hv : 0 < v) : rng v = 0 :: (List.range' 1 (v - 1)).map fun t : Nat => (t : Int) := by
  obtain ⟨k, rfl⟩ : ∃ k, v = k + 1 := ⟨v - 1, by omega⟩
  unfold rng
  rw [List.range'_succ]
  rfl
theorem Dn_zero {v : Nat} {l : List Int} (r : RingOk v l) : Dn v l 0 = l.length := by
  have hn : l.Nodup := r.pw.imp fun h e => by omega
  unfold Dn
  have : (S1 l fun a => S1 l fun b => ind ((a - b) % (v : Int) = 0)) = S1 l fun _ => 1 := S1_congr fun a ha => by
    rw [← S1_one hn ha]
    refine S1_congr fun b hb => ?_
    have pa := r.mem ha
    have pb := r.mem hb
    unfold ind
    have : ((a - b) % (v : Int) = 0) ↔ a = b := by
      constructor
      · intro h
        obtain ⟨k, hk⟩ := Int.dvd_of_emod_eq_zero h
        have : k = 0 := by
          rcases Int.lt_trichotomy k 0 with h | h | h
          · have : (v : Int) * k ≤ v * (-1) := Int.mul_le_mul_of_nonneg_left (by omega) (by omega); omega
          · exact h
          · have : (v : Int) * 1 ≤ v * k := Int.mul_le_mul_of_nonneg_left (by omega) (by omega); omega
        subst this; omega
      · rintro rfl; simp
    simp only [this]
  rw [this, S1_const, Int.mul_one]
theorem even_Dn {v : Nat} {l : List Int} (r : RingOk v l) (he : eqA (diffs v l) (v - 1) 1 = true) {d : Int} (h1 : 1 ≤ d) (h2 : d < v) : Dn v l d = nth (diffs v l) 1 := by
  rw [eqA, List.all_eq_true] at he
  have := he d.toNat (by simp [List.mem_range'_1]; omega)
  rw [decide_eq_true_eq, diffs_nth r (by omega)] at this
  rwa [show ((d.toNat : Nat) : Int) = d by omega] at this
/-- T1. -/
theorem even_count {v : Nat} {l : List Int} (r : RingOk v l) (he : eqA (diffs v l) (v - 1) 1 = true) : (l.length : Int) * ((l.length : Int) - 1) = nth (diffs v l) 1 * ((v : Int) - 1) := by
  have hv := r.v2
  have h := pairs_sum (v := v) (by omega) l (fun _ => 1)
  have h1 : (S1 l fun a => S1 l fun b => (1 : Int)) = l.length * l.length := by
    have : (S1 l fun a => S1 l fun b => (1 : Int)) = S1 l fun _ => (l.length : Int) := S1_congr fun a _ => by rw [S1_const, Int.mul_one]
    rw [this, S1_const]
  rw [h1, rng_cons (by omega), S1_cons] at h
  have h2 : (S1 ((List.range' 1 (v - 1)).map fun t : Nat => (t : Int)) fun d => 1 * Dn v l d) = S1 ((List.range' 1 (v - 1)).map fun t : Nat => (t : Int)) fun _ => nth (diffs v l) 1 := S1_congr fun d hd => by
    obtain ⟨t, ht, rfl⟩ := List.mem_map.1 hd
    simp [List.mem_range'_1] at ht
    rw [Int.one_mul, even_Dn r he (by omega) (by omega)]
  rw [h2, S1_const, List.length_map, List.length_range', Int.one_mul, Dn_zero r] at h
  rw [Int.mul_sub, h, show (((v - 1 : Nat) : Int)) = (v : Int) - 1 by omega, Int.mul_comm ((v : Int) - 1)]
  omega
def chi (x : Int) : Int := if x % 2 = 0 then 1 else -1
end Go.Proofs.YtofceaeboboflaaDoor

/-
  BODIES OF FUNCTIONS OF THE PROGRAM AS SMALL OPERATIONS (written by gen.py; checked by the kernel against the program). Conditions: none.
-/
namespace Go.Proofs.YtofceaeboboflaaDoor
open Go.AM
open Go.Proofs.Tryd (prog)
set_option maxRecDepth 100000
set_option linter.all false

namespace l04_made
/-- pommel/pommellaw04.made -/
noncomputable def b : Code := (Tryd.f7.body).getD .skip
theorem hf : prog.funcs[7]? = some Tryd.f7 := by kernel_rfl
noncomputable def r0 : Code := findReg b 0
noncomputable def r1 : Code := findReg b 1
noncomputable def r2 : Code := findReg b 2
noncomputable def k0 : Code := findBlk b 0
noncomputable def l0 : Code := loopOf k0
noncomputable def L0 (x1 x4 x5 : AV) (m : Mem) (K : List Item) : Option Res := den prog ann 7 (.code l0 :: .inLoop l0 :: .inBlock 0 :: K) ⟨[(1, x1), (4, x4), (5, x5)], 48, m⟩
noncomputable def r3 : Code := findReg b 3
noncomputable def i0 : Code := findCond b 0
noncomputable def i0t : Code := thenOf i0
noncomputable def i0e : Code := elseOf i0
noncomputable def k1 : Code := findBlk b 1
noncomputable def r4 : Code := findReg b 4
noncomputable def r5 : Code := findReg b 5
theorem b_eq (K : List Item) (s : St) : den prog ann 7 (.code b :: K) s = den prog ann 7 (.code r0 :: .code r1 :: .code r2 :: .code k0 :: .code r5 :: .code .ret :: K) s := den_flat hf (l := [r0, r1, r2, k0, r5, .ret]) (by kernel_rfl) K s
theorem r0_eq (K : List Item) (s : St) : den prog ann 7 (.code r0 :: K) s = mreg prog ann 7 none [] none [] [
    ⟨some 1, none, .v fun s => frozenPtr (s.get 0)⟩,
    ⟨some 2, none, .v fun s => some (.int .i64 0)⟩,
    ⟨some 3, none, .v fun s => some (.nils)⟩] K s := (den_reg hf _ K s).trans (by kernel_rfl)
theorem r1_draw : drawOk (fun g => (ann g).pure) (modeOf (ann 7) (idOf r1)) (frzOf (ann 7) (idOf r1)) (opsOf r1) = true := drawOk_of (an := [0, 0, 2, 6, 0, 16, 62, 127, 255, 0, 1023]) (by kernel_rfl) (by kernel_rfl)
theorem r1_eq (K : List Item) (s : St) : den prog ann 7 (.code r1 :: K) s = mreg prog ann 7 none [] (some 11) [4] [
    ⟨some 6, none, .v fun s => loadA false 1 s.m (globV 0)⟩,
    ⟨some 7, none, .v fun s => idxArr 3 1 (s.get 1) (.int .i64 0)⟩,
    ⟨some 8, none, .v fun s => loadF false 1 (s.get 7)⟩,
    ⟨some 9, none, .v fun s => convInt .i64 (s.get 8)⟩,
    ⟨some 10, none, .v fun s => loadA false 1 s.m (globV 0)⟩,
    ⟨some 11, none, .v fun s => lenSl (s.get 10)⟩,
    ⟨some 12, none, .v fun s => binA prog .rem 3 (s.get 9) (s.get 11)⟩,
    ⟨some 13, none, .v fun s => idxSl 2 (s.get 6) (s.get 12)⟩,
    ⟨some 14, none, .v fun s => loadA true 2 s.m (s.get 13)⟩,
    ⟨some 4, none, .w false (some 9) fun s => newPtr s.m [.int .i64 0, .nils]⟩,
    ⟨none, none, .w false (some 10) fun s => stA true 2 s.m (s.get 4) (s.get 14)⟩] K s := (den_regD hf r1_draw K s).trans (by kernel_rfl)
theorem r2_eq (K : List Item) (s : St) : den prog ann 7 (.code r2 :: K) s = mreg prog ann 7 none [] none [] [
    ⟨some 15, none, .v fun s => idxArr 3 1 (s.get 1) (.int .i64 1)⟩,
    ⟨some 16, none, .v fun s => loadF false 1 (s.get 15)⟩,
    ⟨some 17, none, .v fun s => convInt .i64 (s.get 16)⟩,
    ⟨some 18, none, .v fun s => fieldA 0 (s.get 4)⟩,
    ⟨some 19, none, .v fun s => loadF false 1 (s.get 18)⟩,
    ⟨some 20, none, .v fun s => binA prog .sub 3 (s.get 19) (.int .i64 1)⟩,
    ⟨some 21, none, .v fun s => binA prog .rem 3 (s.get 17) (s.get 20)⟩,
    ⟨some 22, none, .v fun s => binA prog .add 3 (s.get 21) (.int .i64 1)⟩,
    ⟨some 5, none, .v fun s => some (s.get 22)⟩] K s := (den_reg hf _ K s).trans (by kernel_rfl)
theorem k0_eq (K : List Item) (t : List (Nat × AV)) (m : Mem) : den prog ann 7 (.code k0 :: K) ⟨t, 48, m⟩ = L0 (get t 1) (get t 4) (get t 5) m K := den_loop_enter hf (b := l0) (id := 3) (l := [1, 4, 5]) (by kernel_rfl) (by kernel_rfl) (by kernel_rfl) K _
theorem l0_eq (K : List Item) (t : List (Nat × AV)) (m : Mem) : den prog ann 7 (.inLoop l0 :: .inBlock 0 :: K) ⟨t, 48, m⟩ = L0 (get t 1) (get t 4) (get t 5) m K := den_loop_again hf (id := 3) (l := [1, 4, 5]) (by kernel_rfl) (by kernel_rfl) (.inBlock 0 :: K) _
theorem L0_eq (x1 x4 x5 : AV) (m : Mem) (K : List Item) : L0 x1 x4 x5 m K = den prog ann 7 (.code r3 :: .code i0 :: .code k1 :: .inLoop l0 :: .inBlock 0 :: K) ⟨[(1, x1), (4, x4), (5, x5)], 48, m⟩ := den_flat hf (l := [r3, i0, k1]) (by kernel_rfl) _ _
theorem r3_eq (K : List Item) (s : St) : den prog ann 7 (.code r3 :: K) s = mreg prog ann 7 (some [1, 4, 5]) [] none [] [
    ⟨some 23, none, .v fun s => some (s.get 5)⟩,
    ⟨some 24, none, .v fun s => fieldA 0 (s.get 4)⟩,
    ⟨some 25, none, .v fun s => loadF false 1 (s.get 24)⟩,
    ⟨some 26, none, .c 0 (fun s => (.fn 12 [] [])) fun s => [(s.get 23), (s.get 25)]⟩,
    ⟨some 27, none, .v fun s => binA prog .neq 3 (s.get 26) (.int .i64 1)⟩] K s := (den_reg hf _ K s).trans (by kernel_rfl)
theorem i0_eq (K : List Item) (s : St) : den prog ann 7 (.code i0 :: K) s = ifV prog ann 7 27 i0t i0e K s (s.get 27) := den_if hf (by kernel_rfl) K s
theorem i0t_eq (K : List Item) (s : St) : den prog ann 7 (.code i0t :: K) s = den prog ann 7 (K) s := den_flat hf (l := []) (by kernel_rfl) K s
theorem i0e_eq (K : List Item) (s : St) : den prog ann 7 (.code i0e :: K) s = den prog ann 7 (.code (.exit 0) :: K) s := den_flat hf (l := [(.exit 0)]) (by kernel_rfl) K s
theorem k1_eq (K : List Item) (s : St) : den prog ann 7 (.code k1 :: K) s = den prog ann 7 (.code r4 :: .inBlock 1 :: K) s := den_blk hf (b := blkOf k1) (l := [r4]) (by kernel_rfl) (by kernel_rfl) K s
theorem r4_eq (K : List Item) (s : St) : den prog ann 7 (.code r4 :: K) s = mreg prog ann 7 none [] none [] [
    ⟨some 28, none, .v fun s => some (s.get 5)⟩,
    ⟨some 29, none, .v fun s => fieldA 0 (s.get 4)⟩,
    ⟨some 30, none, .v fun s => loadF false 1 (s.get 29)⟩,
    ⟨some 31, none, .v fun s => binA prog .sub 3 (s.get 30) (.int .i64 1)⟩,
    ⟨some 32, none, .v fun s => binA prog .rem 3 (s.get 28) (s.get 31)⟩,
    ⟨some 33, none, .v fun s => binA prog .add 3 (s.get 32) (.int .i64 1)⟩,
    ⟨some 5, none, .v fun s => some (s.get 33)⟩] K s := (den_reg hf _ K s).trans (by kernel_rfl)
theorem r5_draw : drawOk (fun g => (ann g).pure) (modeOf (ann 7) (idOf r5)) (frzOf (ann 7) (idOf r5)) (opsOf r5) = true := drawOk_of (an := [0, 1, 0, 4, 0, 16, 0, 0, 128, 384, 0, 1024, 3968, 8188, 16383, 32767]) (by kernel_rfl) (by kernel_rfl)
theorem r5_eq (K : List Item) (s : St) : den prog ann 7 (.code r5 :: K) s = mreg prog ann 7 (some [1, 4, 5]) [] (some 16) [] [
    ⟨some 34, none, .v fun s => fieldA 0 (s.get 4)⟩,
    ⟨some 35, none, .v fun s => loadF false 1 (s.get 34)⟩,
    ⟨some 36, none, .v fun s => fieldA 0 (s.get 4)⟩,
    ⟨some 37, none, .v fun s => loadF false 1 (s.get 36)⟩,
    ⟨some 38, none, .v fun s => fieldA 1 (s.get 4)⟩,
    ⟨some 39, none, .v fun s => loadF false 1 (s.get 38)⟩,
    ⟨some 40, none, .v fun s => some (s.get 5)⟩,
    ⟨some 41, none, .v fun s => idxArr 3 1 (s.get 1) (.int .i64 2)⟩,
    ⟨some 42, none, .v fun s => loadF false 1 (s.get 41)⟩,
    ⟨some 43, none, .v fun s => convInt .i64 (s.get 42)⟩,
    ⟨some 44, none, .v fun s => fieldA 0 (s.get 4)⟩,
    ⟨some 45, none, .v fun s => loadF false 1 (s.get 44)⟩,
    ⟨some 46, none, .v fun s => binA prog .rem 3 (s.get 43) (s.get 45)⟩,
    ⟨some 47, none, .c 0 (fun s => (.fn 13 [] [])) fun s => [(s.get 37), (s.get 39), (s.get 40), (s.get 46)]⟩,
    ⟨some 2, none, .v fun s => some (s.get 35)⟩,
    ⟨some 3, none, .v fun s => some (s.get 47)⟩] K s := (den_regD hf r5_draw K s).trans (by kernel_rfl)
theorem ret_eq (K : List Item) (s : St) : den prog ann 7 (.code .ret :: K) s = finM true [fun s => some (s.get 2), fun s => some (s.get 3)] s := (den_ret hf K s).trans (by kernel_rfl)
theorem nil_eq (s : St) : den prog ann 7 [] s = finM true [fun s => some (s.get 2), fun s => some (s.get 3)] s := (den_nil hf s).trans (by kernel_rfl)
theorem inBlock_eq (id : Nat) (K : List Item) (s : St) : den prog ann 7 (.inBlock id :: K) s = den prog ann 7 K s := den_inBlock hf id K s
theorem exit_eq (id : Nat) (K : List Item) (s : St) : den prog ann 7 (.code (.exit id) :: K) s = exitV prog ann 7 (exitTo id K) s := den_exitV hf id K s
theorem call_eq (v0 : AV) (m : Mem) (h : closedL [v0] = true) : denC prog ann 7 [v0] m = (den prog ann 7 [.code b] ⟨[(0, v0)], 48, Mem.empty⟩).bind fun r => some (r.1, m) := (denC_pure hf (b := b) (by kernel_rfl) (by kernel_rfl) (by kernel_rfl) h m).trans (by kernel_rfl)
theorem pure_eq : (ann 7).pure = true := by kernel_rfl
attribute [simp] b_eq r0_eq r1_eq r2_eq k0_eq l0_eq r3_eq i0_eq i0t_eq i0e_eq k1_eq r4_eq r5_eq ret_eq nil_eq inBlock_eq exit_eq pure_eq
end l04_made



namespace l04_StrapHall
/-- pommel/pommellaw04.StrapHall -/
noncomputable def b : Code := (Tryd.f5.body).getD .skip
theorem hf : prog.funcs[5]? = some Tryd.f5 := by kernel_rfl
noncomputable def r0 : Code := findReg b 0
noncomputable def r1 : Code := findReg b 1
noncomputable def r2 : Code := findReg b 2
noncomputable def r3 : Code := findReg b 3
noncomputable def r4 : Code := findReg b 4
noncomputable def i0 : Code := findCond b 0
noncomputable def i0t : Code := thenOf i0
noncomputable def i0e : Code := elseOf i0
noncomputable def r5 : Code := findReg b 5
noncomputable def r6 : Code := findReg b 6
noncomputable def k0 : Code := findBlk b 0
noncomputable def l0 : Code := loopOf k0
noncomputable def L0 (x3 x4 x5 x7 x9 : AV) (m : Mem) (K : List Item) : Option Res := den prog ann 5 (.code l0 :: .inLoop l0 :: .inBlock 0 :: K) ⟨[(3, x3), (4, x4), (5, x5), (7, x7), (9, x9)], 110, m⟩
noncomputable def r7 : Code := findReg b 7
noncomputable def i1 : Code := findCond b 1
noncomputable def i1t : Code := thenOf i1
noncomputable def i1e : Code := elseOf i1
noncomputable def k1 : Code := findBlk b 1
noncomputable def r9 : Code := findReg b 9
noncomputable def r10 : Code := findReg b 10
noncomputable def k2 : Code := findBlk b 2
noncomputable def l2 : Code := loopOf k2
noncomputable def L2 (x3 x4 x5 x7 x9 x10 x11 : AV) (m : Mem) (K : List Item) : Option Res := den prog ann 5 (.code l2 :: .inLoop l2 :: .inBlock 2 :: K) ⟨[(3, x3), (4, x4), (5, x5), (7, x7), (9, x9), (10, x10), (11, x11)], 110, m⟩
noncomputable def r11 : Code := findReg b 11
noncomputable def i2 : Code := findCond b 2
noncomputable def i2t : Code := thenOf i2
noncomputable def i2e : Code := elseOf i2
noncomputable def k3 : Code := findBlk b 3
noncomputable def r13 : Code := findReg b 13
noncomputable def r12 : Code := findReg b 12
noncomputable def r14 : Code := findReg b 14
noncomputable def i3 : Code := findCond b 3
noncomputable def i3t : Code := thenOf i3
noncomputable def i3e : Code := elseOf i3
noncomputable def r15 : Code := findReg b 15
noncomputable def r16 : Code := findReg b 16
noncomputable def k4 : Code := findBlk b 4
noncomputable def l4 : Code := loopOf k4
noncomputable def L4 (x3 x4 x5 x7 x9 x12 x13 : AV) (m : Mem) (K : List Item) : Option Res := den prog ann 5 (.code l4 :: .inLoop l4 :: .inBlock 4 :: K) ⟨[(3, x3), (4, x4), (5, x5), (7, x7), (9, x9), (12, x12), (13, x13)], 110, m⟩
noncomputable def r17 : Code := findReg b 17
noncomputable def i4 : Code := findCond b 4
noncomputable def i4t : Code := thenOf i4
noncomputable def i4e : Code := elseOf i4
noncomputable def k5 : Code := findBlk b 5
noncomputable def r19 : Code := findReg b 19
noncomputable def r18 : Code := findReg b 18
noncomputable def r20 : Code := findReg b 20
noncomputable def i5 : Code := findCond b 5
noncomputable def i5t : Code := thenOf i5
noncomputable def i5e : Code := elseOf i5
noncomputable def r21 : Code := findReg b 21
noncomputable def r8 : Code := findReg b 8
noncomputable def r22 : Code := findReg b 22
theorem b_eq (K : List Item) (s : St) : den prog ann 5 (.code b :: K) s = den prog ann 5 (.code r0 :: .code r1 :: .code r2 :: .code r3 :: .code r4 :: .code i0 :: .code r6 :: .code k0 :: .code r22 :: .code .ret :: K) s := den_flat hf (l := [r0, r1, r2, r3, r4, i0, r6, k0, r22, .ret]) (by kernel_rfl) K s
theorem r0_eq (K : List Item) (s : St) : den prog ann 5 (.code r0 :: K) s = mreg prog ann 5 none [] none [] [
    ⟨some 1, none, .v fun s => frozenPtr (s.get 0)⟩,
    ⟨some 2, none, .v fun s => some (.bool false)⟩] K s := (den_reg hf _ K s).trans (by kernel_rfl)
theorem r1_eq (K : List Item) (s : St) : den prog ann 5 (.code r1 :: K) s = mreg prog ann 5 none [] none [] [
    ⟨some 15, none, .v fun s => loadF true 3 (s.get 1)⟩,
    ⟨some 16, none, .c 0 (fun s => (.fn 7 [] [])) fun s => [(s.get 15)]⟩,
    ⟨some 14, none, .v fun s => some (s.get 16)⟩,
    ⟨some 17, none, .v fun s => extA (s.get 14) 0⟩,
    ⟨some 18, none, .v fun s => extA (s.get 14) 1⟩,
    ⟨some 3, none, .v fun s => some (s.get 17)⟩,
    ⟨some 4, none, .v fun s => some (s.get 18)⟩] K s := (den_reg hf _ K s).trans (by kernel_rfl)
theorem r2_eq (K : List Item) (s : St) : den prog ann 5 (.code r2 :: K) s = mreg prog ann 5 none [] none [] [
    ⟨some 20, none, .v fun s => some (s.get 3)⟩,
    ⟨some 21, none, .v fun s => some (s.get 4)⟩,
    ⟨some 22, none, .c 0 (fun s => (.fn 10 [] [])) fun s => [(s.get 20), (s.get 21)]⟩,
    ⟨some 19, none, .v fun s => some (s.get 22)⟩,
    ⟨some 23, none, .v fun s => extA (s.get 19) 0⟩,
    ⟨some 24, none, .v fun s => extA (s.get 19) 1⟩,
    ⟨some 5, none, .v fun s => some (s.get 23)⟩,
    ⟨some 6, none, .v fun s => some (s.get 24)⟩] K s := (den_reg hf _ K s).trans (by kernel_rfl)
theorem r3_eq (K : List Item) (s : St) : den prog ann 5 (.code r3 :: K) s = mreg prog ann 5 none [] none [] [
    ⟨some 26, none, .v fun s => some (s.get 3)⟩,
    ⟨some 27, none, .v fun s => some (s.get 4)⟩,
    ⟨some 28, none, .c 0 (fun s => (.fn 8 [] [])) fun s => [(s.get 26), (s.get 27)]⟩,
    ⟨some 25, none, .v fun s => some (s.get 28)⟩,
    ⟨some 29, none, .v fun s => extA (s.get 25) 0⟩,
    ⟨some 30, none, .v fun s => extA (s.get 25) 1⟩,
    ⟨some 7, none, .v fun s => some (s.get 29)⟩,
    ⟨some 8, none, .v fun s => some (s.get 30)⟩] K s := (den_reg hf _ K s).trans (by kernel_rfl)
theorem r4_eq (K : List Item) (s : St) : den prog ann 5 (.code r4 :: K) s = mreg prog ann 5 none [] none [] [
    ⟨some 31, none, .v fun s => some (s.get 6)⟩,
    ⟨some 32, none, .v fun s => binA prog .neq 27 (s.get 31) (.int .i64 0)⟩,
    ⟨some 33, none, .v fun s => some (s.get 32)⟩,
    ⟨some 34, some (33, false), .v fun s => some (s.get 8)⟩,
    ⟨some 35, some (33, false), .v fun s => binA prog .neq 27 (s.get 34) (.int .i64 0)⟩,
    ⟨some 36, none, .v fun s => pickA (s.get 33) (.bool true) (s.get 35)⟩,
    ⟨some 37, none, .v fun s => some (s.get 36)⟩,
    ⟨some 38, some (37, false), .c 0 (fun s => (.fn 9 [] [])) fun s => []⟩,
    ⟨some 39, some (37, false), .v fun s => unA .not (s.get 38)⟩,
    ⟨some 40, none, .v fun s => pickA (s.get 37) (.bool true) (s.get 39)⟩] K s := (den_reg hf _ K s).trans (by kernel_rfl)
theorem i0_eq (K : List Item) (s : St) : den prog ann 5 (.code i0 :: K) s = ifV prog ann 5 40 i0t i0e K s (s.get 40) := den_if hf (by kernel_rfl) K s
theorem i0t_eq (K : List Item) (s : St) : den prog ann 5 (.code i0t :: K) s = den prog ann 5 (.code r5 :: .code .ret :: K) s := den_flat hf (l := [r5, .ret]) (by kernel_rfl) K s
theorem r5_eq (K : List Item) (s : St) : den prog ann 5 (.code r5 :: K) s = mreg prog ann 5 none [] none [] [
    ⟨some 2, none, .v fun s => some (.bool false)⟩] K s := (den_reg hf _ K s).trans (by kernel_rfl)
theorem i0e_eq (K : List Item) (s : St) : den prog ann 5 (.code i0e :: K) s = den prog ann 5 (K) s := den_flat hf (l := []) (by kernel_rfl) K s
theorem r6_eq (K : List Item) (s : St) : den prog ann 5 (.code r6 :: K) s = mreg prog ann 5 none [] none [] [
    ⟨some 9, none, .v fun s => some (.int .i64 2)⟩] K s := (den_reg hf _ K s).trans (by kernel_rfl)
theorem k0_eq (K : List Item) (t : List (Nat × AV)) (m : Mem) : den prog ann 5 (.code k0 :: K) ⟨t, 110, m⟩ = L0 (get t 3) (get t 4) (get t 5) (get t 7) (get t 9) m K := den_loop_enter hf (b := l0) (id := 7) (l := [3, 4, 5, 7, 9]) (by kernel_rfl) (by kernel_rfl) (by kernel_rfl) K _
theorem l0_eq (K : List Item) (t : List (Nat × AV)) (m : Mem) : den prog ann 5 (.inLoop l0 :: .inBlock 0 :: K) ⟨t, 110, m⟩ = L0 (get t 3) (get t 4) (get t 5) (get t 7) (get t 9) m K := den_loop_again hf (id := 7) (l := [3, 4, 5, 7, 9]) (by kernel_rfl) (by kernel_rfl) (.inBlock 0 :: K) _
theorem L0_eq (x3 x4 x5 x7 x9 : AV) (m : Mem) (K : List Item) : L0 x3 x4 x5 x7 x9 m K = den prog ann 5 (.code r7 :: .code i1 :: .code k1 :: .code r8 :: .inLoop l0 :: .inBlock 0 :: K) ⟨[(3, x3), (4, x4), (5, x5), (7, x7), (9, x9)], 110, m⟩ := den_flat hf (l := [r7, i1, k1, r8]) (by kernel_rfl) _ _
theorem r7_eq (K : List Item) (s : St) : den prog ann 5 (.code r7 :: K) s = mreg prog ann 5 (some [3, 4, 5, 7, 9]) [] none [] [
    ⟨some 41, none, .v fun s => some (s.get 9)⟩,
    ⟨some 42, none, .v fun s => some (s.get 3)⟩,
    ⟨some 43, none, .v fun s => binA prog .lss 3 (s.get 41) (s.get 42)⟩,
    ⟨some 44, none, .v fun s => some (s.get 43)⟩,
    ⟨some 45, some (44, true), .v fun s => some (s.get 4)⟩,
    ⟨some 46, some (44, true), .v fun s => lenSl (s.get 45)⟩,
    ⟨some 47, some (44, true), .v fun s => binA prog .gtr 3 (s.get 46) (.int .i64 1)⟩,
    ⟨some 48, none, .v fun s => pickA (s.get 44) (s.get 47) (.bool false)⟩,
    ⟨some 49, none, .v fun s => some (s.get 48)⟩,
    ⟨some 50, some (49, true), .v fun s => some (s.get 4)⟩,
    ⟨some 51, some (49, true), .v fun s => lenSl (s.get 50)⟩,
    ⟨some 52, some (49, true), .v fun s => some (s.get 3)⟩,
    ⟨some 53, some (49, true), .v fun s => binA prog .lss 3 (s.get 51) (s.get 52)⟩,
    ⟨some 54, none, .v fun s => pickA (s.get 49) (s.get 53) (.bool false)⟩] K s := (den_reg hf _ K s).trans (by kernel_rfl)
theorem i1_eq (K : List Item) (s : St) : den prog ann 5 (.code i1 :: K) s = ifV prog ann 5 54 i1t i1e K s (s.get 54) := den_if hf (by kernel_rfl) K s
theorem i1t_eq (K : List Item) (s : St) : den prog ann 5 (.code i1t :: K) s = den prog ann 5 (K) s := den_flat hf (l := []) (by kernel_rfl) K s
theorem i1e_eq (K : List Item) (s : St) : den prog ann 5 (.code i1e :: K) s = den prog ann 5 (.code (.exit 0) :: K) s := den_flat hf (l := [(.exit 0)]) (by kernel_rfl) K s
theorem k1_eq (K : List Item) (s : St) : den prog ann 5 (.code k1 :: K) s = den prog ann 5 (.code r9 :: .code r10 :: .code k2 :: .code r14 :: .code i3 :: .code r15 :: .code r16 :: .code k4 :: .code r20 :: .code i5 :: .inBlock 1 :: K) s := den_blk hf (b := blkOf k1) (l := [r9, r10, k2, r14, i3, r15, r16, k4, r20, i5]) (by kernel_rfl) (by kernel_rfl) K s
theorem r9_eq (K : List Item) (s : St) : den prog ann 5 (.code r9 :: K) s = mreg prog ann 5 none [] none [] [
    ⟨some 10, none, .v fun s => some (.bool true)⟩] K s := (den_reg hf _ K s).trans (by kernel_rfl)
theorem r10_eq (K : List Item) (s : St) : den prog ann 5 (.code r10 :: K) s = mreg prog ann 5 none [] none [] [
    ⟨some 11, none, .v fun s => some (.int .i64 2)⟩] K s := (den_reg hf _ K s).trans (by kernel_rfl)
theorem k2_eq (K : List Item) (t : List (Nat × AV)) (m : Mem) : den prog ann 5 (.code k2 :: K) ⟨t, 110, m⟩ = L2 (get t 3) (get t 4) (get t 5) (get t 7) (get t 9) (get t 10) (get t 11) m K := den_loop_enter hf (b := l2) (id := 11) (l := [3, 4, 5, 7, 9, 10, 11]) (by kernel_rfl) (by kernel_rfl) (by kernel_rfl) K _
theorem l2_eq (K : List Item) (t : List (Nat × AV)) (m : Mem) : den prog ann 5 (.inLoop l2 :: .inBlock 2 :: K) ⟨t, 110, m⟩ = L2 (get t 3) (get t 4) (get t 5) (get t 7) (get t 9) (get t 10) (get t 11) m K := den_loop_again hf (id := 11) (l := [3, 4, 5, 7, 9, 10, 11]) (by kernel_rfl) (by kernel_rfl) (.inBlock 2 :: K) _
theorem L2_eq (x3 x4 x5 x7 x9 x10 x11 : AV) (m : Mem) (K : List Item) : L2 x3 x4 x5 x7 x9 x10 x11 m K = den prog ann 5 (.code r11 :: .code i2 :: .code k3 :: .code r12 :: .inLoop l2 :: .inBlock 2 :: K) ⟨[(3, x3), (4, x4), (5, x5), (7, x7), (9, x9), (10, x10), (11, x11)], 110, m⟩ := den_flat hf (l := [r11, i2, k3, r12]) (by kernel_rfl) _ _
theorem r11_eq (K : List Item) (s : St) : den prog ann 5 (.code r11 :: K) s = mreg prog ann 5 (some [3, 4, 5, 7, 9, 10, 11]) [] none [] [
    ⟨some 57, none, .v fun s => some (s.get 11)⟩,
    ⟨some 58, none, .v fun s => some (s.get 11)⟩,
    ⟨some 59, none, .v fun s => binA prog .mul 3 (s.get 57) (s.get 58)⟩,
    ⟨some 60, none, .v fun s => some (s.get 9)⟩,
    ⟨some 61, none, .v fun s => binA prog .leq 3 (s.get 59) (s.get 60)⟩] K s := (den_reg hf _ K s).trans (by kernel_rfl)
theorem i2_eq (K : List Item) (s : St) : den prog ann 5 (.code i2 :: K) s = ifV prog ann 5 61 i2t i2e K s (s.get 61) := den_if hf (by kernel_rfl) K s
theorem i2t_eq (K : List Item) (s : St) : den prog ann 5 (.code i2t :: K) s = den prog ann 5 (K) s := den_flat hf (l := []) (by kernel_rfl) K s
theorem i2e_eq (K : List Item) (s : St) : den prog ann 5 (.code i2e :: K) s = den prog ann 5 (.code (.exit 2) :: K) s := den_flat hf (l := [(.exit 2)]) (by kernel_rfl) K s
theorem k3_eq (K : List Item) (s : St) : den prog ann 5 (.code k3 :: K) s = den prog ann 5 (.code r13 :: .inBlock 3 :: K) s := den_blk hf (b := blkOf k3) (l := [r13]) (by kernel_rfl) (by kernel_rfl) K s
theorem r13_eq (K : List Item) (s : St) : den prog ann 5 (.code r13 :: K) s = mreg prog ann 5 none [] none [] [
    ⟨some 64, none, .v fun s => some (s.get 10)⟩,
    ⟨some 65, none, .v fun s => some (s.get 64)⟩,
    ⟨some 66, some (65, true), .v fun s => some (s.get 9)⟩,
    ⟨some 67, some (65, true), .v fun s => some (s.get 11)⟩,
    ⟨some 68, some (65, true), .v fun s => binA prog .rem 3 (s.get 66) (s.get 67)⟩,
    ⟨some 69, some (65, true), .v fun s => binA prog .neq 3 (s.get 68) (.int .i64 0)⟩,
    ⟨some 70, none, .v fun s => pickA (s.get 65) (s.get 69) (.bool false)⟩,
    ⟨some 10, none, .v fun s => some (s.get 70)⟩] K s := (den_reg hf _ K s).trans (by kernel_rfl)
theorem r12_eq (K : List Item) (s : St) : den prog ann 5 (.code r12 :: K) s = mreg prog ann 5 (some [3, 4, 5, 7, 9, 10, 11]) [] none [] [
    ⟨some 62, none, .v fun s => some (s.get 11)⟩,
    ⟨some 63, none, .v fun s => binA prog .add 3 (s.get 62) (.int .i64 1)⟩,
    ⟨some 11, none, .v fun s => some (s.get 63)⟩] K s := (den_reg hf _ K s).trans (by kernel_rfl)
theorem r14_eq (K : List Item) (s : St) : den prog ann 5 (.code r14 :: K) s = mreg prog ann 5 (some [3, 4, 5, 7, 9, 10]) [] none [] [
    ⟨some 71, none, .v fun s => some (s.get 10)⟩,
    ⟨some 72, none, .v fun s => unA .not (s.get 71)⟩,
    ⟨some 73, none, .v fun s => some (s.get 72)⟩,
    ⟨some 74, some (73, false), .v fun s => some (s.get 4)⟩,
    ⟨some 75, some (73, false), .v fun s => lenSl (s.get 74)⟩,
    ⟨some 76, some (73, false), .v fun s => some (s.get 5)⟩,
    ⟨some 77, some (73, false), .v fun s => binA prog .sub 3 (s.get 75) (s.get 76)⟩,
    ⟨some 78, some (73, false), .v fun s => some (s.get 9)⟩,
    ⟨some 79, some (73, false), .v fun s => binA prog .rem 3 (s.get 77) (s.get 78)⟩,
    ⟨some 80, some (73, false), .v fun s => binA prog .neq 3 (s.get 79) (.int .i64 0)⟩,
    ⟨some 81, none, .v fun s => pickA (s.get 73) (.bool true) (s.get 80)⟩,
    ⟨some 82, none, .v fun s => some (s.get 81)⟩,
    ⟨some 83, some (82, false), .v fun s => some (s.get 9)⟩,
    ⟨some 84, some (82, false), .v fun s => some (s.get 5)⟩,
    ⟨some 85, some (82, false), .v fun s => binA prog .leq 3 (s.get 83) (s.get 84)⟩,
    ⟨some 86, none, .v fun s => pickA (s.get 82) (.bool true) (s.get 85)⟩,
    ⟨some 87, none, .v fun s => some (s.get 86)⟩,
    ⟨some 88, some (87, false), .v fun s => some (s.get 3)⟩,
    ⟨some 89, some (87, false), .v fun s => some (s.get 9)⟩,
    ⟨some 90, some (87, false), .v fun s => binA prog .rem 3 (s.get 88) (s.get 89)⟩,
    ⟨some 91, some (87, false), .v fun s => binA prog .eql 3 (s.get 90) (.int .i64 0)⟩,
    ⟨some 92, none, .v fun s => pickA (s.get 87) (.bool true) (s.get 91)⟩] K s := (den_reg hf _ K s).trans (by kernel_rfl)
theorem i3_eq (K : List Item) (s : St) : den prog ann 5 (.code i3 :: K) s = ifV prog ann 5 92 i3t i3e K s (s.get 92) := den_if hf (by kernel_rfl) K s
theorem i3t_eq (K : List Item) (s : St) : den prog ann 5 (.code i3t :: K) s = den prog ann 5 (.code (.exit 1) :: K) s := den_flat hf (l := [(.exit 1)]) (by kernel_rfl) K s
theorem i3e_eq (K : List Item) (s : St) : den prog ann 5 (.code i3e :: K) s = den prog ann 5 (K) s := den_flat hf (l := []) (by kernel_rfl) K s
theorem r15_eq (K : List Item) (s : St) : den prog ann 5 (.code r15 :: K) s = mreg prog ann 5 none [] none [] [
    ⟨some 12, none, .v fun s => some (.bool false)⟩] K s := (den_reg hf _ K s).trans (by kernel_rfl)
theorem r16_eq (K : List Item) (s : St) : den prog ann 5 (.code r16 :: K) s = mreg prog ann 5 none [] none [] [
    ⟨some 13, none, .v fun s => some (.int .i64 0)⟩] K s := (den_reg hf _ K s).trans (by kernel_rfl)
theorem k4_eq (K : List Item) (t : List (Nat × AV)) (m : Mem) : den prog ann 5 (.code k4 :: K) ⟨t, 110, m⟩ = L4 (get t 3) (get t 4) (get t 5) (get t 7) (get t 9) (get t 12) (get t 13) m K := den_loop_enter hf (b := l4) (id := 17) (l := [3, 4, 5, 7, 9, 12, 13]) (by kernel_rfl) (by kernel_rfl) (by kernel_rfl) K _
theorem l4_eq (K : List Item) (t : List (Nat × AV)) (m : Mem) : den prog ann 5 (.inLoop l4 :: .inBlock 4 :: K) ⟨t, 110, m⟩ = L4 (get t 3) (get t 4) (get t 5) (get t 7) (get t 9) (get t 12) (get t 13) m K := den_loop_again hf (id := 17) (l := [3, 4, 5, 7, 9, 12, 13]) (by kernel_rfl) (by kernel_rfl) (.inBlock 4 :: K) _
theorem L4_eq (x3 x4 x5 x7 x9 x12 x13 : AV) (m : Mem) (K : List Item) : L4 x3 x4 x5 x7 x9 x12 x13 m K = den prog ann 5 (.code r17 :: .code i4 :: .code k5 :: .code r18 :: .inLoop l4 :: .inBlock 4 :: K) ⟨[(3, x3), (4, x4), (5, x5), (7, x7), (9, x9), (12, x12), (13, x13)], 110, m⟩ := den_flat hf (l := [r17, i4, k5, r18]) (by kernel_rfl) _ _
theorem r17_eq (K : List Item) (s : St) : den prog ann 5 (.code r17 :: K) s = mreg prog ann 5 (some [3, 4, 5, 7, 9, 12, 13]) [] none [] [
    ⟨some 93, none, .v fun s => some (s.get 13)⟩,
    ⟨some 94, none, .v fun s => some (s.get 7)⟩,
    ⟨some 95, none, .v fun s => lenSl (s.get 94)⟩,
    ⟨some 96, none, .v fun s => binA prog .lss 3 (s.get 93) (s.get 95)⟩] K s := (den_reg hf _ K s).trans (by kernel_rfl)
theorem i4_eq (K : List Item) (s : St) : den prog ann 5 (.code i4 :: K) s = ifV prog ann 5 96 i4t i4e K s (s.get 96) := den_if hf (by kernel_rfl) K s
theorem i4t_eq (K : List Item) (s : St) : den prog ann 5 (.code i4t :: K) s = den prog ann 5 (K) s := den_flat hf (l := []) (by kernel_rfl) K s
theorem i4e_eq (K : List Item) (s : St) : den prog ann 5 (.code i4e :: K) s = den prog ann 5 (.code (.exit 4) :: K) s := den_flat hf (l := [(.exit 4)]) (by kernel_rfl) K s
theorem k5_eq (K : List Item) (s : St) : den prog ann 5 (.code k5 :: K) s = den prog ann 5 (.code r19 :: .inBlock 5 :: K) s := den_blk hf (b := blkOf k5) (l := [r19]) (by kernel_rfl) (by kernel_rfl) K s
theorem r19_eq (K : List Item) (s : St) : den prog ann 5 (.code r19 :: K) s = mreg prog ann 5 none [] none [] [
    ⟨some 99, none, .v fun s => some (s.get 12)⟩,
    ⟨some 100, none, .v fun s => some (s.get 99)⟩,
    ⟨some 101, some (100, false), .v fun s => some (s.get 7)⟩,
    ⟨some 102, some (100, false), .v fun s => some (s.get 13)⟩,
    ⟨some 103, some (100, false), .v fun s => idxSl 1 (s.get 101) (s.get 102)⟩,
    ⟨some 104, some (100, false), .v fun s => loadF false 1 (s.get 103)⟩,
    ⟨some 105, some (100, false), .v fun s => some (s.get 9)⟩,
    ⟨some 106, some (100, false), .v fun s => binA prog .eql 3 (s.get 104) (s.get 105)⟩,
    ⟨some 107, none, .v fun s => pickA (s.get 100) (.bool true) (s.get 106)⟩,
    ⟨some 12, none, .v fun s => some (s.get 107)⟩] K s := (den_reg hf _ K s).trans (by kernel_rfl)
theorem r18_eq (K : List Item) (s : St) : den prog ann 5 (.code r18 :: K) s = mreg prog ann 5 (some [3, 4, 5, 7, 9, 12, 13]) [] none [] [
    ⟨some 97, none, .v fun s => some (s.get 13)⟩,
    ⟨some 98, none, .v fun s => binA prog .add 3 (s.get 97) (.int .i64 1)⟩,
    ⟨some 13, none, .v fun s => some (s.get 98)⟩] K s := (den_reg hf _ K s).trans (by kernel_rfl)
theorem r20_eq (K : List Item) (s : St) : den prog ann 5 (.code r20 :: K) s = mreg prog ann 5 (some [3, 4, 5, 7, 9, 12]) [] none [] [
    ⟨some 108, none, .v fun s => some (s.get 12)⟩,
    ⟨some 109, none, .v fun s => unA .not (s.get 108)⟩] K s := (den_reg hf _ K s).trans (by kernel_rfl)
theorem i5_eq (K : List Item) (s : St) : den prog ann 5 (.code i5 :: K) s = ifV prog ann 5 109 i5t i5e K s (s.get 109) := den_if hf (by kernel_rfl) K s
theorem i5t_eq (K : List Item) (s : St) : den prog ann 5 (.code i5t :: K) s = den prog ann 5 (.code r21 :: .code .ret :: K) s := den_flat hf (l := [r21, .ret]) (by kernel_rfl) K s
theorem r21_eq (K : List Item) (s : St) : den prog ann 5 (.code r21 :: K) s = mreg prog ann 5 none [] none [] [
    ⟨some 2, none, .v fun s => some (.bool false)⟩] K s := (den_reg hf _ K s).trans (by kernel_rfl)
theorem i5e_eq (K : List Item) (s : St) : den prog ann 5 (.code i5e :: K) s = den prog ann 5 (K) s := den_flat hf (l := []) (by kernel_rfl) K s
theorem r8_eq (K : List Item) (s : St) : den prog ann 5 (.code r8 :: K) s = mreg prog ann 5 (some [3, 4, 5, 7, 9]) [] none [] [
    ⟨some 55, none, .v fun s => some (s.get 9)⟩,
    ⟨some 56, none, .v fun s => binA prog .add 3 (s.get 55) (.int .i64 1)⟩,
    ⟨some 9, none, .v fun s => some (s.get 56)⟩] K s := (den_reg hf _ K s).trans (by kernel_rfl)
theorem r22_eq (K : List Item) (s : St) : den prog ann 5 (.code r22 :: K) s = mreg prog ann 5 (some []) [] none [] [
    ⟨some 2, none, .v fun s => some (.bool true)⟩] K s := (den_reg hf _ K s).trans (by kernel_rfl)
theorem ret_eq (K : List Item) (s : St) : den prog ann 5 (.code .ret :: K) s = finM true [fun s => some (s.get 2)] s := (den_ret hf K s).trans (by kernel_rfl)
theorem nil_eq (s : St) : den prog ann 5 [] s = finM true [fun s => some (s.get 2)] s := (den_nil hf s).trans (by kernel_rfl)
theorem inBlock_eq (id : Nat) (K : List Item) (s : St) : den prog ann 5 (.inBlock id :: K) s = den prog ann 5 K s := den_inBlock hf id K s
theorem exit_eq (id : Nat) (K : List Item) (s : St) : den prog ann 5 (.code (.exit id) :: K) s = exitV prog ann 5 (exitTo id K) s := den_exitV hf id K s
theorem call_eq (v0 : AV) (m : Mem) (h : closedL [v0] = true) : denC prog ann 5 [v0] m = (den prog ann 5 [.code b] ⟨[(0, v0)], 110, Mem.empty⟩).bind fun r => some (r.1, m) := (denC_pure hf (b := b) (by kernel_rfl) (by kernel_rfl) (by kernel_rfl) h m).trans (by kernel_rfl)
theorem pure_eq : (ann 5).pure = true := by kernel_rfl
attribute [simp] b_eq r0_eq r1_eq r2_eq r3_eq r4_eq i0_eq i0t_eq r5_eq i0e_eq r6_eq k0_eq l0_eq r7_eq i1_eq i1t_eq i1e_eq k1_eq r9_eq r10_eq k2_eq l2_eq r11_eq i2_eq i2t_eq i2e_eq k3_eq r13_eq r12_eq r14_eq i3_eq i3t_eq i3e_eq r15_eq r16_eq k4_eq l4_eq r17_eq i4_eq i4t_eq i4e_eq k5_eq r19_eq r18_eq r20_eq i5_eq i5t_eq r21_eq i5e_eq r8_eq r22_eq ret_eq nil_eq inBlock_eq exit_eq pure_eq
end l04_StrapHall

end Go.Proofs.YtofceaeboboflaaDoor

/-
  STRAPS: the even round straps of the laws' table, multiplied and moved. Conditions: none.
-/
namespace Go.Proofs.YtofceaeboboflaaDoor
open Go.AM
open Go.Proofs.Tryd (prog)
set_option linter.all false
set_option maxRecDepth 100000
set_option maxHeartbeats 8000000

def tabV (q : Nat) : Nat := [7, 11, 13, 15, 21, 31, 19, 4, 6, 23].getD q 7
def tabL (q : Nat) : List Int := [[0, 1, 3], [1, 3, 4, 5, 9], [0, 1, 3, 9], [0, 1, 2, 4, 5, 8, 10], [3, 6, 7, 12, 14], [1, 5, 11, 24, 25, 27], [1, 4, 5, 6, 7, 9, 11, 16, 17], [0, 1, 2], [2], [1, 2, 3, 4, 6, 8, 9, 12, 13, 16, 18]].getD q [0, 1, 3]

@[simp] theorem globV0 : globV 0 = .fptr [.fsl false 10 evenCs] := rfl
theorem even_drop : ∀ q : Nat, q < 10 → ∃ r, evenCs.drop (q * 2) = .int .i64 (tabV q : Nat) :: .fsl false (tabL q).length (ints (tabL q)) :: r
  | 0, _ => ⟨_, rfl⟩ | 1, _ => ⟨_, rfl⟩ | 2, _ => ⟨_, rfl⟩ | 3, _ => ⟨_, rfl⟩ | 4, _ => ⟨_, rfl⟩
  | 5, _ => ⟨_, rfl⟩ | 6, _ => ⟨_, rfl⟩ | 7, _ => ⟨_, rfl⟩ | 8, _ => ⟨_, rfl⟩ | 9, _ => ⟨_, rfl⟩
  | _ + 10, h => absurd h (by omega)
theorem tab_rng : ∀ q : Nat, q < 10 → 4 ≤ tabV q ∧ tabV q ≤ 31 ∧ 0 < (tabL q).length ∧ (tabL q).length < tabV q ∧ (List.range' 0 (tabL q).length).all (rOk (tabV q) (tabL q)) = true
  | 0, _ => by decide | 1, _ => by decide | 2, _ => by decide | 3, _ => by decide | 4, _ => by decide
  | 5, _ => by decide | 6, _ => by decide | 7, _ => by decide | 8, _ => by decide | 9, _ => by decide
  | _ + 10, h => absurd h (by omega)
theorem tab_ring {q : Nat} (h : q < 10) : RingOk (tabV q) (tabL q) := by
  obtain ⟨h1, h2, h3, h4, h5⟩ := tab_rng q h
  exact (rOk_ring (by omega) (by omega)).2 h5

theorem made_end {v t : Nat} {l : List Int} {a b c : Int} (s : RingOk v l) (ht : t < v) (hg : Nat.gcd t v = 1) (hc : 0 ≤ c ∧ c ≤ 255) (m : Mem) :
    l04_made.L0 (.fptr [.int .u8 a, .int .u8 b, .int .u8 c]) (.fptr [.int .i64 v, .fsl false l.length (ints l)]) (.int .i64 t) m [.code l04_made.r5, .code .ret] =
      some (.tup [.int .i64 v, .fsl false l.length (ints (mvL v t (c % v) l))], Mem.empty) := by
  have hv2 := s.v2
  have hv31 := s.v31
  have hfew := s.few
  have hv : IsInts (.fsl false l.length (ints l)) l := .inr ⟨false, rfl⟩
  have hgs := fun m => gcd_spec t v m
  rw [hg] at hgs
  have hwb : IntKind.wrap .i64 c = c := wrap_id (by omega) (by omega)
  have he : c.tmod (v : Int) = c % v := Int.tmod_eq_emod_of_nonneg hc.1
  have p0 : 0 ≤ c % (v : Int) := Int.emod_nonneg _ (by omega)
  have p1 : c % (v : Int) < v := Int.emod_lt_of_pos _ (by omega)
  generalize c % (v : Int) = d at *
  have hwe : IntKind.wrap .i64 d = d := wrap_id (by omega) (by omega)
  have htn := fun m => turned_spec (v := v) (t := (t : Int)) (s := d) hv hfew s.rng31 (by omega) (by omega) (by omega) m
  rw [tur_mv s hg p0, mvL_len] at htn
  rw [l04_made.L0_eq]
  simp [show ¬ v = 0 by omega, hgs, hwb, he, hwe, htn]
  done
theorem made_loop {v : Nat} {l : List Int} {a b c : Int} (s : RingOk v l) (hc : 0 ≤ c ∧ c ≤ 255) : ∀ (k t : Nat) (m : Mem), t + k + 1 = v → 1 ≤ t →
    ∃ t' : Nat, t' < v ∧ Nat.gcd t' v = 1 ∧ l04_made.L0 (.fptr [.int .u8 a, .int .u8 b, .int .u8 c]) (.fptr [.int .i64 v, .fsl false l.length (ints l)]) (.int .i64 t) m [.code l04_made.r5, .code .ret] =
      some (.tup [.int .i64 v, .fsl false l.length (ints (mvL v t' (c % v) l))], Mem.empty) := by
  intro k
  have hv2 := s.v2
  have hv31 := s.v31
  induction k with
  | zero =>
    intro t m h1 h2
    have e : t = v - 1 := by omega
    subst e
    exact ⟨_, by omega, gcd_pred (by omega) (by omega), made_end s (by omega) (gcd_pred (by omega) (by omega)) hc m⟩
  | succ k ih =>
    intro t m h1 h2
    by_cases hg : Nat.gcd t v = 1
    · exact ⟨t, by omega, hg, made_end s (by omega) hg hc m⟩
    · have hg' : ¬ ((Nat.gcd t v : Nat) : Int) = 1 := by omega
      have hgs := fun m => gcd_spec t v m
      have hw1 : IntKind.wrap .i64 ((v : Int) - 1) = (v : Int) - 1 := wrap_id (by omega) (by omega)
      have hne : ¬ (v : Int) - 1 = 0 := by omega
      have he : (t : Int).tmod ((v : Int) - 1) = t := Int.tmod_eq_of_lt (by omega) (by omega)
      have hw2 : IntKind.wrap .i64 ((t : Int) + 1) = (t : Int) + 1 := wrap_id (by omega) (by omega)
      obtain ⟨t', q1, q2, st⟩ := ih (t + 1) m (by omega) (by omega)
      simp only [Int.natCast_add, Int.cast_ofNat_Int] at st
      refine ⟨t', q1, q2, ?_⟩
      rw [← st, l04_made.L0_eq]
      simp [hgs, hg', hg, hw1, hne, he, hw2]
      done
/-- What 'made' hands back: a set of the table, multiplied and moved. -/
theorem made_spec {a b c : Int} (ha : 0 ≤ a ∧ a ≤ 255) (hb : 0 ≤ b ∧ b ≤ 255) (hc : 0 ≤ c ∧ c ≤ 255) : ∃ q : Nat, q < 10 ∧ ∃ o, Orb (tabV q) (tabL q) o ∧ ∀ m,
    denC prog ann 7 [.agg [.int .u8 a, .int .u8 b, .int .u8 c]] m = some (.tup [.int .i64 (tabV q), .fsl false o.length (ints o)], m) := by
  have hwa : IntKind.wrap .i64 a = a := wrap_id (by omega) (by omega)
  have hwb : IntKind.wrap .i64 b = b := wrap_id (by omega) (by omega)
  have he0 : a.tmod 10 = a % 10 := Int.tmod_eq_emod_of_nonneg ha.1
  obtain ⟨q, hq⟩ : ∃ q : Nat, a % 10 = q := ⟨(a % 10).toNat, by omega⟩
  have hq10 : q < 10 := by omega
  obtain ⟨r, hr⟩ := even_drop q hq10
  obtain ⟨g1, g2, g3, g4, g5⟩ := tab_rng q hq10
  have s := tab_ring hq10
  generalize hvv : tabV q = v at *
  generalize hll : tabL q = l at *
  have hw1 : IntKind.wrap .i64 ((v : Int) - 1) = (v : Int) - 1 := wrap_id (by omega) (by omega)
  have hne : ¬ (v : Int) - 1 = 0 := by omega
  have he1 : b.tmod ((v : Int) - 1) = b % ((v : Int) - 1) := Int.tmod_eq_emod_of_nonneg hb.1
  have p0 : 0 ≤ b % ((v : Int) - 1) := Int.emod_nonneg _ (by omega)
  have p1 : b % ((v : Int) - 1) < (v : Int) - 1 := Int.emod_lt_of_pos _ (by omega)
  obtain ⟨t, ht⟩ : ∃ t : Nat, b % ((v : Int) - 1) + 1 = t := ⟨(b % ((v : Int) - 1) + 1).toNat, by omega⟩
  have hwt : IntKind.wrap .i64 (t : Int) = t := wrap_id (by omega) (by omega)
  have p2 : 0 ≤ c % (v : Int) := Int.emod_nonneg _ (by omega)
  have p3 : c % (v : Int) < v := Int.emod_lt_of_pos _ (by omega)
  have lp := made_loop (a := a) (b := b) s hc (v - 1 - t) t
  have hx : ∃ t' : Nat, t' < v ∧ Nat.gcd t' v = 1 ∧ ∀ m, denC prog ann 7 [.agg [.int .u8 a, .int .u8 b, .int .u8 c]] m = some (.tup [.int .i64 v, .fsl false l.length (ints (mvL v t' (c % v) l))], m) := by
    obtain ⟨t', q1, q2, lp0⟩ := lp { h := upd Mem.empty.h 9 none, nx := 11 } (by omega) (by omega)
    refine ⟨t', q1, q2, fun m => ?_⟩
    rw [l04_made.call_eq _ _ (by simp)]
    simp [hwa, he0, hq, hq10, hr, hwb, hw1, hne, he1, ht, hwt, lp0]
    done
  obtain ⟨t', q1, q2, h⟩ := hx
  refine ⟨q, hq10, ?_⟩
  have hl := mvL_len v t' (c % v) l
  rw [hvv, hll]
  exact ⟨mvL v t' (c % v) l, ⟨t', c % v, by omega, by omega, p2, p3, rfl⟩, fun m => by rw [h, hl]⟩
end Go.Proofs.YtofceaeboboflaaDoor

/-
  STRAPS: the places that are not in a set, and how they are multiplied and moved. Conditions: none.
-/
namespace Go.Proofs.YtofceaeboboflaaDoor
open Go.AM
set_option linter.all false
set_option maxRecDepth 100000
set_option maxHeartbeats 4000000

def compl (v : Nat) (l : List Int) : List Int := (rng v).filter fun x => decide (x ∉ l)
/-- The code's list of the places that are not in a set. -/
def cmF (bs : List Bool) (k p : Nat) : List Int := ((List.range' p k).filter fun t => !bnth bs t).map fun t : Nat => (t : Int)
end Go.Proofs.YtofceaeboboflaaDoor

/-
  STRAPS (15): the differences in plain terms: their sum, and that they grow with the list. Conditions: none.
-/
namespace Go.Proofs.YtofceaeboboflaaDoor
open Go.AM
set_option linter.all false
set_option maxRecDepth 10000
set_option maxHeartbeats 2000000

def sumL : List Int → Int
  | [] => 0
  | a :: l => a + sumL l
/-- How often a difference comes. -/
def dHit (l : List Int) (v : Int) (g i q : Nat) : Bool := !decide (i = q) && decide ((nth l i - nth l q + v).tmod v = g)
def dCnt (l : List Int) (v : Int) (g n : Nat) : Nat → Nat → Nat
  | 0, _ => 0
  | k + 1, i => (List.range' 0 n).countP (dHit l v g i) + dCnt l v g n k (i + 1)
def gRound (v often : Int) (l : List Int) : Bool := decide (maxL (diffs v l) ≤ often)
def pRound (v : Nat) (often : Int) (l : List Int) : Bool := eqA (diffs v l) (v - 1) 1 && decide (nth (diffs v l) 1 = often)
end Go.Proofs.YtofceaeboboflaaDoor

/-
  STRAPS (16): the two searches for a round strap find the same. Conditions: none.
-/
namespace Go.Proofs.YtofceaeboboflaaDoor
open Go.AM
set_option linter.all false
set_option maxRecDepth 10000
set_option maxHeartbeats 2000000

theorem StrapOk.ge {l : List Int} (s : StrapOk l) : ∀ {i : Nat}, i < l.length → (i : Int) ≤ nth l i
  | 0, _ => by rw [s.zero]; omega
  | i + 1, h => by
    have := s.ge (i := i) (by omega)
    have := s.asc i h
    omega
theorem StrapOk.ring {l : List Int} (s : StrapOk l) {v : Nat} (hv : 2 ≤ v ∧ v ≤ 31) (ht : Go.Proofs.YtofceaeboboflaaDoor.top l ≤ (v : Int) - 1) : RingOk v l := by
  have hpos := s.pos
  have hge := s.ge (i := l.length - 1) (by omega)
  unfold Go.Proofs.YtofceaeboboflaaDoor.top at ht
  refine ⟨by omega, by omega, hpos, by omega, fun i hi => ⟨s.nonneg hi, ?_⟩, fun i hi => s.asc i hi⟩
  have := s.le (show i ≤ l.length - 1 by omega) (by omega)
  omega
def rrF (v : Nat) (often : Int) : Nat → List Int → Option (List Int)
  | 0, l => if pRound v often l = true then some l else none
  | f + 1, l => firstF (rrF v often f) l ((v : Int) - 1 - top l).toNat (top l + 1)
end Go.Proofs.YtofceaeboboflaaDoor

/-
  STRAPS (17): Round, and the specification's. Conditions: none.
-/
namespace Go.Proofs.YtofceaeboboflaaDoor
open Go.AM
open Go.Proofs.Tryd (prog)
set_option linter.all false
set_option maxRecDepth 100000
set_option maxHeartbeats 4000000

theorem ResV.deep {r : Option (List Int)} {w : AV} (h : ResV r w) (hp : Nat → Option AObj) (d : Nat) : AM.deep hp (d + 1) w = some w := by
  cases r with
  | none => have : w = .nils := h
            rw [this]; rfl
  | some q => obtain ⟨ex, rfl⟩ := h; rfl
def BadR (v k often : Int) : Prop := v < 2 ∨ 31 < v ∨ k < 2 ∨ 6 < k ∨ v - 1 < k ∨ often < 1 ∨ v < often
end Go.Proofs.YtofceaeboboflaaDoor

/-
  THE LAWS' EXAMPLES HOLD. Conditions: none.
-/
namespace Go.Proofs.YtofceaeboboflaaDoor
open Go.AM
open Go.Proofs.Tryd (prog)
set_option linter.all false
set_option maxRecDepth 1000000

def isT (r : Option Res) : Bool := match r with
  | some (.bool b, _) => b
  | _ => false
theorem lives_run : isT (callN prog ann 3000 9 [] Mem.empty) = true := by kernel_rfl
@[simp] theorem lives_pure : (ann 9).pure = true := by kernel_rfl
theorem f14_at : prog.funcs[9]? = some Tryd.f9 := by kernel_rfl
theorem f14_some : Tryd.f9.body.isSome = true := by kernel_rfl
theorem lives_spec (m : Mem) : denC prog ann 9 [] m = some (.bool true, m) := by
  have hb : Tryd.f9.body = some (Tryd.f9.body.getD .skip) := by
    cases h : Tryd.f9.body with
    | none => have := f14_some; rw [h] at this; cases this
    | some b => rfl
  have e := fun m => denC_pure (P := prog) (A := ann) (f := 9) f14_at hb (by kernel_rfl) (by kernel_rfl) (show closedL [] = true from rfl) m
  have h := lives_run
  cases hr : callN prog ann 3000 9 [] Mem.empty with
  | none => rw [hr] at h; cases h
  | some r =>
    rw [hr] at h
    have h2 := denC_of_callN hr
    rw [e] at h2 ⊢
    obtain ⟨q, h3, h4⟩ := Option.bind_eq_some_iff.1 h2
    rw [h3]
    simp at h4
    subst h4
    match q, h with
    | (.bool true, _), _ => rfl
end Go.Proofs.YtofceaeboboflaaDoor

/-
  StrapGroup: the law answers true. Conditions: none.
-/
namespace Go.Proofs.YtofceaeboboflaaDoor
open Go.AM
open Go.Proofs.Tryd (prog)
set_option linter.all false
set_option maxRecDepth 100000
set_option maxHeartbeats 8000000

theorem u23 : prog.underlying 23 = some (.array 3 5) := by kernel_rfl
theorem parts_three {α : Type} : ∀ {l : List α}, l.length = 3 → ∃ a b c, l = [a, b, c]
  | [a, b, c], _ => ⟨a, b, c, rfl⟩
  | [], h => by cases h
  | [_], h => by cases h
  | [_, _], h => by cases h
  | _ :: _ :: _ :: _ :: _, h => by simp at h
theorem datV23 {d : Nat} {a : AV} (h : DatV prog (d + 2) 23 a) : ∃ x y z, a = .agg [.int .u8 x, .int .u8 y, .int .u8 z] ∧ (0 ≤ x ∧ x ≤ 255) ∧ (0 ≤ y ∧ y ≤ 255) ∧ (0 ≤ z ∧ z ≤ 255) := by
  simp only [DatV, u23] at h
  obtain ⟨cs, rfl, h⟩ := h
  rw [Dat] at h
  simp only [u23] at h
  obtain ⟨parts, rfl, hl, hp⟩ := h
  obtain ⟨p, q, r, rfl⟩ := parts_three hl
  obtain ⟨x, rfl, h1, h2⟩ := dat5 (hp p (by simp)).2
  obtain ⟨y, rfl, h3, h4⟩ := dat5 (hp q (by simp)).2
  obtain ⟨z, rfl, h5, h6⟩ := dat5 (hp r (by simp)).2
  exact ⟨x, y, z, rfl, ⟨h1, h2⟩, ⟨h3, h4⟩, ⟨h5, h6⟩⟩

end Go.Proofs.YtofceaeboboflaaDoor

/-
  StrapCounts: the law answers true. Conditions: none.
-/
namespace Go.Proofs.YtofceaeboboflaaDoor
open Go.AM
open Go.Proofs.Tryd (prog)
set_option linter.all false
set_option maxRecDepth 100000
set_option maxHeartbeats 8000000

theorem tab_even : ∀ q : Nat, q < 10 → eqA (diffs (tabV q) (tabL q)) (tabV q - 1) 1 = true
  | 0, _ => by decide +kernel | 1, _ => by decide +kernel | 2, _ => by decide +kernel | 3, _ => by decide +kernel | 4, _ => by decide +kernel
  | 5, _ => by decide +kernel | 6, _ => by decide +kernel | 7, _ => by decide +kernel | 8, _ => by decide +kernel | 9, _ => by decide +kernel
  | _ + 10, h => absurd h (by omega)

def sqF (a : Int) (k r : Nat) : Bool := (List.range' r k).any fun r : Nat => decide ((r : Int) * r = a)
theorem lam_rng {v : Nat} {l : List Int} (r : RingOk v l) (he : eqA (diffs v l) (v - 1) 1 = true) : 0 ≤ nth (diffs v l) 1 ∧ nth (diffs v l) 1 ≤ 1000 := by
  have h := even_count r he
  have hv := r.v2
  have hf := r.few
  have hp := r.pos
  have p0 : 0 ≤ (l.length : Int) * ((l.length : Int) - 1) := Int.mul_nonneg (by omega) (by omega)
  have p1 : (l.length : Int) * ((l.length : Int) - 1) ≤ 31 * 30 := Int.mul_le_mul (by omega) (by omega) (by omega) (by omega)
  rw [h] at p0 p1
  generalize nth (diffs v l) 1 = x at *
  constructor
  · rcases Int.lt_or_le x 0 with q | q
    · have : x * ((v : Int) - 1) < 0 := Int.mul_neg_of_neg_of_pos q (by omega)
      omega
    · exact q
  · rcases Int.lt_or_le 1000 x with q | q
    · have : (1001 : Int) * 1 ≤ x * ((v : Int) - 1) := Int.mul_le_mul (by omega) (by omega) (by omega) (by omega)
      omega
    · exact q
end Go.Proofs.YtofceaeboboflaaDoor

/-
  StrapHall: the law answers true. Conditions: none.
-/
namespace Go.Proofs.YtofceaeboboflaaDoor
open Go.AM
open Go.Proofs.Tryd (prog)
set_option linter.all false
set_option maxRecDepth 100000
set_option maxHeartbeats 8000000

/-- The code's test of a prime number. -/
def prK (p : Nat) : Nat → Nat → Bool → Bool
  | 0, _, b => b
  | k + 1, d, b => if d * d ≤ p then prK p k (d + 1) (b && decide (p % d ≠ 0)) else b
theorem hal_prime {w wm : AV} {v p : Nat} {lam : Int} (hp : p < 36) (K : List Item) : ∀ (k d : Nat) (b : Bool) (m : Mem), d + k = 6 → 2 ≤ d →
    ∃ m' d', l04_StrapHall.L2 (.int .i64 v) w (.int .i64 lam) wm (.int .i64 p) (.bool b) (.int .i64 d) m K = l04_StrapHall.L2 (.int .i64 v) w (.int .i64 lam) wm (.int .i64 p) (.bool (prK p k d b)) (.int .i64 (d' : Nat)) m' K ∧ p < d' * d' ∧ d' ≤ 6 := by
  intro k
  induction k with
  | zero =>
    intro d b m h1 h2
    exact ⟨m, d, rfl, by have : d = 6 := by omega
                         subst this; omega, by omega⟩
  | succ k ih =>
    intro d b m h1 h2
    by_cases q : d * d ≤ p
    · have q' : (d : Int) * d ≤ p := by exact_mod_cast q
      have hwd : IntKind.wrap .i64 ((d : Int) + 1) = (d : Int) + 1 := wrap_id (by omega) (by omega)
      have p0 : 0 ≤ (d : Int) * d := Int.mul_nonneg (by omega) (by omega)
      have hwm : IntKind.wrap .i64 ((d : Int) * d) = (d : Int) * d := wrap_id (by omega) (by omega)
      have hd0 : ¬ d = 0 := by omega
      have em : (p : Int).tmod d = ((p % d : Nat) : Int) := by rw [Int.tmod_eq_emod_of_nonneg (by omega)]; simp
      obtain ⟨m', d', g1, g2⟩ := ih (d + 1) (b && decide (p % d ≠ 0)) m (by omega) (by omega)
      simp only [Int.natCast_add, Int.cast_ofNat_Int] at g1
      refine ⟨m', d', ?_, g2⟩
      rw [prK, if_pos q, ← g1, l04_StrapHall.L2_eq]
      cases b with
      | true =>
        have ez : decide (((p % d : Nat) : Int) ≠ 0) = decide (p % d ≠ 0) := by
          by_cases h : p % d = 0
          · simp [h]
          · have : ¬ ((p % d : Nat) : Int) = 0 := by omega
            rw [decide_eq_true h, decide_eq_true this]
        have ez2 : ((p : Int) % (d : Int) = 0) ↔ p % d = 0 := by rw [← Int.natCast_emod]; omega
        simp [q', q, hwd, hwm, hd0, em, ez2]
        done
      | false =>
        simp [q', q, hwd, hwm]
        done
    · rw [prK, if_neg q]
      exact ⟨m, d, rfl, by omega, by omega⟩
theorem hal_find {w wm : AV} {v p : Nat} {lam : Int} {ms : List Int} (hw : IsInts wm ms) (hml : ms.length ≤ 31) (K : List Item) : ∀ (k i : Nat) (b : Bool) (m : Mem), i + k = ms.length →
    ∃ m', l04_StrapHall.L4 (.int .i64 v) w (.int .i64 lam) wm (.int .i64 p) (.bool b) (.int .i64 i) m K = l04_StrapHall.L4 (.int .i64 v) w (.int .i64 lam) wm (.int .i64 p) (.bool (b || (ms.drop i).any fun y => decide (y = (p : Int)))) (.int .i64 ms.length) m' K := by
  intro k
  induction k with
  | zero =>
    intro i b m h1
    have e : i = ms.length := by omega
    subst e
    exact ⟨m, by simp⟩
  | succ k ih =>
    intro i b m h1
    have hi : i < ms.length := by omega
    have hwi : IntKind.wrap .i64 ((i : Int) + 1) = (i : Int) + 1 := wrap_id (by omega) (by omega)
    rw [drop_nth hi, List.any_cons]
    cases b with
    | true =>
      obtain ⟨m', g1⟩ := ih (i + 1) true m (by omega)
      simp only [Int.natCast_add, Int.cast_ofNat_Int, Bool.true_or] at g1 ⊢
      refine ⟨m', ?_⟩
      rw [← g1, l04_StrapHall.L4_eq]
      simp [hi, hw.len, hwi]
      done
    | false =>
      obtain ⟨m', g1⟩ := ih (i + 1) (decide (nth ms i = (p : Int))) m (by omega)
      simp only [Int.natCast_add, Int.cast_ofNat_Int, Bool.false_or] at g1 ⊢
      refine ⟨m', ?_⟩
      rw [← g1, l04_StrapHall.L4_eq]
      simp [hi, hw.len, hw.idx hi, ints_head hi, hwi]
      done
/-- What the law asks of a number. -/
def okH (v : Nat) (len lam : Int) (ms : List Int) (p : Nat) : Bool := !prK p 4 2 true || (decide ((len - lam).tmod p ≠ 0) || (decide ((p : Int) ≤ lam) || (decide (v % p = 0) || ms.any fun y => decide (y = (p : Int)))))
theorem hal_loop {w wm : AV} {v : Nat} {len lam : Int} {ms : List Int} (hv : 2 ≤ v ∧ v ≤ 31) (hlw : lenSl w = some (.int .i64 len)) (hl : 0 ≤ len ∧ len ≤ 31) (hm : 0 ≤ lam ∧ lam ≤ 1000) (hw : IsInts wm ms) (hml : ms.length ≤ 31) : ∀ (k p : Nat) (m : Mem), p + k = v → 2 ≤ p →
    (∀ x, p ≤ x → x < v → okH v len lam ms x = true) →
    l04_StrapHall.L0 (.int .i64 v) w (.int .i64 lam) wm (.int .i64 p) m [.code l04_StrapHall.r22, .code .ret] = some (.bool true, Mem.empty) := by
  intro k
  induction k with
  | zero =>
    intro p m h1 h2 hok
    have e : p = v := by omega
    subst e
    rw [l04_StrapHall.L0_eq]
    simp
    done
  | succ k ih =>
    intro p m h1 h2 hok
    have hpv : p < v := by omega
    have hwp : IntKind.wrap .i64 ((p : Int) + 1) = (p : Int) + 1 := wrap_id (by omega) (by omega)
    have hws : IntKind.wrap .i64 (len - lam) = len - lam := wrap_id (by omega) (by omega)
    have hp0 : ¬ p = 0 := by omega
    have ev : (v : Int).tmod p = ((v % p : Nat) : Int) := by rw [Int.tmod_eq_emod_of_nonneg (by omega)]; simp
    by_cases c1 : 1 < len
    · by_cases c2 : len < v
      · have st := fun m => ih (p + 1) m (by omega) (by omega) (fun x h3 h4 => hok x (by omega) h4)
        simp only [Int.natCast_add, Int.cast_ofNat_Int] at st
        have ho := hok p (Nat.le_refl _) hpv
        obtain ⟨m1, d1, g1, g2, g3⟩ := hal_prime (w := w) (wm := wm) (v := v) (p := p) (lam := lam) (by omega) (.code l04_StrapHall.r14 :: .code l04_StrapHall.i3 :: .code l04_StrapHall.r15 :: .code l04_StrapHall.r16 :: .code l04_StrapHall.k4 :: .code l04_StrapHall.r20 :: .code l04_StrapHall.i5 :: .inBlock 1 :: .code l04_StrapHall.r8 :: .inLoop l04_StrapHall.l0 :: .inBlock 0 :: [.code l04_StrapHall.r22, .code .ret]) 4 2 true m (by omega) (by omega)
        have g2' : ¬ (d1 : Int) * d1 ≤ p := by have : ((d1 * d1 : Nat) : Int) = (d1 : Int) * d1 := by simp
                                               omega
        have q0 : 0 ≤ (d1 : Int) * d1 := Int.mul_nonneg (by omega) (by omega)
        have q1 : (d1 : Int) * d1 ≤ 6 * 6 := Int.mul_le_mul (by omega) (by omega) (by omega) (by omega)
        have hwm : IntKind.wrap .i64 ((d1 : Int) * d1) = (d1 : Int) * d1 := wrap_id (by omega) (by omega)
        rw [l04_StrapHall.L0_eq]
        simp only [Int.cast_ofNat_Int] at g1
        simp [hpv, c1, c2, hlw]
        rw [g1, l04_StrapHall.L2_eq]
        unfold okH at ho
        cases e1 : prK p 4 2 true with
        | false => simp [hwm, g2', show ¬ d1 * d1 ≤ p by omega, st, hwp]; done
        | true =>
          rw [e1] at ho
          by_cases e2 : (len - lam).tmod p = 0
          · by_cases e3 : (p : Int) ≤ lam
            · simp [hwm, g2', show ¬ d1 * d1 ≤ p by omega, hlw, hws, hp0, e2, e3, st, hwp]; done
            · by_cases e4 : v % p = 0
              · have e4' : (v : Int) % p = 0 := by omega
                simp [hwm, g2', show ¬ d1 * d1 ≤ p by omega, hlw, hws, hp0, e2, e3, e4, e4', ev, st, hwp]; done
              · have e4' : ¬ (v : Int) % p = 0 := by
                  intro h; apply e4
                  have : ((v % p : Nat) : Int) = (v : Int) % p := by simp
                  omega
                have ho' : (ms.any fun y => decide (y = (p : Int))) = true := by simpa [e2, e3, e4] using ho
                have fd := fun m => hal_find (w := w) (v := v) (p := p) (lam := lam) hw hml (.code l04_StrapHall.r20 :: .code l04_StrapHall.i5 :: .inBlock 1 :: .code l04_StrapHall.r8 :: .inLoop l04_StrapHall.l0 :: .inBlock 0 :: [.code l04_StrapHall.r22, .code .ret]) ms.length 0 false m (by omega)
                simp only [Int.ofNat_zero, Int.cast_ofNat_Int, List.drop_zero, Bool.false_or, ho'] at fd
                simp [hwm, g2', show ¬ d1 * d1 ≤ p by omega, hlw, hws, hp0, e2, e3, e4, e4', ev]
                obtain ⟨m2, fd⟩ := fd m1
                rw [fd, l04_StrapHall.L4_eq]
                simp [hw.len, st, hwp]
                done
          · simp [hwm, g2', show ¬ d1 * d1 ≤ p by omega, hlw, hws, hp0, e2, st, hwp]; done
      · have c2' : ¬ (len : Int) < v := c2
        rw [l04_StrapHall.L0_eq]
        simp [hpv, c1, c2', hlw]
        done
    · have c1' : ¬ (1 : Int) < len := c1
      rw [l04_StrapHall.L0_eq]
      simp [hpv, c1', hlw]
      done
theorem tab_hall : ∀ q : Nat, q < 10 → (List.range' 2 (tabV q - 2)).all (okH (tabV q) (tabL q).length (nth (diffs (tabV q) (tabL q)) 1) (multsL (tabV q) (tabL q))) = true
  | 0, _ => by decide +kernel | 1, _ => by decide +kernel | 2, _ => by decide +kernel | 3, _ => by decide +kernel | 4, _ => by decide +kernel
  | 5, _ => by decide +kernel | 6, _ => by decide +kernel | 7, _ => by decide +kernel | 8, _ => by decide +kernel | 9, _ => by decide +kernel
  | _ + 10, h => absurd h (by omega)
theorem hal_runs {d : Nat} (a0 : AV) (h0 : DatV prog (d + 4) 23 a0) : ∃ m', denC prog ann 5 [a0] Mem.empty = some (.bool true, m') := by
  obtain ⟨a, b, c, rfl, ha, hb, hc⟩ := datV23 h0
  have hcl : closedL [.agg [.int .u8 a, .int .u8 b, .int .u8 c]] = true := by simp
  obtain ⟨q, hq, o, ho, hmd⟩ := made_spec ha hb hc
  have so := ho.ring (tab_ring hq)
  obtain ⟨he, hn⟩ := even_orb (tab_ring hq) ho (tab_even q hq)
  obtain ⟨t1, t2, _⟩ := tab_rng q hq
  have hmo := mults_orb (tab_ring hq) ho
  have hlen : o.length = (tabL q).length := by obtain ⟨t, s, _, _, _, _, rfl⟩ := ho; exact mvL_len ..
  have hall := tab_hall q hq
  rw [← hn, ← hmo, ← hlen] at hall
  have hlr := lam_rng so he
  refine ⟨Mem.empty, ?_⟩
  rw [l04_StrapHall.call_eq _ _ hcl]
  generalize tabV q = v at *
  have hf := so.few
  have hml : (multsL v o).length ≤ 31 := by
    have : (multsL v o).length ≤ (unitsL v).length := List.length_filter_le ..
    have := unitsL_few v
    omega
  have iv : IsInts (.fsl false o.length (ints o)) o := .inr ⟨false, rfl⟩
  have hev := fun m => even_spec iv so (ring_err iv so) m
  rw [if_pos he] at hev
  have hmu := fun m => mults_spec iv so (ring_err iv so) m
  have lp := fun m => hal_loop (w := .fsl false o.length (ints o)) (v := v) (len := o.length) (lam := nth (diffs v o) 1) (by omega) (by simp) (by omega) hlr (intsV_is (multsL v o)) hml (v - 2) 2 m (by omega) (by omega) (fun x h1 h2 => by
    rw [List.all_eq_true] at hall
    exact hall x (by simp [List.mem_range'_1]; omega))
  simp only [Int.cast_ofNat_Int] at lp
  simp [hmd, hev, hmu, lives_spec, lp]
  done
end Go.Proofs.YtofceaeboboflaaDoor
