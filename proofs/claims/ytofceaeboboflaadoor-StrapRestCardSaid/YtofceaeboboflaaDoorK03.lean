/-
  STRAPS: the differences of a round strap as sums over pairs: what multiplying and moving leaves, the count of all pairs, and the squares. Conditions: none.
-/
import Derived.Test.YtofceaeboboflaaDoorK02
import Derived.Test.YtofceaeboboflaaDoorKAmH
import Derived.Test.YtofceaeboboflaaDoorKAmE
set_option linter.all false
namespace Go.Proofs.YtofceaeboboflaaDoor
open Go.AM
set_option linter.all false
set_option maxRecDepth 100000
set_option maxHeartbeats 4000000

/-! ### Sums over lists -/
def S1 (l : List Int) (f : Int → Int) : Int := (l.map f).foldr (· + ·) 0
theorem S1_nil (f : Int → Int) : S1 [] f = 0 := rfl
theorem S1_cons (a : Int) (l : List Int) (f : Int → Int) : S1 (a :: l) f = f a + S1 l f := rfl
theorem S1_add (l : List Int) (f g : Int → Int) : S1 l (fun x => f x + g x) = S1 l f + S1 l g := by
  induction l with
  | nil => rfl
  | cons a l ih => rw [S1_cons, S1_cons, S1_cons, ih]; omega
theorem S1_mul (c : Int) (l : List Int) (f : Int → Int) : S1 l (fun x => c * f x) = c * S1 l f := by
  induction l with
  | nil => simp [S1_nil]
  | cons a l ih => rw [S1_cons, S1_cons, ih, Int.mul_add]
theorem S1_zero (l : List Int) : S1 l (fun _ => 0) = 0 := by
  induction l with
  | nil => rfl
  | cons a l ih => rw [S1_cons, ih]; rfl
theorem S1_const (c : Int) (l : List Int) : S1 l (fun _ => c) = l.length * c := by
  induction l with
  | nil => simp [S1_nil]
  | cons a l ih => rw [S1_cons, ih, List.length_cons, Int.natCast_add, Int.add_mul]; omega
theorem S1_congr {l : List Int} {f g : Int → Int} (h : ∀ x ∈ l, f x = g x) : S1 l f = S1 l g := by
  induction l with
  | nil => rfl
  | cons a l ih => rw [S1_cons, S1_cons, h a (by simp), ih fun x hx => h x (by simp [hx])]
theorem S1_map (l : List Int) (g f : Int → Int) : S1 (l.map g) f = S1 l (fun x => f (g x)) := by
  induction l with
  | nil => rfl
  | cons a l ih => rw [List.map_cons, S1_cons, S1_cons, ih]
theorem S1_perm {a b : List Int} (h : a.Perm b) (f : Int → Int) : S1 a f = S1 b f := by
  induction h with
  | nil => rfl
  | cons x _ ih => rw [S1_cons, S1_cons, ih]
  | swap x y l => rw [S1_cons, S1_cons, S1_cons, S1_cons]; omega
  | trans _ _ h1 h2 => rw [h1, h2]
theorem S1_swap (l k : List Int) (f : Int → Int → Int) : S1 l (fun a => S1 k (fun b => f a b)) = S1 k (fun b => S1 l (fun a => f a b)) := by
  induction l with
  | nil => rw [S1_nil]; exact (S1_zero k).symm
  | cons a l ih => rw [S1_cons, ih, ← S1_add]; exact S1_congr fun b _ => by rw [S1_cons]

def ind (p : Prop) [Decidable p] : Int := if p then 1 else 0
/-- Exactly one. -/
theorem S1_one {l : List Int} {x : Int} (h : l.Nodup) (hx : x ∈ l) : S1 l (fun d => ind (x = d)) = 1 := by
  induction l with
  | nil => cases hx
  | cons a l ih =>
    rw [S1_cons]
    rw [List.nodup_cons] at h
    by_cases e : x = a
    · subst e
      have : S1 l (fun d => ind (x = d)) = S1 l (fun _ => 0) := S1_congr fun d hd => by
        unfold ind; rw [if_neg]; rintro rfl; exact h.1 hd
      rw [this, S1_zero]; simp [ind]
    · rcases List.mem_cons.1 hx with hx | hx
      · exact (e hx).elim
      · rw [ih h.2 hx]; simp [ind, e]
/-- How many pairs have a difference. -/
def Dn (v : Int) (l : List Int) (d : Int) : Int := S1 l fun a => S1 l fun b => ind ((a - b) % v = d)

/-! ### What the code counts -/
def sumI (k j : Nat) (f : Nat → Int) : Int := ((List.range' j k).map f).foldr (· + ·) 0
theorem sumI_succ (k j : Nat) (f : Nat → Int) : sumI (k + 1) j f = f j + sumI k (j + 1) f := rfl
theorem sumI_list (l : List Int) (f : Int → Int) : ∀ (k j : Nat), j + k = l.length → sumI k j (fun q => f (nth l q)) = S1 (l.drop j) f
  | 0, j, h => by rw [List.drop_of_length_le (by omega)]; rfl
  | k + 1, j, h => by rw [sumI_succ, sumI_list l f k (j + 1) (by omega), drop_nth (show j < l.length by omega), S1_cons]
theorem bump_nth {c : List Int} {h g : Nat} (hg : h < c.length) : nth (bump c h) g = nth c g + ind (h = g) := by
  rw [bump, nth_set]
  unfold ind
  by_cases e : h = g
  · subst e; simp [hg]
  · simp [e]
theorem dfF_nth {v : Int} {l : List Int} (s : RingOk v l) {i : Nat} (hi : i < l.length) {g : Nat} (hg : 1 ≤ g) : ∀ (k j : Nat) (c : List Int), j + k = l.length → c.length = v.toNat →
    nth (dfF l v i k j c) g = nth c g + sumI k j fun q => ind ((nth l i - nth l q) % v = g)
  | 0, j, c, h, hc => by simp [dfF, sumI]
  | k + 1, j, c, h, hc => by
    have hj : j < l.length := by omega
    have hv := s.v2
    obtain ⟨d, hd, hdv⟩ := rem_nat s hi hj
    have hd' : (nth l i - nth l j) % v = d := by
      have a := s.rng i hi
      have b := s.rng j hj
      rw [← hd, Int.tmod_eq_emod_of_nonneg (by omega), Int.add_emod_right]
    rw [dfF_succ, sumI_succ]
    by_cases e : i = j
    · subst e
      rw [if_pos rfl, dfF_nth s hi hg k (i + 1) c (by omega) hc]
      have : ¬ (0 : Int) = g := by omega
      simp [ind, this]
    · rw [if_neg e, hd, dfF_nth s hi hg k (j + 1) _ (by omega) (by rw [bump_len, hc]), Int.toNat_natCast, bump_nth (by omega), hd']
      unfold ind
      have : ((d : Int) = (g : Int)) ↔ d = g := by omega
      simp only [this]
      omega
theorem dfO_nth {v : Int} {l : List Int} (s : RingOk v l) {g : Nat} (hg : 1 ≤ g) : ∀ (k i : Nat) (c : List Int), i + k = l.length → c.length = v.toNat →
    nth (dfO l v k i c) g = nth c g + sumI k i fun p => S1 l fun b => ind ((nth l p - b) % v = g)
  | 0, i, c, h, hc => by simp [dfO, sumI]
  | k + 1, i, c, h, hc => by
    have hi : i < l.length := by omega
    rw [dfO_succ, sumI_succ, dfO_nth s hg k (i + 1) _ (by omega) (by rw [dfF_len, hc]), dfF_nth s hi hg l.length 0 c (by omega) hc]
    have := sumI_list l (fun b => ind ((nth l i - b) % v = g)) l.length 0 (by omega)
    rw [List.drop_zero] at this
    rw [this]; omega
theorem diffs_nth {v : Nat} {l : List Int} (s : RingOk v l) {g : Nat} (hg : 1 ≤ g) : nth (diffs v l) g = Dn v l g := by
  rw [diffs, dfO_nth s hg l.length 0 _ (by omega) (by simp), nth_zero']
  have := sumI_list l (fun a => S1 l fun b => ind ((a - b) % (v : Int) = g)) l.length 0 (by omega)
  rw [List.drop_zero] at this
  rw [this, Int.zero_add]; rfl

/-! ### Multiplied and moved -/
theorem emod_key {v t u : Nat} (htu : t * u % v = 1 % v) (hv : 0 < v) {x d : Int} (hd : 0 ≤ d ∧ d < v) : (x * t) % v = d ↔ x % v = (u * d) % (v : Int) := by
  have e1 : ((t : Int) * u) % v = 1 % v := by exact_mod_cast htu
  constructor
  · intro h
    rw [← h, Int.mul_emod, Int.emod_emod, ← Int.mul_emod, show (u : Int) * (x * t) = x * (t * u) by rw [Int.mul_comm, Int.mul_assoc], Int.mul_emod x, e1, ← Int.mul_emod, Int.mul_one]
  · intro h
    rw [Int.mul_emod, h, ← Int.mul_emod, show (u : Int) * d * (t : Int) = d * (t * u) by rw [Int.mul_comm (u : Int) d, Int.mul_assoc, Int.mul_comm (u : Int) t], Int.mul_emod d, e1, ← Int.mul_emod, Int.mul_one]
    exact Int.emod_eq_of_lt hd.1 hd.2
theorem Dn_mv {v t u : Nat} {s : Int} {l : List Int} (r : RingOk v l) (hs : 0 ≤ s) (htu : t * u % v = 1 % v) {d : Int} (hd : 0 ≤ d ∧ d < v) : Dn v (mvL v t s l) d = Dn v l ((u * d) % v) := by
  have hv : 0 < v := by have := r.v2; omega
  unfold Dn mvL
  rw [S1_perm (sortI_perm _), S1_map]
  refine S1_congr fun a ha => ?_
  rw [S1_perm (sortI_perm _), S1_map]
  refine S1_congr fun b hb => ?_
  have pa := (mvF_rng (v := v) hv (mv_pos (v := v) (t := t) hs (r.mem ha).1)).2.2
  have pb := (mvF_rng (v := v) hv (mv_pos (v := v) (t := t) hs (r.mem hb).1)).2.2
  have e : ((mvF v t s a - mvF v t s b) % (v : Int) = d) ↔ ((a - b) % (v : Int) = (u * d) % v) := by
    rw [pa, pb, ← Int.sub_emod, show a * (t : Int) + s - (b * t + s) = (a - b) * t by rw [Int.sub_mul]; omega]
    exact emod_key htu hv hd
  unfold ind
  simp only [e]
/-- Even sets stay even. -/
theorem even_orb {v : Nat} {l o : List Int} (r : RingOk v l) (h : Orb v l o) (he : eqA (diffs v l) (v - 1) 1 = true) : eqA (diffs v o) (v - 1) 1 = true ∧ nth (diffs v o) 1 = nth (diffs v l) 1 := by
  have ro := h.ring r
  obtain ⟨t, s, h1, h2, h3, h4, rfl⟩ := h
  have hv2 := r.v2
  obtain ⟨u, u1, u2, u3⟩ := inv_ex (v := v) (t := t) (by omega) (by have := r.v31; omega) h1 h2
  have htu : t * u % v = 1 % v := by rw [u3, Nat.mod_eq_of_lt (by omega)]
  have all : ∀ d : Nat, 1 ≤ d → d < v → nth (diffs v (mvL v t s l)) d = nth (diffs v l) 1 := by
    intro d d1 d2
    rw [diffs_nth ro d1, Dn_mv r h3 htu (by omega)]
    have p0 := Int.emod_nonneg ((u : Int) * d) (show (v : Int) ≠ 0 by omega)
    have p1 := Int.emod_lt_of_pos ((u : Int) * d) (show (0 : Int) < v by omega)
    obtain ⟨e, hE⟩ : ∃ e : Nat, ((u : Int) * d) % v = e := ⟨(((u : Int) * d) % v).toNat, by omega⟩
    have hE0 : e ≠ 0 := by
      rintro rfl
      have hdv : (v : Int) ∣ (d : Int) * u := by rw [Int.mul_comm]; exact Int.dvd_of_emod_eq_zero hE
      have := dvd_small u2 d2 hdv
      omega
    rw [hE, ← diffs_nth r (by omega)]
    rw [eqA, List.all_eq_true] at he
    have := he e (by simp [List.mem_range'_1]; omega)
    simpa using this
  refine ⟨?_, all 1 (by omega) (by omega)⟩
  rw [eqA, List.all_eq_true]
  intro d hd
  simp [List.mem_range'_1] at hd
  rw [all d (by omega) (by omega), all 1 (by omega) (by omega)]
  simp

/-! ### All pairs; squares -/
def rng (v : Nat) : List Int := (List.range' 0 v).map fun t : Nat => (t : Int)
theorem mem_rng {v : Nat} {x : Int} : x ∈ rng v ↔ 0 ≤ x ∧ x < v := by
  unfold rng
  rw [List.mem_map]
  constructor
  · rintro ⟨t, h, rfl⟩
    simp [List.mem_range'_1] at h
    omega
  · rintro ⟨h1, h2⟩
    exact ⟨x.toNat, by simp [List.mem_range'_1]; omega, by omega⟩
theorem rng_nodup (v : Nat) : (rng v).Nodup := by
  unfold rng
  rw [List.nodup_iff_pairwise_ne, List.pairwise_map]
  exact (range_sorted v 0).imp fun h => by omega
/-- Sums over pairs are sums over differences. -/
theorem pairs_sum {v : Nat} (hv : 0 < v) (l : List Int) (f : Int → Int) : (S1 l fun a => S1 l fun b => f ((a - b) % v)) = S1 (rng v) fun d => f d * Dn v l d := by
  have h1 : ∀ x : Int, f (x % v) = S1 (rng v) fun d => f d * ind (x % v = d) := by
    intro x
    have hm : x % (v : Int) ∈ rng v := mem_rng.2 ⟨Int.emod_nonneg _ (by omega), Int.emod_lt_of_pos _ (by omega)⟩
    have : (S1 (rng v) fun d => f d * ind (x % v = d)) = S1 (rng v) fun d => f (x % v) * ind (x % v = d) := S1_congr fun d _ => by
      unfold ind
      by_cases e : x % (v : Int) = d
      · rw [e]
      · simp [e]
    rw [this, S1_mul, S1_one (rng_nodup v) hm, Int.mul_one]
  have h2 : (S1 l fun a => S1 l fun b => f ((a - b) % v)) = S1 l fun a => S1 (rng v) fun d => S1 l fun b => f d * ind ((a - b) % v = d) := S1_congr fun a _ => by
    rw [← S1_swap]; exact S1_congr fun b _ => h1 (a - b)
  rw [h2, S1_swap]
  refine S1_congr fun d _ => ?_
  rw [Dn, ← S1_mul]
  exact S1_congr fun a _ => S1_mul ..
theorem rng_cons {v : Nat} (hv : 0 < v) : rng v = 0 :: (List.range' 1 (v - 1)).map fun t : Nat => (t : Int) := by
  obtain ⟨k, rfl⟩ : ∃ k, v = k + 1 := ⟨v - 1, by omega⟩
  unfold rng
  rw [List.range'_succ]
  rfl
theorem Dn_zero {v : Nat} {l : List Int} (r : RingOk v l) : Dn v l 0 = l.length := by
  have hn : l.Nodup := r.pw.imp fun h e => by omega
  unfold Dn
  have : (S1 l fun a => S1 l fun b => ind ((a - b) % (v : Int) = 0)) = S1 l fun _ => 1 := S1_congr fun a ha => by
    rw [← S1_one hn ha]
    refine S1_congr fun b hb => ?_
    have pa := r.mem ha
    have pb := r.mem hb
    unfold ind
    have : ((a - b) % (v : Int) = 0) ↔ a = b := by
      constructor
      · intro h
        obtain ⟨k, hk⟩ := Int.dvd_of_emod_eq_zero h
        have : k = 0 := by
          rcases Int.lt_trichotomy k 0 with h | h | h
          · have : (v : Int) * k ≤ v * (-1) := Int.mul_le_mul_of_nonneg_left (by omega) (by omega); omega
          · exact h
          · have : (v : Int) * 1 ≤ v * k := Int.mul_le_mul_of_nonneg_left (by omega) (by omega); omega
        subst this; omega
      · rintro rfl; simp
    simp only [this]
  rw [this, S1_const, Int.mul_one]
theorem even_Dn {v : Nat} {l : List Int} (r : RingOk v l) (he : eqA (diffs v l) (v - 1) 1 = true) {d : Int} (h1 : 1 ≤ d) (h2 : d < v) : Dn v l d = nth (diffs v l) 1 := by
  rw [eqA, List.all_eq_true] at he
  have := he d.toNat (by simp [List.mem_range'_1]; omega)
  rw [decide_eq_true_eq, diffs_nth r (by omega)] at this
  rwa [show ((d.toNat : Nat) : Int) = d by omega] at this
/-- T1. -/
theorem even_count {v : Nat} {l : List Int} (r : RingOk v l) (he : eqA (diffs v l) (v - 1) 1 = true) : (l.length : Int) * ((l.length : Int) - 1) = nth (diffs v l) 1 * ((v : Int) - 1) := by
  have hv := r.v2
  have h := pairs_sum (v := v) (by omega) l (fun _ => 1)
  have h1 : (S1 l fun a => S1 l fun b => (1 : Int)) = l.length * l.length := by
    have : (S1 l fun a => S1 l fun b => (1 : Int)) = S1 l fun _ => (l.length : Int) := S1_congr fun a _ => by rw [S1_const, Int.mul_one]
    rw [this, S1_const]
  rw [h1, rng_cons (by omega), S1_cons] at h
  have h2 : (S1 ((List.range' 1 (v - 1)).map fun t : Nat => (t : Int)) fun d => 1 * Dn v l d) = S1 ((List.range' 1 (v - 1)).map fun t : Nat => (t : Int)) fun _ => nth (diffs v l) 1 := S1_congr fun d hd => by
    obtain ⟨t, ht, rfl⟩ := List.mem_map.1 hd
    simp [List.mem_range'_1] at ht
    rw [Int.one_mul, even_Dn r he (by omega) (by omega)]
  rw [h2, S1_const, List.length_map, List.length_range', Int.one_mul, Dn_zero r] at h
  rw [Int.mul_sub, h, show (((v - 1 : Nat) : Int)) = (v : Int) - 1 by omega, Int.mul_comm ((v : Int) - 1)]
  omega
def chi (x : Int) : Int := if x % 2 = 0 then 1 else -1
end Go.Proofs.YtofceaeboboflaaDoor

/-
  BODIES OF FUNCTIONS OF THE PROGRAM AS SMALL OPERATIONS (written by gen.py; checked by the kernel against the program). Conditions: none.
-/
namespace Go.Proofs.YtofceaeboboflaaDoor
open Go.AM
open Go.Proofs.Tryd (prog)
set_option maxRecDepth 100000
set_option linter.all false

namespace l04_made
/-- pommel/pommellaw04.made -/
noncomputable def b : Code := (Tryd.f7.body).getD .skip
theorem hf : prog.funcs[7]? = some Tryd.f7 := by kernel_rfl
noncomputable def r0 : Code := findReg b 0
noncomputable def r1 : Code := findReg b 1
noncomputable def r2 : Code := findReg b 2
noncomputable def k0 : Code := findBlk b 0
noncomputable def l0 : Code := loopOf k0
noncomputable def L0 (x1 x4 x5 : AV) (m : Mem) (K : List Item) : Option Res := den prog ann 7 (.code l0 :: .inLoop l0 :: .inBlock 0 :: K) ⟨[(1, x1), (4, x4), (5, x5)], 48, m⟩
noncomputable def r3 : Code := findReg b 3
noncomputable def i0 : Code := findCond b 0
noncomputable def i0t : Code := thenOf i0
noncomputable def i0e : Code := elseOf i0
noncomputable def k1 : Code := findBlk b 1
noncomputable def r4 : Code := findReg b 4
noncomputable def r5 : Code := findReg b 5
theorem b_eq (K : List Item) (s : St) : den prog ann 7 (.code b :: K) s = den prog ann 7 (.code r0 :: .code r1 :: .code r2 :: .code k0 :: .code r5 :: .code .ret :: K) s := den_flat hf (l := [r0, r1, r2, k0, r5, .ret]) (by kernel_rfl) K s
theorem r0_eq (K : List Item) (s : St) : den prog ann 7 (.code r0 :: K) s = mreg prog ann 7 none [] none [] [
    ⟨some 1, none, .v fun s => frozenPtr (s.get 0)⟩,
    ⟨some 2, none, .v fun s => some (.int .i64 0)⟩,
    ⟨some 3, none, .v fun s => some (.nils)⟩] K s := (den_reg hf _ K s).trans (by kernel_rfl)
theorem r1_draw : drawOk (fun g => (ann g).pure) (modeOf (ann 7) (idOf r1)) (frzOf (ann 7) (idOf r1)) (opsOf r1) = true := drawOk_of (an := [0, 0, 2, 6, 0, 16, 62, 127, 255, 0, 1023]) (by kernel_rfl) (by kernel_rfl)
theorem r1_eq (K : List Item) (s : St) : den prog ann 7 (.code r1 :: K) s = mreg prog ann 7 none [] (some 11) [4] [
    ⟨some 6, none, .v fun s => loadA false 1 s.m (globV 0)⟩,
    ⟨some 7, none, .v fun s => idxArr 3 1 (s.get 1) (.int .i64 0)⟩,
    ⟨some 8, none, .v fun s => loadF false 1 (s.get 7)⟩,
    ⟨some 9, none, .v fun s => convInt .i64 (s.get 8)⟩,
    ⟨some 10, none, .v fun s => loadA false 1 s.m (globV 0)⟩,
    ⟨some 11, none, .v fun s => lenSl (s.get 10)⟩,
    ⟨some 12, none, .v fun s => binA prog .rem 3 (s.get 9) (s.get 11)⟩,
    ⟨some 13, none, .v fun s => idxSl 2 (s.get 6) (s.get 12)⟩,
    ⟨some 14, none, .v fun s => loadA true 2 s.m (s.get 13)⟩,
    ⟨some 4, none, .w false (some 9) fun s => newPtr s.m [.int .i64 0, .nils]⟩,
    ⟨none, none, .w false (some 10) fun s => stA true 2 s.m (s.get 4) (s.get 14)⟩] K s := (den_regD hf r1_draw K s).trans (by kernel_rfl)
theorem r2_eq (K : List Item) (s : St) : den prog ann 7 (.code r2 :: K) s = mreg prog ann 7 none [] none [] [
    ⟨some 15, none, .v fun s => idxArr 3 1 (s.get 1) (.int .i64 1)⟩,
    ⟨some 16, none, .v fun s => loadF false 1 (s.get 15)⟩,
    ⟨some 17, none, .v fun s => convInt .i64 (s.get 16)⟩,
    ⟨some 18, none, .v fun s => fieldA 0 (s.get 4)⟩,
    ⟨some 19, none, .v fun s => loadF false 1 (s.get 18)⟩,
    ⟨some 20, none, .v fun s => binA prog .sub 3 (s.get 19) (.int .i64 1)⟩,
    ⟨some 21, none, .v fun s => binA prog .rem 3 (s.get 17) (s.get 20)⟩,
    ⟨some 22, none, .v fun s => binA prog .add 3 (s.get 21) (.int .i64 1)⟩,
    ⟨some 5, none, .v fun s => some (s.get 22)⟩] K s := (den_reg hf _ K s).trans (by kernel_rfl)
theorem k0_eq (K : List Item) (t : List (Nat × AV)) (m : Mem) : den prog ann 7 (.code k0 :: K) ⟨t, 48, m⟩ = L0 (get t 1) (get t 4) (get t 5) m K := den_loop_enter hf (b := l0) (id := 3) (l := [1, 4, 5]) (by kernel_rfl) (by kernel_rfl) (by kernel_rfl) K _
theorem l0_eq (K : List Item) (t : List (Nat × AV)) (m : Mem) : den prog ann 7 (.inLoop l0 :: .inBlock 0 :: K) ⟨t, 48, m⟩ = L0 (get t 1) (get t 4) (get t 5) m K := den_loop_again hf (id := 3) (l := [1, 4, 5]) (by kernel_rfl) (by kernel_rfl) (.inBlock 0 :: K) _
theorem L0_eq (x1 x4 x5 : AV) (m : Mem) (K : List Item) : L0 x1 x4 x5 m K = den prog ann 7 (.code r3 :: .code i0 :: .code k1 :: .inLoop l0 :: .inBlock 0 :: K) ⟨[(1, x1), (4, x4), (5, x5)], 48, m⟩ := den_flat hf (l := [r3, i0, k1]) (by kernel_rfl) _ _
theorem r3_eq (K : List Item) (s : St) : den prog ann 7 (.code r3 :: K) s = mreg prog ann 7 (some [1, 4, 5]) [] none [] [
    ⟨some 23, none, .v fun s => some (s.get 5)⟩,
    ⟨some 24, none, .v fun s => fieldA 0 (s.get 4)⟩,
    ⟨some 25, none, .v fun s => loadF false 1 (s.get 24)⟩,
    ⟨some 26, none, .c 0 (fun s => (.fn 12 [] [])) fun s => [(s.get 23), (s.get 25)]⟩,
    ⟨some 27, none, .v fun s => binA prog .neq 3 (s.get 26) (.int .i64 1)⟩] K s := (den_reg hf _ K s).trans (by kernel_rfl)
theorem i0_eq (K : List Item) (s : St) : den prog ann 7 (.code i0 :: K) s = ifV prog ann 7 27 i0t i0e K s (s.get 27) := den_if hf (by kernel_rfl) K s
theorem i0t_eq (K : List Item) (s : St) : den prog ann 7 (.code i0t :: K) s = den prog ann 7 (K) s := den_flat hf (l := []) (by kernel_rfl) K s
theorem i0e_eq (K : List Item) (s : St) : den prog ann 7 (.code i0e :: K) s = den prog ann 7 (.code (.exit 0) :: K) s := den_flat hf (l := [(.exit 0)]) (by kernel_rfl) K s
theorem k1_eq (K : List Item) (s : St) : den prog ann 7 (.code k1 :: K) s = den prog ann 7 (.code r4 :: .inBlock 1 :: K) s := den_blk hf (b := blkOf k1) (l := [r4]) (by kernel_rfl) (by kernel_rfl) K s
theorem r4_eq (K : List Item) (s : St) : den prog ann 7 (.code r4 :: K) s = mreg prog ann 7 none [] none [] [
    ⟨some 28, none, .v fun s => some (s.get 5)⟩,
    ⟨some 29, none, .v fun s => fieldA 0 (s.get 4)⟩,
    ⟨some 30, none, .v fun s => loadF false 1 (s.get 29)⟩,
    ⟨some 31, none, .v fun s => binA prog .sub 3 (s.get 30) (.int .i64 1)⟩,
    ⟨some 32, none, .v fun s => binA prog .rem 3 (s.get 28) (s.get 31)⟩,
    ⟨some 33, none, .v fun s => binA prog .add 3 (s.get 32) (.int .i64 1)⟩,
    ⟨some 5, none, .v fun s => some (s.get 33)⟩] K s := (den_reg hf _ K s).trans (by kernel_rfl)
theorem r5_draw : drawOk (fun g => (ann g).pure) (modeOf (ann 7) (idOf r5)) (frzOf (ann 7) (idOf r5)) (opsOf r5) = true := drawOk_of (an := [0, 1, 0, 4, 0, 16, 0, 0, 128, 384, 0, 1024, 3968, 8188, 16383, 32767]) (by kernel_rfl) (by kernel_rfl)
theorem r5_eq (K : List Item) (s : St) : den prog ann 7 (.code r5 :: K) s = mreg prog ann 7 (some [1, 4, 5]) [] (some 16) [] [
    ⟨some 34, none, .v fun s => fieldA 0 (s.get 4)⟩,
    ⟨some 35, none, .v fun s => loadF false 1 (s.get 34)⟩,
    ⟨some 36, none, .v fun s => fieldA 0 (s.get 4)⟩,
    ⟨some 37, none, .v fun s => loadF false 1 (s.get 36)⟩,
    ⟨some 38, none, .v fun s => fieldA 1 (s.get 4)⟩,
    ⟨some 39, none, .v fun s => loadF false 1 (s.get 38)⟩,
    ⟨some 40, none, .v fun s => some (s.get 5)⟩,
    ⟨some 41, none, .v fun s => idxArr 3 1 (s.get 1) (.int .i64 2)⟩,
    ⟨some 42, none, .v fun s => loadF false 1 (s.get 41)⟩,
    ⟨some 43, none, .v fun s => convInt .i64 (s.get 42)⟩,
    ⟨some 44, none, .v fun s => fieldA 0 (s.get 4)⟩,
    ⟨some 45, none, .v fun s => loadF false 1 (s.get 44)⟩,
    ⟨some 46, none, .v fun s => binA prog .rem 3 (s.get 43) (s.get 45)⟩,
    ⟨some 47, none, .c 0 (fun s => (.fn 13 [] [])) fun s => [(s.get 37), (s.get 39), (s.get 40), (s.get 46)]⟩,
    ⟨some 2, none, .v fun s => some (s.get 35)⟩,
    ⟨some 3, none, .v fun s => some (s.get 47)⟩] K s := (den_regD hf r5_draw K s).trans (by kernel_rfl)
theorem ret_eq (K : List Item) (s : St) : den prog ann 7 (.code .ret :: K) s = finM true [fun s => some (s.get 2), fun s => some (s.get 3)] s := (den_ret hf K s).trans (by kernel_rfl)
theorem nil_eq (s : St) : den prog ann 7 [] s = finM true [fun s => some (s.get 2), fun s => some (s.get 3)] s := (den_nil hf s).trans (by kernel_rfl)
theorem inBlock_eq (id : Nat) (K : List Item) (s : St) : den prog ann 7 (.inBlock id :: K) s = den prog ann 7 K s := den_inBlock hf id K s
theorem exit_eq (id : Nat) (K : List Item) (s : St) : den prog ann 7 (.code (.exit id) :: K) s = exitV prog ann 7 (exitTo id K) s := den_exitV hf id K s
theorem call_eq (v0 : AV) (m : Mem) (h : closedL [v0] = true) : denC prog ann 7 [v0] m = (den prog ann 7 [.code b] ⟨[(0, v0)], 48, Mem.empty⟩).bind fun r => some (r.1, m) := (denC_pure hf (b := b) (by kernel_rfl) (by kernel_rfl) (by kernel_rfl) h m).trans (by kernel_rfl)
theorem pure_eq : (ann 7).pure = true := by kernel_rfl
attribute [simp] b_eq r0_eq r1_eq r2_eq k0_eq l0_eq r3_eq i0_eq i0t_eq i0e_eq k1_eq r4_eq r5_eq ret_eq nil_eq inBlock_eq exit_eq pure_eq
end l04_made




namespace l04_StrapRest
/-- pommel/pommellaw04.StrapRest -/
noncomputable def b : Code := (Tryd.f6.body).getD .skip
theorem hf : prog.funcs[6]? = some Tryd.f6 := by kernel_rfl
noncomputable def r0 : Code := findReg b 0
noncomputable def r1 : Code := findReg b 1
noncomputable def r2 : Code := findReg b 2
noncomputable def r3 : Code := findReg b 3
noncomputable def k0 : Code := findBlk b 0
noncomputable def l0 : Code := loopOf k0
noncomputable def L0 (x3 x4 x5 x6 x7 : AV) (m : Mem) (K : List Item) : Option Res := den prog ann 6 (.code l0 :: .inLoop l0 :: .inBlock 0 :: K) ⟨[(3, x3), (4, x4), (5, x5), (6, x6), (7, x7)], 108, m⟩
noncomputable def r4 : Code := findReg b 4
noncomputable def i0 : Code := findCond b 0
noncomputable def i0t : Code := thenOf i0
noncomputable def i0e : Code := elseOf i0
noncomputable def k1 : Code := findBlk b 1
noncomputable def r6 : Code := findReg b 6
noncomputable def r5 : Code := findReg b 5
noncomputable def r7 : Code := findReg b 7
noncomputable def k2 : Code := findBlk b 2
noncomputable def l2 : Code := loopOf k2
noncomputable def L2 (x3 x4 x5 x6 x8 : AV) (m : Mem) (K : List Item) : Option Res := den prog ann 6 (.code l2 :: .inLoop l2 :: .inBlock 2 :: K) ⟨[(3, x3), (4, x4), (5, x5), (6, x6), (8, x8)], 108, m⟩
noncomputable def r8 : Code := findReg b 8
noncomputable def i1 : Code := findCond b 1
noncomputable def i1t : Code := thenOf i1
noncomputable def i1e : Code := elseOf i1
noncomputable def k3 : Code := findBlk b 3
noncomputable def r10 : Code := findReg b 10
noncomputable def i2 : Code := findCond b 2
noncomputable def i2t : Code := thenOf i2
noncomputable def i2e : Code := elseOf i2
noncomputable def r11 : Code := findReg b 11
noncomputable def r9 : Code := findReg b 9
noncomputable def r12 : Code := findReg b 12
noncomputable def r13 : Code := findReg b 13
noncomputable def r14 : Code := findReg b 14
noncomputable def r15 : Code := findReg b 15
noncomputable def r16 : Code := findReg b 16
theorem b_eq (K : List Item) (s : St) : den prog ann 6 (.code b :: K) s = den prog ann 6 (.code r0 :: .code r1 :: .code r2 :: .code r3 :: .code k0 :: .code r7 :: .code k2 :: .code r12 :: .code r13 :: .code r14 :: .code r15 :: .code r16 :: .code .ret :: K) s := den_flat hf (l := [r0, r1, r2, r3, k0, r7, k2, r12, r13, r14, r15, r16, .ret]) (by kernel_rfl) K s
theorem r0_eq (K : List Item) (s : St) : den prog ann 6 (.code r0 :: K) s = mreg prog ann 6 none [] none [] [
    ⟨some 1, none, .v fun s => frozenPtr (s.get 0)⟩,
    ⟨some 2, none, .v fun s => some (.bool false)⟩] K s := (den_reg hf _ K s).trans (by kernel_rfl)
theorem r1_eq (K : List Item) (s : St) : den prog ann 6 (.code r1 :: K) s = mreg prog ann 6 none [] none [] [
    ⟨some 18, none, .v fun s => loadF true 3 (s.get 1)⟩,
    ⟨some 19, none, .c 0 (fun s => (.fn 7 [] [])) fun s => [(s.get 18)]⟩,
    ⟨some 17, none, .v fun s => some (s.get 19)⟩,
    ⟨some 20, none, .v fun s => extA (s.get 17) 0⟩,
    ⟨some 21, none, .v fun s => extA (s.get 17) 1⟩,
    ⟨some 3, none, .v fun s => some (s.get 20)⟩,
    ⟨some 4, none, .v fun s => some (s.get 21)⟩] K s := (den_reg hf _ K s).trans (by kernel_rfl)
theorem r2_eq (K : List Item) (s : St) : den prog ann 6 (.code r2 :: K) s = mreg prog ann 6 none [] none [] [
    ⟨some 22, none, .v fun s => some (s.get 3)⟩,
    ⟨some 23, none, .w false none fun s => makeA 1 1 (.bool false) s.m (s.get 22) (s.get 22)⟩,
    ⟨some 24, none, .w false none fun s => bslM s.m 0 (bslA 1 0 [.int .i64 0] [])⟩,
    ⟨some 5, none, .v fun s => some (s.get 23)⟩,
    ⟨some 6, none, .v fun s => some (s.get 24)⟩] K s := (den_reg hf _ K s).trans (by kernel_rfl)
theorem r3_eq (K : List Item) (s : St) : den prog ann 6 (.code r3 :: K) s = mreg prog ann 6 none [] none [] [
    ⟨some 7, none, .v fun s => some (.int .i64 0)⟩] K s := (den_reg hf _ K s).trans (by kernel_rfl)
theorem k0_eq (K : List Item) (t : List (Nat × AV)) (m : Mem) : den prog ann 6 (.code k0 :: K) ⟨t, 108, m⟩ = L0 (get t 3) (get t 4) (get t 5) (get t 6) (get t 7) m K := den_loop_enter hf (b := l0) (id := 4) (l := [3, 4, 5, 6, 7]) (by kernel_rfl) (by kernel_rfl) (by kernel_rfl) K _
theorem l0_eq (K : List Item) (t : List (Nat × AV)) (m : Mem) : den prog ann 6 (.inLoop l0 :: .inBlock 0 :: K) ⟨t, 108, m⟩ = L0 (get t 3) (get t 4) (get t 5) (get t 6) (get t 7) m K := den_loop_again hf (id := 4) (l := [3, 4, 5, 6, 7]) (by kernel_rfl) (by kernel_rfl) (.inBlock 0 :: K) _
theorem L0_eq (x3 x4 x5 x6 x7 : AV) (m : Mem) (K : List Item) : L0 x3 x4 x5 x6 x7 m K = den prog ann 6 (.code r4 :: .code i0 :: .code k1 :: .code r5 :: .inLoop l0 :: .inBlock 0 :: K) ⟨[(3, x3), (4, x4), (5, x5), (6, x6), (7, x7)], 108, m⟩ := den_flat hf (l := [r4, i0, k1, r5]) (by kernel_rfl) _ _
theorem r4_eq (K : List Item) (s : St) : den prog ann 6 (.code r4 :: K) s = mreg prog ann 6 (some [3, 4, 5, 6, 7]) [] none [] [
    ⟨some 25, none, .v fun s => some (s.get 7)⟩,
    ⟨some 26, none, .v fun s => some (s.get 4)⟩,
    ⟨some 27, none, .v fun s => lenSl (s.get 26)⟩,
    ⟨some 28, none, .v fun s => binA prog .lss 3 (s.get 25) (s.get 27)⟩] K s := (den_reg hf _ K s).trans (by kernel_rfl)
theorem i0_eq (K : List Item) (s : St) : den prog ann 6 (.code i0 :: K) s = ifV prog ann 6 28 i0t i0e K s (s.get 28) := den_if hf (by kernel_rfl) K s
theorem i0t_eq (K : List Item) (s : St) : den prog ann 6 (.code i0t :: K) s = den prog ann 6 (K) s := den_flat hf (l := []) (by kernel_rfl) K s
theorem i0e_eq (K : List Item) (s : St) : den prog ann 6 (.code i0e :: K) s = den prog ann 6 (.code (.exit 0) :: K) s := den_flat hf (l := [(.exit 0)]) (by kernel_rfl) K s
theorem k1_eq (K : List Item) (s : St) : den prog ann 6 (.code k1 :: K) s = den prog ann 6 (.code r6 :: .inBlock 1 :: K) s := den_blk hf (b := blkOf k1) (l := [r6]) (by kernel_rfl) (by kernel_rfl) K s
theorem r6_eq (K : List Item) (s : St) : den prog ann 6 (.code r6 :: K) s = mreg prog ann 6 none [] none [] [
    ⟨some 31, none, .v fun s => some (s.get 5)⟩,
    ⟨some 32, none, .v fun s => some (s.get 4)⟩,
    ⟨some 33, none, .v fun s => some (s.get 7)⟩,
    ⟨some 34, none, .v fun s => idxSl 1 (s.get 32) (s.get 33)⟩,
    ⟨some 35, none, .v fun s => loadF false 1 (s.get 34)⟩,
    ⟨some 36, none, .v fun s => idxSl 1 (s.get 31) (s.get 35)⟩,
    ⟨none, none, .w false none fun s => stA false 1 s.m (s.get 36) (.bool true)⟩] K s := (den_reg hf _ K s).trans (by kernel_rfl)
theorem r5_eq (K : List Item) (s : St) : den prog ann 6 (.code r5 :: K) s = mreg prog ann 6 (some [3, 4, 5, 6, 7]) [] none [] [
    ⟨some 29, none, .v fun s => some (s.get 7)⟩,
    ⟨some 30, none, .v fun s => binA prog .add 3 (s.get 29) (.int .i64 1)⟩,
    ⟨some 7, none, .v fun s => some (s.get 30)⟩] K s := (den_reg hf _ K s).trans (by kernel_rfl)
theorem r7_eq (K : List Item) (s : St) : den prog ann 6 (.code r7 :: K) s = mreg prog ann 6 (some [3, 4, 5, 6]) [] none [] [
    ⟨some 8, none, .v fun s => some (.int .i64 0)⟩] K s := (den_reg hf _ K s).trans (by kernel_rfl)
theorem k2_eq (K : List Item) (t : List (Nat × AV)) (m : Mem) : den prog ann 6 (.code k2 :: K) ⟨t, 108, m⟩ = L2 (get t 3) (get t 4) (get t 5) (get t 6) (get t 8) m K := den_loop_enter hf (b := l2) (id := 8) (l := [3, 4, 5, 6, 8]) (by kernel_rfl) (by kernel_rfl) (by kernel_rfl) K _
theorem l2_eq (K : List Item) (t : List (Nat × AV)) (m : Mem) : den prog ann 6 (.inLoop l2 :: .inBlock 2 :: K) ⟨t, 108, m⟩ = L2 (get t 3) (get t 4) (get t 5) (get t 6) (get t 8) m K := den_loop_again hf (id := 8) (l := [3, 4, 5, 6, 8]) (by kernel_rfl) (by kernel_rfl) (.inBlock 2 :: K) _
theorem L2_eq (x3 x4 x5 x6 x8 : AV) (m : Mem) (K : List Item) : L2 x3 x4 x5 x6 x8 m K = den prog ann 6 (.code r8 :: .code i1 :: .code k3 :: .code r9 :: .inLoop l2 :: .inBlock 2 :: K) ⟨[(3, x3), (4, x4), (5, x5), (6, x6), (8, x8)], 108, m⟩ := den_flat hf (l := [r8, i1, k3, r9]) (by kernel_rfl) _ _
theorem r8_eq (K : List Item) (s : St) : den prog ann 6 (.code r8 :: K) s = mreg prog ann 6 (some [3, 4, 5, 6, 8]) [] none [] [
    ⟨some 37, none, .v fun s => some (s.get 8)⟩,
    ⟨some 38, none, .v fun s => some (s.get 3)⟩,
    ⟨some 39, none, .v fun s => binA prog .lss 3 (s.get 37) (s.get 38)⟩] K s := (den_reg hf _ K s).trans (by kernel_rfl)
theorem i1_eq (K : List Item) (s : St) : den prog ann 6 (.code i1 :: K) s = ifV prog ann 6 39 i1t i1e K s (s.get 39) := den_if hf (by kernel_rfl) K s
theorem i1t_eq (K : List Item) (s : St) : den prog ann 6 (.code i1t :: K) s = den prog ann 6 (K) s := den_flat hf (l := []) (by kernel_rfl) K s
theorem i1e_eq (K : List Item) (s : St) : den prog ann 6 (.code i1e :: K) s = den prog ann 6 (.code (.exit 2) :: K) s := den_flat hf (l := [(.exit 2)]) (by kernel_rfl) K s
theorem k3_eq (K : List Item) (s : St) : den prog ann 6 (.code k3 :: K) s = den prog ann 6 (.code r10 :: .code i2 :: .inBlock 3 :: K) s := den_blk hf (b := blkOf k3) (l := [r10, i2]) (by kernel_rfl) (by kernel_rfl) K s
theorem r10_eq (K : List Item) (s : St) : den prog ann 6 (.code r10 :: K) s = mreg prog ann 6 none [] none [] [
    ⟨some 42, none, .v fun s => some (s.get 5)⟩,
    ⟨some 43, none, .v fun s => some (s.get 8)⟩,
    ⟨some 44, none, .v fun s => idxSl 1 (s.get 42) (s.get 43)⟩,
    ⟨some 45, none, .v fun s => loadA false 1 s.m (s.get 44)⟩,
    ⟨some 46, none, .v fun s => unA .not (s.get 45)⟩] K s := (den_reg hf _ K s).trans (by kernel_rfl)
theorem i2_eq (K : List Item) (s : St) : den prog ann 6 (.code i2 :: K) s = ifV prog ann 6 46 i2t i2e K s (s.get 46) := den_if hf (by kernel_rfl) K s
theorem i2t_eq (K : List Item) (s : St) : den prog ann 6 (.code i2t :: K) s = den prog ann 6 (.code r11 :: K) s := den_flat hf (l := [r11]) (by kernel_rfl) K s
theorem r11_eq (K : List Item) (s : St) : den prog ann 6 (.code r11 :: K) s = mreg prog ann 6 none [] none [] [
    ⟨some 47, none, .v fun s => some (s.get 6)⟩,
    ⟨some 48, none, .v fun s => some (s.get 8)⟩,
    ⟨some 49, none, .v fun s => bslF 1 (bslA 1 1 [.int .i64 0] [(0, (s.get 48))])⟩,
    ⟨some 50, none, .w false none fun s => appendA 1 8 s.m (s.get 47) (s.get 49)⟩,
    ⟨some 6, none, .v fun s => some (s.get 50)⟩] K s := (den_reg hf _ K s).trans (by kernel_rfl)
theorem i2e_eq (K : List Item) (s : St) : den prog ann 6 (.code i2e :: K) s = den prog ann 6 (K) s := den_flat hf (l := []) (by kernel_rfl) K s
theorem r9_eq (K : List Item) (s : St) : den prog ann 6 (.code r9 :: K) s = mreg prog ann 6 (some [3, 4, 5, 6, 8]) [] none [] [
    ⟨some 40, none, .v fun s => some (s.get 8)⟩,
    ⟨some 41, none, .v fun s => binA prog .add 3 (s.get 40) (.int .i64 1)⟩,
    ⟨some 8, none, .v fun s => some (s.get 41)⟩] K s := (den_reg hf _ K s).trans (by kernel_rfl)
theorem r12_eq (K : List Item) (s : St) : den prog ann 6 (.code r12 :: K) s = mreg prog ann 6 (some [3, 4, 6]) [] none [] [
    ⟨some 52, none, .v fun s => some (s.get 3)⟩,
    ⟨some 53, none, .v fun s => some (s.get 4)⟩,
    ⟨some 54, none, .c 0 (fun s => (.fn 10 [] [])) fun s => [(s.get 52), (s.get 53)]⟩,
    ⟨some 51, none, .v fun s => some (s.get 54)⟩,
    ⟨some 55, none, .v fun s => extA (s.get 51) 0⟩,
    ⟨some 56, none, .v fun s => extA (s.get 51) 1⟩,
    ⟨some 9, none, .v fun s => some (s.get 55)⟩,
    ⟨some 10, none, .v fun s => some (s.get 56)⟩] K s := (den_reg hf _ K s).trans (by kernel_rfl)
theorem r13_eq (K : List Item) (s : St) : den prog ann 6 (.code r13 :: K) s = mreg prog ann 6 none [] none [] [
    ⟨some 58, none, .v fun s => some (s.get 3)⟩,
    ⟨some 59, none, .v fun s => some (s.get 6)⟩,
    ⟨some 60, none, .c 0 (fun s => (.fn 10 [] [])) fun s => [(s.get 58), (s.get 59)]⟩,
    ⟨some 57, none, .v fun s => some (s.get 60)⟩,
    ⟨some 61, none, .v fun s => extA (s.get 57) 0⟩,
    ⟨some 62, none, .v fun s => extA (s.get 57) 1⟩,
    ⟨some 11, none, .v fun s => some (s.get 61)⟩,
    ⟨some 12, none, .v fun s => some (s.get 62)⟩] K s := (den_reg hf _ K s).trans (by kernel_rfl)
theorem r14_eq (K : List Item) (s : St) : den prog ann 6 (.code r14 :: K) s = mreg prog ann 6 none [] none [] [
    ⟨some 64, none, .v fun s => some (s.get 3)⟩,
    ⟨some 65, none, .v fun s => some (s.get 4)⟩,
    ⟨some 66, none, .c 0 (fun s => (.fn 8 [] [])) fun s => [(s.get 64), (s.get 65)]⟩,
    ⟨some 63, none, .v fun s => some (s.get 66)⟩,
    ⟨some 67, none, .v fun s => extA (s.get 63) 0⟩,
    ⟨some 68, none, .v fun s => extA (s.get 63) 1⟩,
    ⟨some 13, none, .v fun s => some (s.get 67)⟩,
    ⟨some 14, none, .v fun s => some (s.get 68)⟩] K s := (den_reg hf _ K s).trans (by kernel_rfl)
theorem r15_eq (K : List Item) (s : St) : den prog ann 6 (.code r15 :: K) s = mreg prog ann 6 none [] none [] [
    ⟨some 70, none, .v fun s => some (s.get 3)⟩,
    ⟨some 71, none, .v fun s => some (s.get 6)⟩,
    ⟨some 72, none, .c 2 (fun s => (.fn 8 [] [])) fun s => [(s.get 70), (s.get 71)]⟩,
    ⟨some 69, none, .v fun s => some (s.get 72)⟩,
    ⟨some 73, none, .v fun s => extA (s.get 69) 0⟩,
    ⟨some 74, none, .v fun s => extA (s.get 69) 1⟩,
    ⟨some 15, none, .v fun s => some (s.get 73)⟩,
    ⟨some 16, none, .v fun s => some (s.get 74)⟩] K s := (den_reg hf _ K s).trans (by kernel_rfl)
theorem r16_eq (K : List Item) (s : St) : den prog ann 6 (.code r16 :: K) s = mreg prog ann 6 none [] none [] [
    ⟨some 75, none, .v fun s => some (s.get 10)⟩,
    ⟨some 76, none, .v fun s => binA prog .eql 27 (s.get 75) (.int .i64 0)⟩,
    ⟨some 77, none, .v fun s => some (s.get 76)⟩,
    ⟨some 78, some (77, true), .v fun s => some (s.get 12)⟩,
    ⟨some 79, some (77, true), .v fun s => binA prog .eql 27 (s.get 78) (.int .i64 0)⟩,
    ⟨some 80, none, .v fun s => pickA (s.get 77) (s.get 79) (.bool false)⟩,
    ⟨some 81, none, .v fun s => some (s.get 80)⟩,
    ⟨some 82, some (81, true), .v fun s => some (s.get 14)⟩,
    ⟨some 83, some (81, true), .v fun s => binA prog .eql 27 (s.get 82) (.int .i64 0)⟩,
    ⟨some 84, none, .v fun s => pickA (s.get 81) (s.get 83) (.bool false)⟩,
    ⟨some 85, none, .v fun s => some (s.get 84)⟩,
    ⟨some 86, some (85, true), .v fun s => some (s.get 16)⟩,
    ⟨some 87, some (85, true), .v fun s => binA prog .eql 27 (s.get 86) (.int .i64 0)⟩,
    ⟨some 88, none, .v fun s => pickA (s.get 85) (s.get 87) (.bool false)⟩,
    ⟨some 89, none, .v fun s => some (s.get 88)⟩,
    ⟨some 90, some (89, true), .v fun s => some (s.get 11)⟩,
    ⟨some 91, some (89, true), .v fun s => some (s.get 3)⟩,
    ⟨some 92, some (89, true), .v fun s => some (s.get 4)⟩,
    ⟨some 93, some (89, true), .v fun s => lenSl (s.get 92)⟩,
    ⟨some 94, some (89, true), .v fun s => binA prog .mul 3 (.int .i64 2) (s.get 93)⟩,
    ⟨some 95, some (89, true), .v fun s => binA prog .sub 3 (s.get 91) (s.get 94)⟩,
    ⟨some 96, some (89, true), .v fun s => some (s.get 9)⟩,
    ⟨some 97, some (89, true), .v fun s => binA prog .add 3 (s.get 95) (s.get 96)⟩,
    ⟨some 98, some (89, true), .v fun s => binA prog .eql 3 (s.get 90) (s.get 97)⟩,
    ⟨some 99, none, .v fun s => pickA (s.get 89) (s.get 98) (.bool false)⟩,
    ⟨some 100, none, .v fun s => some (s.get 99)⟩,
    ⟨some 101, some (100, true), .v fun s => some (s.get 13)⟩,
    ⟨some 102, some (100, true), .v fun s => some (s.get 15)⟩,
    ⟨some 103, some (100, true), .c 0 (fun s => (.fn 11 [] [])) fun s => [(s.get 101), (s.get 102)]⟩,
    ⟨some 104, none, .v fun s => pickA (s.get 100) (s.get 103) (.bool false)⟩,
    ⟨some 105, none, .v fun s => some (s.get 104)⟩,
    ⟨some 106, some (105, true), .c 0 (fun s => (.fn 9 [] [])) fun s => []⟩,
    ⟨some 107, none, .v fun s => pickA (s.get 105) (s.get 106) (.bool false)⟩,
    ⟨some 2, none, .v fun s => some (s.get 107)⟩] K s := (den_reg hf _ K s).trans (by kernel_rfl)
theorem ret_eq (K : List Item) (s : St) : den prog ann 6 (.code .ret :: K) s = finM true [fun s => some (s.get 2)] s := (den_ret hf K s).trans (by kernel_rfl)
theorem nil_eq (s : St) : den prog ann 6 [] s = finM true [fun s => some (s.get 2)] s := (den_nil hf s).trans (by kernel_rfl)
theorem inBlock_eq (id : Nat) (K : List Item) (s : St) : den prog ann 6 (.inBlock id :: K) s = den prog ann 6 K s := den_inBlock hf id K s
theorem exit_eq (id : Nat) (K : List Item) (s : St) : den prog ann 6 (.code (.exit id) :: K) s = exitV prog ann 6 (exitTo id K) s := den_exitV hf id K s
theorem call_eq (v0 : AV) (m : Mem) (h : closedL [v0] = true) : denC prog ann 6 [v0] m = (den prog ann 6 [.code b] ⟨[(0, v0)], 108, Mem.empty⟩).bind fun r => some (r.1, m) := (denC_pure hf (b := b) (by kernel_rfl) (by kernel_rfl) (by kernel_rfl) h m).trans (by kernel_rfl)
theorem pure_eq : (ann 6).pure = true := by kernel_rfl
attribute [simp] b_eq r0_eq r1_eq r2_eq r3_eq k0_eq l0_eq r4_eq i0_eq i0t_eq i0e_eq k1_eq r6_eq r5_eq r7_eq k2_eq l2_eq r8_eq i1_eq i1t_eq i1e_eq k3_eq r10_eq i2_eq i2t_eq r11_eq i2e_eq r9_eq r12_eq r13_eq r14_eq r15_eq r16_eq ret_eq nil_eq inBlock_eq exit_eq pure_eq
end l04_StrapRest
end Go.Proofs.YtofceaeboboflaaDoor

/-
  STRAPS: the even round straps of the laws' table, multiplied and moved. Conditions: none.
-/
namespace Go.Proofs.YtofceaeboboflaaDoor
open Go.AM
open Go.Proofs.Tryd (prog)
set_option linter.all false
set_option maxRecDepth 100000
set_option maxHeartbeats 8000000

def tabV (q : Nat) : Nat := [7, 11, 13, 15, 21, 31, 19, 4, 6, 23].getD q 7
def tabL (q : Nat) : List Int := [[0, 1, 3], [1, 3, 4, 5, 9], [0, 1, 3, 9], [0, 1, 2, 4, 5, 8, 10], [3, 6, 7, 12, 14], [1, 5, 11, 24, 25, 27], [1, 4, 5, 6, 7, 9, 11, 16, 17], [0, 1, 2], [2], [1, 2, 3, 4, 6, 8, 9, 12, 13, 16, 18]].getD q [0, 1, 3]

@[simp] theorem globV0 : globV 0 = .fptr [.fsl false 10 evenCs] := rfl
theorem even_drop : ∀ q : Nat, q < 10 → ∃ r, evenCs.drop (q * 2) = .int .i64 (tabV q : Nat) :: .fsl false (tabL q).length (ints (tabL q)) :: r
  | 0, _ => ⟨_, rfl⟩ | 1, _ => ⟨_, rfl⟩ | 2, _ => ⟨_, rfl⟩ | 3, _ => ⟨_, rfl⟩ | 4, _ => ⟨_, rfl⟩
  | 5, _ => ⟨_, rfl⟩ | 6, _ => ⟨_, rfl⟩ | 7, _ => ⟨_, rfl⟩ | 8, _ => ⟨_, rfl⟩ | 9, _ => ⟨_, rfl⟩
  | _ + 10, h => absurd h (by omega)
theorem tab_rng : ∀ q : Nat, q < 10 → 4 ≤ tabV q ∧ tabV q ≤ 31 ∧ 0 < (tabL q).length ∧ (tabL q).length < tabV q ∧ (List.range' 0 (tabL q).length).all (rOk (tabV q) (tabL q)) = true
  | 0, _ => by decide | 1, _ => by decide | 2, _ => by decide | 3, _ => by decide | 4, _ => by decide
  | 5, _ => by decide | 6, _ => by decide | 7, _ => by decide | 8, _ => by decide | 9, _ => by decide
  | _ + 10, h => absurd h (by omega)
theorem tab_ring {q : Nat} (h : q < 10) : RingOk (tabV q) (tabL q) := by
  obtain ⟨h1, h2, h3, h4, h5⟩ := tab_rng q h
  exact (rOk_ring (by omega) (by omega)).2 h5

theorem made_end {v t : Nat} {l : List Int} {a b c : Int} (s : RingOk v l) (ht : t < v) (hg : Nat.gcd t v = 1) (hc : 0 ≤ c ∧ c ≤ 255) (m : Mem) :
    l04_made.L0 (.fptr [.int .u8 a, .int .u8 b, .int .u8 c]) (.fptr [.int .i64 v, .fsl false l.length (ints l)]) (.int .i64 t) m [.code l04_made.r5, .code .ret] =
      some (.tup [.int .i64 v, .fsl false l.length (ints (mvL v t (c % v) l))], Mem.empty) := by
  have hv2 := s.v2
  have hv31 := s.v31
  have hfew := s.few
  have hv : IsInts (.fsl false l.length (ints l)) l := .inr ⟨false, rfl⟩
  have hgs := fun m => gcd_spec t v m
  rw [hg] at hgs
  have hwb : IntKind.wrap .i64 c = c := wrap_id (by omega) (by omega)
  have he : c.tmod (v : Int) = c % v := Int.tmod_eq_emod_of_nonneg hc.1
  have p0 : 0 ≤ c % (v : Int) := Int.emod_nonneg _ (by omega)
  have p1 : c % (v : Int) < v := Int.emod_lt_of_pos _ (by omega)
  generalize c % (v : Int) = d at *
  have hwe : IntKind.wrap .i64 d = d := wrap_id (by omega) (by omega)
  have htn := fun m => turned_spec (v := v) (t := (t : Int)) (s := d) hv hfew s.rng31 (by omega) (by omega) (by omega) m
  rw [tur_mv s hg p0, mvL_len] at htn
  rw [l04_made.L0_eq]
  simp [show ¬ v = 0 by omega, hgs, hwb, he, hwe, htn]
  done
theorem made_loop {v : Nat} {l : List Int} {a b c : Int} (s : RingOk v l) (hc : 0 ≤ c ∧ c ≤ 255) : ∀ (k t : Nat) (m : Mem), t + k + 1 = v → 1 ≤ t →
    ∃ t' : Nat, t' < v ∧ Nat.gcd t' v = 1 ∧ l04_made.L0 (.fptr [.int .u8 a, .int .u8 b, .int .u8 c]) (.fptr [.int .i64 v, .fsl false l.length (ints l)]) (.int .i64 t) m [.code l04_made.r5, .code .ret] =
      some (.tup [.int .i64 v, .fsl false l.length (ints (mvL v t' (c % v) l))], Mem.empty) := by
  intro k
  have hv2 := s.v2
  have hv31 := s.v31
  induction k with
  | zero =>
    intro t m h1 h2
    have e : t = v - 1 := by omega
    subst e
    exact ⟨_, by omega, gcd_pred (by omega) (by omega), made_end s (by omega) (gcd_pred (by omega) (by omega)) hc m⟩
  | succ k ih =>
    intro t m h1 h2
    by_cases hg : Nat.gcd t v = 1
    · exact ⟨t, by omega, hg, made_end s (by omega) hg hc m⟩
    · have hg' : ¬ ((Nat.gcd t v : Nat) : Int) = 1 := by omega
      have hgs := fun m => gcd_spec t v m
      have hw1 : IntKind.wrap .i64 ((v : Int) - 1) = (v : Int) - 1 := wrap_id (by omega) (by omega)
      have hne : ¬ (v : Int) - 1 = 0 := by omega
      have he : (t : Int).tmod ((v : Int) - 1) = t := Int.tmod_eq_of_lt (by omega) (by omega)
      have hw2 : IntKind.wrap .i64 ((t : Int) + 1) = (t : Int) + 1 := wrap_id (by omega) (by omega)
      obtain ⟨t', q1, q2, st⟩ := ih (t + 1) m (by omega) (by omega)
      simp only [Int.natCast_add, Int.cast_ofNat_Int] at st
      refine ⟨t', q1, q2, ?_⟩
      rw [← st, l04_made.L0_eq]
      simp [hgs, hg', hg, hw1, hne, he, hw2]
      done
/-- What 'made' hands back: a set of the table, multiplied and moved. -/
theorem made_spec {a b c : Int} (ha : 0 ≤ a ∧ a ≤ 255) (hb : 0 ≤ b ∧ b ≤ 255) (hc : 0 ≤ c ∧ c ≤ 255) : ∃ q : Nat, q < 10 ∧ ∃ o, Orb (tabV q) (tabL q) o ∧ ∀ m,
    denC prog ann 7 [.agg [.int .u8 a, .int .u8 b, .int .u8 c]] m = some (.tup [.int .i64 (tabV q), .fsl false o.length (ints o)], m) := by
  have hwa : IntKind.wrap .i64 a = a := wrap_id (by omega) (by omega)
  have hwb : IntKind.wrap .i64 b = b := wrap_id (by omega) (by omega)
  have he0 : a.tmod 10 = a % 10 := Int.tmod_eq_emod_of_nonneg ha.1
  obtain ⟨q, hq⟩ : ∃ q : Nat, a % 10 = q := ⟨(a % 10).toNat, by omega⟩
  have hq10 : q < 10 := by omega
  obtain ⟨r, hr⟩ := even_drop q hq10
  obtain ⟨g1, g2, g3, g4, g5⟩ := tab_rng q hq10
  have s := tab_ring hq10
  generalize hvv : tabV q = v at *
  generalize hll : tabL q = l at *
  have hw1 : IntKind.wrap .i64 ((v : Int) - 1) = (v : Int) - 1 := wrap_id (by omega) (by omega)
  have hne : ¬ (v : Int) - 1 = 0 := by omega
  have he1 : b.tmod ((v : Int) - 1) = b % ((v : Int) - 1) := Int.tmod_eq_emod_of_nonneg hb.1
  have p0 : 0 ≤ b % ((v : Int) - 1) := Int.emod_nonneg _ (by omega)
  have p1 : b % ((v : Int) - 1) < (v : Int) - 1 := Int.emod_lt_of_pos _ (by omega)
  obtain ⟨t, ht⟩ : ∃ t : Nat, b % ((v : Int) - 1) + 1 = t := ⟨(b % ((v : Int) - 1) + 1).toNat, by omega⟩
  have hwt : IntKind.wrap .i64 (t : Int) = t := wrap_id (by omega) (by omega)
  have p2 : 0 ≤ c % (v : Int) := Int.emod_nonneg _ (by omega)
  have p3 : c % (v : Int) < v := Int.emod_lt_of_pos _ (by omega)
  have lp := made_loop (a := a) (b := b) s hc (v - 1 - t) t
  have hx : ∃ t' : Nat, t' < v ∧ Nat.gcd t' v = 1 ∧ ∀ m, denC prog ann 7 [.agg [.int .u8 a, .int .u8 b, .int .u8 c]] m = some (.tup [.int .i64 v, .fsl false l.length (ints (mvL v t' (c % v) l))], m) := by
    obtain ⟨t', q1, q2, lp0⟩ := lp { h := upd Mem.empty.h 9 none, nx := 11 } (by omega) (by omega)
    refine ⟨t', q1, q2, fun m => ?_⟩
    rw [l04_made.call_eq _ _ (by simp)]
    simp [hwa, he0, hq, hq10, hr, hwb, hw1, hne, he1, ht, hwt, lp0]
    done
  obtain ⟨t', q1, q2, h⟩ := hx
  refine ⟨q, hq10, ?_⟩
  have hl := mvL_len v t' (c % v) l
  rw [hvv, hll]
  exact ⟨mvL v t' (c % v) l, ⟨t', c % v, by omega, by omega, p2, p3, rfl⟩, fun m => by rw [h, hl]⟩
end Go.Proofs.YtofceaeboboflaaDoor

/-
  STRAPS: the places that are not in a set, and how they are multiplied and moved. Conditions: none.
-/
namespace Go.Proofs.YtofceaeboboflaaDoor
open Go.AM
set_option linter.all false
set_option maxRecDepth 100000
set_option maxHeartbeats 4000000

def compl (v : Nat) (l : List Int) : List Int := (rng v).filter fun x => decide (x ∉ l)
theorem mem_compl {v : Nat} {l : List Int} {x : Int} : x ∈ compl v l ↔ (0 ≤ x ∧ x < v) ∧ x ∉ l := by
  rw [compl, List.mem_filter, mem_rng, decide_eq_true_eq]
theorem rng_pw (v : Nat) : (rng v).Pairwise (· < ·) := by
  unfold rng
  rw [List.pairwise_map]
  exact (range_sorted v 0).imp fun h => by omega
theorem ring_compl {v : Nat} {l : List Int} (h2 : 2 ≤ v) (h31 : v ≤ 31) (h : compl v l ≠ []) : RingOk v (compl v l) := by
  refine ring_of (by omega) (by omega) (List.length_pos_iff.2 h) ?_ (fun x hx => (mem_compl.1 hx).1) ((rng_pw v).filter _)
  have : (compl v l).length ≤ (rng v).length := List.length_filter_le ..
  have : (rng v).length = v := by simp [rng]
  omega
theorem mvF_onto {v t u : Nat} (hv : 0 < v) (htu : t * u % v = 1 % v) {s x : Int} (hs : 0 ≤ s) (hx : 0 ≤ x ∧ x < v) : ∃ y : Int, (0 ≤ y ∧ y < v) ∧ mvF v t s y = x := by
  have p0 := Int.emod_nonneg ((u : Int) * (x - s)) (show (v : Int) ≠ 0 by omega)
  have p1 := Int.emod_lt_of_pos ((u : Int) * (x - s)) (show (0 : Int) < v by omega)
  refine ⟨((u : Int) * (x - s)) % v, ⟨p0, p1⟩, ?_⟩
  have e1 : ((t : Int) * u) % v = 1 % v := by exact_mod_cast htu
  rw [(mvF_rng (v := v) hv (mv_pos (v := v) (t := t) hs p0)).2.2]
  rw [Int.add_emod, Int.mul_emod, Int.emod_emod, ← Int.mul_emod, show (u : Int) * (x - s) * t = (x - s) * (t * u) by rw [Int.mul_comm (u : Int), Int.mul_assoc, Int.mul_comm (u : Int) t]]
  rw [Int.mul_emod, e1, ← Int.mul_emod, Int.mul_one, ← Int.add_emod, show x - s + s = x by omega]
  exact Int.emod_eq_of_lt hx.1 hx.2
theorem compl_mv {v t : Nat} {s : Int} {l : List Int} (r : RingOk v l) (ht : t < v) (hg : Nat.gcd t v = 1) (hs : 0 ≤ s) (h : compl v l ≠ []) : compl v (mvL v t s l) = mvL v t s (compl v l) := by
  have hv2 := r.v2
  have hv31 := r.v31
  have hv : 0 < v := by omega
  obtain ⟨u, u1, u2, u3⟩ := inv_ex (v := v) (t := t) (by omega) (by omega) ht hg
  have htu : t * u % v = 1 % v := by rw [u3, Nat.mod_eq_of_lt (by omega)]
  have rc := ring_compl (v := v) (l := l) (by omega) (by omega) h
  have same : ∀ x, x ∈ compl v (mvL v t s l) ↔ x ∈ mvL v t s (compl v l) := by
    intro x
    rw [mem_compl, mem_mvL, mem_mvL]
    constructor
    · rintro ⟨hx, hn⟩
      obtain ⟨y, hy, e⟩ := mvF_onto hv htu hs hx
      exact ⟨y, mem_compl.2 ⟨hy, fun hl => hn ⟨y, hl, e⟩⟩, e⟩
    · rintro ⟨y, hy, rfl⟩
      obtain ⟨hy1, hy2⟩ := mem_compl.1 hy
      have p := mvF_rng (v := v) hv (mv_pos (v := v) (t := t) hs hy1.1)
      refine ⟨⟨p.1, p.2.1⟩, ?_⟩
      rintro ⟨z, hz, e⟩
      have := mvF_inj hg hs (r.mem hz) hy1 e
      exact hy2 (this ▸ hz)
  have hne : compl v (mvL v t s l) ≠ [] := by
    intro e
    have := same
    rw [e] at this
    have rm := ring_mv rc hg hs
    have hp := rm.pos
    exact absurd ((this _).2 (List.getElem_mem hp)) (by simp)
  exact ring_eq (v := v) (ring_compl (by omega) (by omega) hne) (ring_mv rc hg hs) same
theorem compl_orb {v : Nat} {l o : List Int} (r : RingOk v l) (h : Orb v l o) (hc : compl v l ≠ []) : Orb v (compl v l) (compl v o) := by
  obtain ⟨t, s, h1, h2, h3, h4, rfl⟩ := h
  exact ⟨t, s, h1, h2, h3, h4, compl_mv r h1 h2 h3 hc⟩
theorem compl_compl {v : Nat} {l : List Int} (r : RingOk v l) (hc : compl v l ≠ []) : compl v (compl v l) = l := by
  have hv2 := r.v2
  have hv31 := r.v31
  have same : ∀ x, x ∈ compl v (compl v l) ↔ x ∈ l := by
    intro x
    rw [mem_compl, mem_compl]
    constructor
    · rintro ⟨h1, h2⟩
      exact Classical.byContradiction fun h => h2 ⟨h1, h⟩
    · exact fun h => ⟨r.mem h, fun h' => h'.2 h⟩
  have hne : compl v (compl v l) ≠ [] := by
    intro e
    rw [e] at same
    exact absurd ((same _).2 (List.getElem_mem r.pos)) (by simp)
  exact ring_eq (v := v) (ring_compl (by omega) (by omega) hne) r same
theorem mults_compl {v : Nat} {l : List Int} (r : RingOk v l) (hc : compl v l ≠ []) : multsL v (compl v l) = multsL v l := by
  have hv2 := r.v2
  have hv31 := r.v31
  have rc := ring_compl (v := v) (l := l) (by omega) (by omega) hc
  have hcc : compl v (compl v l) ≠ [] := by rw [compl_compl r hc]; exact List.ne_nil_of_length_pos r.pos
  unfold multsL
  refine List.filter_congr fun x hx => ?_
  obtain ⟨t, rfl, _, h2, h3⟩ := mem_uniF hx
  rw [Bool.eq_iff_iff, fnd_iff, fnd_iff]
  constructor
  · rintro ⟨s, h4, h5, e⟩
    refine ⟨s, h4, h5, ?_⟩
    have := compl_mv rc (t := t) (by omega) h3 h4 hcc
    rw [e, compl_compl r hc] at this
    exact this.symm
  · rintro ⟨s, h4, h5, e⟩
    refine ⟨s, h4, h5, ?_⟩
    have := compl_mv r (t := t) (by omega) h3 h4 hc
    rw [e] at this
    exact this.symm
/-- The code's list of the places that are not in a set. -/
def cmF (bs : List Bool) (k p : Nat) : List Int := ((List.range' p k).filter fun t => !bnth bs t).map fun t : Nat => (t : Int)
theorem cmF_succ (bs : List Bool) (k p : Nat) : cmF bs (k + 1) p = if bnth bs p = true then cmF bs k (p + 1) else (p : Int) :: cmF bs k (p + 1) := by
  unfold cmF
  rw [List.range'_succ, List.filter_cons]
  cases bnth bs p <;> simp
theorem cmF_compl {v : Nat} {l : List Int} (r : RingOk v l) : cmF (turS l id l.length 0 (List.replicate v false)) v 0 = compl v l := by
  unfold cmF compl rng
  rw [List.filter_map]
  congr 1
  refine List.filter_congr fun p hp => ?_
  simp only [List.mem_range'_1, Nat.zero_le, true_and, Nat.zero_add] at hp
  have h := turS_nth (l := l) (f := id) (p := p) (k := l.length) (i := 0) (bs := List.replicate v false) (fun j _ hj => by have := r.rng j (by omega); simp; omega)
  have h0 : bnth (List.replicate v false) p = false := by
    unfold bnth
    rw [List.getD_eq_getElem?_getD, List.getElem?_replicate]
    split <;> rfl
  rw [h0] at h
  have h' : bnth (turS l id l.length 0 (List.replicate v false)) p = true ↔ (p : Int) ∈ l := by
    rw [h]
    constructor
    · rintro (h | ⟨j, _, hj, e⟩)
      · cases h
      · have := r.rng j (by omega)
        have e' : nth l j = p := by simp only [id] at e; omega
        rw [← e']; exact nth_mem (by omega)
    · intro hm
      obtain ⟨j, hj, e⟩ := List.getElem_of_mem hm
      rw [nth_get hj] at e
      exact .inr ⟨j, by omega, by omega, by simp only [id]; omega⟩
  simp only [Function.comp]
  cases q : bnth (turS l id l.length 0 (List.replicate v false)) p with
  | true => rw [q] at h'; simpa using h'
  | false =>
    rw [q] at h'
    have : (p : Int) ∉ l := fun hm => by simpa using h'.2 hm
    simp [this]
theorem tab_rest : ∀ q : Nat, q < 10 → compl (tabV q) (tabL q) ≠ [] ∧ eqA (diffs (tabV q) (compl (tabV q) (tabL q))) (tabV q - 1) 1 = true ∧ nth (diffs (tabV q) (compl (tabV q) (tabL q))) 1 = (tabV q : Int) - 2 * (tabL q).length + nth (diffs (tabV q) (tabL q)) 1
  | 0, _ => by decide +kernel | 1, _ => by decide +kernel | 2, _ => by decide +kernel | 3, _ => by decide +kernel | 4, _ => by decide +kernel
  | 5, _ => by decide +kernel | 6, _ => by decide +kernel | 7, _ => by decide +kernel | 8, _ => by decide +kernel | 9, _ => by decide +kernel
  | _ + 10, h => absurd h (by omega)
theorem ring_ge {v : Int} {l : List Int} (r : RingOk v l) : ∀ i : Nat, i < l.length → (i : Int) ≤ nth l i
  | 0, h => (r.rng 0 h).1
  | i + 1, h => by
    have h1 := ring_ge r i (by omega)
    have h2 := r.lt (i := i) (j := i + 1) (by omega) h
    omega
theorem ring_le {v : Int} {l : List Int} (r : RingOk v l) : (l.length : Int) ≤ v := by
  have hp := r.pos
  have h1 := ring_ge r (l.length - 1) (by omega)
  have h2 := r.rng (l.length - 1) (by omega)
  omega
end Go.Proofs.YtofceaeboboflaaDoor

/-
  STRAPS (15): the differences in plain terms: their sum, and that they grow with the list. Conditions: none.
-/
namespace Go.Proofs.YtofceaeboboflaaDoor
open Go.AM
set_option linter.all false
set_option maxRecDepth 10000
set_option maxHeartbeats 2000000

def sumL : List Int → Int
  | [] => 0
  | a :: l => a + sumL l
/-- How often a difference comes. -/
def dHit (l : List Int) (v : Int) (g i q : Nat) : Bool := !decide (i = q) && decide ((nth l i - nth l q + v).tmod v = g)
def dCnt (l : List Int) (v : Int) (g n : Nat) : Nat → Nat → Nat
  | 0, _ => 0
  | k + 1, i => (List.range' 0 n).countP (dHit l v g i) + dCnt l v g n k (i + 1)
def gRound (v often : Int) (l : List Int) : Bool := decide (maxL (diffs v l) ≤ often)
def pRound (v : Nat) (often : Int) (l : List Int) : Bool := eqA (diffs v l) (v - 1) 1 && decide (nth (diffs v l) 1 = often)
end Go.Proofs.YtofceaeboboflaaDoor

/-
  STRAPS (16): the two searches for a round strap find the same. Conditions: none.
-/
namespace Go.Proofs.YtofceaeboboflaaDoor
open Go.AM
set_option linter.all false
set_option maxRecDepth 10000
set_option maxHeartbeats 2000000

theorem StrapOk.ge {l : List Int} (s : StrapOk l) : ∀ {i : Nat}, i < l.length → (i : Int) ≤ nth l i
  | 0, _ => by rw [s.zero]; omega
  | i + 1, h => by
    have := s.ge (i := i) (by omega)
    have := s.asc i h
    omega
theorem StrapOk.ring {l : List Int} (s : StrapOk l) {v : Nat} (hv : 2 ≤ v ∧ v ≤ 31) (ht : Go.Proofs.YtofceaeboboflaaDoor.top l ≤ (v : Int) - 1) : RingOk v l := by
  have hpos := s.pos
  have hge := s.ge (i := l.length - 1) (by omega)
  unfold Go.Proofs.YtofceaeboboflaaDoor.top at ht
  refine ⟨by omega, by omega, hpos, by omega, fun i hi => ⟨s.nonneg hi, ?_⟩, fun i hi => s.asc i hi⟩
  have := s.le (show i ≤ l.length - 1 by omega) (by omega)
  omega
def rrF (v : Nat) (often : Int) : Nat → List Int → Option (List Int)
  | 0, l => if pRound v often l = true then some l else none
  | f + 1, l => firstF (rrF v often f) l ((v : Int) - 1 - top l).toNat (top l + 1)
end Go.Proofs.YtofceaeboboflaaDoor

/-
  STRAPS (17): Round, and the specification's. Conditions: none.
-/
namespace Go.Proofs.YtofceaeboboflaaDoor
open Go.AM
open Go.Proofs.Tryd (prog)
set_option linter.all false
set_option maxRecDepth 100000
set_option maxHeartbeats 4000000

theorem ResV.deep {r : Option (List Int)} {w : AV} (h : ResV r w) (hp : Nat → Option AObj) (d : Nat) : AM.deep hp (d + 1) w = some w := by
  cases r with
  | none => have : w = .nils := h
            rw [this]; rfl
  | some q => obtain ⟨ex, rfl⟩ := h; rfl
def BadR (v k often : Int) : Prop := v < 2 ∨ 31 < v ∨ k < 2 ∨ 6 < k ∨ v - 1 < k ∨ often < 1 ∨ v < often
end Go.Proofs.YtofceaeboboflaaDoor

/-
  THE LAWS' EXAMPLES HOLD. Conditions: none.
-/
namespace Go.Proofs.YtofceaeboboflaaDoor
open Go.AM
open Go.Proofs.Tryd (prog)
set_option linter.all false
set_option maxRecDepth 1000000

def isT (r : Option Res) : Bool := match r with
  | some (.bool b, _) => b
  | _ => false
theorem lives_run : isT (callN prog ann 3000 9 [] Mem.empty) = true := by kernel_rfl
@[simp] theorem lives_pure : (ann 9).pure = true := by kernel_rfl
theorem f14_at : prog.funcs[9]? = some Tryd.f9 := by kernel_rfl
theorem f14_some : Tryd.f9.body.isSome = true := by kernel_rfl
theorem lives_spec (m : Mem) : denC prog ann 9 [] m = some (.bool true, m) := by
  have hb : Tryd.f9.body = some (Tryd.f9.body.getD .skip) := by
    cases h : Tryd.f9.body with
    | none => have := f14_some; rw [h] at this; cases this
    | some b => rfl
  have e := fun m => denC_pure (P := prog) (A := ann) (f := 9) f14_at hb (by kernel_rfl) (by kernel_rfl) (show closedL [] = true from rfl) m
  have h := lives_run
  cases hr : callN prog ann 3000 9 [] Mem.empty with
  | none => rw [hr] at h; cases h
  | some r =>
    rw [hr] at h
    have h2 := denC_of_callN hr
    rw [e] at h2 ⊢
    obtain ⟨q, h3, h4⟩ := Option.bind_eq_some_iff.1 h2
    rw [h3]
    simp at h4
    subst h4
    match q, h with
    | (.bool true, _), _ => rfl
end Go.Proofs.YtofceaeboboflaaDoor

/-
  StrapGroup: the law answers true. Conditions: none.
-/
namespace Go.Proofs.YtofceaeboboflaaDoor
open Go.AM
open Go.Proofs.Tryd (prog)
set_option linter.all false
set_option maxRecDepth 100000
set_option maxHeartbeats 8000000

theorem u23 : prog.underlying 23 = some (.array 3 5) := by kernel_rfl
theorem parts_three {α : Type} : ∀ {l : List α}, l.length = 3 → ∃ a b c, l = [a, b, c]
  | [a, b, c], _ => ⟨a, b, c, rfl⟩
  | [], h => by cases h
  | [_], h => by cases h
  | [_, _], h => by cases h
  | _ :: _ :: _ :: _ :: _, h => by simp at h
theorem datV23 {d : Nat} {a : AV} (h : DatV prog (d + 2) 23 a) : ∃ x y z, a = .agg [.int .u8 x, .int .u8 y, .int .u8 z] ∧ (0 ≤ x ∧ x ≤ 255) ∧ (0 ≤ y ∧ y ≤ 255) ∧ (0 ≤ z ∧ z ≤ 255) := by
  simp only [DatV, u23] at h
  obtain ⟨cs, rfl, h⟩ := h
  rw [Dat] at h
  simp only [u23] at h
  obtain ⟨parts, rfl, hl, hp⟩ := h
  obtain ⟨p, q, r, rfl⟩ := parts_three hl
  obtain ⟨x, rfl, h1, h2⟩ := dat5 (hp p (by simp)).2
  obtain ⟨y, rfl, h3, h4⟩ := dat5 (hp q (by simp)).2
  obtain ⟨z, rfl, h5, h6⟩ := dat5 (hp r (by simp)).2
  exact ⟨x, y, z, rfl, ⟨h1, h2⟩, ⟨h3, h4⟩, ⟨h5, h6⟩⟩

end Go.Proofs.YtofceaeboboflaaDoor

/-
  StrapCounts: the law answers true. Conditions: none.
-/
namespace Go.Proofs.YtofceaeboboflaaDoor
open Go.AM
open Go.Proofs.Tryd (prog)
set_option linter.all false
set_option maxRecDepth 100000
set_option maxHeartbeats 8000000

theorem tab_even : ∀ q : Nat, q < 10 → eqA (diffs (tabV q) (tabL q)) (tabV q - 1) 1 = true
  | 0, _ => by decide +kernel | 1, _ => by decide +kernel | 2, _ => by decide +kernel | 3, _ => by decide +kernel | 4, _ => by decide +kernel
  | 5, _ => by decide +kernel | 6, _ => by decide +kernel | 7, _ => by decide +kernel | 8, _ => by decide +kernel | 9, _ => by decide +kernel
  | _ + 10, h => absurd h (by omega)

def sqF (a : Int) (k r : Nat) : Bool := (List.range' r k).any fun r : Nat => decide ((r : Int) * r = a)
theorem lam_rng {v : Nat} {l : List Int} (r : RingOk v l) (he : eqA (diffs v l) (v - 1) 1 = true) : 0 ≤ nth (diffs v l) 1 ∧ nth (diffs v l) 1 ≤ 1000 := by
  have h := even_count r he
  have hv := r.v2
  have hf := r.few
  have hp := r.pos
  have p0 : 0 ≤ (l.length : Int) * ((l.length : Int) - 1) := Int.mul_nonneg (by omega) (by omega)
  have p1 : (l.length : Int) * ((l.length : Int) - 1) ≤ 31 * 30 := Int.mul_le_mul (by omega) (by omega) (by omega) (by omega)
  rw [h] at p0 p1
  generalize nth (diffs v l) 1 = x at *
  constructor
  · rcases Int.lt_or_le x 0 with q | q
    · have : x * ((v : Int) - 1) < 0 := Int.mul_neg_of_neg_of_pos q (by omega)
      omega
    · exact q
  · rcases Int.lt_or_le 1000 x with q | q
    · have : (1001 : Int) * 1 ≤ x * ((v : Int) - 1) := Int.mul_le_mul (by omega) (by omega) (by omega) (by omega)
      omega
    · exact q
end Go.Proofs.YtofceaeboboflaaDoor

/-
  StrapRest: the law answers true. Conditions: none.
-/
namespace Go.Proofs.YtofceaeboboflaaDoor
open Go.AM
open Go.Proofs.Tryd (prog)
set_option linter.all false
set_option maxRecDepth 100000
set_option maxHeartbeats 8000000

theorem rst_flags {w : AV} {v : Nat} {l : List Int} (hw : IsInts w l) (s : RingOk v l) (i1 i2 : Nat) (hne : i1 ≠ i2) (K : List Item) : ∀ (k i : Nat) (bs : List Bool) (m : Mem), i + k = l.length → bs.length = v → m.h i1 = some (.cells (bls bs)) → m.h i2 = some (.cells (ints [])) →
    ∃ m', m'.h i1 = some (.cells (bls (turS l id k i bs))) ∧ m'.h i2 = some (.cells (ints [])) ∧ l04_StrapRest.L0 (.int .i64 v) w (.sl i1 1 0 v v) (.sl i2 1 0 0 0) (.int .i64 i) m K = l04_StrapRest.L0 (.int .i64 v) w (.sl i1 1 0 v v) (.sl i2 1 0 0 0) (.int .i64 l.length) m' K := by
  intro k
  have hf := s.few
  induction k with
  | zero =>
    intro i bs m h1 hb hm hm2
    have e : i = l.length := by omega
    subst e
    exact ⟨m, by simpa [turS] using hm, hm2, rfl⟩
  | succ k ih =>
    intro i bs m h1 hb hm hm2
    have hi : i < l.length := by omega
    have hwi : IntKind.wrap .i64 ((i : Int) + 1) = (i : Int) + 1 := wrap_id (by omega) (by omega)
    have a1 := s.rng i hi
    obtain ⟨d, hd⟩ : ∃ d : Nat, nth l i = d := ⟨(nth l i).toNat, by omega⟩
    have hdv : d < v := by omega
    have hbl : (bls bs).length = v := by simp [bls, hb]
    have ei : (id (nth l i)).toNat = d := by rw [hd]; rfl
    obtain ⟨m', g1, g3, g2⟩ := ih (i + 1) (bs.set d true) ⟨upd m.h i1 (some (.cells (bls (bs.set d true)))), m.nx⟩ (by omega) (by simp [hb]) (by simp) (by show upd m.h i1 _ i2 = _; rw [updNe (fun h => hne h.symm)]; exact hm2)
    simp only [Int.natCast_add, Int.cast_ofNat_Int] at g2
    refine ⟨m', by rw [turS_succ, ei]; exact g1, g3, ?_⟩
    rw [← g2, l04_StrapRest.L0_eq]
    simp [hi, hw.len, hw.idx hi, ints_head hi, hd, hdv, hm, hbl, bls_set, Mem.set, hwi]
    done
theorem rst_list {w : AV} {v : Nat} (hv : v ≤ 31) {bs : List Bool} (hb : bs.length = v) (i1 i2 : Nat) (hne : i1 ≠ i2) (K : List Item) : ∀ (k p : Nat) (acc : List Int) (m : Mem), p + k = v → acc.length ≤ p → m.h i1 = some (.cells (bls bs)) → m.h i2 = some (.cells (ints acc)) →
    ∃ m', m'.h i2 = some (.cells (ints (acc ++ cmF bs k p))) ∧ l04_StrapRest.L2 (.int .i64 v) w (.sl i1 1 0 v v) (.sl i2 1 0 acc.length acc.length) (.int .i64 p) m K =
      l04_StrapRest.L2 (.int .i64 v) w (.sl i1 1 0 v v) (.sl i2 1 0 (acc ++ cmF bs k p).length (acc ++ cmF bs k p).length) (.int .i64 v) m' K := by
  intro k
  induction k with
  | zero =>
    intro p acc m h1 ha m1 m2
    have e : p = v := by omega
    subst e
    exact ⟨m, by simpa [cmF] using m2, by simp [cmF]⟩
  | succ k ih =>
    intro p acc m h1 ha m1 m2
    have hp : p < v := by omega
    have hw : IntKind.wrap .i64 ((p : Int) + 1) = (p : Int) + 1 := wrap_id (by omega) (by omega)
    have hbl : (bls bs).length = v := by simp [bls, hb]
    have hbp : ∀ h, (bls bs)[p]'h = .bool (bnth bs p) := fun h => by
      have hp2 : p < bs.length := by omega
      simp [bls, bnth, hp2]
    rw [cmF_succ]
    cases q : bnth bs p with
    | false =>
      rw [q] at hbp
      have hx : ints acc ++ [AV.int .i64 (p : Int)] = ints (acc ++ [(p : Int)]) := by simp [ints]
      obtain ⟨m', g1, g2⟩ := ih (p + 1) (acc ++ [(p : Int)]) ⟨upd m.h i2 (some (.cells (ints (acc ++ [(p : Int)])))), m.nx⟩ (by omega) (by simp; omega) (by show upd m.h i2 _ i1 = _; rw [updNe hne]; exact m1) (by simp)
      simp only [Int.natCast_add, Int.cast_ofNat_Int, List.length_append, List.length_cons, List.length_nil, List.append_assoc, List.singleton_append] at g1 g2
      rw [if_neg (by decide)]
      refine ⟨m', g1, ?_⟩
      simp only [List.length_append, List.length_cons]
      rw [← g2, l04_StrapRest.L2_eq]
      simp [hp, m1, hbl, hbp, m2, hx, Mem.set, hw, show acc.length ≤ 4611686018427387903 by omega, show (acc.length + 1) * 8 ≤ 70368744177664 by omega]
      done
    | true =>
      rw [q] at hbp
      obtain ⟨m', g1, g2⟩ := ih (p + 1) acc m (by omega) (by omega) m1 m2
      simp only [Int.natCast_add, Int.cast_ofNat_Int, List.length_append] at g1 g2
      rw [if_pos rfl]
      refine ⟨m', g1, ?_⟩
      simp only [List.length_append]
      rw [← g2, l04_StrapRest.L2_eq]
      simp [hp, m1, hbl, hbp, hw]
      done
theorem rst_runs {d : Nat} (a0 : AV) (h0 : DatV prog (d + 4) 23 a0) : ∃ m', denC prog ann 6 [a0] Mem.empty = some (.bool true, m') := by
  obtain ⟨a, b, c, rfl, ha, hb, hc⟩ := datV23 h0
  have hcl : closedL [.agg [.int .u8 a, .int .u8 b, .int .u8 c]] = true := by simp
  obtain ⟨q, hq, o, ho, hmd⟩ := made_spec ha hb hc
  have so := ho.ring (tab_ring hq)
  obtain ⟨he, hn⟩ := even_orb (tab_ring hq) ho (tab_even q hq)
  obtain ⟨t1, t2, _⟩ := tab_rng q hq
  obtain ⟨c1, c2, c3⟩ := tab_rest q hq
  have hlen : o.length = (tabL q).length := by obtain ⟨t, s, _, _, _, _, rfl⟩ := ho; exact mvL_len ..
  have oc := compl_orb (tab_ring hq) ho c1
  have rc0 := ring_compl (v := tabV q) (l := tabL q) (by omega) (by omega) c1
  have rc := oc.ring rc0
  obtain ⟨hce, hcn⟩ := even_orb rc0 oc c2
  rw [c3, ← hlen, ← hn] at hcn
  have hlr := lam_rng so he
  refine ⟨Mem.empty, ?_⟩
  rw [l04_StrapRest.call_eq _ _ hcl]
  generalize tabV q = v at *
  clear c1 c2 c3 rc0 oc hlen
  have hcne : compl v o ≠ [] := List.ne_nil_of_length_pos rc.pos
  have hmc := mults_compl so hcne
  have hf := so.few
  have hle := ring_le so
  have hlec := ring_le rc
  have iv : IsInts (.fsl false o.length (ints o)) o := .inr ⟨false, rfl⟩
  have hev := fun m => even_spec iv so (ring_err iv so) m
  rw [if_pos he] at hev
  have hmu := fun m => mults_spec iv so (ring_err iv so) m
  have ic : IsInts (.fsl false (compl v o).length (ints (compl v o))) (compl v o) := .inr ⟨false, rfl⟩
  have hevc := fun m => even_spec ic rc (ring_err ic rc) m
  rw [if_pos hce, hcn] at hevc
  have hmuc := fun m => mults_spec ic rc (ring_err ic rc) m
  rw [hmc] at hmuc
  have im := intsV_is (multsL v o)
  have hml : (multsL v o).length ≤ 31 := by
    have : (multsL v o).length ≤ (unitsL v).length := List.length_filter_le ..
    have := unitsL_few v
    omega
  have hsm := fun m => same_spec im im (by omega) (by omega) m
  rw [decide_eq_true rfl] at hsm
  obtain ⟨ma, f1, f2, f3⟩ := rst_flags iv so 0 1 (by decide) [.code l04_StrapRest.r7, .code l04_StrapRest.k2, .code l04_StrapRest.r12, .code l04_StrapRest.r13, .code l04_StrapRest.r14, .code l04_StrapRest.r15, .code l04_StrapRest.r16, .code .ret] o.length 0 (List.replicate v false)
    ⟨upd (upd Mem.empty.h 0 (some (.cells (List.replicate v (.bool false))))) 1 (some (.cells [])), 2⟩ (by omega) (by simp) (by simp [bls, updNe]) (by simp [ints])
  have hbl : (turS o id o.length 0 (List.replicate v false)).length = v := by
    have : ∀ (k i : Nat) (bs : List Bool), (turS o id k i bs).length = bs.length := by
      intro k
      induction k with
      | zero => intro i bs; rfl
      | succ k ih => intro i bs; rw [turS_succ, ih, List.length_set]
    rw [this, List.length_replicate]
  obtain ⟨mb, g1, g2⟩ := rst_list (w := .fsl false o.length (ints o)) (v := v) (by omega) hbl 0 1 (by decide) [.code l04_StrapRest.r12, .code l04_StrapRest.r13, .code l04_StrapRest.r14, .code l04_StrapRest.r15, .code l04_StrapRest.r16, .code .ret] v 0 [] ma (by omega) (by simp) f1 f2
  rw [cmF_compl so] at g1 g2
  simp only [List.nil_append, List.length_nil, Int.ofNat_zero, Int.cast_ofNat_Int] at f3 g1 g2
  generalize compl v o = R at *
  have htk : List.take R.length (ints R) = ints R := by rw [List.take_of_length_le]; simp
  generalize nth (diffs (v : Int) o) 1 = lam at *
  have hw1 : IntKind.wrap .i64 (2 * (o.length : Int)) = 2 * (o.length : Int) := wrap_id (by omega) (by omega)
  have hw2 : IntKind.wrap .i64 ((v : Int) - 2 * o.length) = (v : Int) - 2 * o.length := wrap_id (by omega) (by omega)
  have hw3 : IntKind.wrap .i64 ((v : Int) - 2 * o.length + lam) = (v : Int) - 2 * o.length + lam := wrap_id (by omega) (by omega)
  simp [hmd, show v ≤ 4611686018427387904 by omega, show v ≤ 70368744177664 by omega]
  rw [f3, l04_StrapRest.L0_eq]
  simp
  rw [g2, l04_StrapRest.L2_eq]
  simp [AV.flat, flatL, AV.flat1, hev, hmu, g1, htk, hevc, hmuc, hw1, hw2, hw3, im.closed, hsm, lives_spec]
  done
end Go.Proofs.YtofceaeboboflaaDoor
